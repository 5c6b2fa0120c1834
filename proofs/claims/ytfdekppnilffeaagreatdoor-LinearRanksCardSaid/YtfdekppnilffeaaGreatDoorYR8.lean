/-
  Walks of the reference's rational numbers: Over, Negative, Times, Order, Check, Sub, Mul, Div, Cmp, Sign, Floor, Pow of a half.
  Conditions: texts take fewer than 2^40 bytes; numbers take fewer than a million digits.
-/
import Derived.Test.YtfdekppnilffeaaGreatDoorYRG
import Derived.Test.YtfdekppnilffeaaGreatDoorYR4
import Derived.Test.YtfdekppnilffeaaGreatDoorYSs
set_option linter.unusedSimpArgs false
set_option linter.unusedVariables false
set_option maxHeartbeats 1000000
namespace Go.Proofs.YtfdekppnilffeaaGreatDoor
open Go Go.Proofs Go.RowKit Go.Lib

theorem q_num_zero {p : Rat} : p.num = 0 ↔ p = 0 := by
  constructor
  · intro h
    have := mkq_self p
    rw [← Rat.mkRat_self p, h]; simp
  · rintro rfl; rfl
theorem mkq_inv {p : Rat} (hp : p ≠ 0) : p⁻¹ = mkq (decide (p.num < 0)) p.den p.num.natAbs := by
  have hn : p.num.natAbs ≠ 0 := fun h => hp (q_num_zero.1 (by omega))
  have h1 : p * mkq (decide (p.num < 0)) p.den p.num.natAbs = 1 := by
    have e : mkq (decide (p.num < 0)) p.num.natAbs p.den * mkq (decide (p.num < 0)) p.den p.num.natAbs = 1 := by
      rw [mkq_mul, bne_self_eq_false, Nat.mul_comm p.den]
      have hd : p.num.natAbs * p.den ≠ 0 := Nat.mul_ne_zero hn p.den_nz
      apply Rat.ext
      · rw [(mkq_form _ _ _ hd).1, Nat.gcd_self, Nat.div_self (Nat.pos_of_ne_zero hd)]; rfl
      · rw [(mkq_form _ _ _ hd).2, Nat.gcd_self, Nat.div_self (Nat.pos_of_ne_zero hd)]; rfl
    rwa [mkq_self] at e
  have h2 := Rat.inv_mul_cancel p hp
  calc p⁻¹ = p⁻¹ * (p * mkq (decide (p.num < 0)) p.den p.num.natAbs) := by rw [h1, Rat.mul_one]
    _ = (p⁻¹ * p) * mkq (decide (p.num < 0)) p.den p.num.natAbs := by rw [Rat.mul_assoc]
    _ = _ := by rw [h2, Rat.one_mul]

/-- The order of two numbers. -/
def cmpQ (p q : Rat) : Int := if p + -q = 0 then 0 else if (p + -q).num < 0 then -1 else 1

theorem rcheck_calls (s : List UInt8) (hs : s.length ≤ 1099511627776) (w : World) :
    Calls Tryz.prog 43 #[.string ⟨⟨s⟩⟩] w (Ret fun v w' => (∃ e, v = .int .i64 e ∧ QErr s e) ∧ Below w.heap.size w w') := by
  refine enter Tryz.func43 rfl Tryz.ntmps43 (Nat.le_of_ble_eq_true rfl) ?_
  refine dr U 600 rfl trivial ?_
  refine call (f := 73) rfl rfl cb73 (rread_calls s hs w) ?_
  rintro v w1 ⟨hr, hB1⟩
  obtain ⟨m, a1, n1, c1, a2, n2, c2, e, rfl, hqe, hqr⟩ := hr.cases
  refine ⟨_, rfl, ?_⟩
  refine dr U 600 rfl trivial ?_
  refine al U rfl rfl rfl rfl ?_
  intro b w2 hb2 hs2 hk2 hg2
  have hB2 := hB1.grown hg2 hB1.size (fun k e => by cases e)
  refine dr U 600 rfl trivial ?_
  refine st U rfl rfl rfl rfl rfl rfl rfl rfl rfl rfl (hk2) ?_
  intro w3 hk3 hg3 hs3
  have hB3 := hB2.grown hg3 hB2.size (fun k e => by cases e; have := hB1.size; omega)
  refine dr U 600 rfl trivial ?_
  exact ret Tryz.results43 rfl ⟨_, rfl, ⟨e, rfl, hqe⟩, hB3⟩


/-- What Cmp answers. -/
def CmpR (s t : List UInt8) (v : Value) : Prop :=
  (∃ e, e ≠ 0 ∧ Two s t e ∧ v = .tuple ⟨[.int .i64 0, .int .i64 e]⟩) ∨ (Two s t 0 ∧ v = .tuple ⟨[.int .i64 (cmpQ (qval s) (qval t)), .int .i64 0]⟩)
theorem CmpR.text {p q : Rat} {v : Value} (hp : Small 4000 p) (hq : Small 4000 q) (h : CmpR (qtext p) (qtext q) v) : v = .tuple ⟨[.int .i64 (cmpQ p q), .int .i64 0]⟩ := by
  have h1 := q_text_ok p hp
  have h2 := q_text_ok q hq
  rcases h with ⟨e, g1, g2, rfl⟩ | ⟨_, g⟩
  · exact absurd (g2.uniq (.inr ⟨h1.1, h2.1⟩)) g1
  · rwa [h1.2, h2.2] at g
/-- What Div answers. -/
def DivR (s t : List UInt8) (v : Value) : Prop :=
  (∃ e, e ≠ 0 ∧ Two s t e ∧ v = .tuple ⟨[.string ⟨⟨[]⟩⟩, .int .i64 e]⟩) ∨ (Two s t 0 ∧ qval t = 0 ∧ v = .tuple ⟨[.string ⟨⟨[]⟩⟩, .int .i64 6]⟩) ∨ (Two s t 0 ∧ qval t ≠ 0 ∧ QRes (qval s * (qval t)⁻¹) v)
theorem DivR.text {p q : Rat} {v : Value} (hp : Small 4000 p) (hq : Small 4000 q) (h0 : q ≠ 0) (h : DivR (qtext p) (qtext q) v) : QRes (p * q⁻¹) v := by
  have h1 := q_text_ok p hp
  have h2 := q_text_ok q hq
  rcases h with ⟨e, g1, g2, rfl⟩ | ⟨_, g, _⟩ | ⟨_, _, g⟩
  · exact absurd (g2.uniq (.inr ⟨h1.1, h2.1⟩)) g1
  · rw [h2.2] at g; exact absurd g h0
  · rwa [h1.2, h2.2] at g
theorem small_inv {K : Nat} {p : Rat} (h : p ≠ 0) (hp : Small K p) : Small K p⁻¹ := by
  rw [mkq_inv h]
  exact mkq_small (fun e => h (q_num_zero.1 (by omega))) hp.2 hp.1
end Go.Proofs.YtfdekppnilffeaaGreatDoor
