/-
  Walks of the reference's rational numbers: Over, Negative, Times, Order, Check, Sub, Mul, Div, Cmp, Sign, Floor, Pow of a half.
  Conditions: texts take fewer than 2^40 bytes; numbers take fewer than a million digits.
-/
import Derived.Test.YtfdekppnilffeaaGreatDoorYRG
import Derived.Test.YtfdekppnilffeaaGreatDoorYR4
import Derived.Test.YtfdekppnilffeaaGreatDoorYSs
set_option linter.unusedSimpArgs false
set_option linter.unusedVariables false
set_option maxHeartbeats 1000000
namespace Go.Proofs.YtfdekppnilffeaaGreatDoor
open Go Go.Proofs Go.RowKit Go.Lib

theorem q_num_zero {p : Rat} : p.num = 0 ↔ p = 0 := by
  constructor
  · intro h
    have := mkq_self p
    rw [← Rat.mkRat_self p, h]; simp
  · rintro rfl; rfl
theorem lim_len_zero {n : Nat} : (lim n).length = 0 ↔ n = 0 := by
  rw [List.length_eq_zero_iff]; exact lim_eq_nil
theorem mkq_inv {p : Rat} (hp : p ≠ 0) : p⁻¹ = mkq (decide (p.num < 0)) p.den p.num.natAbs := by
  have hn : p.num.natAbs ≠ 0 := fun h => hp (q_num_zero.1 (by omega))
  have h1 : p * mkq (decide (p.num < 0)) p.den p.num.natAbs = 1 := by
    have e : mkq (decide (p.num < 0)) p.num.natAbs p.den * mkq (decide (p.num < 0)) p.den p.num.natAbs = 1 := by
      rw [mkq_mul, bne_self_eq_false, Nat.mul_comm p.den]
      have hd : p.num.natAbs * p.den ≠ 0 := Nat.mul_ne_zero hn p.den_nz
      apply Rat.ext
      · rw [(mkq_form _ _ _ hd).1, Nat.gcd_self, Nat.div_self (Nat.pos_of_ne_zero hd)]; rfl
      · rw [(mkq_form _ _ _ hd).2, Nat.gcd_self, Nat.div_self (Nat.pos_of_ne_zero hd)]; rfl
    rwa [mkq_self] at e
  have h2 := Rat.inv_mul_cancel p hp
  calc p⁻¹ = p⁻¹ * (p * mkq (decide (p.num < 0)) p.den p.num.natAbs) := by rw [h1, Rat.mul_one]
    _ = (p⁻¹ * p) * mkq (decide (p.num < 0)) p.den p.num.natAbs := by rw [Rat.mul_assoc]
    _ = _ := by rw [h2, Rat.one_mul]

theorem rover_calls (p : Rat) (hp : p ≠ 0) (v : Value) (w : World) (h : QR w v p) : Calls Tryz.prog 97 #[v] w (Ret fun v' w' => QR w' v' p⁻¹ ∧ Below w.heap.size w w') := by
  obtain ⟨an, cn, ad, cd, rfl, h1, h2⟩ := h
  have hn : p.num.natAbs ≠ 0 := fun h => hp (q_num_zero.1 (by omega))
  refine enter Tryz.func97 rfl Tryz.ntmps97 (Nat.le_of_ble_eq_true rfl) ?_
  refine dr U 600 rfl trivial ?_
  refine bx rfl rfl rfl rfl ?_
  intro b1 wa hb1 hsa hk1 hga
  refine al U rfl rfl rfl rfl ?_
  intro b2 w0 hb2 hs0 hk2 hg0
  have hk1 := hk1.keep hg0 (by simp)
  have hB0 : Below w.heap.size w w0 := ((Below.refl _ _).grown hga (Nat.le_refl _) (fun k e => by cases e)).grown hg0 (by omega) (fun k e => by cases e)
  refine dr U 600 rfl trivial ?_
  refine ld U rfl rfl rfl rfl ((hk1).cell rfl) ?_
  refine dr U 600 rfl trivial ?_
  refine ld U rfl rfl rfl rfl ((hk1).cell rfl) ?_
  refine dr U 600 rfl trivial ?_
  refine ld U rfl rfl rfl rfl ((hk1).cell rfl) ?_
  refine dr U 600 rfl trivial ?_
  refine st U rfl rfl rfl rfl rfl rfl rfl rfl rfl rfl (hk2) ?_
  intro w1 hk2' hg1 hs1
  refine dr U 600 rfl trivial ?_
  refine retS Tryz.results97 (vs := [_]) ⟨⟨_, rfl, run_load_agg ag_q hk2' rfl⟩, trivial⟩ ⟨_, rfl, ?_, hB0.grown hg1 hB0.size (fun k e => by cases e; omega)⟩
  rw [mkq_inv hp]
  refine qr_of hn ?_
  have hg : Nat.gcd p.den p.num.natAbs = 1 := by rw [Nat.gcd_comm]; exact p.reduced
  rw [hg, Nat.div_one, Nat.div_one, decide_eq_true p.den_nz, Bool.and_true]
  exact ⟨ad, cd, an, cn, rfl, (h2.below hB0).past hk2 ni0 hg1, (h1.below hB0).past hk2 ni0 hg1⟩

theorem rneg_calls (p : Rat) (v : Value) (w : World) (h : QR w v p) : Calls Tryz.prog 57 #[v] w (Ret fun v' w' => QR w' v' (-p) ∧ Below w.heap.size w w') := by
  obtain ⟨an, cn, ad, cd, rfl, h1, h2⟩ := h
  by_cases hm : p.num < 0
  · rw [decide_eq_true hm]
    refine enter Tryz.func57 rfl Tryz.ntmps57 (Nat.le_of_ble_eq_true rfl) ?_
    refine dr U 600 rfl trivial ?_
    refine bx rfl rfl rfl rfl ?_
    intro b1 wa hb1 hsa hk1 hga
    refine al U rfl rfl rfl rfl ?_
    intro b2 w0 hb2 hs0 hk2 hg0
    have hk1 := hk1.keep hg0 (by simp)
    have hB0 : Below w.heap.size w w0 := ((Below.refl _ _).grown hga (Nat.le_refl _) (fun k e => by cases e)).grown hg0 (by omega) (fun k e => by cases e)
    refine dr U 600 rfl trivial ?_
    refine ld U rfl rfl rfl rfl ((hk1).cell rfl) ?_
    refine dr U 600 rfl trivial ?_
    refine st U rfl rfl rfl rfl rfl rfl rfl rfl rfl rfl (hk1) ?_
    intro w1 hk1' hg1 hs1
    refine dr U 600 rfl trivial ?_
    refine lg rfl ag_q rfl rfl hk1' rfl ?_
    refine st U rfl rfl rfl rfl rfl rfl rfl rfl rfl rfl (hk2.keep hg1 (by intro e; cases e; omega)) ?_
    intro w2 hk2' hg2 hs2
    refine dr U 600 rfl trivial ?_
    refine retS Tryz.results57 (vs := [_]) ⟨⟨_, rfl, run_load_agg ag_q hk2' rfl⟩, trivial⟩ ⟨_, rfl, ?_, (hB0.grown hg1 hB0.size (fun k e => by cases e; omega)).grown hg2 (by have := hB0.size; omega) (fun k e => by cases e; omega)⟩
    have hne : decide ((-p).num < 0) = false := by rw [Rat.neg_num]; exact decide_eq_false (by omega)
    unfold QR
    rw [hne, Rat.neg_num, Rat.neg_den, Int.natAbs_neg]
    exact ⟨an, cn, ad, cd, rfl, ((h1.below hB0).past hk1 (ni3 _ _ _ _ _ _ _) hg1).past (hk2.keep hg1 (by intro e; cases e; omega)) ni0 hg2, ((h2.below hB0).past hk1 (ni3 _ _ _ _ _ _ _) hg1).past (hk2.keep hg1 (by intro e; cases e; omega)) ni0 hg2⟩
  · rw [decide_eq_false hm]
    refine enter Tryz.func57 rfl Tryz.ntmps57 (Nat.le_of_ble_eq_true rfl) ?_
    refine dr U 600 rfl trivial ?_
    refine bx rfl rfl rfl rfl ?_
    intro b1 wa hb1 hsa hk1 hga
    refine al U rfl rfl rfl rfl ?_
    intro b2 w0 hb2 hs0 hk2 hg0
    have hk1 := hk1.keep hg0 (by simp)
    have hB0 : Below w.heap.size w w0 := ((Below.refl _ _).grown hga (Nat.le_refl _) (fun k e => by cases e)).grown hg0 (by omega) (fun k e => by cases e)
    refine dr U 600 rfl trivial ?_
    refine ld U rfl rfl rfl rfl ((hk1).cell rfl) ?_
    refine dr U 600 rfl trivial ?_
    refine ld U rfl rfl rfl rfl ((hk1).cell rfl) ?_
    refine dr U 600 rfl trivial ?_
    refine cS rfl rfl rfl rfl (fun hq => ?_) (fun hq => ?_)
    · have hn : p.num.natAbs ≠ 0 := fun h => by rw [h, lim_zero] at hq; simp at hq
      refine dr U 600 rfl trivial ?_
      refine st U rfl rfl rfl rfl rfl rfl rfl rfl rfl rfl (hk1) ?_
      intro w1 hk1' hg1 hs1
      refine dr U 600 rfl trivial ?_
      refine lg rfl ag_q rfl rfl hk1' rfl ?_
      refine st U rfl rfl rfl rfl rfl rfl rfl rfl rfl rfl (hk2.keep hg1 (by intro e; cases e; omega)) ?_
      intro w2 hk2' hg2 hs2
      refine dr U 600 rfl trivial ?_
      refine retS Tryz.results57 (vs := [_]) ⟨⟨_, rfl, run_load_agg ag_q hk2' rfl⟩, trivial⟩ ⟨_, rfl, ?_, (hB0.grown hg1 hB0.size (fun k e => by cases e; omega)).grown hg2 (by have := hB0.size; omega) (fun k e => by cases e; omega)⟩
      have hne : decide ((-p).num < 0) = true := by rw [Rat.neg_num]; exact decide_eq_true (by omega)
      unfold QR
      rw [hne, Rat.neg_num, Rat.neg_den, Int.natAbs_neg]
      exact ⟨an, cn, ad, cd, rfl, ((h1.below hB0).past hk1 (ni3 _ _ _ _ _ _ _) hg1).past (hk2.keep hg1 (by intro e; cases e; omega)) ni0 hg2, ((h2.below hB0).past hk1 (ni3 _ _ _ _ _ _ _) hg1).past (hk2.keep hg1 (by intro e; cases e; omega)) ni0 hg2⟩
    · have hn : p.num.natAbs = 0 := lim_len_zero.1 (by omega)
      refine dr U 600 rfl trivial ?_
      refine st U rfl rfl rfl rfl rfl rfl rfl rfl rfl rfl (hk1) ?_
      intro w1 hk1' hg1 hs1
      refine dr U 600 rfl trivial ?_
      refine lg rfl ag_q rfl rfl hk1' rfl ?_
      refine st U rfl rfl rfl rfl rfl rfl rfl rfl rfl rfl (hk2.keep hg1 (by intro e; cases e; omega)) ?_
      intro w2 hk2' hg2 hs2
      refine dr U 600 rfl trivial ?_
      refine retS Tryz.results57 (vs := [_]) ⟨⟨_, rfl, run_load_agg ag_q hk2' rfl⟩, trivial⟩ ⟨_, rfl, ?_, (hB0.grown hg1 hB0.size (fun k e => by cases e; omega)).grown hg2 (by have := hB0.size; omega) (fun k e => by cases e; omega)⟩
      have hne : decide ((-p).num < 0) = false := by rw [Rat.neg_num]; exact decide_eq_false (by omega)
      unfold QR
      rw [hne, Rat.neg_num, Rat.neg_den, Int.natAbs_neg]
      exact ⟨an, cn, ad, cd, rfl, ((h1.below hB0).past hk1 (ni3 _ _ _ _ _ _ _) hg1).past (hk2.keep hg1 (by intro e; cases e; omega)) ni0 hg2, ((h2.below hB0).past hk1 (ni3 _ _ _ _ _ _ _) hg1).past (hk2.keep hg1 (by intro e; cases e; omega)) ni0 hg2⟩

theorem rtimesq_calls (p q : Rat) (K L : Nat) (hK : K ≤ 1000000000) (hL : L ≤ 1000000000) (v1 v2 : Value) (w : World) (h1 : QR w v1 p) (h2 : QR w v2 q) (hs1 : Small K p) (hs2 : Small L q) :
    Calls Tryz.prog 58 #[v1, v2] w (Ret fun v w' => QR w' v (p * q) ∧ Below w.heap.size w w') := by
  obtain ⟨an, cn, ad, cd, rfl, hn1, hd1⟩ := h1
  obtain ⟨bn, en, bd, ed, rfl, hn2, hd2⟩ := h2
  obtain ⟨l1, l2⟩ := hs1.lim
  obtain ⟨l3, l4⟩ := hs2.lim
  have lnn := lim_len_mul p.num.natAbs q.num.natAbs
  have ldd := lim_len_mul p.den q.den
  have hp := mkq_self p
  have hq2 := mkq_self q
  generalize decide (p.num < 0) = m1 at *
  generalize decide (q.num < 0) = m2 at *
  have heq : p * q = mkq (m1 != m2) (p.num.natAbs * q.num.natAbs) (p.den * q.den) := by rw [← mkq_mul, hp, hq2]
  refine enter Tryz.func58 rfl Tryz.ntmps58 (Nat.le_of_ble_eq_true rfl) ?_
  refine dr U 600 rfl trivial ?_
  refine bx rfl rfl rfl rfl ?_
  intro b2 wa hb2 hsa hk2 hga
  refine bx rfl rfl rfl rfl ?_
  intro b3 wb hb3 hsb hk3 hgb
  refine al U rfl rfl rfl rfl ?_
  intro b4 w0 hb4 hs0 hk4 hg0
  have hk2 := (hk2.keep hgb (by simp)).keep hg0 (by simp)
  have hk3 := hk3.keep hg0 (by simp)
  have hB0 : Below w.heap.size w w0 := (((Below.refl _ _).grown hga (Nat.le_refl _) (fun k e => by cases e)).grown hgb (by omega) (fun k e => by cases e)).grown hg0 (by omega) (fun k e => by cases e)
  refine dr U 600 rfl trivial ?_
  refine dwn 16 (fun W => Bk W b2 75 [.bool m1, .slice an (lim p.num.natAbs).length cn, .slice ad (lim p.den).length cd] ∧ Bk W b3 75 [.bool m2, .slice bn (lim q.num.natAbs).length en, .slice bd (lim q.den).length ed]) hmo ?_
  intro w1 hh1 hg1
  have hB1' : Below w0.heap.size w0 w1 := (Below.refl _ _).grown hg1 (Nat.le_refl _) (fun k e => by cases e)
  have hB1 := bl_tr hB0 hB1' hB0.size
  have hk2 := hk2.below hB1' hk2.lt
  have hk3 := hk3.below hB1' hk3.lt
  have hk4 := hk4.below hB1' hk4.lt
  refine dq U [0,1,2,3,4,5,6,7,8,10,11,12,13] [(1, .bool m1), (3, .bool m2), (6, .slice an (lim p.num.natAbs).length cn), (8, .slice bn (lim q.num.natAbs).length en), (11, .slice ad (lim p.den).length cd), (13, .slice bd (lim q.den).length ed)] (by kernel_rfl) rfl rfl ⟨hk2, hk3⟩ (by simp only [AllP, InR, List.nil_append, List.cons_append]; (repeat' apply And.intro); all_goals first | exact True.intro | omega | exact fun w h => run_load_cell U rfl (h.1.cell rfl) | exact fun w h => run_load_cell U rfl (h.2.cell rfl)) ?_
  refine d1 rfl rfl (fun _ => ⟨hk2, hk3⟩) ?_
  refine call (f := 85) rfl rfl cb85 (times_calls _ _ an bn cn en w1 (hn1.below hB1) (hn2.below hB1) (by omega) (by omega)) ?_
  rintro v w3 ⟨a3, c3, rfl, ho3, hB3⟩
  refine ⟨_, rfl, d2 ?_⟩
  have hB3' := bl_tr hB1 hB3 hB1.size
  have hk2 := hk2.below hB3 hk2.lt
  have hk3 := hk3.below hB3 hk3.lt
  have hk4 := hk4.below hB3 hk4.lt
  refine d1 rfl rfl (fun _ => ⟨hk2, hk3⟩) ?_
  refine call (f := 85) rfl rfl cb85 (times_calls _ _ ad bd cd ed w3 (hd1.below hB3') (hd2.below hB3') (by omega) (by omega)) ?_
  rintro v w5 ⟨a5, c5, rfl, ho5, hB5⟩
  refine ⟨_, rfl, d2 ?_⟩
  have hB5' := bl_tr hB3' hB5 hB3'.size
  have hk2 := hk2.below hB5 hk2.lt
  have hk3 := hk3.below hB5 hk3.lt
  have hk4 := hk4.below hB5 hk4.lt
  refine d1 rfl rfl (fun _ => ⟨hk2, hk3⟩) ?_
  refine call (f := 86) rfl rfl cb86 (reduce_calls (m1 != m2) _ _ (Nat.mul_ne_zero p.den_nz q.den_nz) a3 a5 c3 c5 w5 ((ownI_rd ho3).below hB5) (ownI_rd ho5) (by omega) (by omega)) ?_
  rintro v w8 ⟨hres, hB8⟩
  obtain ⟨a8, c8, a9, c9, rfl, hx8, hx9⟩ := hres
  refine ⟨_, rfl, d2 ?_⟩
  have hB8' := bl_tr hB5' hB8 hB5'.size
  have hk2 := hk2.below hB8 hk2.lt
  have hk3 := hk3.below hB8 hk3.lt
  have hk4 := hk4.below hB8 hk4.lt
  refine d1 rfl rfl (fun _ => ⟨hk2, hk3⟩) ?_
  refine st U rfl rfl rfl rfl rfl rfl rfl rfl rfl rfl (hk4) ?_
  intro w9 hk9 hg9 hs9
  refine d2 ?_; refine dend rfl (fun h => by cases h) ?_
  refine dr U 600 rfl trivial ?_
  refine retS Tryz.results58 (vs := [_]) ⟨⟨_, rfl, run_load_agg ag_q hk9 rfl⟩, trivial⟩ ⟨_, rfl, ?_, hB8'.grown hg9 hB8'.size (fun k e => by cases e; omega)⟩
  rw [heq]
  exact ⟨a8, c8, a9, c9, rfl, hx8.past hk4 ni0 hg9, hx9.past hk4 ni0 hg9⟩

/-- The order of two numbers. -/
def cmpQ (p q : Rat) : Int := if p + -q = 0 then 0 else if (p + -q).num < 0 then -1 else 1

theorem rcheck_calls (s : List UInt8) (hs : s.length ≤ 1099511627776) (w : World) :
    Calls Tryz.prog 43 #[.string ⟨⟨s⟩⟩] w (Ret fun v w' => (∃ e, v = .int .i64 e ∧ QErr s e) ∧ Below w.heap.size w w') := by
  refine enter Tryz.func43 rfl Tryz.ntmps43 (Nat.le_of_ble_eq_true rfl) ?_
  refine dr U 600 rfl trivial ?_
  refine call (f := 73) rfl rfl cb73 (rread_calls s hs w) ?_
  rintro v w1 ⟨hr, hB1⟩
  obtain ⟨m, a1, n1, c1, a2, n2, c2, e, rfl, hqe, hqr⟩ := hr.cases
  refine ⟨_, rfl, ?_⟩
  refine dr U 600 rfl trivial ?_
  refine al U rfl rfl rfl rfl ?_
  intro b w2 hb2 hs2 hk2 hg2
  have hB2 := hB1.grown hg2 hB1.size (fun k e => by cases e)
  refine dr U 600 rfl trivial ?_
  refine st U rfl rfl rfl rfl rfl rfl rfl rfl rfl rfl (hk2) ?_
  intro w3 hk3 hg3 hs3
  have hB3 := hB2.grown hg3 hB2.size (fun k e => by cases e; have := hB1.size; omega)
  refine dr U 600 rfl trivial ?_
  exact ret Tryz.results43 rfl ⟨_, rfl, ⟨e, rfl, hqe⟩, hB3⟩


/-- What Cmp answers. -/
def CmpR (s t : List UInt8) (v : Value) : Prop :=
  (∃ e, e ≠ 0 ∧ Two s t e ∧ v = .tuple ⟨[.int .i64 0, .int .i64 e]⟩) ∨ (Two s t 0 ∧ v = .tuple ⟨[.int .i64 (cmpQ (qval s) (qval t)), .int .i64 0]⟩)
theorem CmpR.text {p q : Rat} {v : Value} (hp : Small 4000 p) (hq : Small 4000 q) (h : CmpR (qtext p) (qtext q) v) : v = .tuple ⟨[.int .i64 (cmpQ p q), .int .i64 0]⟩ := by
  have h1 := q_text_ok p hp
  have h2 := q_text_ok q hq
  rcases h with ⟨e, g1, g2, rfl⟩ | ⟨_, g⟩
  · exact absurd (g2.uniq (.inr ⟨h1.1, h2.1⟩)) g1
  · rwa [h1.2, h2.2] at g
/-- What Div answers. -/
def DivR (s t : List UInt8) (v : Value) : Prop :=
  (∃ e, e ≠ 0 ∧ Two s t e ∧ v = .tuple ⟨[.string ⟨⟨[]⟩⟩, .int .i64 e]⟩) ∨ (Two s t 0 ∧ qval t = 0 ∧ v = .tuple ⟨[.string ⟨⟨[]⟩⟩, .int .i64 6]⟩) ∨ (Two s t 0 ∧ qval t ≠ 0 ∧ QRes (qval s * (qval t)⁻¹) v)
theorem DivR.text {p q : Rat} {v : Value} (hp : Small 4000 p) (hq : Small 4000 q) (h0 : q ≠ 0) (h : DivR (qtext p) (qtext q) v) : QRes (p * q⁻¹) v := by
  have h1 := q_text_ok p hp
  have h2 := q_text_ok q hq
  rcases h with ⟨e, g1, g2, rfl⟩ | ⟨_, g, _⟩ | ⟨_, _, g⟩
  · exact absurd (g2.uniq (.inr ⟨h1.1, h2.1⟩)) g1
  · rw [h2.2] at g; exact absurd g h0
  · rwa [h1.2, h2.2] at g
theorem small_inv {K : Nat} {p : Rat} (h : p ≠ 0) (hp : Small K p) : Small K p⁻¹ := by
  rw [mkq_inv h]
  exact mkq_small (fun e => h (q_num_zero.1 (by omega))) hp.2 hp.1
end Go.Proofs.YtfdekppnilffeaaGreatDoor
