/-
  Walks of package nat: Cmp, Pow, Sub.
  Conditions: texts take fewer than 2^40 bytes; the library's table of powers of ten is laid.
-/
import Derived.Test.YtnohojjjfconfaaDoorNatA
set_option linter.unusedSimpArgs false
set_option linter.unusedVariables false
set_option maxHeartbeats 1000000
namespace Go.Proofs.YtnohojjjfconfaaDoor
open Go Go.Proofs Go.RowKit Go.Lib

theorem natCmp_calls (x y : List UInt8) (hx : x.length ≤ 1099511627776) (hy : y.length ≤ 1099511627776) (w : World) :
    Calls Tryd.prog 15 #[.string ⟨⟨x⟩⟩, .string ⟨⟨y⟩⟩] w (Ret fun v w' => (∃ e, Chk2 x y e ∧ v = .int .i64 (if e ≠ 0 then 0 else cmpN (dval x) (dval y))) ∧ Below w.heap.size w w') := by
  refine enter Tryd.func15 rfl Tryd.ntmps15 (Nat.le_of_ble_eq_true rfl) ?_
  refine dr U 600 rfl trivial ?_
  refine call (f := 16) rfl rfl cb16 (check_calls x hx w) ?_
  rintro v w1 ⟨⟨e1, rfl, hc1⟩, hB1⟩
  refine ⟨_, rfl, ?_⟩
  refine dr U 600 rfl trivial ?_
  refine call (f := 16) rfl rfl cb16 (check_calls y hy w1) ?_
  rintro v w2 ⟨⟨e2, rfl, hc2⟩, hB2⟩
  refine ⟨_, rfl, ?_⟩
  have hB2' := bl_tr hB1 hB2 hB1.size
  refine bs2 U rfl rfl rfl rfl rfl rfl ?_
  intro w3 hk hs3 hg3
  refine call (f := 31) rfl rfl cb31 (first_calls e1 e2 w2.heap.size w3 (hk.sl 0)) ?_
  rintro v w4 ⟨rfl, rfl⟩
  refine ⟨_, rfl, ?_⟩
  have hB3 := hB2'.grown hg3 hB2'.size (fun k e => by cases e)
  generalize he : (if e1 ≠ 0 then e1 else e2) = e
  have hch : Chk2 x y e := ⟨e1, e2, hc1, hc2, he.symm⟩
  refine cS rfl rfl rfl rfl (fun hq => ?_) (fun hq => ?_)
  · refine dr U 600 rfl trivial ?_
    refine ret Tryd.results15 rfl ⟨_, rfl, ⟨e, hch, ?_⟩, hB3⟩
    rw [if_pos hq]; rfl
  · obtain rfl := Classical.not_not.1 hq
    obtain ⟨hox, hoy⟩ := chk2_ok hch
    have hlx := (form_len hox).2
    have hly := (form_len hoy).2
    refine dr U 600 rfl trivial ?_
    refine call (f := 21) rfl rfl cb21 (parse_calls x hox.1.2.2 hx w3) ?_
    rintro v w5 ⟨a5, c5, rfl, ho5, hB5⟩
    refine ⟨_, rfl, ?_⟩
    refine dr U 600 rfl trivial ?_
    refine call (f := 21) rfl rfl cb21 (parse_calls y hoy.1.2.2 hy w5) ?_
    rintro v w6 ⟨a6, c6, rfl, ho6, hB6⟩
    refine ⟨_, rfl, ?_⟩
    have hB5' := bl_tr hB3 hB5 hB3.size
    have hB6' := bl_tr hB5' hB6 hB5'.size
    refine call (f := 32) rfl rfl cb32 (cmp_calls (dval x) (dval y) a5 a6 c5 c6 w6 ((own_rd ho5).below hB6) (own_rd ho6) (by omega) (by omega)) ?_
    rintro v w7 ⟨rfl, hB7⟩
    refine ⟨_, rfl, ?_⟩
    refine dr U 600 rfl trivial ?_
    exact ret Tryd.results15 rfl ⟨_, rfl, ⟨0, hch, rfl⟩, bl_tr hB6' hB7 hB6'.size⟩

/-- What Pow returns. -/
def OutP (x : List UInt8) (n : Int) (v : Value) : Prop :=
  (∃ e, e ≠ 0 ∧ Chk x e ∧ v = .tuple ⟨[.string ⟨⟨[]⟩⟩, .int .i64 e]⟩) ∨ (Chk x 0 ∧ n < 0 ∧ v = .tuple ⟨[.string ⟨⟨[]⟩⟩, .int .i64 2]⟩) ∨ (Chk x 0 ∧ 0 ≤ n ∧ Res (dval x ^ n.toNat) v)

theorem natPow_calls (x : List UInt8) (n : Int) (hx : x.length ≤ 1099511627776) (hn : n ≤ 9223372036854775807) (w : World) (ht : TabOk w) :
    Calls Tryd.prog 10 #[.string ⟨⟨x⟩⟩, .int .i64 n] w (Ret fun v w' => OutP x n v ∧ Below w.heap.size w w') := by
  refine enter Tryd.func10 rfl Tryd.ntmps10 (Nat.le_of_ble_eq_true rfl) ?_
  refine dr U 600 rfl trivial ?_
  refine call (f := 16) rfl rfl cb16 (check_calls x hx w) ?_
  rintro v w1 ⟨⟨e, rfl, hc⟩, hB1⟩
  refine ⟨_, rfl, ?_⟩
  refine dr U 600 rfl trivial ?_
  refine cS rfl rfl rfl rfl (fun hq => ?_) (fun hq => ?_)
  · refine dr U 600 rfl trivial ?_
    exact ret Tryd.results10 rfl ⟨_, rfl, .inl ⟨e, hq, hc, rfl⟩, hB1⟩
  · obtain rfl := Classical.not_not.1 hq
    have hox := chk_ok hc
    have hlx := form_len hox
    refine dr U 600 rfl trivial ?_
    refine cS rfl rfl rfl rfl (fun hq => ?_) (fun hq => ?_)
    · refine dr U 600 rfl trivial ?_
      exact ret Tryd.results10 rfl ⟨_, rfl, .inr (.inl ⟨hc, hq, rfl⟩), hB1⟩
    · obtain ⟨k, rfl⟩ : ∃ k : Nat, n = k := ⟨n.toNat, by omega⟩
      refine dr U 600 rfl trivial ?_
      refine call (f := 21) rfl rfl cb21 (parse_calls x hox.1.2.2 hx w1) ?_
      rintro v w2 ⟨a2, c2, rfl, ho2, hB2⟩
      refine ⟨_, rfl, ?_⟩
      have hB2' := bl_tr hB1 hB2 hB1.size
      refine dr U 600 rfl (by first | exact True.intro | (simp only [AllP, InR, List.nil_append, List.cons_append, and_true]; omega)) ?_
      refine call (f := 22) rfl rfl cb22 (pow_calls (dval x) k 4000 (by omega) a2 c2 w2 (own_rd ho2) hlx.1 (by omega) (ht.below hB2')) ?_
      rintro v w3 ⟨v1, rfl, hred, hB3⟩
      refine ⟨_, rfl, ?_⟩
      have hB3' := bl_tr hB2' hB3 hB2'.size
      by_cases hd : nDigits (dval x ^ k) ≤ 4000
      · rw [decide_eq_true hd]
        obtain ⟨a3, c3, rfl, hr3⟩ := hred hd
        refine dr U 600 rfl trivial ?_
        refine call (f := 23) rfl rfl cb23 (result_calls (dval x ^ k) a3 c3 w3 hr3 (Nat.le_trans (lim_le_nD _) (by omega)) (ht.below hB3')) ?_
        rintro v w4 ⟨hres, hB4⟩
        have hres' := hres
        obtain ⟨u1, u2, rfl⟩ := hres'.tup
        refine ⟨_, rfl, ?_⟩
        refine dr U 600 rfl trivial ?_
        exact ret Tryd.results10 rfl ⟨_, rfl, .inr (.inr ⟨hc, by omega, hres⟩), bl_tr hB3' hB4 hB3'.size⟩
      · rw [decide_eq_false hd]
        refine dr U 600 rfl trivial ?_
        exact ret Tryd.results10 rfl ⟨_, rfl, .inr (.inr ⟨hc, by omega, .inr ⟨by show 4000 < nDigits (dval x ^ k); omega, rfl⟩⟩), hB3'⟩
end Go.Proofs.YtnohojjjfconfaaDoor
