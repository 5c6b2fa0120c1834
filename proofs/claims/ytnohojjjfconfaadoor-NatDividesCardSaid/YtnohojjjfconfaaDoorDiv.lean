/-
  Walk of the law NatDivides: it returns true.
  Conditions: texts are no longer than an int can tell; the library's table of powers of ten is laid.
-/
import Derived.Test.YtnohojjjfconfaaDoorPick
set_option linter.unusedSimpArgs false
set_option linter.unusedVariables false
set_option maxHeartbeats 1000000
namespace Go.Proofs.YtnohojjjfconfaaDoor
open Go Go.Proofs Go.RowKit Go.Lib

theorem natDivides_calls (x y : List UInt8) (hx : x.length ≤ 9223372036854775806) (hy : y.length ≤ 9223372036854775806) (w0 : World) (ht0 : TabOk w0) :
    Calls Tryd.prog 5 #[.string ⟨⟨x⟩⟩, .string ⟨⟨y⟩⟩] w0 (Ret fun v w' => v = .bool true ∧ Below w0.heap.size w0 w') := by
  have hW0 := Below.refl w0.heap.size w0
  refine enter Tryd.func5 rfl Tryd.ntmps5 (Nat.le_of_ble_eq_true rfl) ?_
  refine dr U 600 rfl trivial ?_
  refine call (f := 7) rfl rfl cb7 (lives_calls w0 ht0) ?_; rintro v w1 ⟨rfl, hB1⟩; refine ⟨_, rfl, ?_⟩; have ht1 := ht0.below hB1; have hW1 := bl_tr hW0 hB1 hW0.size; refine dr U 600 rfl trivial ?_
  refine bss2 U rfl rfl rfl rfl rfl rfl ?_
  intro w2 hk hs2 hg2
  have hW2 := hW1.grown hg2 hW1.size (fun k e => by cases e)
  have ht2 := ht0.below hW2
  refine call (f := 8) rfl rfl cb8 (valid_calls 2000 [x, y] w1.heap.size w2 (hk.sl 0) (by simp; exact ⟨hx, hy⟩) (by simp) (by omega)) ?_
  rintro v w3 ⟨⟨bb, rfl, hbb⟩, rfl⟩
  refine ⟨_, rfl, ?_⟩
  cases bb with
  | false =>
    refine dr U 600 rfl trivial ?_
    exact ret Tryd.results5 rfl ⟨_, rfl, rfl, hW2⟩
  | true =>
    have hall := hbb.1 rfl
    have hnx := (hall x (by simp)).num
    have hny := (hall y (by simp)).num
    generalize dval x = m at *
    generalize dval y = n at *
    refine dr U 600 rfl trivial ?_
    refine cS rfl rfl rfl rfl (fun hq => ?_) (fun hq => ?_)
    · refine dr U 600 rfl trivial ?_
      exact ret Tryd.results5 rfl ⟨_, rfl, rfl, hW2⟩
    · have hn : n ≠ 0 := by
        rintro rfl
        exact hq (hny.1.trans num_zero.1.symm)
      have hq1 : Num 2000 (decDigits (m / n)) (m / n) := Num.dec (Nat.le_trans (nD_mono (Nat.div_le_self m n)) hnx.2)
      have hr1 : Num 2000 (decDigits (m % n)) (m % n) := Num.dec (Nat.le_trans (nD_mono (Nat.mod_le m n)) hnx.2)
      have hp1 : Num 4000 (decDigits (m * n)) (m * n) := Num.dec (Nat.le_trans (nD_mul m n) (by have := hnx.2; have := hny.2; omega))
      have hp2 : Num 2000 (decDigits (m / n * n)) (m / n * n) := Num.dec (Nat.le_trans (nD_mono (Nat.div_mul_le_self m n)) hnx.2)
      refine dr U 600 rfl trivial ?_
      refine call (f := 13) rfl rfl cb13 (ndiv_calls hnx hny (by omega) (by omega) hn w2 ht2) ?_; rintro v w3 ⟨rfl, hB3⟩; refine ⟨_, rfl, ?_⟩; have ht3 := ht2.below hB3; have hW3 := bl_tr hW2 hB3 hW2.size; refine dr U 600 rfl trivial ?_
      refine call (f := 11) rfl rfl cb11 (product_calls hnx hny (by omega) w3 ht3) ?_; rintro v w4 ⟨rfl, hB4⟩; refine ⟨_, rfl, ?_⟩; have ht4 := ht3.below hB4; have hW4 := bl_tr hW3 hB4 hW3.size; refine dr U 600 rfl trivial ?_
      refine call (f := 13) rfl rfl cb13 (ndiv_calls hp1 hny (by omega) (by omega) hn w4 ht4) ?_; rintro v w5 ⟨rfl, hB5⟩; refine ⟨_, rfl, ?_⟩; have ht5 := ht4.below hB5; have hW5 := bl_tr hW4 hB5 hW4.size; refine dr U 600 rfl trivial ?_
      refine cT rfl rfl rfl (rfl) ?_; refine dr U 600 rfl trivial ?_
      refine call (f := 11) rfl rfl cb11 (product_calls hq1 hny (by omega) w5 ht5) ?_; rintro v w6 ⟨rfl, hB6⟩; refine ⟨_, rfl, ?_⟩; have ht6 := ht5.below hB6; have hW6 := bl_tr hW5 hB6 hW5.size; refine dr U 600 rfl trivial ?_
      refine call (f := 14) rfl rfl cb14 (sum_calls hp2 hr1 (by omega) (by omega) w6 ht6) ?_; rintro v w7 ⟨rfl, hB7⟩; refine ⟨_, rfl, ?_⟩; have ht7 := ht6.below hB7; have hW7 := bl_tr hW6 hB7 hW6.size; refine dr U 600 rfl trivial ?_
      refine cT rfl rfl rfl (by rw [Nat.div_add_mod']; exact hnx.1.symm) ?_; refine dr U 600 rfl trivial ?_
      refine call (f := 15) rfl rfl cb15 (ncmp_calls hr1 hny (by omega) (by omega) w7) ?_; rintro v w8 ⟨rfl, hB8⟩; refine ⟨_, rfl, ?_⟩; have ht8 := ht7.below hB8; have hW8 := bl_tr hW7 hB8 hW7.size; refine dr U 600 rfl trivial ?_
      refine cT rfl rfl rfl (cmpN_neg.2 (Nat.mod_lt _ (by omega))) ?_; refine dr U 600 rfl trivial ?_
      refine call (f := 16) rfl rfl cb16 (ncheck_calls hq1 (by omega) w8) ?_; rintro v w9 ⟨rfl, hB9⟩; refine ⟨_, rfl, ?_⟩; have ht9 := ht8.below hB9; have hW9 := bl_tr hW8 hB9 hW8.size; refine dr U 600 rfl trivial ?_
      refine cT rfl rfl rfl (rfl) ?_; refine dr U 600 rfl trivial ?_
      refine call (f := 16) rfl rfl cb16 (ncheck_calls hr1 (by omega) w9) ?_; rintro v w10 ⟨rfl, hB10⟩; refine ⟨_, rfl, ?_⟩; have ht10 := ht9.below hB10; have hW10 := bl_tr hW9 hB10 hW9.size; refine dr U 600 rfl trivial ?_
      refine cT rfl rfl rfl (rfl) ?_; refine dr U 600 rfl trivial ?_
      refine cT rfl rfl rfl (rfl) ?_; refine dr U 600 rfl trivial ?_
      refine cT rfl rfl rfl (by rw [Nat.mul_div_cancel _ (by omega)]; exact hnx.1.symm) ?_; refine dr U 600 rfl trivial ?_
      refine cT rfl rfl rfl (by rw [Nat.mul_mod_left]; exact num_zero.1.symm) ?_; refine dr U 600 rfl trivial ?_
      exact ret Tryd.results5 rfl ⟨_, rfl, rfl, hW10⟩
end Go.Proofs.YtnohojjjfconfaaDoor
