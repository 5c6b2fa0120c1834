/-
  Walk of the law NatCommon: it returns true.
  Conditions: texts are no longer than an int can tell; the library's table of powers of ten is laid.
-/
import Derived.Test.YtnohojjjfconfaaDoorPick
set_option linter.unusedSimpArgs false
set_option linter.unusedVariables false
set_option maxHeartbeats 1000000
namespace Go.Proofs.YtnohojjjfconfaaDoor
open Go Go.Proofs Go.RowKit Go.Lib

theorem natCommon_calls (x y z : List UInt8) (hx : x.length ≤ 9223372036854775806) (hy : y.length ≤ 9223372036854775806) (hz : z.length ≤ 9223372036854775806) (w0 : World) (ht0 : TabOk w0) :
    Calls Tryd.prog 4 #[.string ⟨⟨x⟩⟩, .string ⟨⟨y⟩⟩, .string ⟨⟨z⟩⟩] w0 (Ret fun v w' => v = .bool true ∧ Below w0.heap.size w0 w') := by
  have hW0 := Below.refl w0.heap.size w0
  refine enter Tryd.func4 rfl Tryd.ntmps4 (Nat.le_of_ble_eq_true rfl) ?_
  refine dr U 600 rfl trivial ?_
  refine call (f := 7) rfl rfl cb7 (lives_calls w0 ht0) ?_; rintro v w1 ⟨rfl, hB1⟩; refine ⟨_, rfl, ?_⟩; have ht1 := ht0.below hB1; have hW1 := bl_tr hW0 hB1 hW0.size; refine dr U 600 rfl trivial ?_
  refine bss3 U rfl rfl rfl rfl rfl rfl rfl ?_
  intro w2 hk hs2 hg2
  have hW2 := hW1.grown hg2 hW1.size (fun k e => by cases e)
  have ht2 := ht0.below hW2
  refine call (f := 8) rfl rfl cb8 (valid_calls 400 [x, y, z] w1.heap.size w2 (hk.sl 0) (by simp; exact ⟨hx, hy, hz⟩) (by simp) (by omega)) ?_
  rintro v w3 ⟨⟨bb, rfl, hbb⟩, rfl⟩
  refine ⟨_, rfl, ?_⟩
  cases bb with
  | false =>
    refine dr U 600 rfl trivial ?_
    exact ret Tryd.results4 rfl ⟨_, rfl, rfl, hW2⟩
  | true =>
    have hall := hbb.1 rfl
    have hnx := (hall x (by simp)).num
    have hny := (hall y (by simp)).num
    have hnz := (hall z (by simp)).num
    generalize dval x = m at *
    generalize dval y = n at *
    generalize dval z = p at *
    refine dr U 600 rfl trivial ?_
    refine call (f := 12) rfl rfl cb12 (ngcd_calls hnx hny (by omega) (by omega) w2 ht2) ?_; rintro v w3 ⟨rfl, hB3⟩; refine ⟨_, rfl, ?_⟩; have ht3 := ht2.below hB3; have hW3 := bl_tr hW2 hB3 hW2.size; refine dr U 600 rfl trivial ?_
    refine call (f := 12) rfl rfl cb12 (ngcd_calls hny hnx (by omega) (by omega) w3 ht3) ?_; rintro v w4 ⟨rfl, hB4⟩; refine ⟨_, rfl, ?_⟩; have ht4 := ht3.below hB4; have hW4 := bl_tr hW3 hB4 hW3.size; refine dr U 600 rfl trivial ?_
    refine cF rfl rfl rfl (fun h => h rfl) ?_; refine dr U 600 rfl trivial ?_
    refine cF rfl rfl rfl (fun h => h rfl) ?_; refine dr U 600 rfl trivial ?_
    refine cF rfl rfl rfl (fun h => h (by rw [Nat.gcd_comm])) ?_; refine dr U 600 rfl trivial ?_
    by_cases hmn : m = 0 ∧ n = 0
    · obtain ⟨rfl, rfl⟩ := hmn
      refine cT rfl rfl rfl (hnx.1.trans num_zero.1.symm) ?_; refine dr U 600 rfl trivial ?_
      refine cT rfl rfl rfl (hny.1.trans num_zero.1.symm) ?_; refine dr U 600 rfl trivial ?_
      refine cT rfl rfl rfl (num_zero.1.symm) ?_; refine dr U 600 rfl trivial ?_
      exact ret Tryd.results4 rfl ⟨_, rfl, rfl, hW4⟩
    · have hg0 : 0 < Nat.gcd m n := by
        rcases Nat.eq_zero_or_pos (Nat.gcd m n) with h | h
        · exact absurd (Nat.gcd_eq_zero_iff.1 h) hmn
        · exact h
      have hmp : nDigits (m * p) ≤ 800 := Nat.le_trans (nD_mul m p) (by have := hnx.2; have := hnz.2; omega)
      have hnp : nDigits (n * p) ≤ 800 := Nat.le_trans (nD_mul n p) (by have := hny.2; have := hnz.2; omega)
      have hgd : Num 400 (decDigits (Nat.gcd m n)) (Nat.gcd m n) := Num.dec (by
        rcases Nat.eq_zero_or_pos m with h | h
        · subst h; rw [Nat.gcd_zero_left]; exact hny.2
        · exact Nat.le_trans (nD_mono (Nat.gcd_le_left n h)) hnx.2)
      have hm1 : Num 400 (decDigits (m / Nat.gcd m n)) (m / Nat.gcd m n) := Num.dec (Nat.le_trans (nD_mono (Nat.div_le_self _ _)) hnx.2)
      have hn1 : Num 400 (decDigits (n / Nat.gcd m n)) (n / Nat.gcd m n) := Num.dec (Nat.le_trans (nD_mono (Nat.div_le_self _ _)) hny.2)
      by_cases hm : m = 0
      · have hn : n ≠ 0 := fun h => hmn ⟨hm, h⟩
        refine cT rfl rfl rfl (by rw [hnx.1, hm]; exact num_zero.1.symm) ?_; refine dr U 600 rfl trivial ?_
        refine cF rfl rfl rfl (fun h => hn (dec_inj (by rw [← hny.1, h]; exact num_zero.1))) ?_; refine dr U 600 rfl trivial ?_
        refine call (f := 13) rfl rfl cb13 (ndiv_calls hnx hgd (by omega) (by omega) (by omega) w4 ht4) ?_; rintro v w5 ⟨rfl, hB5⟩; refine ⟨_, rfl, ?_⟩; have ht5 := ht4.below hB5; have hW5 := bl_tr hW4 hB5 hW4.size; refine dr U 600 rfl trivial ?_
        refine call (f := 13) rfl rfl cb13 (ndiv_calls hny hgd (by omega) (by omega) (by omega) w5 ht5) ?_; rintro v w6 ⟨rfl, hB6⟩; refine ⟨_, rfl, ?_⟩; have ht6 := ht5.below hB6; have hW6 := bl_tr hW5 hB6 hW5.size; refine dr U 600 rfl trivial ?_
        refine call (f := 12) rfl rfl cb12 (ngcd_calls hm1 hn1 (by omega) (by omega) w6 ht6) ?_; rintro v w7 ⟨rfl, hB7⟩; refine ⟨_, rfl, ?_⟩; have ht7 := ht6.below hB7; have hW7 := bl_tr hW6 hB7 hW6.size; refine dr U 600 rfl trivial ?_
        refine call (f := 11) rfl rfl cb11 (product_calls hnx hnz (by omega) w7 ht7) ?_; rintro v w8 ⟨rfl, hB8⟩; refine ⟨_, rfl, ?_⟩; have ht8 := ht7.below hB8; have hW8 := bl_tr hW7 hB8 hW7.size; refine dr U 600 rfl trivial ?_
        refine call (f := 11) rfl rfl cb11 (product_calls hny hnz (by omega) w8 ht8) ?_; rintro v w9 ⟨rfl, hB9⟩; refine ⟨_, rfl, ?_⟩; have ht9 := ht8.below hB9; have hW9 := bl_tr hW8 hB9 hW8.size; refine dr U 600 rfl trivial ?_
        refine call (f := 12) rfl rfl cb12 (ngcd_calls (Num.dec hmp) (Num.dec hnp) (by omega) (by omega) w9 ht9) ?_; rintro v w10 ⟨rfl, hB10⟩; refine ⟨_, rfl, ?_⟩; have ht10 := ht9.below hB10; have hW10 := bl_tr hW9 hB10 hW9.size; refine dr U 600 rfl trivial ?_
        refine cT rfl rfl rfl (rfl) ?_; refine dr U 600 rfl trivial ?_
        refine cT rfl rfl rfl (rfl) ?_; refine dr U 600 rfl trivial ?_
        refine cT rfl rfl rfl (by rw [Nat.mod_eq_zero_of_dvd (Nat.gcd_dvd_left m n)]; exact num_zero.1.symm) ?_; refine dr U 600 rfl trivial ?_
        refine cT rfl rfl rfl (by rw [Nat.mod_eq_zero_of_dvd (Nat.gcd_dvd_right m n)]; exact num_zero.1.symm) ?_; refine dr U 600 rfl trivial ?_
        refine cT rfl rfl rfl (by rw [Nat.gcd_div (Nat.gcd_dvd_left m n) (Nat.gcd_dvd_right m n), Nat.div_self hg0]; exact num_one.1.symm) ?_; refine dr U 600 rfl trivial ?_
        refine cT rfl rfl rfl (rfl) ?_; refine dr U 600 rfl trivial ?_
        refine call (f := 11) rfl rfl cb11 (product_calls hgd hnz (by omega) w10 ht10) ?_; rintro v w11 ⟨rfl, hB11⟩; refine ⟨_, rfl, ?_⟩; have ht11 := ht10.below hB11; have hW11 := bl_tr hW10 hB11 hW10.size; refine dr U 600 rfl trivial ?_
        refine cT rfl rfl rfl (by rw [Nat.gcd_mul_right]) ?_; refine dr U 600 rfl trivial ?_
        refine cT rfl rfl rfl (rfl) ?_; refine dr U 600 rfl trivial ?_
        exact ret Tryd.results4 rfl ⟨_, rfl, rfl, hW11⟩
      · refine cF rfl rfl rfl (fun h => hm (dec_inj (by rw [← hnx.1, h]; exact num_zero.1))) ?_; refine dr U 600 rfl trivial ?_
        refine call (f := 13) rfl rfl cb13 (ndiv_calls hnx hgd (by omega) (by omega) (by omega) w4 ht4) ?_; rintro v w5 ⟨rfl, hB5⟩; refine ⟨_, rfl, ?_⟩; have ht5 := ht4.below hB5; have hW5 := bl_tr hW4 hB5 hW4.size; refine dr U 600 rfl trivial ?_
        refine call (f := 13) rfl rfl cb13 (ndiv_calls hny hgd (by omega) (by omega) (by omega) w5 ht5) ?_; rintro v w6 ⟨rfl, hB6⟩; refine ⟨_, rfl, ?_⟩; have ht6 := ht5.below hB6; have hW6 := bl_tr hW5 hB6 hW5.size; refine dr U 600 rfl trivial ?_
        refine call (f := 12) rfl rfl cb12 (ngcd_calls hm1 hn1 (by omega) (by omega) w6 ht6) ?_; rintro v w7 ⟨rfl, hB7⟩; refine ⟨_, rfl, ?_⟩; have ht7 := ht6.below hB7; have hW7 := bl_tr hW6 hB7 hW6.size; refine dr U 600 rfl trivial ?_
        refine call (f := 11) rfl rfl cb11 (product_calls hnx hnz (by omega) w7 ht7) ?_; rintro v w8 ⟨rfl, hB8⟩; refine ⟨_, rfl, ?_⟩; have ht8 := ht7.below hB8; have hW8 := bl_tr hW7 hB8 hW7.size; refine dr U 600 rfl trivial ?_
        refine call (f := 11) rfl rfl cb11 (product_calls hny hnz (by omega) w8 ht8) ?_; rintro v w9 ⟨rfl, hB9⟩; refine ⟨_, rfl, ?_⟩; have ht9 := ht8.below hB9; have hW9 := bl_tr hW8 hB9 hW8.size; refine dr U 600 rfl trivial ?_
        refine call (f := 12) rfl rfl cb12 (ngcd_calls (Num.dec hmp) (Num.dec hnp) (by omega) (by omega) w9 ht9) ?_; rintro v w10 ⟨rfl, hB10⟩; refine ⟨_, rfl, ?_⟩; have ht10 := ht9.below hB10; have hW10 := bl_tr hW9 hB10 hW9.size; refine dr U 600 rfl trivial ?_
        refine cT rfl rfl rfl (rfl) ?_; refine dr U 600 rfl trivial ?_
        refine cT rfl rfl rfl (rfl) ?_; refine dr U 600 rfl trivial ?_
        refine cT rfl rfl rfl (by rw [Nat.mod_eq_zero_of_dvd (Nat.gcd_dvd_left m n)]; exact num_zero.1.symm) ?_; refine dr U 600 rfl trivial ?_
        refine cT rfl rfl rfl (by rw [Nat.mod_eq_zero_of_dvd (Nat.gcd_dvd_right m n)]; exact num_zero.1.symm) ?_; refine dr U 600 rfl trivial ?_
        refine cT rfl rfl rfl (by rw [Nat.gcd_div (Nat.gcd_dvd_left m n) (Nat.gcd_dvd_right m n), Nat.div_self hg0]; exact num_one.1.symm) ?_; refine dr U 600 rfl trivial ?_
        refine cT rfl rfl rfl (rfl) ?_; refine dr U 600 rfl trivial ?_
        refine call (f := 11) rfl rfl cb11 (product_calls hgd hnz (by omega) w10 ht10) ?_; rintro v w11 ⟨rfl, hB11⟩; refine ⟨_, rfl, ?_⟩; have ht11 := ht10.below hB11; have hW11 := bl_tr hW10 hB11 hW10.size; refine dr U 600 rfl trivial ?_
        refine cT rfl rfl rfl (by rw [Nat.gcd_mul_right]) ?_; refine dr U 600 rfl trivial ?_
        refine cT rfl rfl rfl (rfl) ?_; refine dr U 600 rfl trivial ?_
        exact ret Tryd.results4 rfl ⟨_, rfl, rfl, hW11⟩
end Go.Proofs.YtnohojjjfconfaaDoor
