/-
  Walk of the law NatExponents: it returns true.
  Conditions: texts are no longer than an int can tell; the library's table of powers of ten is laid.
-/
import Derived.Test.YtnohojjjfconfaaDoorPick
set_option linter.unusedSimpArgs false
set_option linter.unusedVariables false
set_option maxHeartbeats 1000000
namespace Go.Proofs.YtnohojjjfconfaaDoor
open Go Go.Proofs Go.RowKit Go.Lib

theorem natExponents_calls (x y : List UInt8) (a b : Int) (hx : x.length ≤ 9223372036854775806) (hy : y.length ≤ 9223372036854775806) (_ : -9223372036854775808 ≤ a ∧ a ≤ 9223372036854775807) (_ : -9223372036854775808 ≤ b ∧ b ≤ 9223372036854775807) (w0 : World) (ht0 : TabOk w0) :
    Calls Tryd.prog 3 #[.string ⟨⟨x⟩⟩, .string ⟨⟨y⟩⟩, .int .i64 a, .int .i64 b] w0 (Ret fun v w' => v = .bool true ∧ Below w0.heap.size w0 w') := by
  have hW0 := Below.refl w0.heap.size w0
  refine enter Tryd.func3 rfl Tryd.ntmps3 (Nat.le_of_ble_eq_true rfl) ?_
  refine dr U 600 rfl trivial ?_
  refine call (f := 7) rfl rfl cb7 (lives_calls w0 ht0) ?_; rintro v w1 ⟨rfl, hB1⟩; refine ⟨_, rfl, ?_⟩; have ht1 := ht0.below hB1; have hW1 := bl_tr hW0 hB1 hW0.size; refine dr U 600 rfl trivial ?_
  refine bss2 U rfl rfl rfl rfl rfl rfl ?_
  intro w2 hk hs2 hg2
  have hW2 := hW1.grown hg2 hW1.size (fun k e => by cases e)
  have ht2 := ht0.below hW2
  refine call (f := 8) rfl rfl cb8 (valid_calls 20 [x, y] w1.heap.size w2 (hk.sl 0) (by simp; exact ⟨hx, hy⟩) (by simp) (by omega)) ?_
  rintro v w3 ⟨⟨bb, rfl, hbb⟩, rfl⟩
  refine ⟨_, rfl, ?_⟩
  cases bb with
  | false =>
    refine dr U 600 rfl trivial ?_
    exact ret Tryd.results3 rfl ⟨_, rfl, rfl, hW2⟩
  | true =>
    have hall := hbb.1 rfl
    have hnx := (hall x (by simp)).num
    have hny := (hall y (by simp)).num
    generalize dval x = p at *
    generalize dval y = q at *
    refine dr U 600 rfl trivial ?_
    refine call (f := 9) rfl rfl cb9 (pick_calls a 41 (by omega) (by omega) w2) ?_
    rintro v w3 ⟨⟨m, rfl, hm⟩, rfl⟩
    refine ⟨_, rfl, ?_⟩
    refine dr U 600 rfl trivial ?_
    refine call (f := 9) rfl rfl cb9 (pick_calls b 41 (by omega) (by omega) w2) ?_
    rintro v w3 ⟨⟨n, rfl, hn⟩, rfl⟩
    refine ⟨_, rfl, ?_⟩
    have d1 : nDigits (p ^ m) ≤ 801 := Nat.le_trans (nD_pow m hnx.2) (by omega)
    have d2 : nDigits (p ^ n) ≤ 801 := Nat.le_trans (nD_pow n hnx.2) (by omega)
    have d3 : nDigits (p ^ (m + n)) ≤ 1601 := Nat.le_trans (nD_pow (m + n) hnx.2) (by omega)
    have d4 : nDigits (p * q) ≤ 40 := Nat.le_trans (nD_mul p q) (by have := hnx.2; have := hny.2; omega)
    have d5 : nDigits ((p * q) ^ m) ≤ 1601 := Nat.le_trans (nD_pow m d4) (by omega)
    have d6 : nDigits (q ^ m) ≤ 801 := Nat.le_trans (nD_pow m hny.2) (by omega)
    refine dr U 600 rfl trivial ?_
    refine call (f := 10) rfl rfl cb10 (npow_calls hnx (by omega) (by omega) (by omega) w2 ht2) ?_; rintro v w3 ⟨rfl, hB3⟩; refine ⟨_, rfl, ?_⟩; have ht3 := ht2.below hB3; have hW3 := bl_tr hW2 hB3 hW2.size; refine dr U 600 rfl trivial ?_
    refine call (f := 10) rfl rfl cb10 (npow_calls hnx (by omega) (by omega) (by omega) w3 ht3) ?_; rintro v w4 ⟨rfl, hB4⟩; refine ⟨_, rfl, ?_⟩; have ht4 := ht3.below hB4; have hW4 := bl_tr hW3 hB4 hW3.size
    refine dr U 600 rfl (by first | exact True.intro | (simp only [AllP, InR, List.nil_append, List.cons_append, and_true]; omega)) ?_
    refine call (f := 10) rfl rfl cb10 (npow_calls (k := m + n) hnx (by omega) (by omega) (by omega) w4 ht4) ?_; rintro v w5 ⟨rfl, hB5⟩; refine ⟨_, rfl, ?_⟩; have ht5 := ht4.below hB5; have hW5 := bl_tr hW4 hB5 hW4.size; refine dr U 600 rfl trivial ?_
    refine call (f := 11) rfl rfl cb11 (product_calls hnx hny (by omega) w5 ht5) ?_; rintro v w6 ⟨rfl, hB6⟩; refine ⟨_, rfl, ?_⟩; have ht6 := ht5.below hB6; have hW6 := bl_tr hW5 hB6 hW5.size; refine dr U 600 rfl trivial ?_
    refine call (f := 10) rfl rfl cb10 (npow_calls (Num.dec d4) (by omega) (by omega) (by omega) w6 ht6) ?_; rintro v w7 ⟨rfl, hB7⟩; refine ⟨_, rfl, ?_⟩; have ht7 := ht6.below hB7; have hW7 := bl_tr hW6 hB7 hW6.size; refine dr U 600 rfl trivial ?_
    refine call (f := 10) rfl rfl cb10 (npow_calls hny (by omega) (by omega) (by omega) w7 ht7) ?_; rintro v w8 ⟨rfl, hB8⟩; refine ⟨_, rfl, ?_⟩; have ht8 := ht7.below hB8; have hW8 := bl_tr hW7 hB8 hW7.size; refine dr U 600 rfl trivial ?_
    refine cT rfl rfl rfl (rfl) ?_; refine dr U 600 rfl trivial ?_
    refine cT rfl rfl rfl (rfl) ?_; refine dr U 600 rfl trivial ?_
    refine cT rfl rfl rfl (rfl) ?_; refine dr U 600 rfl trivial ?_
    refine cT rfl rfl rfl (rfl) ?_; refine dr U 600 rfl trivial ?_
    refine cT rfl rfl rfl (rfl) ?_; refine dr U 600 rfl trivial ?_
    refine call (f := 11) rfl rfl cb11 (product_calls (Num.dec d1) (Num.dec d2) (by omega) w8 ht8) ?_; rintro v w9 ⟨rfl, hB9⟩; refine ⟨_, rfl, ?_⟩; have ht9 := ht8.below hB9; have hW9 := bl_tr hW8 hB9 hW8.size; refine dr U 600 rfl trivial ?_
    refine cT rfl rfl rfl (by rw [Nat.pow_add]) ?_; refine dr U 600 rfl trivial ?_
    refine call (f := 11) rfl rfl cb11 (product_calls (Num.dec d1) (Num.dec d6) (by omega) w9 ht9) ?_; rintro v w10 ⟨rfl, hB10⟩; refine ⟨_, rfl, ?_⟩; have ht10 := ht9.below hB10; have hW10 := bl_tr hW9 hB10 hW9.size; refine dr U 600 rfl trivial ?_
    refine cT rfl rfl rfl (by rw [Nat.mul_pow]) ?_; refine dr U 600 rfl trivial ?_
    exact ret Tryd.results3 rfl ⟨_, rfl, rfl, hW10⟩
end Go.Proofs.YtnohojjjfconfaaDoor
