/-
  Walk of the law NatRing: it returns true.
  Conditions: texts are no longer than an int can tell; the library's table of powers of ten is laid.
-/
import Derived.Test.YtnohojjjfconfaaDoorLawB
set_option linter.unusedSimpArgs false
set_option linter.unusedVariables false
set_option maxHeartbeats 1000000
namespace Go.Proofs.YtnohojjjfconfaaDoor
open Go Go.Proofs Go.RowKit Go.Lib

theorem Num.dec {k n : Nat} (h : nDigits n ≤ k) : Num k (decDigits n) n := ⟨rfl, h⟩
theorem num_zero : Num 1 [48] 0 := lit_num (by decide)
theorem num_one : Num 1 [49] 1 := lit_num (by decide)

theorem natRing_calls (x y z : List UInt8) (hx : x.length ≤ 9223372036854775806) (hy : y.length ≤ 9223372036854775806) (hz : z.length ≤ 9223372036854775806) (w : World) (ht : TabOk w) :
    Calls Tryd.prog 6 #[.string ⟨⟨x⟩⟩, .string ⟨⟨y⟩⟩, .string ⟨⟨z⟩⟩] w (Ret fun v w' => v = .bool true ∧ Below w.heap.size w w') := by
  refine enter Tryd.func6 rfl Tryd.ntmps6 (Nat.le_of_ble_eq_true rfl) ?_
  refine dr U 600 rfl trivial ?_
  refine call (f := 7) rfl rfl cb7 (lives_calls w ht) ?_
  rintro v w1 ⟨rfl, hB1⟩
  refine ⟨_, rfl, ?_⟩
  have ht1 := ht.below hB1
  refine dr U 600 rfl trivial ?_
  refine bss3 U rfl rfl rfl rfl rfl rfl rfl ?_
  intro w2 hk hs2 hg2
  have hB2 := hB1.grown hg2 hB1.size (fun k e => by cases e)
  have ht2 := ht.below hB2
  refine call (f := 8) rfl rfl cb8 (valid_calls 1200 [x, y, z] w1.heap.size w2 (hk.sl 0) (by simp; exact ⟨hx, hy, hz⟩) (by simp) (by omega)) ?_
  rintro v w3 ⟨⟨bb, rfl, hbb⟩, rfl⟩
  refine ⟨_, rfl, ?_⟩
  cases bb with
  | false =>
    refine dr U 600 rfl trivial ?_
    exact ret Tryd.results6 rfl ⟨_, rfl, rfl, hB2⟩
  | true =>
    have hall := hbb.1 rfl
    have hnx := (hall x (by simp)).num
    have hny := (hall y (by simp)).num
    have hnz := (hall z (by simp)).num
    generalize dval x = m at *
    generalize dval y = n at *
    generalize dval z = p at *
    have hnab : Num 1201 (decDigits (m + n)) (m + n) := Num.dec (nD_add m n 1200 hnx.2 hny.2)
    have hnp : Num 2400 (decDigits (m * n)) (m * n) := Num.dec (Nat.le_trans (nD_mul m n) (by have := hnx.2; have := hny.2; omega))
    refine dr U 600 rfl trivial ?_
    refine call (f := 17) rfl rfl cb17 (nadd_calls hnx hny (by omega) (by omega) w2 ht2) ?_
    rintro v w3 ⟨rfl, hB3⟩
    refine ⟨_, rfl, ?_⟩
    have ht3 := ht2.below hB3
    refine dr U 600 rfl trivial ?_
    refine call (f := 18) rfl rfl cb18 (nmul_calls hnx hny (by omega) w3 ht3) ?_
    rintro v w4 ⟨rfl, hB4⟩
    refine ⟨_, rfl, ?_⟩
    have ht4 := ht3.below hB4
    refine dr U 600 rfl trivial ?_
    refine call (f := 19) rfl rfl cb19 (nsub_calls hnab hny (by omega) (by omega) (by omega) w4 ht4) ?_
    rintro v w5 ⟨rfl, hB5⟩
    refine ⟨_, rfl, ?_⟩
    have ht5 := ht4.below hB5
    have hBW := bl_tr (bl_tr (bl_tr hB2 hB3 hB2.size) hB4 (bl_tr hB2 hB3 hB2.size).size) hB5 (bl_tr (bl_tr hB2 hB3 hB2.size) hB4 (bl_tr hB2 hB3 hB2.size).size).size
    refine dr U 600 rfl trivial ?_
    refine cT rfl rfl rfl rfl ?_
    refine dr U 600 rfl trivial ?_
    refine cT rfl rfl rfl rfl ?_
    refine dr U 600 rfl trivial ?_
    refine cT rfl rfl rfl rfl ?_
    refine dr U 600 rfl trivial ?_
    refine cT rfl rfl rfl (by rw [Nat.add_sub_cancel]; exact hnx.1.symm) ?_
    refine dr U 600 rfl trivial ?_
    have hW5 := hBW
    have hnyz : Num 1201 (decDigits (n + p)) (n + p) := Num.dec (nD_add n p 1200 hny.2 hnz.2)
    have hpyz : Num 2400 (decDigits (n * p)) (n * p) := Num.dec (Nat.le_trans (nD_mul n p) (by have := hny.2; have := hnz.2; omega))
    have hpxz : Num 2400 (decDigits (m * p)) (m * p) := Num.dec (Nat.le_trans (nD_mul m p) (by have := hnx.2; have := hnz.2; omega))
    refine call (f := 14) rfl rfl cb14 (sum_calls hny hnx (by omega) (by omega) w5 ht5) ?_
    rintro v w6 ⟨rfl, hB6⟩
    refine ⟨_, rfl, ?_⟩
    have ht6 := ht5.below hB6
    have hW6 := bl_tr hW5 hB6 hW5.size
    refine cT rfl rfl rfl (by rw [Nat.add_comm]) ?_
    refine dr U 600 rfl trivial ?_
    refine call (f := 14) rfl rfl cb14 (sum_calls hnab hnz (by omega) (by omega) w6 ht6) ?_
    rintro v w7 ⟨rfl, hB7⟩
    refine ⟨_, rfl, ?_⟩
    have ht7 := ht6.below hB7
    have hW7 := bl_tr hW6 hB7 hW6.size
    refine dr U 600 rfl trivial ?_
    refine call (f := 14) rfl rfl cb14 (sum_calls hny hnz (by omega) (by omega) w7 ht7) ?_
    rintro v w8 ⟨rfl, hB8⟩
    refine ⟨_, rfl, ?_⟩
    have ht8 := ht7.below hB8
    have hW8 := bl_tr hW7 hB8 hW7.size
    refine call (f := 14) rfl rfl cb14 (sum_calls hnx hnyz (by omega) (by omega) w8 ht8) ?_
    rintro v w9 ⟨rfl, hB9⟩
    refine ⟨_, rfl, ?_⟩
    have ht9 := ht8.below hB9
    have hW9 := bl_tr hW8 hB9 hW8.size
    refine cT rfl rfl rfl (by rw [Nat.add_assoc]) ?_
    refine dr U 600 rfl trivial ?_
    refine call (f := 11) rfl rfl cb11 (product_calls hny hnx (by omega) w9 ht9) ?_
    rintro v w10 ⟨rfl, hB10⟩
    refine ⟨_, rfl, ?_⟩
    have ht10 := ht9.below hB10
    have hW10 := bl_tr hW9 hB10 hW9.size
    refine cT rfl rfl rfl (by rw [Nat.mul_comm]) ?_
    refine dr U 600 rfl trivial ?_
    refine call (f := 11) rfl rfl cb11 (product_calls hnp hnz (by omega) w10 ht10) ?_
    rintro v w11 ⟨rfl, hB11⟩
    refine ⟨_, rfl, ?_⟩
    have ht11 := ht10.below hB11
    have hW11 := bl_tr hW10 hB11 hW10.size
    refine dr U 600 rfl trivial ?_
    refine call (f := 11) rfl rfl cb11 (product_calls hny hnz (by omega) w11 ht11) ?_
    rintro v w12 ⟨rfl, hB12⟩
    refine ⟨_, rfl, ?_⟩
    have ht12 := ht11.below hB12
    have hW12 := bl_tr hW11 hB12 hW11.size
    refine call (f := 11) rfl rfl cb11 (product_calls hnx hpyz (by omega) w12 ht12) ?_
    rintro v w13 ⟨rfl, hB13⟩
    refine ⟨_, rfl, ?_⟩
    have ht13 := ht12.below hB13
    have hW13 := bl_tr hW12 hB13 hW12.size
    refine cT rfl rfl rfl (by rw [Nat.mul_assoc]) ?_
    refine dr U 600 rfl trivial ?_
    refine call (f := 14) rfl rfl cb14 (sum_calls hny hnz (by omega) (by omega) w13 ht13) ?_
    rintro v w14 ⟨rfl, hB14⟩
    refine ⟨_, rfl, ?_⟩
    have ht14 := ht13.below hB14
    have hW14 := bl_tr hW13 hB14 hW13.size
    refine call (f := 11) rfl rfl cb11 (product_calls hnx hnyz (by omega) w14 ht14) ?_
    rintro v w15 ⟨rfl, hB15⟩
    refine ⟨_, rfl, ?_⟩
    have ht15 := ht14.below hB15
    have hW15 := bl_tr hW14 hB15 hW14.size
    refine dr U 600 rfl trivial ?_
    refine call (f := 11) rfl rfl cb11 (product_calls hnx hnz (by omega) w15 ht15) ?_
    rintro v w16 ⟨rfl, hB16⟩
    refine ⟨_, rfl, ?_⟩
    have ht16 := ht15.below hB16
    have hW16 := bl_tr hW15 hB16 hW15.size
    refine call (f := 14) rfl rfl cb14 (sum_calls hnp hpxz (by omega) (by omega) w16 ht16) ?_
    rintro v w17 ⟨rfl, hB17⟩
    refine ⟨_, rfl, ?_⟩
    have ht17 := ht16.below hB17
    have hW17 := bl_tr hW16 hB17 hW16.size
    refine cT rfl rfl rfl (by rw [Nat.mul_add]) ?_
    refine dr U 600 rfl trivial ?_
    refine call (f := 16) rfl rfl cb16 (ncheck_calls hnp (by omega) w17) ?_
    rintro v w18 ⟨rfl, hB18⟩
    refine ⟨_, rfl, ?_⟩
    have ht18 := ht17.below hB18
    have hW18 := bl_tr hW17 hB18 hW17.size
    refine cT rfl rfl rfl rfl ?_
    refine dr U 600 rfl trivial ?_
    refine call (f := 16) rfl rfl cb16 (ncheck_calls hnab (by omega) w18) ?_
    rintro v w19 ⟨rfl, hB19⟩
    refine ⟨_, rfl, ?_⟩
    have ht19 := ht18.below hB19
    have hW19 := bl_tr hW18 hB19 hW18.size
    refine cT rfl rfl rfl rfl ?_
    refine dr U 600 rfl trivial ?_
    refine call (f := 14) rfl rfl cb14 (sum_calls hnx num_zero (by omega) (by omega) w19 ht19) ?_
    rintro v w20 ⟨rfl, hB20⟩
    refine ⟨_, rfl, ?_⟩
    have ht20 := ht19.below hB20
    have hW20 := bl_tr hW19 hB20 hW19.size
    refine dr U 600 rfl trivial ?_
    refine cT rfl rfl rfl (by rw [Nat.add_zero]; exact hnx.1.symm) ?_
    refine dr U 600 rfl trivial ?_
    refine call (f := 11) rfl rfl cb11 (product_calls hnx num_one (by omega) w20 ht20) ?_
    rintro v w21 ⟨rfl, hB21⟩
    refine ⟨_, rfl, ?_⟩
    have ht21 := ht20.below hB21
    have hW21 := bl_tr hW20 hB21 hW20.size
    refine dr U 600 rfl trivial ?_
    refine cT rfl rfl rfl (by rw [Nat.mul_one]; exact hnx.1.symm) ?_
    refine dr U 600 rfl trivial ?_
    refine call (f := 11) rfl rfl cb11 (product_calls hnx num_zero (by omega) w21 ht21) ?_
    rintro v w22 ⟨rfl, hB22⟩
    refine ⟨_, rfl, ?_⟩
    have ht22 := ht21.below hB22
    have hW22 := bl_tr hW21 hB22 hW21.size
    refine cT rfl rfl rfl (by rw [Nat.mul_zero]; exact num_zero.1.symm) ?_
    refine dr U 600 rfl trivial ?_
    exact ret Tryd.results6 rfl ⟨_, rfl, rfl, hW22⟩
end Go.Proofs.YtnohojjjfconfaaDoor
