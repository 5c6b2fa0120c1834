/-
  How many digits the parts of sums, products and quotients of rational numbers take.
  No conditions: each theorem names its own premises.
-/
import Derived.Test.YtfdekppnilffeaaGreatDoorYNum
import Derived.Test.YtfdekppnilffeaaGreatDoorYQ
set_option linter.unusedSimpArgs false
set_option linter.unusedVariables false
namespace Go.Proofs.YtfdekppnilffeaaGreatDoor
open Go.Lib

theorem nD_sum (m n k : Nat) (h1 : nDigits m ≤ k) (h2 : nDigits n ≤ k) : nDigits (m + n) ≤ k + 1 := by
  refine nD_le _ _ (by omega) ?_
  have h3 := Nat.lt_of_lt_of_le (lt_pow_nDigits m) (Nat.pow_le_pow_right (n := 10) (by omega) h1)
  have h4 := Nat.lt_of_lt_of_le (lt_pow_nDigits n) (Nat.pow_le_pow_right (n := 10) (by omega) h2)
  rw [Nat.pow_succ]
  omega
theorem mkRat_mkq (z : Int) (d : Nat) : mkRat z d = mkq (decide (z < 0)) z.natAbs d := by
  unfold mkq
  congr 1
  by_cases h : z < 0
  · rw [if_pos (by simpa using h)]; omega
  · rw [if_neg (by simpa using h)]; omega
theorem small_add {K L : Nat} {p q : Rat} (hp : Small K p) (hq : Small L q) : Small (K + L + 1) (p + q) := by
  have e : p + q = mkq (decide (p.num < 0)) p.num.natAbs p.den + mkq (decide (q.num < 0)) q.num.natAbs q.den := by rw [mkq_self, mkq_self]
  rw [e, mkq_add _ _ _ _ _ _ p.den_nz q.den_nz, mkRat_mkq]
  have h1 := nD_mul p.num.natAbs q.den
  have h2 := nD_mul q.num.natAbs p.den
  have h3 := nD_mul p.den q.den
  have a1 := hp.1
  have a2 := hp.2
  have b1 := hq.1
  have b2 := hq.2
  refine mkq_small (Nat.mul_ne_zero p.den_nz q.den_nz) ?_ (by omega)
  refine Nat.le_trans (nD_mono (n := p.num.natAbs * q.den + q.num.natAbs * p.den) ?_) (nD_sum _ _ _ (by omega) (by omega))
  generalize p.num.natAbs * q.den = x
  generalize q.num.natAbs * p.den = y
  split <;> split <;> omega
theorem small_mul {K L : Nat} {p q : Rat} (hp : Small K p) (hq : Small L q) : Small (K + L) (p * q) := by
  have e : p * q = mkq (decide (p.num < 0)) p.num.natAbs p.den * mkq (decide (q.num < 0)) q.num.natAbs q.den := by rw [mkq_self, mkq_self]
  rw [e, mkq_mul]
  have h1 := nD_mul p.num.natAbs q.num.natAbs
  have h3 := nD_mul p.den q.den
  have a1 := hp.1
  have a2 := hp.2
  have b1 := hq.1
  have b2 := hq.2
  exact mkq_small (Nat.mul_ne_zero p.den_nz q.den_nz) (by omega) (by omega)
theorem small_neg {K : Nat} {p : Rat} (hp : Small K p) : Small K (-p) := by
  unfold Small at *
  rw [Rat.neg_num, Rat.neg_den, Int.natAbs_neg]; exact hp
theorem small_mono {K L : Nat} {p : Rat} (hp : Small K p) (h : K ≤ L) : Small L p := ⟨Nat.le_trans hp.1 h, Nat.le_trans hp.2 h⟩
end Go.Proofs.YtfdekppnilffeaaGreatDoor
