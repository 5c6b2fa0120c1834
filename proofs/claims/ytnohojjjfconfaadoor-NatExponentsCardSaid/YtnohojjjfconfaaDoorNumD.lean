/-
  Plain arithmetic of decimal digits: how the digits of a number are made of the digits of its limbs.
  No conditions: each theorem names its own premises.
-/
import Derived.Test.YtnohojjjfconfaaDoorNumC
import Derived.Lib.ItoaNum
set_option linter.unusedVariables false
set_option linter.unusedSimpArgs false
namespace Go.Proofs.YtnohojjjfconfaaDoor
open Go.Lib

/-- m digits, zeros first. -/
def padD : Nat → Nat → List UInt8
  | 0, _ => []
  | m + 1, r => padD m (r / 10) ++ [UInt8.ofNat (48 + r % 10)]

theorem padD_length : ∀ (m r : Nat), (padD m r).length = m
  | 0, _ => rfl
  | m + 1, r => by simp [padD, padD_length m]

theorem dec_big {u : Nat} (h : ¬ u < 10) : decDigits u = decDigits (u / 10) ++ [UInt8.ofNat (48 + u % 10)] := by rw [decDigits, dif_neg h]

theorem shift10 (x m r : Nat) : (x * 10 ^ (m + 1) + r) / 10 = x * 10 ^ m + r / 10 := by
  rw [Nat.pow_succ, ← Nat.mul_assoc]; omega

theorem dec_pad : ∀ (m x r : Nat), 0 < x → r < 10 ^ m → decDigits (x * 10 ^ m + r) = decDigits x ++ padD m r
  | 0, x, r, _, h => by simp at h; subst h; simp [padD]
  | m + 1, x, r, hx, h => by
    have h1 : 10 ^ (m + 1) ≤ x * 10 ^ (m + 1) := Nat.le_mul_of_pos_left _ hx
    have h2 : 10 ≤ 10 ^ (m + 1) := by rw [Nat.pow_succ]; have := Nat.pow_pos (n := m) (show 0 < 10 by omega); omega
    rw [dec_big (by omega), shift10, dec_pad m x (r / 10) hx (by rw [Nat.pow_succ] at h; omega), padD, List.append_assoc]
    congr 4
    rw [Nat.pow_succ, ← Nat.mul_assoc]; omega

theorem nD_pad (m x r : Nat) (hx : 0 < x) (h : r < 10 ^ m) : nDigits (x * 10 ^ m + r) = nDigits x + m := by
  rw [← decDigits_length, dec_pad m x r hx h]; simp [padD_length, decDigits_length]

theorem rep_pad (m r : Nat) (h : r < 10 ^ m) : r = 0 → padD m r = List.replicate m 48 := by
  rintro rfl
  induction m with
  | zero => rfl
  | succ m ih => rw [padD, Nat.zero_div, ih (Nat.pow_pos (by omega)), List.replicate_succ']; rfl

theorem nD_le : ∀ (m r : Nat), 0 < m → r < 10 ^ m → nDigits r ≤ m
  | 0, _, h, _ => by omega
  | m + 1, r, _, h => by
    by_cases h1 : r < 10
    · rw [nDigits_small h1]; omega
    · rw [nDigits_big h1]
      have h2 : r / 10 < 10 ^ m := by rw [Nat.pow_succ] at h; omega
      rcases Nat.eq_zero_or_pos m with rfl | hm
      · simp at h2; omega
      · have := nD_le m (r / 10) hm h2; omega

/-- The digits of a number, filled up with zeros. -/
theorem fill_pad : ∀ (m r : Nat), 0 < m → r < 10 ^ m → List.replicate (m - nDigits r) 48 ++ decDigits r = padD m r
  | 0, _, h, _ => by omega
  | m + 1, r, _, h => by
    by_cases h1 : r < 10
    · rw [nDigits_small h1, decDigits_one h1, padD, rep_pad m (r / 10) (by rw [Nat.div_eq_of_lt h1]; exact Nat.pow_pos (by omega)) (Nat.div_eq_of_lt h1), Nat.mod_eq_of_lt h1]; rfl
    · have h2 : r / 10 < 10 ^ m := by rw [Nat.pow_succ] at h; omega
      rcases Nat.eq_zero_or_pos m with rfl | hm
      · simp at h2; omega
      · have := fill_pad m (r / 10) hm h2
        rw [nDigits_big h1, dec_big h1, padD, ← this, Nat.add_sub_add_right, List.append_assoc]

theorem pw10 (k : Nat) : pw k = 10 ^ (9 * k) := by unfold pw; rw [Nat.pow_mul]

/-- How many digits a number has. -/
theorem nD_lim {n : Nat} (h : n ≠ 0) : nDigits n = 9 * ((lim n).length - 1) + nDigits ((lim n).getD ((lim n).length - 1) 0) := by
  have ht := lim_top h
  have hl : 0 < (lim n).length := List.length_pos_iff.2 (fun e => h (lim_eq_nil.1 e))
  have h2 := val_take_succ (lim n) ((lim n).length - 1) (by omega)
  rw [take_all (by omega), val_lim] at h2
  have h3 := val_lt ((lim_Lm n).take ((lim n).length - 1))
  simp only [List.length_take] at h3
  rw [Nat.min_eq_left (by omega), pw10] at h3
  rw [pw10, Nat.add_comm, Nat.mul_comm] at h2
  generalize (lim n).getD ((lim n).length - 1) 0 = x at *
  generalize (lim n).length - 1 = k at *
  rw [h2, nD_pad _ _ _ ht h3, Nat.add_comm]

theorem nD_zero : nDigits 0 = 1 := nDigits_small (by omega)

/-- The digits from one limb on. -/
theorem dec_cons {x : Nat} {r : List Nat} (hx : x < 1000000000) (hr : 0 < val r) : decDigits (val (x :: r)) = decDigits (val r) ++ (List.replicate (9 - nDigits x) 48 ++ decDigits x) := by
  rw [fill_pad 9 x (by omega) hx, val_cons, Nat.add_comm, Nat.mul_comm]
  exact dec_pad 9 (val r) x hr hx

theorem lim_le_nD (n : Nat) : (lim n).length ≤ nDigits n := by
  by_cases h : n = 0
  · subst h; rw [lim_zero]; simp
  · rw [nD_lim h]; have := nDigits_pos ((lim n).getD ((lim n).length - 1) 0); omega

theorem nD_mul (m n : Nat) : nDigits (m * n) ≤ nDigits m + nDigits n := by
  refine nD_le _ _ (by have := nDigits_pos m; omega) ?_
  rw [Nat.pow_add]
  exact Nat.mul_lt_mul'' (lt_pow_nDigits m) (lt_pow_nDigits n)

theorem le_nD {n : Nat} (h : n ≠ 0) : 10 ^ (nDigits n - 1) ≤ n := by
  induction n using Nat.strongRecOn with
  | _ n ih =>
    by_cases h1 : n < 10
    · rw [nDigits_small h1]; simp; omega
    · rw [nDigits_big h1]
      have := ih (n / 10) (by omega) (by omega)
      have h2 := nDigits_pos (n / 10)
      rw [show nDigits (n / 10) + 1 - 1 = nDigits (n / 10) - 1 + 1 by omega, Nat.pow_succ]
      omega

theorem nD_mono {m n : Nat} (h : m ≤ n) : nDigits m ≤ nDigits n :=
  nD_le _ _ (nDigits_pos n) (Nat.lt_of_le_of_lt h (lt_pow_nDigits n))
end Go.Proofs.YtnohojjjfconfaaDoor
