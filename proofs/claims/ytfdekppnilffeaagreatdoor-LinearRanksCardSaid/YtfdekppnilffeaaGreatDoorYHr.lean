/-
  What the solver answers at small systems of numbers.
  Conditions: each theorem names its own.
-/
import Derived.Test.YtfdekppnilffeaaGreatDoorYHk
import Derived.Test.YtfdekppnilffeaaGreatDoorYPick
set_option linter.unusedSimpArgs false
set_option linter.unusedVariables false
set_option maxHeartbeats 1000000
namespace Go.Proofs.YtfdekppnilffeaaGreatDoor
open Go Go.Proofs Go.RowKit Go.Lib

theorem SolvedR.full {n : Nat} {f : Mx} {b : Nat → Rat} {v : Value} {w : World} (h : SolvedR n f b v w) (hF : (gj n f n).2 = n) :
    ∃ x a c, (∀ i, i < n → mapp n f x i = b i) ∧ (∀ i, i < n → Small 4000 (x i)) ∧ v = .tuple ⟨[.slice a n c, .int .i64 0]⟩ ∧ Lit w (.slice a n c) (txs n x) := by
  rcases h with ⟨h, _⟩ | ⟨_, h⟩
  · exact absurd hF h
  · exact h
theorem SolvedR.none {n : Nat} {f : Mx} {b : Nat → Rat} {v : Value} {w : World} (h : SolvedR n f b v w) (hF : (gj n f n).2 ≠ n) :
    ∃ a c, v = .tuple ⟨[.slice a 0 c, .int .i64 17]⟩ := by
  rcases h with ⟨_, h⟩ | ⟨h, _⟩
  · exact h
  · exact absurd h hF
theorem fct_le {n : Nat} (hn : n ≤ 5) : fct n ≤ 120 := by
  have : n = 0 ∨ n = 1 ∨ n = 2 ∨ n = 3 ∨ n = 4 ∨ n = 5 := by omega
  rcases this with rfl | rfl | rfl | rfl | rfl | rfl <;> decide
theorem pow_lift {a K E : Nat} (ha : a < 10 ^ 3) (hE : 3 + K ≤ E) : a * 10 ^ K < 10 ^ E := by
  have h1 : a * 10 ^ K < 10 ^ 3 * 10 ^ K := Nat.mul_lt_mul_of_pos_right ha (Nat.pow_pos (by omega))
  rw [← Nat.pow_add] at h1
  exact Nat.lt_of_lt_of_le h1 (Nat.pow_le_pow_right (by omega) hE)
theorem sol_bound5 {n S : Nat} (hn : n ≤ 5) (hS : S ≤ 126) : fct n * (10 ^ S * (10 ^ S) ^ n) ^ n < 10 ^ 4000 := by
  rw [← Nat.pow_mul, ← Nat.pow_add, ← Nat.pow_mul]
  have h0 : S * n ≤ 126 * 5 := Nat.mul_le_mul hS hn
  have h2 : (S + S * n) * n ≤ 756 * 5 := Nat.mul_le_mul (by omega) hn
  exact pow_lift (a := fct n) (K := (S + S * n) * n) (E := 4000) (Nat.lt_of_le_of_lt (fct_le hn) (by decide)) (by omega)
theorem sol_small5 {n S : Nat} {f : Mx} {b : Nat → Rat} (h0 : 0 < n) (hn : n ≤ 5) (hS : S ≤ 126) (hf : ∀ i, i < n → ∀ k, k < n → Small S (f i k)) (hb : ∀ i, i < n → Small S (b i)) :
    ∀ x, (∀ i, i < n → mapp n f x i = b i) → (gj n f n).2 = n → ∀ i, i < n → Small 4000 (x i) := fun x hx hF =>
  sol_small h0 (fun i k hi hk => hf i hi k hk) hb hF hx (sol_bound5 hn hS) (by omega)
theorem grw5 {n S : Nat} (hn : n ≤ 5) (hS : S ≤ 126) : grw n S ≤ 1000000 :=
  Nat.le_trans (grw_mono2 hS n) (grw_at hn (by decide))
end Go.Proofs.YtfdekppnilffeaaGreatDoor
