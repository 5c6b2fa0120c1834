/-
  Walks of the law package's helpers: Pick, sum, product; the texts of given numbers.
  Conditions: texts take fewer than 2^40 bytes; the library's table of powers of ten is laid.
-/
import Derived.Test.YtfdekppnilffeaaGreatDoorYRef
set_option linter.unusedSimpArgs false
set_option linter.unusedVariables false
set_option maxHeartbeats 1000000
namespace Go.Proofs.YtfdekppnilffeaaGreatDoor
open Go Go.Proofs Go.RowKit Go.Lib

/-- A text of a number of at most so many digits. -/
def Num (k : Nat) (x : List UInt8) (n : Nat) : Prop := x = decDigits n ∧ nDigits n ≤ k
theorem Num.of {l : List UInt8} (h : (l.all fun c => decide (48 ≤ c.toNat) && decide (c.toNat ≤ 57)) = true) (hne : l ≠ []) (hz : l = [48] ∨ l.head? ≠ some 48) : Num l.length l (dval l) := by
  have hd : Dgs l := fun c hc => by
    have := List.all_eq_true.1 h c hc
    simp at this; exact this
  have := dec_of hd hne hz
  exact ⟨this, by rw [← decDigits_length, ← this]; exact Nat.le_refl _⟩
theorem Num.mono {k k' : Nat} {x : List UInt8} {n : Nat} (h : Num k x n) (hk : k ≤ k') : Num k' x n := ⟨h.1, Nat.le_trans h.2 hk⟩

end Go.Proofs.YtfdekppnilffeaaGreatDoor
