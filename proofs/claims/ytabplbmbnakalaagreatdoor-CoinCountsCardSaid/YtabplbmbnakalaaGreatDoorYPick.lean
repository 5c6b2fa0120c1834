/-
  Walk of the statements' Pick; digits of powers.
  Conditions: the number of choices is at least 1.
-/
import Derived.Test.YtabplbmbnakalaaGreatDoorYEng
import Derived.Test.YtabplbmbnakalaaGreatDoorYTab
import Derived.Test.YtabplbmbnakalaaGreatDoorYNum
set_option linter.unusedSimpArgs false
set_option linter.unusedVariables false
set_option maxHeartbeats 1000000
namespace Go.Proofs.YtabplbmbnakalaaGreatDoor
open Go Go.Proofs Go.RowKit Go.Lib

theorem nD_pow {m d : Nat} (k : Nat) (h : nDigits m ≤ d) : nDigits (m ^ k) ≤ d * k + 1 := by
  refine nD_le _ _ (by omega) ?_
  have h1 := Nat.lt_of_lt_of_le (lt_pow_nDigits m) (Nat.pow_le_pow_right (n := 10) (by omega) h)
  have h2 : m ^ k ≤ (10 ^ d) ^ k := Nat.pow_le_pow_left (Nat.le_of_lt h1) k
  rw [← Nat.pow_mul] at h2
  exact Nat.lt_of_le_of_lt h2 (Nat.pow_lt_pow_right (by omega) (by omega))
end Go.Proofs.YtabplbmbnakalaaGreatDoor
