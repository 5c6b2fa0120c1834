/-
  Walks of the law package's helpers: sum, product.
  Conditions: texts are no longer than an int can tell; the library's table of powers of ten is laid.
-/
import Derived.Test.YtabplbmbnakalaaGreatDoorYRng
import Derived.Test.YtabplbmbnakalaaGreatDoorYLives
set_option linter.unusedSimpArgs false
set_option linter.unusedVariables false
set_option maxHeartbeats 1000000
namespace Go.Proofs.YtabplbmbnakalaaGreatDoor
open Go Go.Proofs Go.RowKit Go.Lib

theorem Num.dec {k n : Nat} (h : nDigits n ≤ k) : Num k (decDigits n) n := ⟨rfl, h⟩
theorem num_zero : Num 1 [48] 0 := lit_num (by decide)
theorem num_one : Num 1 [49] 1 := lit_num (by decide)

end Go.Proofs.YtabplbmbnakalaaGreatDoor
