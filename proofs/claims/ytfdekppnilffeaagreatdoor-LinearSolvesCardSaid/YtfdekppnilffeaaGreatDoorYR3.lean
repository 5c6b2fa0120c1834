/-
  Walk of the reference's sum of rational numbers.
  Conditions: numbers take fewer than 2^34 limbs.
-/
import Derived.Test.YtfdekppnilffeaaGreatDoorYR2
set_option linter.unusedSimpArgs false
set_option linter.unusedVariables false
set_option maxHeartbeats 1000000
namespace Go.Proofs.YtfdekppnilffeaaGreatDoor
open Go Go.Proofs Go.RowKit Go.Lib



end Go.Proofs.YtfdekppnilffeaaGreatDoor
