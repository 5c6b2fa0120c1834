/-
  Walks of strings.Builder: String, wherever the builder lies.
  Conditions: the builder is one that the call made.

  Walks of strings.Builder: WriteByte; and of the bits' writer, a builder in a struct of its own.
  Conditions: the builder is one that the call made.
-/
import Derived.Test.YtfdekppnilffeaaGreatDoorYBld
import Derived.Lib.UnsafeStr
section
set_option linter.unusedSimpArgs false
set_option linter.unusedVariables false
namespace Go.Proofs.YtfdekppnilffeaaGreatDoor
open Go Go.Proofs Go.RowKit Go.Lib


end Go.Proofs.YtfdekppnilffeaaGreatDoor
end
section
set_option linter.unusedSimpArgs false
set_option linter.unusedVariables false
namespace Go.Proofs.YtfdekppnilffeaaGreatDoor
open Go Go.Proofs Go.RowKit Go.Lib

/-- The byte of a bit. -/
def bitc (v : Bool) : UInt8 := if v = true then 49 else 48
end Go.Proofs.YtfdekppnilffeaaGreatDoor
end
