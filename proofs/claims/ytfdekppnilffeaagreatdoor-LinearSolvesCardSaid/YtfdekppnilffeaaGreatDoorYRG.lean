/-
  Walks of the reference: Write, number, both, Add, Sub, Mul, DivMod, Gcd, Cmp.
  Conditions: fewer than 2^36 limbs; texts are no longer than an int can tell.

  Walks of the reference: number, both, Add, Sub, Mul, DivMod, Gcd, Cmp.
  Conditions: texts are no longer than an int can tell.

  Walks of the reference: Power, Pow, FromInt, ToInt, Bits.
  Conditions: texts are no longer than an int can tell.
-/
import Derived.Test.YtfdekppnilffeaaGreatDoorYRE
section
set_option linter.unusedSimpArgs false
set_option linter.unusedVariables false
set_option maxHeartbeats 1000000
namespace Go.Proofs.YtfdekppnilffeaaGreatDoor
open Go Go.Proofs Go.RowKit Go.Lib

section
variable {P : Program} (U : Tys P) {ro : Option Nat} {n : Nat} {ds : List Deferred} {Q : PT} {l l' : Fr} {w w' : World} {arr : Array Oper} {r : List Oper} {k : List It}
end

end Go.Proofs.YtfdekppnilffeaaGreatDoor
end
section
set_option linter.unusedSimpArgs false
set_option linter.unusedVariables false
set_option maxHeartbeats 1000000
namespace Go.Proofs.YtfdekppnilffeaaGreatDoor
open Go Go.Proofs Go.RowKit Go.Lib

end Go.Proofs.YtfdekppnilffeaaGreatDoor
end
section
set_option linter.unusedSimpArgs false
set_option linter.unusedVariables false
set_option maxHeartbeats 1000000
namespace Go.Proofs.YtfdekppnilffeaaGreatDoor
open Go Go.Proofs Go.RowKit Go.Lib

section
variable {P : Program} (U : Tys P) {ro : Option Nat} {n : Nat} {ds : List Deferred} {Q : PT} {l l' : Fr} {w w' : World} {arr : Array Oper} {r : List Oper} {k : List It}
end

end Go.Proofs.YtfdekppnilffeaaGreatDoor
end
