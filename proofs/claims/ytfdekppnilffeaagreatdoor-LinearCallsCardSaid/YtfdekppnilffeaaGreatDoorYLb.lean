/-
  Ranks: transposed matrices, normal equations; least squares.
  No conditions: each theorem names its own premises.
-/
import Derived.Test.YtfdekppnilffeaaGreatDoorYLa
set_option linter.unusedSimpArgs false
set_option linter.unusedVariables false
namespace Go.Proofs.YtfdekppnilffeaaGreatDoor
def trp (f : Mx) : Mx := fun i k => f k i

/-- Products. -/
def mmul (n : Nat) (f g : Mx) : Mx := fun i k => sm n (fun t => f i t * g t k)
def mapp (n : Nat) (f : Mx) (x : Nat → Rat) : Nat → Rat := fun i => sm n (fun t => f i t * x t)
def idn : Mx := fun i k => if i = k then 1 else 0
theorem app_mul (n k : Nat) (f g : Mx) (x : Nat → Rat) (i : Nat) : mapp k (mmul n f g) x i = mapp n f (mapp k g x) i := by
  unfold mapp mmul
  rw [sm_congr (g := fun t => sm n (fun s => f i s * (g s t * x t))) (fun t _ => by rw [← sm_mulr]; apply sm_congr; intro s _; grind), sm_comm]
  apply sm_congr
  intro s _
  rw [sm_mul]
theorem mul_assoc (n k : Nat) (f g h : Mx) (i j : Nat) : mmul k (mmul n f g) h i j = mmul n f (mmul k g h) i j := app_mul n k f g (fun t => h t j) i
end Go.Proofs.YtfdekppnilffeaaGreatDoor
