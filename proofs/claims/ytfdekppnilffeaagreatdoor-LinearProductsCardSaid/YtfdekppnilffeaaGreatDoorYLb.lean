/-
  Ranks: transposed matrices, normal equations; least squares.
  No conditions: each theorem names its own premises.

  How great the numbers of a solution are.
  No conditions: each theorem names its own premises.
-/
import Derived.Test.YtfdekppnilffeaaGreatDoorYLa
section
set_option linter.unusedSimpArgs false
set_option linter.unusedVariables false
namespace Go.Proofs.YtfdekppnilffeaaGreatDoor
def trp (f : Mx) : Mx := fun i k => f k i

/-- Products. -/
def mmul (n : Nat) (f g : Mx) : Mx := fun i k => sm n (fun t => f i t * g t k)
def mapp (n : Nat) (f : Mx) (x : Nat → Rat) : Nat → Rat := fun i => sm n (fun t => f i t * x t)
def idn : Mx := fun i k => if i = k then 1 else 0
theorem app_mul (n k : Nat) (f g : Mx) (x : Nat → Rat) (i : Nat) : mapp k (mmul n f g) x i = mapp n f (mapp k g x) i := by
  unfold mapp mmul
  rw [sm_congr (g := fun t => sm n (fun s => f i s * (g s t * x t))) (fun t _ => by rw [← sm_mulr]; apply sm_congr; intro s _; grind), sm_comm]
  apply sm_congr
  intro s _
  rw [sm_mul]
theorem mul_assoc (n k : Nat) (f g h : Mx) (i j : Nat) : mmul k (mmul n f g) h i j = mmul n f (mmul k g h) i j := app_mul n k f g (fun t => h t j) i
theorem trp_mul (n : Nat) (f g : Mx) (i k : Nat) : mmul n f g k i = mmul n (trp g) (trp f) i k := by
  unfold mmul trp
  apply sm_congr; intro t _; grind
theorem mul_idn {n k : Nat} (hk : k < n) (f : Mx) (i : Nat) : mmul n f idn i k = f i k := by
  unfold mmul idn
  rw [sm_single hk (fun t ht hne => by rw [if_neg hne]; grind), if_pos rfl]; grind
end Go.Proofs.YtfdekppnilffeaaGreatDoor
end
section
set_option linter.unusedSimpArgs false
set_option linter.unusedVariables false
namespace Go.Proofs.YtfdekppnilffeaaGreatDoor
/-- An integer that is not great. -/
def Isn (B : Nat) (a : Rat) : Prop := ∃ z : Int, a = (z : Rat) ∧ z.natAbs ≤ B
theorem Isn.mono {B C : Nat} {a : Rat} (h : Isn B a) (hc : B ≤ C) : Isn C a := by
  obtain ⟨z, h1, h2⟩ := h; exact ⟨z, h1, by omega⟩
theorem Isn.mul {B C : Nat} {a b : Rat} (h : Isn B a) (g : Isn C b) : Isn (B * C) (a * b) := by
  obtain ⟨z, rfl, h2⟩ := h
  obtain ⟨y, rfl, g2⟩ := g
  exact ⟨z * y, by rw [Rat.intCast_mul], by rw [Int.natAbs_mul]; exact Nat.mul_le_mul h2 g2⟩
theorem Isn.add {B C : Nat} {a b : Rat} (h : Isn B a) (g : Isn C b) : Isn (B + C) (a + b) := by
  obtain ⟨z, rfl, h2⟩ := h
  obtain ⟨y, rfl, g2⟩ := g
  exact ⟨z + y, by rw [Rat.intCast_add], by omega⟩
theorem Isn.sub {B C : Nat} {a b : Rat} (h : Isn B a) (g : Isn C b) : Isn (B + C) (a - b) := by
  obtain ⟨z, rfl, h2⟩ := h
  obtain ⟨y, rfl, g2⟩ := g
  exact ⟨z - y, by rw [Rat.intCast_sub], by omega⟩
end Go.Proofs.YtfdekppnilffeaaGreatDoor
end
