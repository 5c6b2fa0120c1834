/-
  Plain things of lists of texts that are numbers.
  No conditions: each theorem names its own premises.

  Determinants: how great the numbers of a solution are, over one denominator.
  No conditions: each theorem names its own premises.

  How many digits the numbers of a solution take.
  No conditions: each theorem names its own premises.
-/
import Derived.Test.YtfdekppnilffeaaGreatDoorYSz
import Derived.Test.YtfdekppnilffeaaGreatDoorYLb
import Derived.Test.YtfdekppnilffeaaGreatDoorYKa
section
set_option linter.unusedSimpArgs false
set_option linter.unusedVariables false
namespace Go.Proofs.YtfdekppnilffeaaGreatDoor
open Go Go.Proofs Go.RowKit Go.Lib

theorem XErr.rows {xss : List (List Tx)} (h : XErr xss 0) : (∀ i, i < xss.length → (rw' xss i).length = (rw' xss 0).length) ∧ ∀ i, i < xss.length → ∀ j, j < (rw' xss 0).length → QErr ((rw' xss i).getD j []) 0 := by
  have hr := h.ok.2.2.2.2
  exact ⟨fun i hi => (hr i hi).1, fun i hi j hj => (hr i hi).2.ok.2.2 j (by rw [(hr i hi).1]; exact hj)⟩
/-- The lengths of lists and texts. -/
structure Lens (xss : List (List Tx)) : Prop where
  l : xss.length ≤ 1099511627776
  l2 : ∀ i, i < xss.length → (rw' xss i).length ≤ 1099511627776
  x : ∀ i, i < xss.length → ∀ j, j < (rw' xss i).length → ((rw' xss i).getD j []).length ≤ 1099511627776
theorem Lens.row {xss : List (List Tx)} (h : Lens xss) (he : XErr xss 0) : ∀ i, i < xss.length → ∀ j, j < (rw' xss 0).length → ((rw' xss i).getD j []).length ≤ 1099511627776 := fun i hi j hj => h.x i hi j (by rw [he.rows.1 i hi]; exact hj)
structure LenV (ys : List Tx) : Prop where
  l : ys.length ≤ 1099511627776
  x : ∀ j, j < ys.length → (ys.getD j []).length ≤ 1099511627776

theorem txs_snoc (n : Nat) (f : Nat → Rat) : txs (n + 1) f = txs n f ++ [qtext (f n)] := by unfold txs; rw [List.range_succ, List.map_append]; rfl
theorem qtext_zero : qtext 0 = [48] := by have := qtext_nat 0; rw [decDigits_one (by omega)] at this; simpa using this
theorem VErr.qok {ys : List Tx} (h : VErr ys 0) : ∀ i, i < ys.length → QErr (ys.getD i []) 0 := h.ok.2.2
theorem mtx_getD {m n i j : Nat} {f : Nat → Nat → Rat} (hi : i < m) (hj : j < n) : (rw' (mtx m n f) i).getD j [] = qtext (f i j) := by
  rw [mtx_row hi]
  simp [txs, List.getD, hj]
theorem mtx_len {m n i : Nat} {f : Nat → Nat → Rat} (hi : i < m) : (rw' (mtx m n f) i).length = n := by rw [mtx_row hi, txs_length]
end Go.Proofs.YtfdekppnilffeaaGreatDoor
end
section
set_option linter.unusedSimpArgs false
set_option linter.unusedVariables false
namespace Go.Proofs.YtfdekppnilffeaaGreatDoor
def skp (i r : Nat) : Nat := if r < i then r else r + 1
def sgn (i : Nat) : Rat := if i % 2 = 0 then 1 else -1
/-- The determinant of columns. -/
def dt : Nat → (Nat → Nat → Rat) → Rat
  | 0, _ => 1
  | n + 1, A => sm (n + 1) (fun i => sgn i * A 0 i * dt n (fun c r => A (c + 1) (skp i r)))
/-- The minors of a matrix with one more row than columns. -/
def mu (n : Nat) (A : Nat → Nat → Rat) (i : Nat) : Rat := sgn i * dt n (fun c r => A c (skp i r))
end Go.Proofs.YtfdekppnilffeaaGreatDoor
end
section
set_option linter.unusedSimpArgs false
set_option linter.unusedVariables false
namespace Go.Proofs.YtfdekppnilffeaaGreatDoor
open Go.Lib

end Go.Proofs.YtfdekppnilffeaaGreatDoor
end
