/-
  Walks of package bits: pieces and its iterator, Cut.
  Conditions: texts take fewer than 2^40 bytes.
-/
import Derived.Test.YtabplbmbnakalaaGreatDoorYBj
import Derived.Test.YtabplbmbnakalaaGreatDoorYRnw
set_option linter.unusedSimpArgs false
set_option linter.unusedVariables false
set_option maxHeartbeats 1000000
namespace Go.Proofs.YtabplbmbnakalaaGreatDoor
open Go Go.Proofs Go.RowKit Go.Lib

/-- The pieces of n characters. -/
def piece (n : Nat) (l : List UInt8) (i : Nat) : List UInt8 := (l.drop (i * n)).take n
def cuts (n : Nat) (l : List UInt8) (k : Nat) : List (List UInt8) := (List.range k).map (piece n l)
theorem cuts_length (n : Nat) (l : List UInt8) (k : Nat) : (cuts n l k).length = k := by simp [cuts]
theorem cuts_succ (n : Nat) (l : List UInt8) (k : Nat) : strs (cuts n l (k + 1)) = strs (cuts n l k) ++ [.string ⟨⟨piece n l k⟩⟩] := by simp [cuts, strs, List.range_succ]

/-- What Cut answers. -/
def CutR (l : List UInt8) (n : Int) (W : World) (v : Value) (w : World) : Prop :=
  (¬ Bin l ∧ v = .tuple ⟨[.slice none 0 0, .int .i64 3]⟩) ∨
  (Bin l ∧ (n < 1 ∨ 256 < n) ∧ v = .tuple ⟨[.slice none 0 0, .int .i64 2]⟩) ∨
  (Bin l ∧ 1 ≤ n ∧ n ≤ 256 ∧ l.length % n.toNat ≠ 0 ∧ v = .tuple ⟨[.slice none 0 0, .int .i64 16]⟩) ∨
  (Bin l ∧ 1 ≤ n ∧ n ≤ 256 ∧ l.length % n.toNat = 0 ∧ ∃ a c, v = .tuple ⟨[.slice a (l.length / n.toNat) c, .int .i64 0]⟩ ∧
    w.ownsRow W.heap.size 23 1 (.slice a (l.length / n.toNat) c) (l.length / n.toNat) (strs (cuts n.toNat l (l.length / n.toNat))))

end Go.Proofs.YtabplbmbnakalaaGreatDoor
