/-
  Walks of package bits: Join, FromBytes.
  Conditions: texts take fewer than 2^40 bytes.
-/
import Derived.Test.YtfdekppnilffeaaGreatDoorYBl
import Derived.Test.YtfdekppnilffeaaGreatDoorYWx
set_option linter.unusedSimpArgs false
set_option linter.unusedVariables false
set_option maxHeartbeats 1000000
namespace Go.Proofs.YtfdekppnilffeaaGreatDoor
open Go Go.Proofs Go.RowKit Go.Lib

theorem Sl.stay {w w' : World} {a : Option Addr} {vs : List Value} (h : Sl w a vs) (hb : Below w.heap.size w w') : Sl w' a vs := by
  by_cases he : vs = []
  · subst he; exact Sl.nil _ _
  · exact h.below hb (h.lt he)
/-- What Join answers. -/
def JoinR (ls : List (List UInt8)) (v : Value) : Prop :=
  ((∃ s ∈ ls, ¬ Bin s) ∧ v = .tuple ⟨[.string ⟨⟨[]⟩⟩, .int .i64 3]⟩) ∨ ((∀ s ∈ ls, Bin s) ∧ v = .tuple ⟨[.string ⟨⟨ls.flatten⟩⟩, .int .i64 0]⟩)
theorem JoinR.uniq {ls : List (List UInt8)} {v v' : Value} (h : JoinR ls v) (h' : JoinR ls v') : v = v' := by
  rcases h with ⟨⟨s, h1, h2⟩, rfl⟩ | ⟨h1, rfl⟩ <;> rcases h' with ⟨⟨t, h3, h4⟩, rfl⟩ | ⟨h3, rfl⟩
  · rfl
  · exact absurd (h3 s h1) h2
  · exact absurd (h1 t h3) h4
  · rfl

/-- The i-th bit of bytes. -/
def fbit (bs : List UInt8) (i : Nat) : Bool := decide ((bs.getD (i / 8) 0).toNat / 2 ^ (7 - i % 8) % 2 = 1)
def fbits (bs : List UInt8) (n : Nat) : List UInt8 := (List.range n).map fun i => bitc (fbit bs i)
/-- What FromBytes answers. -/
def FbR (bs : List UInt8) (n : Int) (v : Value) : Prop :=
  ((n < 0 ∨ 256 < n) ∧ v = .tuple ⟨[.string ⟨⟨[]⟩⟩, .int .i64 2]⟩) ∨
  (0 ≤ n ∧ n ≤ 256 ∧ 8 * (bs.length : Int) < n ∧ v = .tuple ⟨[.string ⟨⟨[]⟩⟩, .int .i64 16]⟩) ∨
  (0 ≤ n ∧ n ≤ 256 ∧ n ≤ 8 * (bs.length : Int) ∧ v = .tuple ⟨[.string ⟨⟨fbits bs n.toNat⟩⟩, .int .i64 0]⟩)
theorem FbR.uniq {bs : List UInt8} {n : Int} {v v' : Value} (h : FbR bs n v) (h' : FbR bs n v') : v = v' := by
  rcases h with ⟨h1, rfl⟩ | ⟨h1, h2, h3, rfl⟩ | ⟨h1, h2, h3, rfl⟩ <;> rcases h' with ⟨g1, rfl⟩ | ⟨g1, g2, g3, rfl⟩ | ⟨g1, g2, g3, rfl⟩ <;> first | rfl | (exfalso; omega)

section
variable {P : Program} {ro : Option Nat} {n : Nat} {ds : List Deferred} {Q : PT} {l l' : Fr} {w w' : World} {arr : Array Oper} {r : List Oper} {k : List It}
end
end Go.Proofs.YtfdekppnilffeaaGreatDoor
