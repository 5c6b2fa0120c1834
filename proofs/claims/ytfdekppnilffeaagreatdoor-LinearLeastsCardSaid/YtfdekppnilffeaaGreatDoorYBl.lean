/-
  Walks of package bits: Cell, All; of the law package's helpers: Same, lives.
  Conditions: texts take fewer than 2^40 bytes; the library's table of powers of ten is laid.
-/
import Derived.Test.YtfdekppnilffeaaGreatDoorYRng
import Derived.Test.YtfdekppnilffeaaGreatDoorYQ
import Derived.Test.YtfdekppnilffeaaGreatDoorYStr
import Derived.Test.YtfdekppnilffeaaGreatDoorYRG
set_option linter.unusedSimpArgs false
set_option linter.unusedVariables false
set_option maxHeartbeats 1000000
namespace Go.Proofs.YtfdekppnilffeaaGreatDoor
open Go Go.Proofs Go.RowKit Go.Lib

/-- What Cell answers. -/
def CellR (l : List UInt8) (v : Value) : Prop :=
  (∃ e, e ≠ 0 ∧ SChk l e ∧ v = .tuple ⟨[.string ⟨⟨[]⟩⟩, .string ⟨⟨[]⟩⟩, .int .i64 e]⟩) ∨
  (SChk l 0 ∧ v = .tuple ⟨[.string ⟨⟨qtext (mkq false (bval l) (2 ^ l.length))⟩⟩, .string ⟨⟨qtext (mkq false 1 (2 ^ l.length))⟩⟩, .int .i64 0]⟩)
theorem CellR.uniq {l : List UInt8} {v v' : Value} (h : CellR l v) (h' : CellR l v') : v = v' := by
  rcases h with ⟨e, h1, h2, rfl⟩ | ⟨h2, rfl⟩ <;> rcases h' with ⟨e', h3, h4, rfl⟩ | ⟨h4, rfl⟩
  · rw [h2.uniq h4]
  · exact absurd (h2.uniq h4) h1
  · exact absurd (h4.uniq h2) h3
  · rfl
section
variable {P : Program} {ro : Option Nat} {n : Nat} {ds : List Deferred} {Q : PT} {l l' : Fr} {w w' : World} {arr : Array Oper} {r : List Oper} {k : List It}
end

/-- Strings as cells. -/
def strs (ls : List (List UInt8)) : List Value := ls.map fun s => .string ⟨⟨s⟩⟩
theorem getS {xs : List (List UInt8)} {j : Nat} (h : j < xs.length) : (strs xs)[j]? = some (.string ⟨⟨xs.getD j []⟩⟩) := by simp [strs, h, List.getD]
theorem own_bw {w w' : World} {base e s : Nat} {a : Option Addr} {m c : Nat} {cs : List Value} (h : w.ownsRow base e s (.slice a m c) m cs) (hb : Below w.heap.size w w') : w'.ownsRow base e s (.slice a m c) m cs := by
  refine ⟨h.1, ?_⟩
  rcases h.2 with h | ⟨g, cap, cur, e1, e2, e3, e4⟩
  · exact .inl h
  · exact .inr ⟨g, cap, cur, e1, e2, by rw [hb.block g (Array.getElem?_eq_some_iff.1 e3).1]; exact e3, e4⟩
end Go.Proofs.YtfdekppnilffeaaGreatDoor
