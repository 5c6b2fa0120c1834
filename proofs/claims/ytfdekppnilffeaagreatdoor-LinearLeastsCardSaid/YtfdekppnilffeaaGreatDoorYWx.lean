/-
  Walks of strings.Builder: WriteString and String, wherever the builder lies and whatever is written, empty texts too.
  Conditions: the builder is one that the call made.
-/
import Derived.Test.YtfdekppnilffeaaGreatDoorYWb
set_option linter.unusedSimpArgs false
set_option linter.unusedVariables false
namespace Go.Proofs.YtfdekppnilffeaaGreatDoor
open Go Go.Proofs Go.RowKit Go.Lib

/-- A builder; an empty one has no row yet. -/
def BldX (bt : Nat) (w : World) (base b : Nat) (bs : List UInt8) : Prop :=
  BldT bt w base b bs ∧ (bs = [] → ∃ p, (p = .pointer none ∨ p = .pointer (some ⟨b, 0, none⟩)) ∧ Bk w b bt [p, .slice none 0 0])
theorem BldX.new {bt : Nat} {w : World} {base b : Nat} (hb : base ≤ b) (hk : Bk w b bt [.pointer none, .slice none 0 0]) : BldX bt w base b [] :=
  ⟨⟨hb, _, _, _, _, .inl rfl, hk, ⟨rfl, .inl ⟨rfl, rfl⟩⟩, fun g e => by cases e⟩, fun _ => ⟨_, .inl rfl, hk⟩⟩
theorem BldX.of {bt : Nat} {w : World} {base b : Nat} {bs : List UInt8} (h : BldT bt w base b bs) (hne : bs ≠ []) : BldX bt w base b bs := ⟨h, fun e => absurd e hne⟩
theorem BldX.below {bt : Nat} {w w' : World} {base b : Nat} {bs : List UInt8} (h : BldX bt w base b bs) (hb : Below w.heap.size w w') : BldX bt w' base b bs := by
  obtain ⟨⟨h1, p, a, m, c, h2, h3, h4, h5⟩, hz⟩ := h
  refine ⟨⟨h1, p, a, m, c, h2, h3.below hb h3.lt, ?_, h5⟩, fun e => ?_⟩
  · refine ⟨h4.1, ?_⟩
    rcases h4.2 with h | ⟨g, cap, cur, e1, e2, e3, e4⟩
    · exact .inl h
    · exact .inr ⟨g, cap, cur, e1, e2, by rw [hb.block g (Array.getElem?_eq_some_iff.1 e3).1]; exact e3, e4⟩
  · obtain ⟨p, hp, hk⟩ := hz e
    exact ⟨p, hp, hk.below hb hk.lt⟩

end Go.Proofs.YtfdekppnilffeaaGreatDoor
