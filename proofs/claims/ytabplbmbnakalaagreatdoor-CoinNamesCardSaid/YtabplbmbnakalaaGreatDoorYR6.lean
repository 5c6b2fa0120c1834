/-
  Walk of the reference's sum of two texts.
  Conditions: texts take fewer than 2^40 bytes.
-/
import Derived.Test.YtabplbmbnakalaaGreatDoorYSz
import Derived.Test.YtabplbmbnakalaaGreatDoorYR5
set_option linter.unusedSimpArgs false
set_option linter.unusedVariables false
set_option maxHeartbeats 1000000
namespace Go.Proofs.YtabplbmbnakalaaGreatDoor
open Go Go.Proofs Go.RowKit Go.Lib

theorem QErr.ok {s : List UInt8} (h : QErr s 0) : QIs s ∧ (qn s).length ≤ 4000 ∧ (qd s).length ≤ 4000 ∧ Nat.gcd (dval (qn s)) (dval (qd s)) = 1 := by
  rcases h with ⟨_, h⟩ | ⟨_, _, h⟩ | ⟨_, _, _, _, h⟩ | ⟨h1, h2, h3, h4, _⟩
  · cases h
  · cases h
  · cases h
  · exact ⟨h1, h2, h3, h4⟩
theorem qd_form {s : List UInt8} (h : QIs s) : Form (qd s) := by
  by_cases hs : qslash s = true
  · exact (h.2.2 hs).2.1
  · unfold qd
    rw [if_neg hs]; exact ⟨by simp, .inr (by decide), fun c hc => by rw [List.mem_singleton.1 hc]; exact ⟨by decide, by decide⟩⟩
theorem QErr.small {s : List UInt8} (h : QErr s 0) : Small 4000 (qval s) := by
  obtain ⟨h1, h2, h3, h4⟩ := h.ok
  exact mkq_small (qd_pos h1) (form_len ⟨h1.1, h2⟩).1 (form_len ⟨qd_form h1, h3⟩).1
theorem Small.fits {K : Nat} {r : Rat} (h : Small K r) (hK : K ≤ 68719476736) : Fits r := ⟨Nat.le_trans h.lim.1 hK, Nat.le_trans h.lim.2 hK⟩

/-- What a function of two numbers answers. -/
def BinR (f : Rat → Rat → Rat) (s t : List UInt8) (v : Value) : Prop :=
  (∃ e, e ≠ 0 ∧ Two s t e ∧ v = .tuple ⟨[.string ⟨⟨[]⟩⟩, .int .i64 e]⟩) ∨ (Two s t 0 ∧ QRes (f (qval s) (qval t)) v)
theorem BinR.uniq {f : Rat → Rat → Rat} {s t : List UInt8} {v v' : Value} (h : BinR f s t v) (h' : BinR f s t v') : v = v' := by
  rcases h with ⟨e, h1, h2, rfl⟩ | ⟨h1, h2⟩ <;> rcases h' with ⟨e', g1, g2, rfl⟩ | ⟨g1, g2⟩
  · rw [h2.uniq g2]
  · exact absurd (h2.uniq g1) h1
  · exact absurd (g2.uniq h1) g1
  · exact h2.uniq g2
theorem BinR.text {f : Rat → Rat → Rat} {p q : Rat} {v : Value} (hp : Small 4000 p) (hq : Small 4000 q) (h : BinR f (qtext p) (qtext q) v) : QRes (f p q) v := by
  have h1 := q_text_ok p hp
  have h2 := q_text_ok q hq
  rcases h with ⟨e, g1, g2, rfl⟩ | ⟨_, g⟩
  · exact absurd (g2.uniq (.inr ⟨h1.1, h2.1⟩)) g1
  · rwa [h1.2, h2.2] at g


end Go.Proofs.YtabplbmbnakalaaGreatDoor
