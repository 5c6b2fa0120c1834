/-
  Walks of package nat: Check, first, result.
  Conditions: texts take fewer than 2^40 bytes; numbers fewer than 2^36 limbs; the library's table of powers of ten is laid.

  Walk of package nat: pair, which reads two texts and computes with their numbers.
  Conditions: texts take fewer than 2^40 bytes.

  Walks of package nat: Add, Mul, Gcd, Sub.
  Conditions: texts take fewer than 2^40 bytes; the library's table of powers of ten is laid.

  Walks of package nat: Cmp, Pow, Sub.
  Conditions: texts take fewer than 2^40 bytes; the library's table of powers of ten is laid.

  Walks of package nat: Sub, DivMod.
  Conditions: texts take fewer than 2^40 bytes; the library's table of powers of ten is laid.

  Walk of package nat: DivMod.
  Conditions: texts take fewer than 2^40 bytes; the library's table of powers of ten is laid.
-/
import Derived.Test.YtfdekppnilffeaaGreatDoorYPar
section
set_option linter.unusedSimpArgs false
set_option linter.unusedVariables false
set_option maxHeartbeats 1000000
namespace Go.Proofs.YtfdekppnilffeaaGreatDoor
open Go Go.Proofs Go.RowKit Go.Lib

/-- What Check says of a text. -/
def Chk (l : List UInt8) (e : Int) : Prop := (Form l ∧ l.length ≤ 4000 ∧ e = 0) ∨ (Form l ∧ 4000 < l.length ∧ e = 5) ∨ (¬ Form l ∧ e = 3)

/-- The result of a computation: the digits of a number, if they are not too many. -/
def Res (n : Nat) (v : Value) : Prop := (nDigits n ≤ 4000 ∧ v = .tuple ⟨[.string ⟨⟨decDigits n⟩⟩, .int .i64 0]⟩) ∨ (4000 < nDigits n ∧ v = .tuple ⟨[.string ⟨⟨[]⟩⟩, .int .i64 5]⟩)

end Go.Proofs.YtfdekppnilffeaaGreatDoor
end
section
set_option linter.unusedSimpArgs false
set_option linter.unusedVariables false
set_option maxHeartbeats 1000000
namespace Go.Proofs.YtfdekppnilffeaaGreatDoor
open Go Go.Proofs Go.RowKit Go.Lib

section
variable {P : Program} (U : Tys P) {ro : Option Nat} {n : Nat} {ds : List Deferred} {Q : PT} {l l' : Fr} {w w' : World} {arr : Array Oper} {r : List Oper} {k : List It}
end

/-- The error of two texts. -/
def Chk2 (x y : List UInt8) (e : Int) : Prop := ∃ e1 e2, Chk x e1 ∧ Chk y e2 ∧ e = if e1 ≠ 0 then e1 else e2

end Go.Proofs.YtfdekppnilffeaaGreatDoor
end
section
set_option linter.unusedSimpArgs false
set_option linter.unusedVariables false
set_option maxHeartbeats 1000000
namespace Go.Proofs.YtfdekppnilffeaaGreatDoor
open Go Go.Proofs Go.RowKit Go.Lib

theorem form_len {x : List UInt8} (h : Form x ∧ x.length ≤ 4000) : nDigits (dval x) ≤ 4000 ∧ (lim (dval x)).length ≤ 4000 := by
  have h1 := dec_of h.1.2.2 h.1.1 h.1.2.1
  have h2 : nDigits (dval x) ≤ 4000 := by rw [← decDigits_length, ← h1]; exact h.2
  exact ⟨h2, Nat.le_trans (lim_le_nD _) h2⟩
theorem Res.tup {n : Nat} {v : Value} (h : Res n v) : ∃ v1 v2, v = .tuple ⟨[v1, v2]⟩ := by
  rcases h with ⟨_, h⟩ | ⟨_, h⟩ <;> exact ⟨_, _, h⟩

/-- What a function of two texts returns that computes a number. -/
def Out (x y : List UInt8) (n : Nat) (v : Value) : Prop := (∃ e, e ≠ 0 ∧ Chk2 x y e ∧ v = .tuple ⟨[.string ⟨⟨[]⟩⟩, .int .i64 e]⟩) ∨ (Chk2 x y 0 ∧ Res n v)
theorem Out.tup {x y : List UInt8} {n : Nat} {v : Value} (h : Out x y n v) : ∃ v1 v2, v = .tuple ⟨[v1, v2]⟩ := by
  rcases h with ⟨_, _, _, h⟩ | ⟨_, h⟩
  · exact ⟨_, _, h⟩
  · exact h.tup

end Go.Proofs.YtfdekppnilffeaaGreatDoor
end
section
set_option linter.unusedSimpArgs false
set_option linter.unusedVariables false
set_option maxHeartbeats 1000000
namespace Go.Proofs.YtfdekppnilffeaaGreatDoor
open Go Go.Proofs Go.RowKit Go.Lib

end Go.Proofs.YtfdekppnilffeaaGreatDoor
end
section
set_option linter.unusedSimpArgs false
set_option linter.unusedVariables false
set_option maxHeartbeats 1000000
namespace Go.Proofs.YtfdekppnilffeaaGreatDoor
open Go Go.Proofs Go.RowKit Go.Lib

/-- What the difference of two numbers yields. -/
def ResS (m n : Nat) (v : Value) : Prop := (m < n ∧ v = .tuple ⟨[.string ⟨⟨[]⟩⟩, .int .i64 2]⟩) ∨ (n ≤ m ∧ Res (m - n) v)
def OutS (x y : List UInt8) (v : Value) : Prop := (∃ e, e ≠ 0 ∧ Chk2 x y e ∧ v = .tuple ⟨[.string ⟨⟨[]⟩⟩, .int .i64 e]⟩) ∨ (Chk2 x y 0 ∧ ResS (dval x) (dval y) v)
theorem ResS.tup {m n : Nat} {v : Value} (h : ResS m n v) : ∃ v1 v2, v = .tuple ⟨[v1, v2]⟩ := by
  rcases h with ⟨_, h⟩ | ⟨_, h⟩
  · exact ⟨_, _, h⟩
  · exact h.tup
theorem OutS.tup {x y : List UInt8} {v : Value} (h : OutS x y v) : ∃ v1 v2, v = .tuple ⟨[v1, v2]⟩ := by
  rcases h with ⟨_, _, _, h⟩ | ⟨_, h⟩
  · exact ⟨_, _, h⟩
  · exact h.tup

end Go.Proofs.YtfdekppnilffeaaGreatDoor
end
section
set_option linter.unusedSimpArgs false
set_option linter.unusedVariables false
set_option maxHeartbeats 1000000
namespace Go.Proofs.YtfdekppnilffeaaGreatDoor
open Go Go.Proofs Go.RowKit Go.Lib

end Go.Proofs.YtfdekppnilffeaaGreatDoor
end
