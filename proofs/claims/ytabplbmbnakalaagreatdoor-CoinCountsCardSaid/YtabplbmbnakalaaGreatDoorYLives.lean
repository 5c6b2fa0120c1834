/-
  Walk of the law package's lives: the chapter's examples come out as it says.
  Conditions: the library's table of powers of ten is laid.
-/
import Derived.Test.YtabplbmbnakalaaGreatDoorYLaw
set_option linter.unusedSimpArgs false
set_option linter.unusedVariables false
set_option maxHeartbeats 1000000
set_option maxRecDepth 10000
namespace Go.Proofs.YtabplbmbnakalaaGreatDoor
open Go Go.Proofs Go.RowKit Go.Lib

def NumLit (l : List UInt8) : Bool := (l.all fun c => decide (48 ≤ c.toNat) && decide (c.toNat ≤ 57)) && (match l with | [] => false | c :: r => r.isEmpty || c != 48)
theorem lit_num {l : List UInt8} (h : NumLit l = true) : Num l.length l (dval l) := by
  unfold NumLit at h
  rw [Bool.and_eq_true] at h
  cases l with
  | nil => exact absurd h.2 (by simp)
  | cons c r =>
    refine Num.of h.1 (by simp) ?_
    have h2 := h.2
    by_cases hc : c = 48
    · subst hc
      left
      simp at h2
      rw [h2]
    · right
      intro e
      exact hc (Option.some.inj e)
theorem lit_eq {l : List UInt8} (h : NumLit l = true) {n : Nat} (hn : n = dval l) : decDigits n = l := by rw [hn]; exact (lit_num h).1.symm

end Go.Proofs.YtabplbmbnakalaaGreatDoor
