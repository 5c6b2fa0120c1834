/-
  Walk of the law package's lives: the chapter's examples come out as it says.
  Conditions: the library's table of powers of ten is laid.
-/
import Derived.Test.YtnohojjjfconfaaGreatDoorYLaw
set_option linter.unusedSimpArgs false
set_option linter.unusedVariables false
set_option maxHeartbeats 1000000
set_option maxRecDepth 10000
namespace Go.Proofs.YtnohojjjfconfaaGreatDoor
open Go Go.Proofs Go.RowKit Go.Lib

def NumLit (l : List UInt8) : Bool := (l.all fun c => decide (48 ≤ c.toNat) && decide (c.toNat ≤ 57)) && (match l with | [] => false | c :: r => r.isEmpty || c != 48)
theorem lit_num {l : List UInt8} (h : NumLit l = true) : Num l.length l (dval l) := by
  unfold NumLit at h
  rw [Bool.and_eq_true] at h
  cases l with
  | nil => exact absurd h.2 (by simp)
  | cons c r =>
    refine Num.of h.1 (by simp) ?_
    have h2 := h.2
    by_cases hc : c = 48
    · subst hc
      left
      simp at h2
      rw [h2]
    · right
      intro e
      exact hc (Option.some.inj e)
theorem lit_eq {l : List UInt8} (h : NumLit l = true) {n : Nat} (hn : n = dval l) : decDigits n = l := by rw [hn]; exact (lit_num h).1.symm

theorem lives_calls (w : World) (ht : TabOk w) : Calls Tryz.prog 7 #[] w (Ret fun v w' => v = .bool true ∧ Below w.heap.size w w') := by
  refine enter Tryz.func7 rfl Tryz.ntmps7 (Nat.le_of_ble_eq_true rfl) ?_
  refine dr U 600 rfl trivial ?_
  refine call (f := 24) rfl rfl cb24 (nmul_calls (x := [49, 48, 48, 48, 48, 48, 48, 48, 48, 55]) (y := [49, 48, 48, 48, 48, 48, 48, 48, 48, 57]) (lit_num (by decide)) (lit_num (by decide)) (by decide) w ht) ?_
  rintro v w1 ⟨rfl, hB1⟩
  refine ⟨_, rfl, ?_⟩
  have ht1 := ht.below hB1
  rw [lit_eq (l := [49, 48, 48, 48, 48, 48, 48, 48, 49, 54, 48, 48, 48, 48, 48, 48, 48, 54, 51]) (by decide) (by decide)]
  refine dr U 600 rfl trivial ?_
  refine call (f := 19) rfl rfl cb19 (ndiv_calls (x := [49, 48, 48, 48, 48, 48, 48, 48, 49, 54, 48, 48, 48, 48, 48, 48, 48, 55, 48]) (y := [49, 48, 48, 48, 48, 48, 48, 48, 48, 57]) (lit_num (by decide)) (lit_num (by decide)) (by decide) (by decide) (by decide) w1 ht1) ?_
  rintro v w2 ⟨rfl, hB2⟩
  refine ⟨_, rfl, ?_⟩
  have ht2 := ht1.below hB2
  rw [lit_eq (l := [49, 48, 48, 48, 48, 48, 48, 48, 48, 55]) (by decide) (by decide), lit_eq (l := [55]) (by decide) (by decide)]
  refine dr U 600 rfl trivial ?_
  refine call (f := 9) rfl rfl cb9 (npow_calls (x := [50]) (k := 100) (lit_num (by decide)) (by decide) (by decide) (by rw [← decDigits_length, lit_eq (l := [49, 50, 54, 55, 54, 53, 48, 54, 48, 48, 50, 50, 56, 50, 50, 57, 52, 48, 49, 52, 57, 54, 55, 48, 51, 50, 48, 53, 51, 55, 54]) (by decide) (by decide)]; decide) w2 ht2) ?_
  rintro v w3 ⟨rfl, hB3⟩
  refine ⟨_, rfl, ?_⟩
  rw [lit_eq (l := [49, 50, 54, 55, 54, 53, 48, 54, 48, 48, 50, 50, 56, 50, 50, 57, 52, 48, 49, 52, 57, 54, 55, 48, 51, 50, 48, 53, 51, 55, 54]) (by decide) (by decide)]
  have hBW := bl_tr (bl_tr hB1 hB2 hB1.size) hB3 (bl_tr hB1 hB2 hB1.size).size
  refine dr U 600 rfl trivial ?_
  refine cT rfl rfl rfl rfl ?_
  refine dr U 600 rfl trivial ?_
  refine cT rfl rfl rfl rfl ?_
  refine dr U 600 rfl trivial ?_
  refine cT rfl rfl rfl rfl ?_
  refine dr U 600 rfl trivial ?_
  refine cT rfl rfl rfl rfl ?_
  refine dr U 600 rfl trivial ?_
  refine cT rfl rfl rfl rfl ?_
  refine dr U 600 rfl trivial ?_
  refine cT rfl rfl rfl rfl ?_
  refine dr U 600 rfl trivial ?_
  refine cT rfl rfl rfl rfl ?_
  refine dr U 600 rfl trivial ?_
  exact ret Tryz.results7 rfl ⟨_, rfl, rfl, hBW⟩
end Go.Proofs.YtnohojjjfconfaaGreatDoor
