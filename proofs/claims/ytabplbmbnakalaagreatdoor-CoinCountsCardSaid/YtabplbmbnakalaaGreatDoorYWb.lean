/-
  Walks of strings.Builder: String, wherever the builder lies.
  Conditions: the builder is one that the call made.

  Walks of strings.Builder: WriteByte; and of the bits' writer, a builder in a struct of its own.
  Conditions: the builder is one that the call made.
-/
import Derived.Test.YtabplbmbnakalaaGreatDoorYBld
import Derived.Lib.UnsafeStr
section
set_option linter.unusedSimpArgs false
set_option linter.unusedVariables false
namespace Go.Proofs.YtabplbmbnakalaaGreatDoor
open Go Go.Proofs Go.RowKit Go.Lib


theorem stringT (bt base b : Nat) (bs : List UInt8) (w : World) (h : BldT bt w base b bs) (hne : bs ≠ []) :
    Calls Tryz.prog 136 #[.pointer (some ⟨b, 0, none⟩)] w (Ret fun v w' => v = .string ⟨⟨bs⟩⟩ ∧ Below base w w') := by
  obtain ⟨hb, p, a, m, c, hp, hk, ho, hnb⟩ := h
  have hm : m = bs.length := by have := own_len ho; rw [byteCells_length] at this; exact this.symm
  subst hm
  have hpos := List.length_pos_iff.2 hne
  obtain ⟨g, cur, rfl, hbg, hgk, htk, hcl, hcm⟩ := own_bk ho hpos
  have hgb : g ≠ b := hnb g rfl
  have hC := hk.cell (off := 1) rfl
  have hmax : c ≤ maxLen := by
    rcases ho.2 with ⟨h1, h2⟩ | ⟨g', cap, cur', h1, h2, h3, h4, h5, h6, h7⟩
    · omega
    · simp at h1; obtain ⟨_, rfl⟩ := h1; exact h5
  refine enter Tryz.func136 rfl Tryz.ntmps136 (Nat.le_of_ble_eq_true rfl) ?_
  refine dr U 600 rfl trivial ?_
  refine dwn 11 (fun w' => w'.cell? ⟨b, 1, none⟩ = some (.slice (some ⟨g, 0, none⟩) bs.length c)) hmo ?_
  intro w1 hh hg1
  have hC1 := cell_heap hh hC
  refine dq U [0,1,2,3,5,6,7,8,9] [(3, .slice (some ⟨g, 0, none⟩) bs.length c), (8, .slice (some ⟨g, 0, none⟩) bs.length c)] (by kernel_rfl) rfl rfl hC1 (by simp only [AllP, InR, List.nil_append, List.cons_append]; (repeat' apply And.intro); all_goals first | exact True.intro | omega | (simp only [List.length_cons, List.length_nil]; omega) | (intro w_ hw_; refine ldC U rfl hw_ ?_; first | assumption | (simp [add_plain]; assumption)) | (intro w_ hw_; refine run_load_cell U rfl ?_; first | exact hw_ | exact hw_.1 | exact hw_.2 | exact hw_.2.1 | exact hw_.2.2 | exact hw_.2.2.1 | exact hw_.2.2.2 | (simp [add_plain]; first | exact hw_.1 | exact hw_.2.1 | exact hw_.2.2))) ?_
  refine d1 rfl rfl (fun _ => hC1) ?_
  refine opv (v := .pointer (some ⟨g, 0, none⟩)) (by intro c h; cases h) rfl rfl (fun act hf => ?_) ?_
  · have h2 := hf.ev (x := .tmp 6) (v := .slice (some ⟨g, 0, none⟩) bs.length c) rfl
    simp only [execOp, resolve, invoke, builtin]
    simp [h2, run_unsafeSliceData_row _ _ _ (⟨g, 0, none⟩ : Addr) bs.length c (by omega)]
  refine d2 ?_
  refine d1 rfl rfl (fun _ => hC1) ?_
  have hgk1 := heap_bk hh hgk
  have hsl : ∀ j x, bs[j]? = some x → w1.cell? ((⟨g, 0, none⟩ : Addr).add j) = some (.int .u8 x.toNat) := fun j x hx => by
    rw [add_plain, Nat.zero_add]
    refine hgk1.cell ?_
    have h1 : (byteCells bs)[j]? = some (.int .u8 x.toNat) := by simp [byteCells, hx]
    rw [← htk, List.getElem?_take] at h1
    split at h1
    · exact h1
    · cases h1
  have hrun := run_unsafeString_row (P := Tryz.prog) w1 178 3 9 5 Tryz.underlying178 (by kernel_rfl) g cur.length (by unfold Bk at hgk1; simp [World.shape?, hgk1]) bs hne (by omega) (by unfold maxLen at hmax; omega) hsl
  refine op1 (w' := w1.freeze ⟨g, 0, none⟩ bs.length) (v := .string ⟨⟨bs⟩⟩) (by intro c h; cases h) rfl rfl (fun act hf => ?_) ?_
  · have h2 := hf.ev (x := .tmp 7) (v := .pointer (some ⟨g, 0, none⟩)) rfl
    have h3 := hf.ev (x := .tmp 12) (v := .int .i64 (bs.length : Nat)) rfl
    simp only [execOp, resolve, invoke, builtin]
    simp [h2, h3, hrun]
  have hB1 : Below base w w1 := (Below.refl _ _).mono (Nat.le_refl base) |>.trans ⟨hg1.os, hg1.tape, hg1.output, hg1.size, fun k _ => by rw [hh]⟩
  have hB2 : Below base w (w1.freeze ⟨g, 0, none⟩ bs.length) := below_freeze hB1 (p := ⟨g, 0, none⟩) hbg _
  have hC2 : (w1.freeze ⟨g, 0, none⟩ bs.length).cell? ⟨b, 1, none⟩ = some (.slice (some ⟨g, 0, none⟩) bs.length c) := by
    rw [← hC1]
    refine World.cell?_of_block ?_
    unfold World.freeze
    split
    · rfl
    · simp only [Array.getElem?_modify]
      rw [if_neg hgb]
  refine d2 ?_
  refine d1 rfl rfl (fun _ => hC2) ?_
  refine dr U 600 rfl trivial ?_
  refine d3 ?_; refine dend rfl (fun h => by cases h) ?_
  refine dr U 600 rfl trivial ?_
  exact ret Tryz.results136 rfl ⟨_, rfl, rfl, hB2⟩

theorem string0T (bt base b : Nat) (p : Value) (w : World) (hk : Bk w b bt [p, .slice none 0 0]) :
    Calls Tryz.prog 136 #[.pointer (some ⟨b, 0, none⟩)] w (Ret fun v w' => v = .string ⟨⟨[]⟩⟩ ∧ Below base w w') := by
  have hC := hk.cell (off := 1) rfl
  refine enter Tryz.func136 rfl Tryz.ntmps136 (Nat.le_of_ble_eq_true rfl) ?_
  refine dr U 600 rfl trivial ?_
  refine dwn 11 (fun w' => w'.cell? ⟨b, 1, none⟩ = some (.slice none 0 0)) hmo ?_
  intro w1 hh hg1
  have hC1 := cell_heap hh hC
  refine dq U [0,1,2,3,5,6,7,8,9] [(3, .slice none 0 0), (8, .slice none 0 0)] (by kernel_rfl) rfl rfl hC1 (by simp only [AllP, InR, List.nil_append, List.cons_append]; (repeat' apply And.intro); all_goals first | exact True.intro | omega | (simp only [List.length_cons, List.length_nil]; omega) | (intro w_ hw_; refine ldC U rfl hw_ ?_; first | assumption | (simp [add_plain]; assumption)) | (intro w_ hw_; refine run_load_cell U rfl ?_; first | exact hw_ | exact hw_.1 | exact hw_.2 | exact hw_.2.1 | exact hw_.2.2 | exact hw_.2.2.1 | exact hw_.2.2.2 | (simp [add_plain]; first | exact hw_.1 | exact hw_.2.1 | exact hw_.2.2))) ?_
  refine d1 rfl rfl (fun _ => hC1) ?_
  refine opv (v := .pointer none) (by intro c h; cases h) rfl rfl (fun act hf => ?_) ?_
  · have h2 := hf.ev (x := .tmp 6) (v := .slice none 0 0) rfl
    simp only [execOp, resolve, invoke, builtin]
    simp [h2, run_unsafeSliceData_nil]
  refine d2 ?_
  refine d1 rfl rfl (fun _ => hC1) ?_
  have hrun := run_unsafeString_none (P := Tryz.prog) w1 178 3 9 none
  refine op1 (w' := w1) (v := .string ⟨⟨[]⟩⟩) (by intro c h; cases h) rfl rfl (fun act hf => ?_) ?_
  · have h2 := hf.ev (x := .tmp 7) (v := .pointer none) rfl
    have h3 := hf.ev (x := .tmp 12) (v := .int .i64 0) rfl
    simp only [execOp, resolve, invoke, builtin]
    simp [h2, h3, hrun]
    rfl
  have hB1 : Below base w w1 := (Below.refl _ _).mono (Nat.le_refl base) |>.trans ⟨hg1.os, hg1.tape, hg1.output, hg1.size, fun k _ => by rw [hh]⟩
  refine d2 ?_
  refine d1 rfl rfl (fun _ => hC1) ?_
  refine dr U 600 rfl trivial ?_
  refine d3 ?_; refine dend rfl (fun h => by cases h) ?_
  refine dr U 600 rfl trivial ?_
  exact ret Tryz.results136 rfl ⟨_, rfl, rfl, hB1⟩
end Go.Proofs.YtabplbmbnakalaaGreatDoor
end
section
set_option linter.unusedSimpArgs false
set_option linter.unusedVariables false
namespace Go.Proofs.YtabplbmbnakalaaGreatDoor
open Go Go.Proofs Go.RowKit Go.Lib

/-- The byte of a bit. -/
def bitc (v : Bool) : UInt8 := if v = true then 49 else 48
end Go.Proofs.YtabplbmbnakalaaGreatDoor
end
