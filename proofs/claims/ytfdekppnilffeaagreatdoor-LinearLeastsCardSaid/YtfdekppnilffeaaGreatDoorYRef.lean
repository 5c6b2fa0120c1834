/-
  Walk of the reference's Check: it says of a text what package nat's Check says.
  Conditions: none but that a text is no longer than an int can tell.
-/
import Derived.Test.YtfdekppnilffeaaGreatDoorYNat
set_option linter.unusedSimpArgs false
set_option linter.unusedVariables false
set_option maxHeartbeats 1000000
namespace Go.Proofs.YtfdekppnilffeaaGreatDoor
open Go Go.Proofs Go.RowKit Go.Lib


theorem refCheck_calls (l : List UInt8) (hl : l.length ≤ 9223372036854775806) (w : World) :
    Calls Tryz.prog 126 #[.string ⟨⟨l⟩⟩] w (Ret fun v w' => (∃ e, v = .int .i64 e ∧ Chk l e) ∧ w = w') := by
  refine enter Tryz.func126 rfl Tryz.ntmps126 (Nat.le_of_ble_eq_true rfl) ?_
  refine dr U 600 rfl trivial ?_
  refine cS rfl rfl rfl rfl (fun hq => ?_) (fun hq => ?_)
  · refine dr U 600 rfl trivial ?_
    exact ret Tryz.results126 rfl ⟨_, rfl, ⟨3, rfl, .inr (.inr ⟨fun h => h.1 hq, rfl⟩)⟩, rfl⟩
  · have hne : l ≠ [] := hq
    have hpos := List.length_pos_iff.2 hne
    refine dr U 600 rfl (by first | exact True.intro | (simp only [AllP, InR, List.nil_append, List.cons_append, and_true]; omega)) ?_
    refine cS rfl rfl rfl rfl (fun hq => ?_) (fun hq => ?_)
    · have h0 := hq
      refine dr U 600 rfl (by first | exact True.intro | (simp only [AllP, InR, List.nil_append, List.cons_append, and_true]; omega)) ?_
      refine cS rfl rfl rfl rfl (fun hq => ?_) (fun hq => ?_)
      · refine dr U 600 rfl trivial ?_
        refine ret Tryz.results126 rfl ⟨_, rfl, ⟨3, rfl, .inr (.inr ⟨fun h => ?_, rfl⟩)⟩, rfl⟩
        rcases h.2.1 with h1 | h1
        · rw [h1] at hq; simp at hq
        · cases l with
          | nil => exact hne rfl
          | cons c r =>
            have h8 : c.toNat = 48 := by simp at h0; omega
            exact h1 (by show some c = some 48; rw [show c = 48 from UInt8.toNat_inj.1 h8])
      · have hhd : l = [48] ∨ l.head? ≠ some 48 := .inl (by
          cases l with
          | nil => exact absurd rfl hne
          | cons c r =>
            have h8 : c.toNat = 48 := by simp at h0; omega
            have h9 : r = [] := List.length_eq_zero_iff.1 (by simp at hq; omega)
            rw [h9, show c = 48 from UInt8.toNat_inj.1 h8])
        refine dr U 600 rfl trivial ?_
        refine loopR (fun l' w' m => ∃ i : Nat, l' = [(0, .string ⟨⟨l⟩⟩), (3, .int .i64 (i : Nat))] ∧ i ≤ l.length ∧ (∀ c ∈ l.take i, isD c) ∧ w = w' ∧ m = l.length - i) ⟨0, rfl, by omega, by simp, rfl, rfl⟩ ⟨rfl, rfl, trivial⟩ ?_
        rintro l' w1 m ⟨i, rfl, hi, hd, rfl, rfl⟩
        refine dr U 600 rfl trivial ?_
        refine cS rfl rfl rfl rfl (fun hq => ?_) (fun hq => ?_)
        · have hi' : i < l.length := by omega
          have hgd : l.getD i 0 = l[i] := by simp [List.getD, hi']
          have hmem : l[i] ∈ l := List.getElem_mem hi'
          have htk : l.take (i + 1) = l.take i ++ [l[i]] := by rw [List.take_succ_eq_append_getElem hi']
          refine dr U 600 rfl (by first | exact True.intro | (simp only [AllP, InR, List.nil_append, List.cons_append, and_true]; omega)) ?_
          simp only [Int.toNat_natCast, hgd]
          refine cS rfl rfl rfl rfl (fun hq => ?_) (fun hq => ?_)
          · refine dr U 600 rfl trivial ?_
            refine ret Tryz.results126 rfl ⟨_, rfl, ⟨3, rfl, .inr (.inr ⟨fun h => ?_, rfl⟩)⟩, rfl⟩
            have := h.2.2 _ hmem
            unfold isD at this; omega
          · refine dr U 600 rfl (by first | exact True.intro | (simp only [AllP, InR, List.nil_append, List.cons_append, and_true]; omega)) ?_
            simp only [Int.toNat_natCast, hgd]
            have hq1 := hq
            refine cS rfl rfl rfl rfl (fun hq => ?_) (fun hq => ?_)
            · refine dr U 600 rfl trivial ?_
              refine ret Tryz.results126 rfl ⟨_, rfl, ⟨3, rfl, .inr (.inr ⟨fun h => ?_, rfl⟩)⟩, rfl⟩
              have := h.2.2 _ hmem
              unfold isD at this; omega
            · refine dr U 600 rfl (by first | exact True.intro | (simp only [AllP, InR, List.nil_append, List.cons_append, and_true]; omega)) ?_
              refine rend _ _ ⟨i + 1, rfl, by omega, fun c hc => ?_, rfl, rfl⟩ (by omega) ⟨rfl, iv (by omega), trivial⟩
              rw [htk] at hc
              rcases List.mem_append.1 hc with hc | hc
              · exact hd c hc
              · rw [List.mem_singleton.1 hc]; unfold isD; omega
        · obtain rfl : i = l.length := by omega
          rw [List.take_length] at hd
          have hF : Form l := ⟨hne, hhd, hd⟩
          refine dr U 600 rfl trivial ?_
          refine cS rfl rfl rfl rfl (fun hq => ?_) (fun hq => ?_)
          · refine dr U 600 rfl trivial ?_
            exact ret Tryz.results126 rfl ⟨_, rfl, ⟨5, rfl, .inr (.inl ⟨hF, by omega, rfl⟩)⟩, rfl⟩
          · refine dr U 600 rfl trivial ?_
            exact ret Tryz.results126 rfl ⟨_, rfl, ⟨0, rfl, .inl ⟨hF, by omega, rfl⟩⟩, rfl⟩
    · have hhd : l = [48] ∨ l.head? ≠ some 48 := .inr (fun e => by
        cases l with
        | nil => cases e
        | cons c r =>
          have : c = 48 := Option.some.inj e
          subst this
          exact hq rfl)
      refine dr U 600 rfl trivial ?_
      refine loopR (fun l' w' m => ∃ i : Nat, l' = [(0, .string ⟨⟨l⟩⟩), (3, .int .i64 (i : Nat))] ∧ i ≤ l.length ∧ (∀ c ∈ l.take i, isD c) ∧ w = w' ∧ m = l.length - i) ⟨0, rfl, by omega, by simp, rfl, rfl⟩ ⟨rfl, rfl, trivial⟩ ?_
      rintro l' w1 m ⟨i, rfl, hi, hd, rfl, rfl⟩
      refine dr U 600 rfl trivial ?_
      refine cS rfl rfl rfl rfl (fun hq => ?_) (fun hq => ?_)
      · have hi' : i < l.length := by omega
        have hgd : l.getD i 0 = l[i] := by simp [List.getD, hi']
        have hmem : l[i] ∈ l := List.getElem_mem hi'
        have htk : l.take (i + 1) = l.take i ++ [l[i]] := by rw [List.take_succ_eq_append_getElem hi']
        refine dr U 600 rfl (by first | exact True.intro | (simp only [AllP, InR, List.nil_append, List.cons_append, and_true]; omega)) ?_
        simp only [Int.toNat_natCast, hgd]
        refine cS rfl rfl rfl rfl (fun hq => ?_) (fun hq => ?_)
        · refine dr U 600 rfl trivial ?_
          refine ret Tryz.results126 rfl ⟨_, rfl, ⟨3, rfl, .inr (.inr ⟨fun h => ?_, rfl⟩)⟩, rfl⟩
          have := h.2.2 _ hmem
          unfold isD at this; omega
        · refine dr U 600 rfl (by first | exact True.intro | (simp only [AllP, InR, List.nil_append, List.cons_append, and_true]; omega)) ?_
          simp only [Int.toNat_natCast, hgd]
          have hq1 := hq
          refine cS rfl rfl rfl rfl (fun hq => ?_) (fun hq => ?_)
          · refine dr U 600 rfl trivial ?_
            refine ret Tryz.results126 rfl ⟨_, rfl, ⟨3, rfl, .inr (.inr ⟨fun h => ?_, rfl⟩)⟩, rfl⟩
            have := h.2.2 _ hmem
            unfold isD at this; omega
          · refine dr U 600 rfl (by first | exact True.intro | (simp only [AllP, InR, List.nil_append, List.cons_append, and_true]; omega)) ?_
            refine rend _ _ ⟨i + 1, rfl, by omega, fun c hc => ?_, rfl, rfl⟩ (by omega) ⟨rfl, iv (by omega), trivial⟩
            rw [htk] at hc
            rcases List.mem_append.1 hc with hc | hc
            · exact hd c hc
            · rw [List.mem_singleton.1 hc]; unfold isD; omega
      · obtain rfl : i = l.length := by omega
        rw [List.take_length] at hd
        have hF : Form l := ⟨hne, hhd, hd⟩
        refine dr U 600 rfl trivial ?_
        refine cS rfl rfl rfl rfl (fun hq => ?_) (fun hq => ?_)
        · refine dr U 600 rfl trivial ?_
          exact ret Tryz.results126 rfl ⟨_, rfl, ⟨5, rfl, .inr (.inl ⟨hF, by omega, rfl⟩)⟩, rfl⟩
        · refine dr U 600 rfl trivial ?_
          exact ret Tryz.results126 rfl ⟨_, rfl, ⟨0, rfl, .inl ⟨hF, by omega, rfl⟩⟩, rfl⟩
end Go.Proofs.YtfdekppnilffeaaGreatDoor
