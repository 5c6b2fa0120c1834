/-
  The row and the tied card of LinearRanks: for every input the law returns true, and each argument reads afterwards as before.
  Conditions: the listed package-level variables start as the program's text lays them (the card ties them).
-/
import Derived.Test.YtfdekppnilffeaaGreatDoorYMetL
import Derived.Test.YtfdekppnilffeaaGreatDoorYHu
namespace Go.Proofs.YtfdekppnilffeaaGreatDoor
open Go Go.Proofs Go.RowKit Go.Lib Go.ChangeShapes Go.WideShapes Go.ChangeAt Go.ChangeMaps

set_option maxRecDepth 100000 in
theorem linearRanks_lifted (os : Os) (started : os.Started) (H : Type) (enc : TypeId × Value → H) :
    ReturnsInHanded {} Tryz.checked os 6 .any (fun w args => (Rows.linearRanksSpec.pre enc Tryz.prog Tryz.f6 Rows.linearRanksRow.domain false w args ∧ laidMetH Tryz.prog Rows.linearRanksRow.laid w) ∧ sizedMet enc Tryz.prog Tryz.f6 (OpenSpec.ofChange Rows.linearRanksSpec) false w args)
      (Rows.linearRanksSpec.post enc Tryz.prog Tryz.f6 false true false false) := by
  refine returnsInHanded_of_change_and (C := Tryz.checked) (X := fun w _ => laidMetH Tryz.prog Rows.linearRanksRow.laid w) (fun _ _ _ hh h => h.of_heap hh) own started (by kernel_rfl) Tryz.func6
    (ChangeSpec.witness_shaped (enc := enc) (C := Tryz.checked) (os := os) (X := fun w _ => laidMetH Tryz.prog Rows.linearRanksRow.laid w) false (World.laidAll Tryz.prog os Rows.linearRanksRow.laid) #[.slice none 0 0, .int .i64 0] 8 (World.laidAll_os _ _ _)
      (World.shaped_of_ZipB (by kernel_rfl) (by kernel_rfl)) (by kernel_rfl) (by kernel_rfl) (by kernel_rfl)
      (by rw [MakeChecks.laidMetH_plain _ _ _ (by kernel_rfl)]; exact laidMet_laidAll _ (by kernel_rfl) (by kernel_rfl))) ?_
  intro W base args ds gs before hval0 hW hc hS0 hL _
  have hS : (DataW.weightsEach Tryz.prog (Tryz.f6.params.toList ++ Rows.linearRanksSpec.plain.varTypes Tryz.prog) (ds ++ gs)).all (· ≤ reachBytes) = true := hS0
  have hval : ∀ (j : Nat) t v, Tryz.f6.params[j]? = some t → args[j]? = some v → Value.okWide Tryz.prog W .any base t v := hval0
  have hW' := hW
  obtain ⟨p, q, hA0, hV, rfl, _, _⟩ := hW
  have hA : DataW.TrodAll enc Tryz.prog W 0 (fun _ => true) true Tryz.f6.params.toList args.toList ds p := hA0
  rw [Tryz.params6] at hA hval hS
  obtain ⟨v0, v1, d0, d1, p0, p1, rfl, rfl, rfl, h0, h1⟩ := trodAll_two hA
  obtain ⟨rfl, rfl⟩ := trodVars_none hV
  have hltx : ∀ q ∈ p0, q.block < W.heap.size := fun q hq => hW'.lt q (by simp [hq])
  obtain ⟨x, ax, cx, rfl, sx, lx⟩ := mats_in (okWide_slice Tryz.underlying22 (hval 0 22 v0 rfl rfl)) h0
  have lx := lx (sized_at hS (j := 0) rfl rfl)
  obtain ⟨y, rfl, rfl, rfl, wy⟩ := open_int Tryz.underlying3 (hval 1 3 v1 rfl rfl) h1
  have ly : -9223372036854775808 ≤ y ∧ y ≤ 9223372036854775807 := by
    have h := wy
    simp only [Lit.wf, Bool.and_eq_true, decide_eq_true_eq] at h
    exact h
  have ht : TabOk W := tab_of_laid (by kernel_rfl) (by
    simp only [Rows.linearRanksRow, List.mem_cons]
    (repeat first | exact .inl rfl | exact .inl trivial | apply Or.inr)) hL
  refine (linearRanks_calls x ax cx y ly W ht sx lx).mono ?_
  rintro e W' ⟨v, rfl, rfl, hB⟩
  exact ⟨_, rfl, post_mem rfl hW' rfl Tryz.underlying4 rfl (trodAll_mk2 (Below.trod laidOut (by kernel_rfl) (of_decide_eq_true (by kernel_rfl)) h0 hB hltx) (shut_int Tryz.underlying3 wy)) rfl hB⟩

theorem linearRanks_said : Rows.LinearRanksSaid :=
  OpenClaim.holds_of_wide 6 Tryz.f6 rfl rfl rfl rfl rfl rfl rfl ⟨rfl, rfl, rfl, rfl, rfl⟩ rfl rfl rfl rfl rfl (by kernel_rfl) Tryz.func6 (by kernel_rfl)
    (of_decide_eq_true (by kernel_rfl)) (by unfold Func.isWrapper; first | (rw [if_pos (by decide +kernel)]; kernel_rfl) | (rw [if_neg (by decide +kernel)]; exact ⟨rfl, rfl⟩))
    (fun os started H enc _ => linearRanks_lifted os started H enc)
theorem linearRanks_holds : Rows.LinearRanksCardSaid :=
  Claim7.holds_tied_plain_at .later [] Rows.linearRanksCard.laidKinds true Rows.linearRanksCard.stood.harness Rows.linearRanksCard.stood.looks linearRanks_said (fun _ h => by cases h) (by kernel_rfl) (fun _ h => by cases h) linearRanks_row_tie rfl ⟨rfl, rfl⟩ (by kernel_rfl) rfl
    (fun f fn hf hfn => by
      obtain rfl : f = 6 := Option.some.inj ((show Tryz.prog.funcNamed "privhouse/privhouselaw27.LinearRanks" = some 6 by kernel_rfl).symm.trans hf) |>.symm
      obtain rfl : fn = Tryz.f6 := (Option.some.inj (Tryz.func6.symm.trans hfn)).symm
      exact ⟨by kernel_rfl, fun j t ht => by
        rw [Tryz.params6] at ht
        have hm : t ∈ [22, 3] := by simpa using Array.mem_of_getElem? ht
        have hall : ([22, 3].all fun u => !Tryz.prog.wantsStandIn u) = true := by kernel_rfl
        exact (show Tryz.prog.wantsStandIn t = false by simpa using List.all_eq_true.1 hall t hm)⟩)
    (by kernel_rfl)
end Go.Proofs.YtfdekppnilffeaaGreatDoor
