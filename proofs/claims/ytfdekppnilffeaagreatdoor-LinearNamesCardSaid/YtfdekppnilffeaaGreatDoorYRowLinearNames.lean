/-
  The row and the tied card of LinearNames: for every input the law returns true, and each argument reads afterwards as before.
  Conditions: the listed package-level variables start as the program's text lays them (the card ties them).
-/
import Derived.Test.YtfdekppnilffeaaGreatDoorYMet
import Derived.Test.YtfdekppnilffeaaGreatDoorYHe
namespace Go.Proofs.YtfdekppnilffeaaGreatDoor
open Go Go.Proofs Go.RowKit Go.Lib Go.ChangeShapes Go.WideShapes Go.ChangeAt Go.ChangeMaps

set_option maxRecDepth 100000 in
theorem linearNames_lifted (os : Os) (started : os.Started) (H : Type) (enc : TypeId × Value → H) :
    ReturnsInHanded {} Tryz.checked os 7 .any (fun w args => (Rows.linearNamesSpec.pre enc Tryz.prog Tryz.f7 Rows.linearNamesRow.domain false w args ∧ laidMetH Tryz.prog Rows.linearNamesRow.laid w) ∧ sizedMet enc Tryz.prog Tryz.f7 (OpenSpec.ofChange Rows.linearNamesSpec) false w args)
      (Rows.linearNamesSpec.post enc Tryz.prog Tryz.f7 false true false false) := by
  refine returnsInHanded_of_change_and (C := Tryz.checked) (X := fun w _ => laidMetH Tryz.prog Rows.linearNamesRow.laid w) (fun _ _ _ hh h => h.of_heap hh) own started (by kernel_rfl) Tryz.func7
    (ChangeSpec.witness_shaped (enc := enc) (C := Tryz.checked) (os := os) (X := fun w _ => laidMetH Tryz.prog Rows.linearNamesRow.laid w) false (World.laidAll Tryz.prog os Rows.linearNamesRow.laid) #[] 8 (World.laidAll_os _ _ _)
      (World.shaped_of_ZipB (by kernel_rfl) (by kernel_rfl)) (by kernel_rfl) (by kernel_rfl) (by kernel_rfl)
      (by rw [MakeChecks.laidMetH_plain _ _ _ (by kernel_rfl)]; exact laidMet_laidAll _ (by kernel_rfl) (by kernel_rfl))) ?_
  intro W base args ds gs before hval0 hW hc hS0 hL _
  have hS : (DataW.weightsEach Tryz.prog (Tryz.f7.params.toList ++ Rows.linearNamesSpec.plain.varTypes Tryz.prog) (ds ++ gs)).all (· ≤ reachBytes) = true := hS0
  have hval : ∀ (j : Nat) t v, Tryz.f7.params[j]? = some t → args[j]? = some v → Value.okWide Tryz.prog W .any base t v := hval0
  have hW' := hW
  obtain ⟨p, q, hA0, hV, rfl, _, _⟩ := hW
  have hA : DataW.TrodAll enc Tryz.prog W 0 (fun _ => true) true Tryz.f7.params.toList args.toList ds p := hA0
  rw [Tryz.params7] at hA
  obtain ⟨ha, rfl, rfl⟩ := trodAll_nil hA
  obtain rfl : args = #[] := by cases args; simp_all
  obtain ⟨rfl, rfl⟩ := trodVars_none hV
  have ht : TabOk W := tab_of_laid (by kernel_rfl) (by
    simp only [Rows.linearNamesRow, List.mem_cons]
    (repeat first | exact .inl rfl | exact .inl trivial | apply Or.inr)) hL
  refine (linearNames_calls   W ht).mono ?_
  rintro e W' ⟨v, rfl, rfl, hB⟩
  exact ⟨_, rfl, post_plain rfl hW' rfl Tryz.underlying4 rfl (fun sp => trodAll_mk0) rfl hB⟩

theorem linearNames_said : Rows.LinearNamesSaid :=
  OpenClaim.holds_of_wide 7 Tryz.f7 rfl rfl rfl rfl rfl rfl rfl ⟨rfl, rfl, rfl, rfl, rfl⟩ rfl rfl rfl rfl rfl (by kernel_rfl) Tryz.func7 (by kernel_rfl)
    (of_decide_eq_true (by kernel_rfl)) (by unfold Func.isWrapper; first | (rw [if_pos (by decide +kernel)]; kernel_rfl) | (rw [if_neg (by decide +kernel)]; exact ⟨rfl, rfl⟩))
    (fun os started H enc _ => linearNames_lifted os started H enc)
theorem linearNames_holds : Rows.LinearNamesCardSaid :=
  Claim7.holds_tied_plain_at .later [] Rows.linearNamesCard.laidKinds true Rows.linearNamesCard.stood.harness Rows.linearNamesCard.stood.looks linearNames_said (fun _ h => by cases h) (by kernel_rfl) (fun _ h => by cases h) linearNames_row_tie rfl ⟨rfl, rfl⟩ (by kernel_rfl) rfl
    (fun f fn hf hfn => by
      obtain rfl : f = 7 := Option.some.inj ((show Tryz.prog.funcNamed "privhouse/privhouselaw27.LinearNames" = some 7 by kernel_rfl).symm.trans hf) |>.symm
      obtain rfl : fn = Tryz.f7 := (Option.some.inj (Tryz.func7.symm.trans hfn)).symm
      exact ⟨by kernel_rfl, fun j t ht => by
        rw [Tryz.params7] at ht
        simp at ht⟩)
    (by kernel_rfl)
end Go.Proofs.YtfdekppnilffeaaGreatDoor
