/-
  The row and the tied card of MatrixNames: for every input the law returns true, and each argument reads afterwards as before.
  Conditions: the listed package-level variables start as the program's text lays them (the card ties them).
-/
import Derived.Test.YtejlpdbiacmfcaaGreatDoorYLmG
import Derived.Test.YtejlpdbiacmfcaaGreatDoorYOe
namespace Go.Proofs.YtejlpdbiacmfcaaGreatDoor
open Go Go.Proofs Go.RowKit Go.Lib Go.ChangeShapes Go.WideShapes Go.ChangeAt Go.ChangeMaps

set_option maxRecDepth 100000 in
theorem matrixNames_lifted (os : Os) (started : os.Started) (H : Type) (enc : TypeId × Value → H) :
    ReturnsInHanded {} Tryz.checked os 3 .any (fun w args => (Rows.matrixNamesSpec.pre enc Tryz.prog Tryz.f3 Rows.matrixNamesRow.domain false w args ∧ laidMetH Tryz.prog Rows.matrixNamesRow.laid w) ∧ sizedMet enc Tryz.prog Tryz.f3 (OpenSpec.ofChange Rows.matrixNamesSpec) false w args)
      (Rows.matrixNamesSpec.post enc Tryz.prog Tryz.f3 false true false false) := by
  refine returnsInHanded_of_change_and (C := Tryz.checked) (X := fun w _ => laidMetH Tryz.prog Rows.matrixNamesRow.laid w) (fun _ _ _ hh h => h.of_heap hh) own started (by kernel_rfl) Tryz.func3
    (ChangeSpec.witness_shaped (enc := enc) (C := Tryz.checked) (os := os) (X := fun w _ => laidMetH Tryz.prog Rows.matrixNamesRow.laid w) false (World.laidAll Tryz.prog os Rows.matrixNamesRow.laid) #[] 8 (World.laidAll_os _ _ _)
      (World.shaped_of_ZipB (by kernel_rfl) (by kernel_rfl)) (by kernel_rfl) (by kernel_rfl) (by kernel_rfl)
      (by rw [MakeChecks.laidMetH_plain _ _ _ (by kernel_rfl)]; exact laidMet_laidAll _ (by kernel_rfl) (by kernel_rfl))) ?_
  intro W base args ds gs before hval0 hW hc hS0 hL _
  have hS : (DataW.weightsEach Tryz.prog (Tryz.f3.params.toList ++ Rows.matrixNamesSpec.plain.varTypes Tryz.prog) (ds ++ gs)).all (· ≤ reachBytes) = true := hS0
  have hval : ∀ (j : Nat) t v, Tryz.f3.params[j]? = some t → args[j]? = some v → Value.okWide Tryz.prog W .any base t v := hval0
  have hW' := hW
  obtain ⟨p, q, hA0, hV, rfl, _, _⟩ := hW
  have hA : DataW.TrodAll enc Tryz.prog W 0 (fun _ => true) true Tryz.f3.params.toList args.toList ds p := hA0
  rw [Tryz.params3] at hA
  obtain ⟨ha, rfl, rfl⟩ := trodAll_nil hA
  obtain rfl : args = #[] := by cases args; simp_all
  obtain ⟨rfl, rfl⟩ := trodVars_none hV
  have ht : TabOk W := tab_of_laid (by kernel_rfl) (by
    simp only [Rows.matrixNamesRow, List.mem_cons]
    (repeat first | exact .inl rfl | exact .inl trivial | apply Or.inr)) hL
  refine (matrixNames_calls   W ht).mono ?_
  rintro e W' ⟨v, rfl, rfl, hB⟩
  exact ⟨_, rfl, post_plain rfl hW' rfl Tryz.underlying4 rfl (fun sp => trodAll_mk0) rfl hB⟩

theorem matrixNames_said : Rows.MatrixNamesSaid :=
  OpenClaim.holds_of_wide 3 Tryz.f3 rfl rfl rfl rfl rfl rfl rfl ⟨rfl, rfl, rfl, rfl, rfl⟩ rfl rfl rfl rfl rfl (by kernel_rfl) Tryz.func3 (by kernel_rfl)
    (of_decide_eq_true (by kernel_rfl)) (by unfold Func.isWrapper; first | (rw [if_pos (by decide +kernel)]; kernel_rfl) | (rw [if_neg (by decide +kernel)]; exact ⟨rfl, rfl⟩))
    (fun os started H enc _ => matrixNames_lifted os started H enc)
theorem matrixNames_holds : Rows.MatrixNamesCardSaid :=
  Claim7.holds_tied_plain_at .later [] Rows.matrixNamesCard.laidKinds true Rows.matrixNamesCard.stood.harness Rows.matrixNamesCard.stood.looks matrixNames_said (fun _ h => by cases h) (by kernel_rfl) (fun _ h => by cases h) matrixNames_row_tie rfl ⟨rfl, rfl⟩ (by kernel_rfl) rfl
    (fun f fn hf hfn => by
      obtain rfl : f = 3 := Option.some.inj ((show Tryz.prog.funcNamed "privhouse/privhouselaw28.MatrixNames" = some 3 by kernel_rfl).symm.trans hf) |>.symm
      obtain rfl : fn = Tryz.f3 := (Option.some.inj (Tryz.func3.symm.trans hfn)).symm
      exact ⟨by kernel_rfl, fun j t ht => by
        rw [Tryz.params3] at ht
        simp at ht⟩)
    (by kernel_rfl)
end Go.Proofs.YtejlpdbiacmfcaaGreatDoor
