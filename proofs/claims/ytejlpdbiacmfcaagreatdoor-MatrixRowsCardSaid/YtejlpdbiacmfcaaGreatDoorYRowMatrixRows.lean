/-
  The row and the tied card of MatrixRows: for every input the law returns true, and each argument reads afterwards as before.
  Conditions: the listed package-level variables start as the program's text lays them (the card ties them).
-/
import Derived.Test.YtejlpdbiacmfcaaGreatDoorYOa
import Derived.Test.YtejlpdbiacmfcaaGreatDoorYOc
namespace Go.Proofs.YtejlpdbiacmfcaaGreatDoor
open Go Go.Proofs Go.RowKit Go.Lib Go.ChangeShapes Go.WideShapes Go.ChangeAt Go.ChangeMaps

set_option maxRecDepth 100000 in
theorem matrixRows_lifted (os : Os) (started : os.Started) (H : Type) (enc : TypeId × Value → H) :
    ReturnsInHanded {} Tryz.checked os 8 .any (fun w args => (Rows.matrixRowsSpec.pre enc Tryz.prog Tryz.f8 Rows.matrixRowsRow.domain false w args ∧ laidMetH Tryz.prog Rows.matrixRowsRow.laid w) ∧ sizedMet enc Tryz.prog Tryz.f8 (OpenSpec.ofChange Rows.matrixRowsSpec) false w args)
      (Rows.matrixRowsSpec.post enc Tryz.prog Tryz.f8 false true false false) := by
  refine returnsInHanded_of_change_and (C := Tryz.checked) (X := fun w _ => laidMetH Tryz.prog Rows.matrixRowsRow.laid w) (fun _ _ _ hh h => h.of_heap hh) own started (by kernel_rfl) Tryz.func8
    (ChangeSpec.witness_shaped (enc := enc) (C := Tryz.checked) (os := os) (X := fun w _ => laidMetH Tryz.prog Rows.matrixRowsRow.laid w) false (World.laidAll Tryz.prog os Rows.matrixRowsRow.laid) #[.int .i64 0, .int .i64 0, .slice none 0 0, .slice none 0 0] 8 (World.laidAll_os _ _ _)
      (World.shaped_of_ZipB (by kernel_rfl) (by kernel_rfl)) (by kernel_rfl) (by kernel_rfl) (by kernel_rfl)
      (by rw [MakeChecks.laidMetH_plain _ _ _ (by kernel_rfl)]; exact laidMet_laidAll _ (by kernel_rfl) (by kernel_rfl))) ?_
  intro W base args ds gs before hval0 hW hc hS0 hL _
  have hS : (DataW.weightsEach Tryz.prog (Tryz.f8.params.toList ++ Rows.matrixRowsSpec.plain.varTypes Tryz.prog) (ds ++ gs)).all (· ≤ reachBytes) = true := hS0
  have hval : ∀ (j : Nat) t v, Tryz.f8.params[j]? = some t → args[j]? = some v → Value.okWide Tryz.prog W .any base t v := hval0
  have hW' := hW
  obtain ⟨p, q, hA0, hV, rfl, _, _⟩ := hW
  have hA : DataW.TrodAll enc Tryz.prog W 0 (fun _ => true) true Tryz.f8.params.toList args.toList ds p := hA0
  rw [Tryz.params8] at hA hval hS
  obtain ⟨v0, v1, v2, v3, d0, d1, d2, d3, p0, p1, p2, p3, rfl, rfl, rfl, h0, h1, h2, h3⟩ := trodAll_four hA
  obtain ⟨rfl, rfl⟩ := trodVars_none hV
  obtain ⟨x, rfl, rfl, rfl, wx⟩ := open_int Tryz.underlying3 (hval 0 3 v0 rfl rfl) h0
  obtain ⟨y, rfl, rfl, rfl, wy⟩ := open_int Tryz.underlying3 (hval 1 3 v1 rfl rfl) h1
  have hltz : ∀ q ∈ p2, q.block < W.heap.size := fun q hq => hW'.lt q (by simp [hq])
  obtain ⟨z, az, cz, rfl, sz, lz⟩ := irows_in (okWide_slice Tryz.underlying27 (hval 2 27 v2 rfl rfl)) h2
  have lz := lz (sized_at hS (j := 2) rfl rfl)
  have hltu : ∀ q ∈ p3, q.block < W.heap.size := fun q hq => hW'.lt q (by simp [hq])
  obtain ⟨u, au, cu, rfl, su, lu⟩ := ints_in (okWide_slice Tryz.underlying23 (hval 3 23 v3 rfl rfl)) h3
  have lu := lu (sized_at hS (j := 3) rfl rfl)
  have lx : -9223372036854775808 ≤ x ∧ x ≤ 9223372036854775807 := by
    have h := wx
    simp only [Lit.wf, Bool.and_eq_true, decide_eq_true_eq] at h
    exact h
  have ly : -9223372036854775808 ≤ y ∧ y ≤ 9223372036854775807 := by
    have h := wy
    simp only [Lit.wf, Bool.and_eq_true, decide_eq_true_eq] at h
    exact h
  have ht : TabOk W := tab_of_laid (by kernel_rfl) (by
    simp only [Rows.matrixRowsRow, List.mem_cons]
    (repeat first | exact .inl rfl | exact .inl trivial | apply Or.inr)) hL
  refine (matrixRows_calls x y z az cz u au cu lx ly W ht sz lz su lu).mono ?_
  rintro e W' ⟨v, rfl, rfl, hB⟩
  exact ⟨_, rfl, post_mem rfl hW' rfl Tryz.underlying4 rfl (trodAll_mk4 (shut_int Tryz.underlying3 wx) (shut_int Tryz.underlying3 wy) (Below.trod laidOut (by kernel_rfl) (of_decide_eq_true (by kernel_rfl)) h2 hB hltz) (Below.trod laidOut (by kernel_rfl) (of_decide_eq_true (by kernel_rfl)) h3 hB hltu)) rfl hB⟩

theorem matrixRows_said : Rows.MatrixRowsSaid :=
  OpenClaim.holds_of_wide 8 Tryz.f8 rfl rfl rfl rfl rfl rfl rfl ⟨rfl, rfl, rfl, rfl, rfl⟩ rfl rfl rfl rfl rfl (by kernel_rfl) Tryz.func8 (by kernel_rfl)
    (of_decide_eq_true (by kernel_rfl)) (by unfold Func.isWrapper; first | (rw [if_pos (by decide +kernel)]; kernel_rfl) | (rw [if_neg (by decide +kernel)]; exact ⟨rfl, rfl⟩))
    (fun os started H enc _ => matrixRows_lifted os started H enc)
theorem matrixRows_holds : Rows.MatrixRowsCardSaid :=
  Claim7.holds_tied_plain_at .later [] Rows.matrixRowsCard.laidKinds true Rows.matrixRowsCard.stood.harness Rows.matrixRowsCard.stood.looks matrixRows_said (fun _ h => by cases h) (by kernel_rfl) (fun _ h => by cases h) matrixRows_row_tie rfl ⟨rfl, rfl⟩ (by kernel_rfl) rfl
    (fun f fn hf hfn => by
      obtain rfl : f = 8 := Option.some.inj ((show Tryz.prog.funcNamed "privhouse/privhouselaw28.MatrixRows" = some 8 by kernel_rfl).symm.trans hf) |>.symm
      obtain rfl : fn = Tryz.f8 := (Option.some.inj (Tryz.func8.symm.trans hfn)).symm
      exact ⟨by kernel_rfl, fun j t ht => by
        rw [Tryz.params8] at ht
        have hm : t ∈ [3, 3, 27, 23] := by simpa using Array.mem_of_getElem? ht
        have hall : ([3, 3, 27, 23].all fun u => !Tryz.prog.wantsStandIn u) = true := by kernel_rfl
        exact (show Tryz.prog.wantsStandIn t = false by simpa using List.all_eq_true.1 hall t hm)⟩)
    (by kernel_rfl)
end Go.Proofs.YtejlpdbiacmfcaaGreatDoor
