/-
  The row and the tied card of MatrixLinear: for every input the law returns true, and each argument reads afterwards as before.
  Conditions: the listed package-level variables start as the program's text lays them (the card ties them).
-/
import Derived.Test.YtejlpdbiacmfcaaGreatDoorYOa
import Derived.Test.YtejlpdbiacmfcaaGreatDoorYOg
namespace Go.Proofs.YtejlpdbiacmfcaaGreatDoor
open Go Go.Proofs Go.RowKit Go.Lib Go.ChangeShapes Go.WideShapes Go.ChangeAt Go.ChangeMaps

set_option maxRecDepth 100000 in
theorem matrixLinear_lifted (os : Os) (started : os.Started) (H : Type) (enc : TypeId × Value → H) :
    ReturnsInHanded {} Tryz.checked os 5 .any (fun w args => (Rows.matrixLinearSpec.pre enc Tryz.prog Tryz.f5 Rows.matrixLinearRow.domain false w args ∧ laidMetH Tryz.prog Rows.matrixLinearRow.laid w) ∧ sizedMet enc Tryz.prog Tryz.f5 (OpenSpec.ofChange Rows.matrixLinearSpec) false w args)
      (Rows.matrixLinearSpec.post enc Tryz.prog Tryz.f5 false true false false) := by
  refine returnsInHanded_of_change_and (C := Tryz.checked) (X := fun w _ => laidMetH Tryz.prog Rows.matrixLinearRow.laid w) (fun _ _ _ hh h => h.of_heap hh) own started (by kernel_rfl) Tryz.func5
    (ChangeSpec.witness_shaped (enc := enc) (C := Tryz.checked) (os := os) (X := fun w _ => laidMetH Tryz.prog Rows.matrixLinearRow.laid w) false (World.laidAll Tryz.prog os Rows.matrixLinearRow.laid) #[.int .i64 0, .int .i64 0, .slice none 0 0, .slice none 0 0, .slice none 0 0] 8 (World.laidAll_os _ _ _)
      (World.shaped_of_ZipB (by kernel_rfl) (by kernel_rfl)) (by kernel_rfl) (by kernel_rfl) (by kernel_rfl)
      (by rw [MakeChecks.laidMetH_plain _ _ _ (by kernel_rfl)]; exact laidMet_laidAll _ (by kernel_rfl) (by kernel_rfl))) ?_
  intro W base args ds gs before hval0 hW hc hS0 hL _
  have hS : (DataW.weightsEach Tryz.prog (Tryz.f5.params.toList ++ Rows.matrixLinearSpec.plain.varTypes Tryz.prog) (ds ++ gs)).all (· ≤ reachBytes) = true := hS0
  have hval : ∀ (j : Nat) t v, Tryz.f5.params[j]? = some t → args[j]? = some v → Value.okWide Tryz.prog W .any base t v := hval0
  have hW' := hW
  obtain ⟨p, q, hA0, hV, rfl, _, _⟩ := hW
  have hA : DataW.TrodAll enc Tryz.prog W 0 (fun _ => true) true Tryz.f5.params.toList args.toList ds p := hA0
  rw [Tryz.params5] at hA hval hS
  obtain ⟨v0, r0, d0, e0, p0, q0, hargs, rfl, rfl, h0, hA⟩ := trodAll_cons hA
  obtain ⟨v1, r1, d1, e1, p1, q1, rfl, rfl, rfl, h1, hA⟩ := trodAll_cons hA
  obtain ⟨v2, r2, d2, e2, p2, q2, rfl, rfl, rfl, h2, hA⟩ := trodAll_cons hA
  obtain ⟨v3, r3, d3, e3, p3, q3, rfl, rfl, rfl, h3, hA⟩ := trodAll_cons hA
  obtain ⟨v4, r4, d4, e4, p4, q4, rfl, rfl, rfl, h4, hA⟩ := trodAll_cons hA
  obtain ⟨rfl, rfl, rfl⟩ := trodAll_nil hA
  obtain rfl : args = #[v0, v1, v2, v3, v4] := by cases args; simp_all
  obtain ⟨rfl, rfl⟩ := trodVars_none hV
  obtain ⟨x, rfl, rfl, rfl, wx⟩ := open_int Tryz.underlying3 (hval 0 3 v0 rfl rfl) h0
  obtain ⟨y, rfl, rfl, rfl, wy⟩ := open_int Tryz.underlying3 (hval 1 3 v1 rfl rfl) h1
  have hltz : ∀ q ∈ p2, q.block < W.heap.size := fun q hq => hW'.lt q (by simp [hq])
  obtain ⟨z, az, cz, rfl, sz, lz⟩ := ints_in (okWide_slice Tryz.underlying23 (hval 2 23 v2 rfl rfl)) h2
  have lz := lz (sized_at hS (j := 2) rfl rfl)
  have hltu : ∀ q ∈ p3, q.block < W.heap.size := fun q hq => hW'.lt q (by simp [hq])
  obtain ⟨u, au, cu, rfl, su, lu⟩ := ints_in (okWide_slice Tryz.underlying23 (hval 3 23 v3 rfl rfl)) h3
  have lu := lu (sized_at hS (j := 3) rfl rfl)
  have hltt_ : ∀ q ∈ p4, q.block < W.heap.size := fun q hq => hW'.lt q (by simp [hq])
  obtain ⟨t_, at_, ct_, rfl, st_, lt_⟩ := ints_in (okWide_slice Tryz.underlying23 (hval 4 23 v4 rfl rfl)) h4
  have lt_ := lt_ (sized_at hS (j := 4) rfl rfl)
  have lx : -9223372036854775808 ≤ x ∧ x ≤ 9223372036854775807 := by
    have h := wx
    simp only [Lit.wf, Bool.and_eq_true, decide_eq_true_eq] at h
    exact h
  have ly : -9223372036854775808 ≤ y ∧ y ≤ 9223372036854775807 := by
    have h := wy
    simp only [Lit.wf, Bool.and_eq_true, decide_eq_true_eq] at h
    exact h
  have ht : TabOk W := tab_of_laid (by kernel_rfl) (by
    simp only [Rows.matrixLinearRow, List.mem_cons]
    (repeat first | exact .inl rfl | exact .inl trivial | apply Or.inr)) hL
  refine (matrixLinear_calls x y z az cz u au cu t_ at_ ct_ lx ly W ht sz lz su lu st_ lt_).mono ?_
  rintro e W' ⟨v, rfl, rfl, hB⟩
  exact ⟨_, rfl, post_mem rfl hW' rfl Tryz.underlying4 rfl (⟨_, _, (shut_int Tryz.underlying3 wx), trodAll_mk4 (shut_int Tryz.underlying3 wy) (Below.trod laidOut (by kernel_rfl) (of_decide_eq_true (by kernel_rfl)) h2 hB hltz) (Below.trod laidOut (by kernel_rfl) (of_decide_eq_true (by kernel_rfl)) h3 hB hltu) (Below.trod laidOut (by kernel_rfl) (of_decide_eq_true (by kernel_rfl)) h4 hB hltt_), rfl⟩) rfl hB⟩

theorem matrixLinear_said : Rows.MatrixLinearSaid :=
  OpenClaim.holds_of_wide 5 Tryz.f5 rfl rfl rfl rfl rfl rfl rfl ⟨rfl, rfl, rfl, rfl, rfl⟩ rfl rfl rfl rfl rfl (by kernel_rfl) Tryz.func5 (by kernel_rfl)
    (of_decide_eq_true (by kernel_rfl)) (by unfold Func.isWrapper; first | (rw [if_pos (by decide +kernel)]; kernel_rfl) | (rw [if_neg (by decide +kernel)]; exact ⟨rfl, rfl⟩))
    (fun os started H enc _ => matrixLinear_lifted os started H enc)
theorem matrixLinear_holds : Rows.MatrixLinearCardSaid :=
  Claim7.holds_tied_plain_at .later [] Rows.matrixLinearCard.laidKinds true Rows.matrixLinearCard.stood.harness Rows.matrixLinearCard.stood.looks matrixLinear_said (fun _ h => by cases h) (by kernel_rfl) (fun _ h => by cases h) matrixLinear_row_tie rfl ⟨rfl, rfl⟩ (by kernel_rfl) rfl
    (fun f fn hf hfn => by
      obtain rfl : f = 5 := Option.some.inj ((show Tryz.prog.funcNamed "privhouse/privhouselaw28.MatrixLinear" = some 5 by kernel_rfl).symm.trans hf) |>.symm
      obtain rfl : fn = Tryz.f5 := (Option.some.inj (Tryz.func5.symm.trans hfn)).symm
      exact ⟨by kernel_rfl, fun j t ht => by
        rw [Tryz.params5] at ht
        have hm : t ∈ [3, 3, 23, 23, 23] := by simpa using Array.mem_of_getElem? ht
        have hall : ([3, 3, 23, 23, 23].all fun u => !Tryz.prog.wantsStandIn u) = true := by kernel_rfl
        exact (show Tryz.prog.wantsStandIn t = false by simpa using List.all_eq_true.1 hall t hm)⟩)
    (by kernel_rfl)
end Go.Proofs.YtejlpdbiacmfcaaGreatDoor
