/-
  The row and the tied card of MatrixAnswers: for every input the law returns true, and each argument reads afterwards as before.
  Conditions: the listed package-level variables start as the program's text lays them (the card ties them).
-/
import Derived.Test.YtejlpdbiacmfcaaGreatDoorYOa
import Derived.Test.YtejlpdbiacmfcaaGreatDoorYOi
namespace Go.Proofs.YtejlpdbiacmfcaaGreatDoor
open Go Go.Proofs Go.RowKit Go.Lib Go.ChangeShapes Go.WideShapes Go.ChangeAt Go.ChangeMaps

set_option maxRecDepth 100000 in
theorem matrixAnswers_lifted (os : Os) (started : os.Started) (H : Type) (enc : TypeId × Value → H) :
  ReturnsInHanded {} Tryz.checked os 7 .any (fun w args => (Rows.matrixAnswersSpec.pre enc Tryz.prog Tryz.f7 Rows.matrixAnswersRow.domain false w args ∧ laidMetH Tryz.prog Rows.matrixAnswersRow.laid w) ∧ sizedMet enc Tryz.prog Tryz.f7 (OpenSpec.ofChange Rows.matrixAnswersSpec) false w args)
   (Rows.matrixAnswersSpec.post enc Tryz.prog Tryz.f7 false true false false) := by
 refine returnsInHanded_of_change_and (C := Tryz.checked) (X := fun w _ => laidMetH Tryz.prog Rows.matrixAnswersRow.laid w) (fun _ _ _ hh h => h.of_heap hh) own started (by kernel_rfl) Tryz.func7
  (ChangeSpec.witness_shaped (enc := enc) (C := Tryz.checked) (os := os) (X := fun w _ => laidMetH Tryz.prog Rows.matrixAnswersRow.laid w) false (World.laidAll Tryz.prog os Rows.matrixAnswersRow.laid) #[.int .i64 0, .int .i64 0, .slice none 0 0, .slice none 0 0, .slice none 0 0, .int .i64 0, .int .i64 0] 8 (World.laidAll_os _ _ _)
   (World.shaped_of_ZipB (by kernel_rfl) (by kernel_rfl)) (by kernel_rfl) (by kernel_rfl) (by kernel_rfl)
   (by rw [MakeChecks.laidMetH_plain _ _ _ (by kernel_rfl)]; exact laidMet_laidAll _ (by kernel_rfl) (by kernel_rfl))) ?_
 intro W base args ds gs before hval0 hW hc hS0 hL _
 have hS : (DataW.weightsEach Tryz.prog (Tryz.f7.params.toList ++ Rows.matrixAnswersSpec.plain.varTypes Tryz.prog) (ds ++ gs)).all (· ≤ reachBytes) = true := hS0
 have hval : ∀ (j : Nat) t v, Tryz.f7.params[j]? = some t → args[j]? = some v → Value.okWide Tryz.prog W .any base t v := hval0
 have hW' := hW
 obtain ⟨p, q, hA0, hV, rfl, _, _⟩ := hW
 have hA : DataW.TrodAll enc Tryz.prog W 0 (fun _ => true) true Tryz.f7.params.toList args.toList ds p := hA0
 rw [Tryz.params7] at hA hval hS
 obtain ⟨v0, r0, d0, e0, p0, q0, hargs, rfl, rfl, h0, hA⟩ := trodAll_cons hA
 obtain ⟨v1, r1, d1, e1, p1, q1, rfl, rfl, rfl, h1, hA⟩ := trodAll_cons hA
 obtain ⟨v2, r2, d2, e2, p2, q2, rfl, rfl, rfl, h2, hA⟩ := trodAll_cons hA
 obtain ⟨v3, r3, d3, e3, p3, q3, rfl, rfl, rfl, h3, hA⟩ := trodAll_cons hA
 obtain ⟨v4, r4, d4, e4, p4, q4, rfl, rfl, rfl, h4, hA⟩ := trodAll_cons hA
 obtain ⟨v5, r5, d5, e5, p5, q5, rfl, rfl, rfl, h5, hA⟩ := trodAll_cons hA
 obtain ⟨v6, r6, d6, e6, p6, q6, rfl, rfl, rfl, h6, hA⟩ := trodAll_cons hA
 obtain ⟨rfl, rfl, rfl⟩ := trodAll_nil hA
 obtain rfl : args = #[v0, v1, v2, v3, v4, v5, v6] := by cases args; simp_all
 obtain ⟨rfl, rfl⟩ := trodVars_none hV
 obtain ⟨x, rfl, rfl, rfl, wx⟩ := open_int Tryz.underlying3 (hval 0 3 v0 rfl rfl) h0
 obtain ⟨y, rfl, rfl, rfl, wy⟩ := open_int Tryz.underlying3 (hval 1 3 v1 rfl rfl) h1
 have hltz : ∀ q ∈ p2, q.block < W.heap.size := fun q hq => hW'.lt q (by simp [hq])
 obtain ⟨z, az, cz, rfl, sz, lz⟩ := ints_in (okWide_slice Tryz.underlying23 (hval 2 23 v2 rfl rfl)) h2
 have lz := lz (sized_at hS (j := 2) rfl rfl)
 have hltu : ∀ q ∈ p3, q.block < W.heap.size := fun q hq => hW'.lt q (by simp [hq])
 obtain ⟨u, au, cu, rfl, su, lu⟩ := pairs_in (okWide_slice Tryz.underlying34 (hval 3 34 v3 rfl rfl)) h3
 have lu := lu (sized_at hS (j := 3) rfl rfl)
 have hltt_ : ∀ q ∈ p4, q.block < W.heap.size := fun q hq => hW'.lt q (by simp [hq])
 obtain ⟨t_, at_, ct_, rfl, st_, lt_⟩ := numsc_in (okWide_slice Tryz.underlying29 (hval 4 29 v4 rfl rfl)) h4
 have lt_ := lt_ (sized_at hS (j := 4) rfl rfl)
 obtain ⟨m_, rfl, rfl, rfl, wm_⟩ := open_int Tryz.underlying3 (hval 5 3 v5 rfl rfl) h5
 obtain ⟨o_, rfl, rfl, rfl, wo_⟩ := open_int Tryz.underlying3 (hval 6 3 v6 rfl rfl) h6
 have lx : -9223372036854775808 ≤ x ∧ x ≤ 9223372036854775807 := by
  have h := wx
  simp only [Lit.wf, Bool.and_eq_true, decide_eq_true_eq] at h
  exact h
 have ly : -9223372036854775808 ≤ y ∧ y ≤ 9223372036854775807 := by
  have h := wy
  simp only [Lit.wf, Bool.and_eq_true, decide_eq_true_eq] at h
  exact h
 have lm_ : -9223372036854775808 ≤ m_ ∧ m_ ≤ 9223372036854775807 := by
  have h := wm_
  simp only [Lit.wf, Bool.and_eq_true, decide_eq_true_eq] at h
  exact h
 have lo_ : -9223372036854775808 ≤ o_ ∧ o_ ≤ 9223372036854775807 := by
  have h := wo_
  simp only [Lit.wf, Bool.and_eq_true, decide_eq_true_eq] at h
  exact h
 have ht : TabOk W := tab_of_laid (by kernel_rfl) (by
  simp only [Rows.matrixAnswersRow, List.mem_cons]
  (repeat first | exact .inl rfl | exact .inl trivial | apply Or.inr)) hL
 refine (matrixAnswers_calls x y z az cz u au cu t_ at_ ct_ m_ o_ lx ly lm_ lo_ W ht sz lz su lu st_ lt_).mono ?_
 rintro e W' ⟨v, rfl, rfl, hB⟩
 exact ⟨_, rfl, post_mem rfl hW' rfl Tryz.underlying4 rfl (⟨_, _, (shut_int Tryz.underlying3 wx), ⟨_, _, (shut_int Tryz.underlying3 wy), ⟨_, _, (Below.trod laidOut (by kernel_rfl) (of_decide_eq_true (by kernel_rfl)) h2 hB hltz), trodAll_mk4 (Below.trod laidOut (by kernel_rfl) (of_decide_eq_true (by kernel_rfl)) h3 hB hltu) (Below.trod laidOut (by kernel_rfl) (of_decide_eq_true (by kernel_rfl)) h4 hB hltt_) (shut_int Tryz.underlying3 wm_) (shut_int Tryz.underlying3 wo_), rfl⟩, rfl⟩, rfl⟩) rfl hB⟩

theorem matrixAnswers_said : Rows.MatrixAnswersSaid :=
 OpenClaim.holds_of_wide 7 Tryz.f7 rfl rfl rfl rfl rfl rfl rfl ⟨rfl, rfl, rfl, rfl, rfl⟩ rfl rfl rfl rfl rfl (by kernel_rfl) Tryz.func7 (by kernel_rfl)
  (of_decide_eq_true (by kernel_rfl)) (by unfold Func.isWrapper; first | (rw [if_pos (by decide +kernel)]; kernel_rfl) | (rw [if_neg (by decide +kernel)]; exact ⟨rfl, rfl⟩))
  (fun os started H enc _ => matrixAnswers_lifted os started H enc)
theorem matrixAnswers_holds : Rows.MatrixAnswersCardSaid :=
 Claim7.holds_tied_plain_at .later [] Rows.matrixAnswersCard.laidKinds true Rows.matrixAnswersCard.stood.harness Rows.matrixAnswersCard.stood.looks matrixAnswers_said (fun _ h => by cases h) (by kernel_rfl) (fun _ h => by cases h) matrixAnswers_row_tie rfl ⟨rfl, rfl⟩ (by kernel_rfl) rfl
  (fun f fn hf hfn => by
   obtain rfl : f = 7 := Option.some.inj ((show Tryz.prog.funcNamed "privhouse/privhouselaw28.MatrixAnswers" = some 7 by kernel_rfl).symm.trans hf) |>.symm
   obtain rfl : fn = Tryz.f7 := (Option.some.inj (Tryz.func7.symm.trans hfn)).symm
   exact ⟨by kernel_rfl, fun j t ht => by
    rw [Tryz.params7] at ht
    have hm : t ∈ [3, 3, 23, 34, 29, 3, 3] := by simpa using Array.mem_of_getElem? ht
    have hall : ([3, 3, 23, 34, 29, 3, 3].all fun u => !Tryz.prog.wantsStandIn u) = true := by kernel_rfl
    exact (show Tryz.prog.wantsStandIn t = false by simpa using List.all_eq_true.1 hall t hm)⟩)
  (by kernel_rfl)
end Go.Proofs.YtejlpdbiacmfcaaGreatDoor
