/-
  The row and the tied card of LinearLeasts: for every input the law returns true, and each argument reads afterwards as before.
  Conditions: the listed package-level variables start as the program's text lays them (the card ties them).
-/
import Derived.Test.YtfdekppnilffeaaGreatDoorYMetL
import Derived.Test.YtfdekppnilffeaaGreatDoorYHx
namespace Go.Proofs.YtfdekppnilffeaaGreatDoor
open Go Go.Proofs Go.RowKit Go.Lib Go.ChangeShapes Go.WideShapes Go.ChangeAt Go.ChangeMaps

set_option maxRecDepth 100000 in
theorem linearLeasts_lifted (os : Os) (started : os.Started) (H : Type) (enc : TypeId × Value → H) :
    ReturnsInHanded {} Tryz.checked os 4 .any (fun w args => (Rows.linearLeastsSpec.pre enc Tryz.prog Tryz.f4 Rows.linearLeastsRow.domain false w args ∧ laidMetH Tryz.prog Rows.linearLeastsRow.laid w) ∧ sizedMet enc Tryz.prog Tryz.f4 (OpenSpec.ofChange Rows.linearLeastsSpec) false w args)
      (Rows.linearLeastsSpec.post enc Tryz.prog Tryz.f4 false true false false) := by
  refine returnsInHanded_of_change_and (C := Tryz.checked) (X := fun w _ => laidMetH Tryz.prog Rows.linearLeastsRow.laid w) (fun _ _ _ hh h => h.of_heap hh) own started (by kernel_rfl) Tryz.func4
    (ChangeSpec.witness_shaped (enc := enc) (C := Tryz.checked) (os := os) (X := fun w _ => laidMetH Tryz.prog Rows.linearLeastsRow.laid w) false (World.laidAll Tryz.prog os Rows.linearLeastsRow.laid) #[.slice none 0 0, .slice none 0 0, .slice none 0 0, .int .i64 0, .int .i64 0] 8 (World.laidAll_os _ _ _)
      (World.shaped_of_ZipB (by kernel_rfl) (by kernel_rfl)) (by kernel_rfl) (by kernel_rfl) (by kernel_rfl)
      (by rw [MakeChecks.laidMetH_plain _ _ _ (by kernel_rfl)]; exact laidMet_laidAll _ (by kernel_rfl) (by kernel_rfl))) ?_
  intro W base args ds gs before hval0 hW hc hS0 hL _
  have hS : (DataW.weightsEach Tryz.prog (Tryz.f4.params.toList ++ Rows.linearLeastsSpec.plain.varTypes Tryz.prog) (ds ++ gs)).all (· ≤ reachBytes) = true := hS0
  have hval : ∀ (j : Nat) t v, Tryz.f4.params[j]? = some t → args[j]? = some v → Value.okWide Tryz.prog W .any base t v := hval0
  have hW' := hW
  obtain ⟨p, q, hA0, hV, rfl, _, _⟩ := hW
  have hA : DataW.TrodAll enc Tryz.prog W 0 (fun _ => true) true Tryz.f4.params.toList args.toList ds p := hA0
  rw [Tryz.params4] at hA hval hS
  obtain ⟨v0, r0, d0, e0, p0, q0, hargs, rfl, rfl, h0, hA⟩ := trodAll_cons hA
  obtain ⟨v1, r1, d1, e1, p1, q1, rfl, rfl, rfl, h1, hA⟩ := trodAll_cons hA
  obtain ⟨v2, r2, d2, e2, p2, q2, rfl, rfl, rfl, h2, hA⟩ := trodAll_cons hA
  obtain ⟨v3, r3, d3, e3, p3, q3, rfl, rfl, rfl, h3, hA⟩ := trodAll_cons hA
  obtain ⟨v4, r4, d4, e4, p4, q4, rfl, rfl, rfl, h4, hA⟩ := trodAll_cons hA
  obtain ⟨rfl, rfl, rfl⟩ := trodAll_nil hA
  obtain rfl : args = #[v0, v1, v2, v3, v4] := by cases args; simp_all
  obtain ⟨rfl, rfl⟩ := trodVars_none hV
  have hltx : ∀ q ∈ p0, q.block < W.heap.size := fun q hq => hW'.lt q (by simp [hq])
  obtain ⟨x, ax, cx, rfl, sx, lx⟩ := mats_in (okWide_slice Tryz.underlying22 (hval 0 22 v0 rfl rfl)) h0
  have lx := lx (sized_at hS (j := 0) rfl rfl)
  have hlty : ∀ q ∈ p1, q.block < W.heap.size := fun q hq => hW'.lt q (by simp [hq])
  obtain ⟨y, ay, cy, rfl, sy, ly⟩ := nums_in (okWide_slice Tryz.underlying23 (hval 1 23 v1 rfl rfl)) h1
  have ly := ly (sized_at hS (j := 1) rfl rfl)
  have hltz : ∀ q ∈ p2, q.block < W.heap.size := fun q hq => hW'.lt q (by simp [hq])
  obtain ⟨z, az, cz, rfl, sz, lz⟩ := nums_in (okWide_slice Tryz.underlying23 (hval 2 23 v2 rfl rfl)) h2
  have lz := lz (sized_at hS (j := 2) rfl rfl)
  obtain ⟨u, rfl, rfl, rfl, wu⟩ := open_int Tryz.underlying3 (hval 3 3 v3 rfl rfl) h3
  obtain ⟨t_, rfl, rfl, rfl, wt_⟩ := open_int Tryz.underlying3 (hval 4 3 v4 rfl rfl) h4
  have lu : -9223372036854775808 ≤ u ∧ u ≤ 9223372036854775807 := by
    have h := wu
    simp only [Lit.wf, Bool.and_eq_true, decide_eq_true_eq] at h
    exact h
  have lt_ : -9223372036854775808 ≤ t_ ∧ t_ ≤ 9223372036854775807 := by
    have h := wt_
    simp only [Lit.wf, Bool.and_eq_true, decide_eq_true_eq] at h
    exact h
  have ht : TabOk W := tab_of_laid (by kernel_rfl) (by
    simp only [Rows.linearLeastsRow, List.mem_cons]
    (repeat first | exact .inl rfl | exact .inl trivial | apply Or.inr)) hL
  refine (linearLeasts_calls x ax cx y ay cy z az cz u t_ lu lt_ W ht sx lx sy ly sz lz).mono ?_
  rintro e W' ⟨v, rfl, rfl, hB⟩
  exact ⟨_, rfl, post_mem rfl hW' rfl Tryz.underlying4 rfl (⟨_, _, (Below.trod laidOut (by kernel_rfl) (of_decide_eq_true (by kernel_rfl)) h0 hB hltx), trodAll_mk4 (Below.trod laidOut (by kernel_rfl) (of_decide_eq_true (by kernel_rfl)) h1 hB hlty) (Below.trod laidOut (by kernel_rfl) (of_decide_eq_true (by kernel_rfl)) h2 hB hltz) (shut_int Tryz.underlying3 wu) (shut_int Tryz.underlying3 wt_), rfl⟩) rfl hB⟩

theorem linearLeasts_said : Rows.LinearLeastsSaid :=
  OpenClaim.holds_of_wide 4 Tryz.f4 rfl rfl rfl rfl rfl rfl rfl ⟨rfl, rfl, rfl, rfl, rfl⟩ rfl rfl rfl rfl rfl (by kernel_rfl) Tryz.func4 (by kernel_rfl)
    (of_decide_eq_true (by kernel_rfl)) (by unfold Func.isWrapper; first | (rw [if_pos (by decide +kernel)]; kernel_rfl) | (rw [if_neg (by decide +kernel)]; exact ⟨rfl, rfl⟩))
    (fun os started H enc _ => linearLeasts_lifted os started H enc)
theorem linearLeasts_holds : Rows.LinearLeastsCardSaid :=
  Claim7.holds_tied_plain_at .later [] Rows.linearLeastsCard.laidKinds true Rows.linearLeastsCard.stood.harness Rows.linearLeastsCard.stood.looks linearLeasts_said (fun _ h => by cases h) (by kernel_rfl) (fun _ h => by cases h) linearLeasts_row_tie rfl ⟨rfl, rfl⟩ (by kernel_rfl) rfl
    (fun f fn hf hfn => by
      obtain rfl : f = 4 := Option.some.inj ((show Tryz.prog.funcNamed "privhouse/privhouselaw27.LinearLeasts" = some 4 by kernel_rfl).symm.trans hf) |>.symm
      obtain rfl : fn = Tryz.f4 := (Option.some.inj (Tryz.func4.symm.trans hfn)).symm
      exact ⟨by kernel_rfl, fun j t ht => by
        rw [Tryz.params4] at ht
        have hm : t ∈ [22, 23, 23, 3, 3] := by simpa using Array.mem_of_getElem? ht
        have hall : ([22, 23, 23, 3, 3].all fun u => !Tryz.prog.wantsStandIn u) = true := by kernel_rfl
        exact (show Tryz.prog.wantsStandIn t = false by simpa using List.all_eq_true.1 hall t hm)⟩)
    (by kernel_rfl)
end Go.Proofs.YtfdekppnilffeaaGreatDoor
