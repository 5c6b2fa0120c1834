/-
  The row and the tied card of NatExponents: for every input the law returns true, and each argument reads afterwards as before.
  Conditions: the listed package-level variables start as the program's text lays them (the card ties them).
-/
import Derived.Test.YtnohojjjfconfaaDoorMet
import Derived.Test.YtnohojjjfconfaaDoorExp
namespace Go.Proofs.YtnohojjjfconfaaDoor
open Go Go.Proofs Go.RowKit Go.Lib Go.ChangeShapes Go.WideShapes Go.ChangeAt Go.ChangeMaps

set_option maxRecDepth 100000 in
theorem natExponents_lifted (os : Os) (started : os.Started) (H : Type) (enc : TypeId × Value → H) :
    ReturnsInHanded {} Tryd.checked os 3 .any (fun w args => (Rows.natExponentsSpec.pre enc Tryd.prog Tryd.f3 Rows.natExponentsRow.domain false w args ∧ laidMetH Tryd.prog Rows.natExponentsRow.laid w) ∧ sizedMet enc Tryd.prog Tryd.f3 (OpenSpec.ofChange Rows.natExponentsSpec) false w args)
      (Rows.natExponentsSpec.post enc Tryd.prog Tryd.f3 false true false false) := by
  refine returnsInHanded_of_change_and (C := Tryd.checked) (X := fun w _ => laidMetH Tryd.prog Rows.natExponentsRow.laid w) (fun _ _ _ hh h => h.of_heap hh) own started (by kernel_rfl) Tryd.func3
    (ChangeSpec.witness_shaped (enc := enc) (C := Tryd.checked) (os := os) (X := fun w _ => laidMetH Tryd.prog Rows.natExponentsRow.laid w) false (World.laidAll Tryd.prog os Rows.natExponentsRow.laid) #[.string ⟨#[]⟩, .string ⟨#[]⟩, .int .i64 0, .int .i64 0] 8 (World.laidAll_os _ _ _)
      (World.shaped_of_ZipB (by kernel_rfl) (by kernel_rfl)) (by kernel_rfl) (by kernel_rfl) (by kernel_rfl)
      (by rw [MakeChecks.laidMetH_plain _ _ _ (by kernel_rfl)]; exact laidMet_laidAll _ (by kernel_rfl) (by kernel_rfl))) ?_
  intro W base args ds gs before hval0 hW hc hS0 hL _
  have hS : (DataW.weightsEach Tryd.prog (Tryd.f3.params.toList ++ Rows.natExponentsSpec.plain.varTypes Tryd.prog) (ds ++ gs)).all (· ≤ reachBytes) = true := hS0
  have hval : ∀ (j : Nat) t v, Tryd.f3.params[j]? = some t → args[j]? = some v → Value.okWide Tryd.prog W .any base t v := hval0
  have hW' := hW
  obtain ⟨p, q, hA0, hV, rfl, _, _⟩ := hW
  have hA : DataW.TrodAll enc Tryd.prog W 0 (fun _ => true) true Tryd.f3.params.toList args.toList ds p := hA0
  rw [Tryd.params3] at hA hval hS
  obtain ⟨v0, v1, v2, v3, d0, d1, d2, d3, p0, p1, p2, p3, rfl, rfl, rfl, h0, h1, h2, h3⟩ := trodAll_four hA
  obtain ⟨rfl, rfl⟩ := trodVars_none hV
  obtain ⟨⟨⟨x⟩⟩, rfl, rfl, rfl, wx⟩ := open_string Tryd.underlying22 (hval 0 22 v0 rfl rfl) h0
  obtain ⟨⟨⟨y⟩⟩, rfl, rfl, rfl, wy⟩ := open_string Tryd.underlying22 (hval 1 22 v1 rfl rfl) h1
  obtain ⟨z, rfl, rfl, rfl, wz⟩ := open_int Tryd.underlying3 (hval 2 3 v2 rfl rfl) h2
  obtain ⟨u, rfl, rfl, rfl, wu⟩ := open_int Tryd.underlying3 (hval 3 3 v3 rfl rfl) h3
  have lx : x.length ≤ 9223372036854775806 := Nat.le_trans (sized_string hS (j := 0) (t := 22) rfl rfl) (by decide)
  have ly : y.length ≤ 9223372036854775806 := Nat.le_trans (sized_string hS (j := 1) (t := 22) rfl rfl) (by decide)
  have lz : -9223372036854775808 ≤ z ∧ z ≤ 9223372036854775807 := by
    have h := wz
    simp only [Lit.wf, Bool.and_eq_true, decide_eq_true_eq] at h
    exact h
  have lu : -9223372036854775808 ≤ u ∧ u ≤ 9223372036854775807 := by
    have h := wu
    simp only [Lit.wf, Bool.and_eq_true, decide_eq_true_eq] at h
    exact h
  have ht : TabOk W := tab_of_laid (by kernel_rfl) (by
    simp only [Rows.natExponentsRow, List.mem_cons]
    (repeat first | exact .inl rfl | apply Or.inr)) hL
  refine (natExponents_calls x y z u lx ly lz lu W ht).mono ?_
  rintro e W' ⟨v, rfl, rfl, hB⟩
  exact ⟨_, rfl, post_plain rfl hW' rfl Tryd.underlying4 rfl (fun sp => trodAll_mk4 (shut_string Tryd.underlying22 wx) (shut_string Tryd.underlying22 wy) (shut_int Tryd.underlying3 wz) (shut_int Tryd.underlying3 wu)) rfl hB⟩

theorem natExponents_said : Rows.NatExponentsSaid :=
  OpenClaim.holds_of_wide 3 Tryd.f3 rfl rfl rfl rfl rfl rfl rfl ⟨rfl, rfl, rfl, rfl, rfl⟩ rfl rfl rfl rfl rfl (by kernel_rfl) Tryd.func3 (by kernel_rfl)
    (of_decide_eq_true (by kernel_rfl)) (by unfold Func.isWrapper; first | (rw [if_pos (by decide +kernel)]; kernel_rfl) | (rw [if_neg (by decide +kernel)]; exact ⟨rfl, rfl⟩))
    (fun os started H enc _ => natExponents_lifted os started H enc)
theorem natExponents_holds : Rows.NatExponentsCardSaid :=
  Claim7.holds_tied_plain_at .later [] Rows.natExponentsCard.laidKinds true Rows.natExponentsCard.stood.harness Rows.natExponentsCard.stood.looks natExponents_said (fun _ h => by cases h) (by kernel_rfl) (fun _ h => by cases h) natExponents_row_tie rfl ⟨rfl, rfl⟩ (by kernel_rfl) rfl
    (fun f fn hf hfn => by
      obtain rfl : f = 3 := Option.some.inj ((show Tryd.prog.funcNamed "privhouse/privhouselaw01.NatExponents" = some 3 by kernel_rfl).symm.trans hf) |>.symm
      obtain rfl : fn = Tryd.f3 := (Option.some.inj (Tryd.func3.symm.trans hfn)).symm
      exact ⟨by kernel_rfl, fun j t ht => by
        rw [Tryd.params3] at ht
        have hm : t ∈ [22, 22, 3, 3] := by simpa using Array.mem_of_getElem? ht
        have hall : ([22, 22, 3, 3].all fun u => !Tryd.prog.wantsStandIn u) = true := by kernel_rfl
        exact (show Tryd.prog.wantsStandIn t = false by simpa using List.all_eq_true.1 hall t hm)⟩)
    (by kernel_rfl)
end Go.Proofs.YtnohojjjfconfaaDoor
