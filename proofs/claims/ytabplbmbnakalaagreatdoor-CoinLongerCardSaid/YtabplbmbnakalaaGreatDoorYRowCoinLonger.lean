/-
  The row and the tied card of CoinLonger: for every input the law returns true, and each argument reads afterwards as before.
  Conditions: the listed package-level variables start as the program's text lays them (the card ties them).
-/
import Derived.Test.YtabplbmbnakalaaGreatDoorYMet
import Derived.Test.YtabplbmbnakalaaGreatDoorYCm
namespace Go.Proofs.YtabplbmbnakalaaGreatDoor
open Go Go.Proofs Go.RowKit Go.Lib Go.ChangeShapes Go.WideShapes Go.ChangeAt Go.ChangeMaps

set_option maxRecDepth 100000 in
theorem coinLonger_lifted (os : Os) (started : os.Started) (H : Type) (enc : TypeId × Value → H) :
    ReturnsInHanded {} Tryz.checked os 3 .any (fun w args => (Rows.coinLongerSpec.pre enc Tryz.prog Tryz.f3 Rows.coinLongerRow.domain false w args ∧ laidMetH Tryz.prog Rows.coinLongerRow.laid w) ∧ sizedMet enc Tryz.prog Tryz.f3 (OpenSpec.ofChange Rows.coinLongerSpec) false w args)
      (Rows.coinLongerSpec.post enc Tryz.prog Tryz.f3 false true false false) := by
  refine returnsInHanded_of_change_and (C := Tryz.checked) (X := fun w _ => laidMetH Tryz.prog Rows.coinLongerRow.laid w) (fun _ _ _ hh h => h.of_heap hh) own started (by kernel_rfl) Tryz.func3
    (ChangeSpec.witness_shaped (enc := enc) (C := Tryz.checked) (os := os) (X := fun w _ => laidMetH Tryz.prog Rows.coinLongerRow.laid w) false (World.laidAll Tryz.prog os Rows.coinLongerRow.laid) #[.string ⟨#[]⟩, .string ⟨#[]⟩, .string ⟨#[]⟩] 8 (World.laidAll_os _ _ _)
      (World.shaped_of_ZipB (by kernel_rfl) (by kernel_rfl)) (by kernel_rfl) (by kernel_rfl) (by kernel_rfl)
      (by rw [MakeChecks.laidMetH_plain _ _ _ (by kernel_rfl)]; exact laidMet_laidAll _ (by kernel_rfl) (by kernel_rfl))) ?_
  intro W base args ds gs before hval0 hW hc hS0 hL _
  have hS : (DataW.weightsEach Tryz.prog (Tryz.f3.params.toList ++ Rows.coinLongerSpec.plain.varTypes Tryz.prog) (ds ++ gs)).all (· ≤ reachBytes) = true := hS0
  have hval : ∀ (j : Nat) t v, Tryz.f3.params[j]? = some t → args[j]? = some v → Value.okWide Tryz.prog W .any base t v := hval0
  have hW' := hW
  obtain ⟨p, q, hA0, hV, rfl, _, _⟩ := hW
  have hA : DataW.TrodAll enc Tryz.prog W 0 (fun _ => true) true Tryz.f3.params.toList args.toList ds p := hA0
  rw [Tryz.params3] at hA hval hS
  obtain ⟨v0, v1, v2, d0, d1, d2, p0, p1, p2, rfl, rfl, rfl, h0, h1, h2⟩ := trodAll_three hA
  obtain ⟨rfl, rfl⟩ := trodVars_none hV
  obtain ⟨⟨⟨x⟩⟩, rfl, rfl, rfl, wx⟩ := open_string Tryz.underlying22 (hval 0 22 v0 rfl rfl) h0
  obtain ⟨⟨⟨y⟩⟩, rfl, rfl, rfl, wy⟩ := open_string Tryz.underlying23 (hval 1 23 v1 rfl rfl) h1
  obtain ⟨⟨⟨z⟩⟩, rfl, rfl, rfl, wz⟩ := open_string Tryz.underlying23 (hval 2 23 v2 rfl rfl) h2
  have lx : x.length ≤ 9223372036854775806 := Nat.le_trans (sized_string hS (j := 0) (t := 22) rfl rfl) (by decide)
  have ly : y.length ≤ 9223372036854775806 := Nat.le_trans (sized_string hS (j := 1) (t := 23) rfl rfl) (by decide)
  have lz : z.length ≤ 9223372036854775806 := Nat.le_trans (sized_string hS (j := 2) (t := 23) rfl rfl) (by decide)
  have ht : TabOk W := tab_of_laid (by kernel_rfl) (by
    simp only [Rows.coinLongerRow, List.mem_cons]
    (repeat first | exact .inl rfl | exact .inl trivial | apply Or.inr)) hL
  refine (coinLonger_calls x y z lx ly lz W ht).mono ?_
  rintro e W' ⟨v, rfl, rfl, hB⟩
  exact ⟨_, rfl, post_plain rfl hW' rfl Tryz.underlying4 rfl (fun sp => trodAll_mk3 (shut_string Tryz.underlying22 wx) (shut_string Tryz.underlying23 wy) (shut_string Tryz.underlying23 wz)) rfl hB⟩

theorem coinLonger_said : Rows.CoinLongerSaid :=
  OpenClaim.holds_of_wide 3 Tryz.f3 rfl rfl rfl rfl rfl rfl rfl ⟨rfl, rfl, rfl, rfl, rfl⟩ rfl rfl rfl rfl rfl (by kernel_rfl) Tryz.func3 (by kernel_rfl)
    (of_decide_eq_true (by kernel_rfl)) (by unfold Func.isWrapper; first | (rw [if_pos (by decide +kernel)]; kernel_rfl) | (rw [if_neg (by decide +kernel)]; exact ⟨rfl, rfl⟩))
    (fun os started H enc _ => coinLonger_lifted os started H enc)
theorem coinLonger_holds : Rows.CoinLongerCardSaid :=
  Claim7.holds_tied_plain_at .later [] Rows.coinLongerCard.laidKinds true Rows.coinLongerCard.stood.harness Rows.coinLongerCard.stood.looks coinLonger_said (fun _ h => by cases h) (by kernel_rfl) (fun _ h => by cases h) coinLonger_row_tie rfl ⟨rfl, rfl⟩ (by kernel_rfl) rfl
    (fun f fn hf hfn => by
      obtain rfl : f = 3 := Option.some.inj ((show Tryz.prog.funcNamed "privhouse/privhouselaw04.CoinLonger" = some 3 by kernel_rfl).symm.trans hf) |>.symm
      obtain rfl : fn = Tryz.f3 := (Option.some.inj (Tryz.func3.symm.trans hfn)).symm
      exact ⟨by kernel_rfl, fun j t ht => by
        rw [Tryz.params3] at ht
        have hm : t ∈ [22, 23, 23] := by simpa using Array.mem_of_getElem? ht
        have hall : ([22, 23, 23].all fun u => !Tryz.prog.wantsStandIn u) = true := by kernel_rfl
        exact (show Tryz.prog.wantsStandIn t = false by simpa using List.all_eq_true.1 hall t hm)⟩)
    (by kernel_rfl)
end Go.Proofs.YtabplbmbnakalaaGreatDoor
