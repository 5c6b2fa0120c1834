/-
  The row and the tied card of BitsCalls: for every input the law returns true, and each argument reads afterwards as before.
  Conditions: the listed package-level variables start as the program's text lays them (the card ties them).
-/
import Derived.Test.YtcnbohfejgdcbaaGreatDoorYMetB
import Derived.Test.YtcnbohfejgdcbaaGreatDoorYLawJ
namespace Go.Proofs.YtcnbohfejgdcbaaGreatDoor
open Go Go.Proofs Go.RowKit Go.Lib Go.ChangeShapes Go.WideShapes Go.ChangeAt Go.ChangeMaps

set_option maxRecDepth 100000 in
theorem bitsCalls_lifted (os : Os) (started : os.Started) (H : Type) (enc : TypeId × Value → H) :
    ReturnsInHanded {} Tryz.checked os 8 .any (fun w args => (Rows.bitsCallsSpec.pre enc Tryz.prog Tryz.f8 Rows.bitsCallsRow.domain false w args ∧ laidMetH Tryz.prog Rows.bitsCallsRow.laid w) ∧ sizedMet enc Tryz.prog Tryz.f8 (OpenSpec.ofChange Rows.bitsCallsSpec) false w args)
      (Rows.bitsCallsSpec.post enc Tryz.prog Tryz.f8 false true false false) := by
  refine returnsInHanded_of_change_and (C := Tryz.checked) (X := fun w _ => laidMetH Tryz.prog Rows.bitsCallsRow.laid w) (fun _ _ _ hh h => h.of_heap hh) own started (by kernel_rfl) Tryz.func8
    (ChangeSpec.witness_shaped (enc := enc) (C := Tryz.checked) (os := os) (X := fun w _ => laidMetH Tryz.prog Rows.bitsCallsRow.laid w) false (World.laidAll Tryz.prog os Rows.bitsCallsRow.laid) #[.string ⟨#[]⟩, .string ⟨#[]⟩, .int .i64 0, .slice none 0 0, .slice none 0 0] 8 (World.laidAll_os _ _ _)
      (World.shaped_of_ZipB (by kernel_rfl) (by kernel_rfl)) (by kernel_rfl) (by kernel_rfl) (by kernel_rfl)
      (by rw [MakeChecks.laidMetH_plain _ _ _ (by kernel_rfl)]; exact laidMet_laidAll _ (by kernel_rfl) (by kernel_rfl))) ?_
  intro W base args ds gs before hval0 hW hc hS0 hL _
  have hS : (DataW.weightsEach Tryz.prog (Tryz.f8.params.toList ++ Rows.bitsCallsSpec.plain.varTypes Tryz.prog) (ds ++ gs)).all (· ≤ reachBytes) = true := hS0
  have hval : ∀ (j : Nat) t v, Tryz.f8.params[j]? = some t → args[j]? = some v → Value.okWide Tryz.prog W .any base t v := hval0
  have hW' := hW
  obtain ⟨p, q, hA0, hV, rfl, _, _⟩ := hW
  have hA : DataW.TrodAll enc Tryz.prog W 0 (fun _ => true) true Tryz.f8.params.toList args.toList ds p := hA0
  rw [Tryz.params8] at hA hval hS
  obtain ⟨v0, r0, d0, e0, p0, q0, hargs, rfl, rfl, h0, hA⟩ := trodAll_cons hA
  obtain ⟨v1, r1, d1, e1, p1, q1, rfl, rfl, rfl, h1, hA⟩ := trodAll_cons hA
  obtain ⟨v2, r2, d2, e2, p2, q2, rfl, rfl, rfl, h2, hA⟩ := trodAll_cons hA
  obtain ⟨v3, r3, d3, e3, p3, q3, rfl, rfl, rfl, h3, hA⟩ := trodAll_cons hA
  obtain ⟨v4, r4, d4, e4, p4, q4, rfl, rfl, rfl, h4, hA⟩ := trodAll_cons hA
  obtain ⟨rfl, rfl, rfl⟩ := trodAll_nil hA
  obtain rfl : args = #[v0, v1, v2, v3, v4] := by cases args; simp_all
  obtain ⟨rfl, rfl⟩ := trodVars_none hV
  obtain ⟨⟨⟨x⟩⟩, rfl, rfl, rfl, wx⟩ := open_string Tryz.underlying30 (hval 0 30 v0 rfl rfl) h0
  obtain ⟨⟨⟨y⟩⟩, rfl, rfl, rfl, wy⟩ := open_string Tryz.underlying27 (hval 1 27 v1 rfl rfl) h1
  obtain ⟨z, rfl, rfl, rfl, wz⟩ := open_int Tryz.underlying3 (hval 2 3 v2 rfl rfl) h2
  have hltu : ∀ q ∈ p3, q.block < W.heap.size := fun q hq => hW'.lt q (by simp [hq])
  obtain ⟨u, au, cu, rfl, su, lu⟩ := bytes_in (hval 3 40 v3 rfl rfl) h3
  have hltt_ : ∀ q ∈ p4, q.block < W.heap.size := fun q hq => hW'.lt q (by simp [hq])
  obtain ⟨t_, at_, ct_, rfl, st_, lt_⟩ := strings_in (hval 4 23 v4 rfl rfl) h4
  have lx : x.length ≤ 9223372036854775806 := Nat.le_trans (sized_string hS (j := 0) (t := 30) rfl rfl) (by decide)
  have ly : y.length ≤ 9223372036854775806 := Nat.le_trans (sized_string hS (j := 1) (t := 27) rfl rfl) (by decide)
  have lz : -9223372036854775808 ≤ z ∧ z ≤ 9223372036854775807 := by
    have h := wz
    simp only [Lit.wf, Bool.and_eq_true, decide_eq_true_eq] at h
    exact h
  have ht : TabOk W := tab_of_laid (by kernel_rfl) (by
    simp only [Rows.bitsCallsRow, List.mem_cons]
    (repeat first | exact .inl rfl | exact .inl trivial | apply Or.inr)) hL
  refine (bitsCalls_calls x y z u au cu t_ at_ ct_ lx ly lz W ht su lu st_ lt_).mono ?_
  rintro e W' ⟨v, rfl, rfl, hB⟩
  exact ⟨_, rfl, post_mem rfl hW' rfl Tryz.underlying4 rfl (⟨_, _, (shut_string Tryz.underlying30 wx), trodAll_mk4 (shut_string Tryz.underlying27 wy) (shut_int Tryz.underlying3 wz) (Below.trod laidOut (by kernel_rfl) (of_decide_eq_true (by kernel_rfl)) h3 hB hltu) (Below.trod laidOut (by kernel_rfl) (of_decide_eq_true (by kernel_rfl)) h4 hB hltt_), rfl⟩) rfl hB⟩

theorem bitsCalls_said : Rows.BitsCallsSaid :=
  OpenClaim.holds_of_wide 8 Tryz.f8 rfl rfl rfl rfl rfl rfl rfl ⟨rfl, rfl, rfl, rfl, rfl⟩ rfl rfl rfl rfl rfl (by kernel_rfl) Tryz.func8 (by kernel_rfl)
    (of_decide_eq_true (by kernel_rfl)) (by unfold Func.isWrapper; first | (rw [if_pos (by decide +kernel)]; kernel_rfl) | (rw [if_neg (by decide +kernel)]; exact ⟨rfl, rfl⟩))
    (fun os started H enc _ => bitsCalls_lifted os started H enc)
theorem bitsCalls_holds : Rows.BitsCallsCardSaid :=
  Claim7.holds_tied_plain_at .later [] Rows.bitsCallsCard.laidKinds true Rows.bitsCallsCard.stood.harness Rows.bitsCallsCard.stood.looks bitsCalls_said (fun _ h => by cases h) (by kernel_rfl) (fun _ h => by cases h) bitsCalls_row_tie rfl ⟨rfl, rfl⟩ (by kernel_rfl) rfl
    (fun f fn hf hfn => by
      obtain rfl : f = 8 := Option.some.inj ((show Tryz.prog.funcNamed "privhouse/privhouselaw03.BitsCalls" = some 8 by kernel_rfl).symm.trans hf) |>.symm
      obtain rfl : fn = Tryz.f8 := (Option.some.inj (Tryz.func8.symm.trans hfn)).symm
      exact ⟨by kernel_rfl, fun j t ht => by
        rw [Tryz.params8] at ht
        have hm : t ∈ [30, 27, 3, 40, 23] := by simpa using Array.mem_of_getElem? ht
        have hall : ([30, 27, 3, 40, 23].all fun u => !Tryz.prog.wantsStandIn u) = true := by kernel_rfl
        exact (show Tryz.prog.wantsStandIn t = false by simpa using List.all_eq_true.1 hall t hm)⟩)
    (by kernel_rfl)
end Go.Proofs.YtcnbohfejgdcbaaGreatDoor
