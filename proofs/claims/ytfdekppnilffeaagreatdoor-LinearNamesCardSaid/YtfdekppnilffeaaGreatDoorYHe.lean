/-
  The law LinearNames: it returns true. Printed by names27.py.
  Conditions: the library's table of powers of ten is laid.
-/
import Derived.Test.YtfdekppnilffeaaGreatDoorYHd
set_option linter.unusedSimpArgs false
set_option linter.unusedVariables false
set_option maxHeartbeats 8000000
namespace Go.Proofs.YtfdekppnilffeaaGreatDoor
open Go Go.Proofs Go.RowKit Go.Lib

theorem xe_form : XErr [[[49], [50]], [[51]]] 3 := .inr (.inr (.inl ⟨by decide, by decide, by decide, by decide, 1, by decide, fun j hj => by
  obtain rfl : j = 0 := by omega
  exact ⟨rfl, (show VChk (rw' [[[49], [50]], [[51]]] 0) by decide +kernel).ok⟩, .inl ⟨by decide, rfl⟩⟩))
theorem xe_nil : XErr [] 3 := .inl ⟨.inl rfl, rfl⟩
theorem xe_empty : XErr [[]] 3 := .inl ⟨.inr rfl, rfl⟩
theorem xe_long (l : List Tx) (h : 64 < l.length) : XErr [l] 4 := .inr (.inl ⟨by simp, by show 0 < l.length; omega, .inr h, rfl⟩)
theorem ve_22 : VErr [[50, 47, 50]] 3 := .inr (.inr (.inl ⟨by decide, by decide, 0, by decide, fun j hj => absurd hj (by omega), .inr (.inr (.inl ⟨⟨form_chk (by decide), by decide, fun _ => ⟨by decide, form_chk (by decide), by decide, by decide⟩⟩, by decide, by decide, by decide +kernel, rfl⟩)), by decide⟩))
theorem rep_getD {n i : Nat} (hi : i < n) : (List.replicate n ([48] : Tx)).getD i [] = [48] := by simp [List.getD, hi]

set_option maxRecDepth 100000 in
theorem linearNames_calls (w : World) (ht : TabOk w) : Calls Tryz.prog 7 #[] w (Ret fun v w' => v = .bool true ∧ Below w.heap.size w w') := by
  refine enter Tryz.func7 rfl Tryz.ntmps7 (Nat.le_of_ble_eq_true rfl) ?_
  refine dr U 600 rfl trivial ?_
  refine call (f := 9) rfl rfl cb9 (lives27_calls w ht) ?_
  rintro v w1 ⟨rfl, hB1⟩
  refine ⟨_, rfl, ?_⟩
  refine dr U 600 rfl trivial ?_
  refine bsv U (strs [[49], [50]]) rfl rfl rfl rfl rfl rfl (by decide) (by decide) rfl ?_
  intro w2 hk2 hz2 hg2
  have hs2 : Below w1.heap.size w1 w2 := (Below.refl _ _).grown hg2 (Nat.le_refl _) (fun k e => by cases e)
  have hr2 := hs2
  have hmr0 := lit_bk (n := 2) (c := 2) hk2 rfl
  refine bsv U (strs [[50], [52]]) rfl rfl rfl rfl rfl rfl (by decide) (by decide) rfl ?_
  intro w3 hk3 hz3 hg3
  have hs3 : Below w2.heap.size w2 w3 := (Below.refl _ _).grown hg3 (Nat.le_refl _) (fun k e => by cases e)
  have hr3 := bl_tr hr2 hs3 hr2.size
  have hmr0 := hmr0.stay hs3
  have hmr1 := lit_bk (n := 2) (c := 2) hk3 rfl
  refine bsv U [.slice (some ⟨w1.heap.size, 0, none⟩) 2 2, .slice (some ⟨w2.heap.size, 0, none⟩) 2 2] rfl rfl rfl rfl rfl rfl (by decide) (by decide) rfl ?_
  intro w4 hk4 hz4 hg4
  have hs4 : Below w3.heap.size w3 w4 := (Below.refl _ _).grown hg4 (Nat.le_refl _) (fun k e => by cases e)
  have hr4 := bl_tr hr3 hs4 hr3.size
  have hmr0 := hmr0.stay hs4
  have hmr1 := hmr1.stay hs4
  have hm := rwl_bk (xss := [[[49], [50]], [[50], [52]]]) hk4 ⟨hmr0, hmr1, trivial⟩
  refine bsv U (strs [[49], [50]]) rfl rfl rfl rfl rfl rfl (by decide) (by decide) rfl ?_
  intro w5 hk5 hz5 hg5
  have hs5 : Below w4.heap.size w4 w5 := (Below.refl _ _).grown hg5 (Nat.le_refl _) (fun k e => by cases e)
  have hr5 := bl_tr hr4 hs5 hr4.size
  have hm := hm.stay hs5
  have hv := lit_bk (n := 2) (c := 2) hk5 rfl
  have ht6 := ht.below (bl_tr hB1 hr5 hB1.size)
  refine call (f := 12) rfl rfl cb12 (lSolve_x en1 (by decide +kernel) (by decide +kernel) _ _ _ _ _ _ w5 hm hv ht6 rfl) ?_
  rintro v w6 ⟨⟨a6, c6, rfl, hS6, hC6, hA6⟩, hq6⟩
  have hs6 : Below w5.heap.size w5 w6 := hq6
  have hr6 := bl_tr hr5 hs6 hr5.size
  refine ⟨_, rfl, ?_⟩
  refine dr U 600 rfl trivial ?_
  have hB6 := bl_tr hB1 hr6 hB1.size
  refine bsv U (strs [[50], [49]]) rfl rfl rfl rfl rfl rfl (by decide) (by decide) rfl ?_
  intro w7 hk7 hz7 hg7
  have hs7 : Below w6.heap.size w6 w7 := (Below.refl _ _).grown hg7 (Nat.le_refl _) (fun k e => by cases e)
  have hr7 := hs7
  have hmr0 := lit_bk (n := 2) (c := 2) hk7 rfl
  refine bsv U (strs [[49], [49]]) rfl rfl rfl rfl rfl rfl (by decide) (by decide) rfl ?_
  intro w8 hk8 hz8 hg8
  have hs8 : Below w7.heap.size w7 w8 := (Below.refl _ _).grown hg8 (Nat.le_refl _) (fun k e => by cases e)
  have hr8 := bl_tr hr7 hs8 hr7.size
  have hmr0 := hmr0.stay hs8
  have hmr1 := lit_bk (n := 2) (c := 2) hk8 rfl
  refine bsv U [.slice (some ⟨w6.heap.size, 0, none⟩) 2 2, .slice (some ⟨w7.heap.size, 0, none⟩) 2 2] rfl rfl rfl rfl rfl rfl (by decide) (by decide) rfl ?_
  intro w9 hk9 hz9 hg9
  have hs9 : Below w8.heap.size w8 w9 := (Below.refl _ _).grown hg9 (Nat.le_refl _) (fun k e => by cases e)
  have hr9 := bl_tr hr8 hs9 hr8.size
  have hmr0 := hmr0.stay hs9
  have hmr1 := hmr1.stay hs9
  have hm := rwl_bk (xss := [[[50], [49]], [[49], [49]]]) hk9 ⟨hmr0, hmr1, trivial⟩
  have ht10 := ht.below (bl_tr hB6 hr9 hB6.size)
  refine call (f := 27) rfl rfl cb27 (lInverse_x en2 (by decide +kernel) _ _ _ w9 hm ht10 rfl) ?_
  rintro v w10 ⟨⟨a10, c10, rfl, hS10⟩, hq10⟩
  have hs10 : Below w9.heap.size w9 w10 := hq10
  have hr10 := bl_tr hr9 hs10 hr9.size
  refine ⟨_, rfl, ?_⟩
  refine dr U 600 rfl trivial ?_
  have hRI := hS10
  have hB10 := bl_tr hB6 hr10 hB6.size
  refine bsv U (strs [[49], [50]]) rfl rfl rfl rfl rfl rfl (by decide) (by decide) rfl ?_
  intro w11 hk11 hz11 hg11
  have hs11 : Below w10.heap.size w10 w11 := (Below.refl _ _).grown hg11 (Nat.le_refl _) (fun k e => by cases e)
  have hr11 := hs11
  have hmr0 := lit_bk (n := 2) (c := 2) hk11 rfl
  refine bsv U (strs [[50], [52]]) rfl rfl rfl rfl rfl rfl (by decide) (by decide) rfl ?_
  intro w12 hk12 hz12 hg12
  have hs12 : Below w11.heap.size w11 w12 := (Below.refl _ _).grown hg12 (Nat.le_refl _) (fun k e => by cases e)
  have hr12 := bl_tr hr11 hs12 hr11.size
  have hmr0 := hmr0.stay hs12
  have hmr1 := lit_bk (n := 2) (c := 2) hk12 rfl
  refine bsv U (strs [[48], [48]]) rfl rfl rfl rfl rfl rfl (by decide) (by decide) rfl ?_
  intro w13 hk13 hz13 hg13
  have hs13 : Below w12.heap.size w12 w13 := (Below.refl _ _).grown hg13 (Nat.le_refl _) (fun k e => by cases e)
  have hr13 := bl_tr hr12 hs13 hr12.size
  have hmr0 := hmr0.stay hs13
  have hmr1 := hmr1.stay hs13
  have hmr2 := lit_bk (n := 2) (c := 2) hk13 rfl
  refine bsv U [.slice (some ⟨w10.heap.size, 0, none⟩) 2 2, .slice (some ⟨w11.heap.size, 0, none⟩) 2 2, .slice (some ⟨w12.heap.size, 0, none⟩) 2 2] rfl rfl rfl rfl rfl rfl (by decide) (by decide) rfl ?_
  intro w14 hk14 hz14 hg14
  have hs14 : Below w13.heap.size w13 w14 := (Below.refl _ _).grown hg14 (Nat.le_refl _) (fun k e => by cases e)
  have hr14 := bl_tr hr13 hs14 hr13.size
  have hmr0 := hmr0.stay hs14
  have hmr1 := hmr1.stay hs14
  have hmr2 := hmr2.stay hs14
  have hm := rwl_bk (xss := [[[49], [50]], [[50], [52]], [[48], [48]]]) hk14 ⟨hmr0, hmr1, hmr2, trivial⟩
  have ht15 := ht.below (bl_tr hB10 hr14 hB10.size)
  refine call (f := 14) rfl rfl cb14 (lRank_x en3 (by decide +kernel) _ _ _ w14 hm rfl) ?_
  rintro v w15 ⟨rfl, hq15⟩
  have hs15 : Below w14.heap.size w14 w15 := hq15
  have hr15 := bl_tr hr14 hs15 hr14.size
  refine ⟨_, rfl, ?_⟩
  refine dr U 600 rfl trivial ?_
  have hRI := hRI.stay hr15
  have hB15 := bl_tr hB10 hr15 hB10.size
  refine bsv U (strs [[49], [48]]) rfl rfl rfl rfl rfl rfl (by decide) (by decide) rfl ?_
  intro w16 hk16 hz16 hg16
  have hs16 : Below w15.heap.size w15 w16 := (Below.refl _ _).grown hg16 (Nat.le_refl _) (fun k e => by cases e)
  have hr16 := hs16
  have hmr0 := lit_bk (n := 2) (c := 2) hk16 rfl
  refine bsv U (strs [[48], [49]]) rfl rfl rfl rfl rfl rfl (by decide) (by decide) rfl ?_
  intro w17 hk17 hz17 hg17
  have hs17 : Below w16.heap.size w16 w17 := (Below.refl _ _).grown hg17 (Nat.le_refl _) (fun k e => by cases e)
  have hr17 := bl_tr hr16 hs17 hr16.size
  have hmr0 := hmr0.stay hs17
  have hmr1 := lit_bk (n := 2) (c := 2) hk17 rfl
  refine bsv U (strs [[49], [49]]) rfl rfl rfl rfl rfl rfl (by decide) (by decide) rfl ?_
  intro w18 hk18 hz18 hg18
  have hs18 : Below w17.heap.size w17 w18 := (Below.refl _ _).grown hg18 (Nat.le_refl _) (fun k e => by cases e)
  have hr18 := bl_tr hr17 hs18 hr17.size
  have hmr0 := hmr0.stay hs18
  have hmr1 := hmr1.stay hs18
  have hmr2 := lit_bk (n := 2) (c := 2) hk18 rfl
  refine bsv U [.slice (some ⟨w15.heap.size, 0, none⟩) 2 2, .slice (some ⟨w16.heap.size, 0, none⟩) 2 2, .slice (some ⟨w17.heap.size, 0, none⟩) 2 2] rfl rfl rfl rfl rfl rfl (by decide) (by decide) rfl ?_
  intro w19 hk19 hz19 hg19
  have hs19 : Below w18.heap.size w18 w19 := (Below.refl _ _).grown hg19 (Nat.le_refl _) (fun k e => by cases e)
  have hr19 := bl_tr hr18 hs19 hr18.size
  have hmr0 := hmr0.stay hs19
  have hmr1 := hmr1.stay hs19
  have hmr2 := hmr2.stay hs19
  have hm := rwl_bk (xss := [[[49], [48]], [[48], [49]], [[49], [49]]]) hk19 ⟨hmr0, hmr1, hmr2, trivial⟩
  refine bsv U (strs [[49], [49], [51]]) rfl rfl rfl rfl rfl rfl (by decide) (by decide) rfl ?_
  intro w20 hk20 hz20 hg20
  have hs20 : Below w19.heap.size w19 w20 := (Below.refl _ _).grown hg20 (Nat.le_refl _) (fun k e => by cases e)
  have hr20 := bl_tr hr19 hs20 hr19.size
  have hm := hm.stay hs20
  have hv := lit_bk (n := 3) (c := 3) hk20 rfl
  have ht21 := ht.below (bl_tr hB15 hr20 hB15.size)
  refine call (f := 17) rfl rfl cb17 (lLeast_x en4 (by decide +kernel) (by decide +kernel) _ _ _ _ _ _ w20 hm hv ht21 rfl) ?_
  rintro v w21 ⟨⟨a21, c21, rfl, hS21, hC21, hA21⟩, hq21⟩
  have hs21 : Below w20.heap.size w20 w21 := hq21
  have hr21 := bl_tr hr20 hs21 hr20.size
  refine ⟨_, rfl, ?_⟩
  refine dr U 600 rfl trivial ?_
  have hRL : Lit w21 (.slice a21 2 c21) [[52, 47, 51], [52, 47, 51]] := ⟨a21, c21, rfl, hS21⟩
  have hRI := hRI.stay hr21
  have hB21 := bl_tr hB15 hr21 hB15.size
  refine bsv U (strs [[49], [50]]) rfl rfl rfl rfl rfl rfl (by decide) (by decide) rfl ?_
  intro w22 hk22 hz22 hg22
  have hs22 : Below w21.heap.size w21 w22 := (Below.refl _ _).grown hg22 (Nat.le_refl _) (fun k e => by cases e)
  have hr22 := hs22
  have hmr0 := lit_bk (n := 2) (c := 2) hk22 rfl
  refine bsv U (strs [[51], [52]]) rfl rfl rfl rfl rfl rfl (by decide) (by decide) rfl ?_
  intro w23 hk23 hz23 hg23
  have hs23 : Below w22.heap.size w22 w23 := (Below.refl _ _).grown hg23 (Nat.le_refl _) (fun k e => by cases e)
  have hr23 := bl_tr hr22 hs23 hr22.size
  have hmr0 := hmr0.stay hs23
  have hmr1 := lit_bk (n := 2) (c := 2) hk23 rfl
  refine bsv U [.slice (some ⟨w21.heap.size, 0, none⟩) 2 2, .slice (some ⟨w22.heap.size, 0, none⟩) 2 2] rfl rfl rfl rfl rfl rfl (by decide) (by decide) rfl ?_
  intro w24 hk24 hz24 hg24
  have hs24 : Below w23.heap.size w23 w24 := (Below.refl _ _).grown hg24 (Nat.le_refl _) (fun k e => by cases e)
  have hr24 := bl_tr hr23 hs24 hr23.size
  have hmr0 := hmr0.stay hs24
  have hmr1 := hmr1.stay hs24
  have hm := rwl_bk (xss := [[[49], [50]], [[51], [52]]]) hk24 ⟨hmr0, hmr1, trivial⟩
  refine bsv U (strs [[48], [49]]) rfl rfl rfl rfl rfl rfl (by decide) (by decide) rfl ?_
  intro w25 hk25 hz25 hg25
  have hs25 : Below w24.heap.size w24 w25 := (Below.refl _ _).grown hg25 (Nat.le_refl _) (fun k e => by cases e)
  have hr25 := bl_tr hr24 hs25 hr24.size
  have hm := hm.stay hs25
  have hnr0 := lit_bk (n := 2) (c := 2) hk25 rfl
  refine bsv U (strs [[49], [48]]) rfl rfl rfl rfl rfl rfl (by decide) (by decide) rfl ?_
  intro w26 hk26 hz26 hg26
  have hs26 : Below w25.heap.size w25 w26 := (Below.refl _ _).grown hg26 (Nat.le_refl _) (fun k e => by cases e)
  have hr26 := bl_tr hr25 hs26 hr25.size
  have hm := hm.stay hs26
  have hnr0 := hnr0.stay hs26
  have hnr1 := lit_bk (n := 2) (c := 2) hk26 rfl
  refine bsv U [.slice (some ⟨w24.heap.size, 0, none⟩) 2 2, .slice (some ⟨w25.heap.size, 0, none⟩) 2 2] rfl rfl rfl rfl rfl rfl (by decide) (by decide) rfl ?_
  intro w27 hk27 hz27 hg27
  have hs27 : Below w26.heap.size w26 w27 := (Below.refl _ _).grown hg27 (Nat.le_refl _) (fun k e => by cases e)
  have hr27 := bl_tr hr26 hs27 hr26.size
  have hm := hm.stay hs27
  have hnr0 := hnr0.stay hs27
  have hnr1 := hnr1.stay hs27
  have hn := rwl_bk (xss := [[[48], [49]], [[49], [48]]]) hk27 ⟨hnr0, hnr1, trivial⟩
  have ht28 := ht.below (bl_tr hB21 hr27 hB21.size)
  refine call (f := 23) rfl rfl cb23 (lMul_x en5 (by decide +kernel) (by decide +kernel) _ _ _ _ _ _ w27 hm hn ht28 rfl rfl) ?_
  rintro v w28 ⟨⟨a28, c28, rfl, hS28⟩, hq28⟩
  have hs28 : Below w27.heap.size w27 w28 := hq28
  have hr28 := bl_tr hr27 hs28 hr27.size
  refine ⟨_, rfl, ?_⟩
  refine dr U 600 rfl trivial ?_
  have hRM := hS28
  have hRI := hRI.stay hr28
  have hRL := hRL.stay hr28
  have hB28 := bl_tr hB21 hr28 hB21.size
  refine bsv U (strs [[49], [50]]) rfl rfl rfl rfl rfl rfl (by decide) (by decide) rfl ?_
  intro w29 hk29 hz29 hg29
  have hs29 : Below w28.heap.size w28 w29 := (Below.refl _ _).grown hg29 (Nat.le_refl _) (fun k e => by cases e)
  have hr29 := hs29
  have hmr0 := lit_bk (n := 2) (c := 2) hk29 rfl
  refine bsv U (strs [[51], [52]]) rfl rfl rfl rfl rfl rfl (by decide) (by decide) rfl ?_
  intro w30 hk30 hz30 hg30
  have hs30 : Below w29.heap.size w29 w30 := (Below.refl _ _).grown hg30 (Nat.le_refl _) (fun k e => by cases e)
  have hr30 := bl_tr hr29 hs30 hr29.size
  have hmr0 := hmr0.stay hs30
  have hmr1 := lit_bk (n := 2) (c := 2) hk30 rfl
  refine bsv U [.slice (some ⟨w28.heap.size, 0, none⟩) 2 2, .slice (some ⟨w29.heap.size, 0, none⟩) 2 2] rfl rfl rfl rfl rfl rfl (by decide) (by decide) rfl ?_
  intro w31 hk31 hz31 hg31
  have hs31 : Below w30.heap.size w30 w31 := (Below.refl _ _).grown hg31 (Nat.le_refl _) (fun k e => by cases e)
  have hr31 := bl_tr hr30 hs31 hr30.size
  have hmr0 := hmr0.stay hs31
  have hmr1 := hmr1.stay hs31
  have hm := rwl_bk (xss := [[[49], [50]], [[51], [52]]]) hk31 ⟨hmr0, hmr1, trivial⟩
  refine bsv U (strs [[49, 47, 50], [49]]) rfl rfl rfl rfl rfl rfl (by decide) (by decide) rfl ?_
  intro w32 hk32 hz32 hg32
  have hs32 : Below w31.heap.size w31 w32 := (Below.refl _ _).grown hg32 (Nat.le_refl _) (fun k e => by cases e)
  have hr32 := bl_tr hr31 hs32 hr31.size
  have hm := hm.stay hs32
  have hv := lit_bk (n := 2) (c := 2) hk32 rfl
  have ht33 := ht.below (bl_tr hB28 hr32 hB28.size)
  refine call (f := 13) rfl rfl cb13 (lApply_x en6 (by decide +kernel) (by decide +kernel) _ _ _ _ _ _ w32 hm hv ht33 rfl) ?_
  rintro v w33 ⟨⟨a33, c33, rfl, hS33, hC33, hA33⟩, hq33⟩
  have hs33 : Below w32.heap.size w32 w33 := hq33
  have hr33 := bl_tr hr32 hs33 hr32.size
  refine ⟨_, rfl, ?_⟩
  refine dr U 600 rfl trivial ?_
  have hRA : Lit w33 (.slice a33 2 c33) [[53, 47, 50], [49, 49, 47, 50]] := ⟨a33, c33, rfl, hS33⟩
  have hRI := hRI.stay hr33
  have hRL := hRL.stay hr33
  have hRM := hRM.stay hr33
  have hB33 := bl_tr hB28 hr33 hB28.size
  refine bsv U (strs [[49], [50]]) rfl rfl rfl rfl rfl rfl (by decide) (by decide) rfl ?_
  intro w34 hk34 hz34 hg34
  have hs34 : Below w33.heap.size w33 w34 := (Below.refl _ _).grown hg34 (Nat.le_refl _) (fun k e => by cases e)
  have hr34 := hs34
  have hmr0 := lit_bk (n := 2) (c := 2) hk34 rfl
  refine bsv U [.slice (some ⟨w33.heap.size, 0, none⟩) 2 2] rfl rfl rfl rfl rfl rfl (by decide) (by decide) rfl ?_
  intro w35 hk35 hz35 hg35
  have hs35 : Below w34.heap.size w34 w35 := (Below.refl _ _).grown hg35 (Nat.le_refl _) (fun k e => by cases e)
  have hr35 := bl_tr hr34 hs35 hr34.size
  have hmr0 := hmr0.stay hs35
  have hm := rwl_bk (xss := [[[49], [50]]]) hk35 ⟨hmr0, trivial⟩
  refine bsv U (strs [[49], [50]]) rfl rfl rfl rfl rfl rfl (by decide) (by decide) rfl ?_
  intro w36 hk36 hz36 hg36
  have hs36 : Below w35.heap.size w35 w36 := (Below.refl _ _).grown hg36 (Nat.le_refl _) (fun k e => by cases e)
  have hr36 := bl_tr hr35 hs36 hr35.size
  have hm := hm.stay hs36
  have hnr0 := lit_bk (n := 2) (c := 2) hk36 rfl
  refine bsv U [.slice (some ⟨w35.heap.size, 0, none⟩) 2 2] rfl rfl rfl rfl rfl rfl (by decide) (by decide) rfl ?_
  intro w37 hk37 hz37 hg37
  have hs37 : Below w36.heap.size w36 w37 := (Below.refl _ _).grown hg37 (Nat.le_refl _) (fun k e => by cases e)
  have hr37 := bl_tr hr36 hs37 hr36.size
  have hm := hm.stay hs37
  have hnr0 := hnr0.stay hs37
  have hn := rwl_bk (xss := [[[49], [50]]]) hk37 ⟨hnr0, trivial⟩
  have ht38 := ht.below (bl_tr hB33 hr37 hB33.size)
  refine call (f := 23) rfl rfl cb23 (lMul_x en7 (by decide +kernel) (by decide +kernel) _ _ _ _ _ _ w37 hm hn ht38 rfl rfl) ?_
  rintro v w38 ⟨⟨a38, c38, rfl, hS38⟩, hq38⟩
  have hs38 : Below w37.heap.size w37 w38 := hq38
  have hr38 := bl_tr hr37 hs38 hr37.size
  refine ⟨_, rfl, ?_⟩
  refine dr U 600 rfl trivial ?_
  have hRI := hRI.stay hr38
  have hRL := hRL.stay hr38
  have hRM := hRM.stay hr38
  have hRA := hRA.stay hr38
  have hB38 := bl_tr hB33 hr38 hB33.size
  refine bsv U (strs [[49], [50]]) rfl rfl rfl rfl rfl rfl (by decide) (by decide) rfl ?_
  intro w39 hk39 hz39 hg39
  have hs39 : Below w38.heap.size w38 w39 := (Below.refl _ _).grown hg39 (Nat.le_refl _) (fun k e => by cases e)
  have hr39 := hs39
  have hmr0 := lit_bk (n := 2) (c := 2) hk39 rfl
  refine bsv U [.slice (some ⟨w38.heap.size, 0, none⟩) 2 2] rfl rfl rfl rfl rfl rfl (by decide) (by decide) rfl ?_
  intro w40 hk40 hz40 hg40
  have hs40 : Below w39.heap.size w39 w40 := (Below.refl _ _).grown hg40 (Nat.le_refl _) (fun k e => by cases e)
  have hr40 := bl_tr hr39 hs40 hr39.size
  have hmr0 := hmr0.stay hs40
  have hm := rwl_bk (xss := [[[49], [50]]]) hk40 ⟨hmr0, trivial⟩
  refine bsv U (strs [[49]]) rfl rfl rfl rfl rfl rfl (by decide) (by decide) rfl ?_
  intro w41 hk41 hz41 hg41
  have hs41 : Below w40.heap.size w40 w41 := (Below.refl _ _).grown hg41 (Nat.le_refl _) (fun k e => by cases e)
  have hr41 := bl_tr hr40 hs41 hr40.size
  have hm := hm.stay hs41
  have hv := lit_bk (n := 1) (c := 1) hk41 rfl
  have ht42 := ht.below (bl_tr hB38 hr41 hB38.size)
  refine call (f := 12) rfl rfl cb12 (lSolve_x en8 (by decide +kernel) (by decide +kernel) _ _ _ _ _ _ w41 hm hv ht42 rfl) ?_
  rintro v w42 ⟨⟨a42, c42, rfl, hS42, hC42, hA42⟩, hq42⟩
  have hs42 : Below w41.heap.size w41 w42 := hq42
  have hr42 := bl_tr hr41 hs42 hr41.size
  refine ⟨_, rfl, ?_⟩
  refine dr U 600 rfl trivial ?_
  have hRI := hRI.stay hr42
  have hRL := hRL.stay hr42
  have hRM := hRM.stay hr42
  have hRA := hRA.stay hr42
  have hB42 := bl_tr hB38 hr42 hB38.size
  refine bsv U (strs [[49], [50]]) rfl rfl rfl rfl rfl rfl (by decide) (by decide) rfl ?_
  intro w43 hk43 hz43 hg43
  have hs43 : Below w42.heap.size w42 w43 := (Below.refl _ _).grown hg43 (Nat.le_refl _) (fun k e => by cases e)
  have hr43 := hs43
  have hmr0 := lit_bk (n := 2) (c := 2) hk43 rfl
  refine bsv U [.slice (some ⟨w42.heap.size, 0, none⟩) 2 2] rfl rfl rfl rfl rfl rfl (by decide) (by decide) rfl ?_
  intro w44 hk44 hz44 hg44
  have hs44 : Below w43.heap.size w43 w44 := (Below.refl _ _).grown hg44 (Nat.le_refl _) (fun k e => by cases e)
  have hr44 := bl_tr hr43 hs44 hr43.size
  have hmr0 := hmr0.stay hs44
  have hm := rwl_bk (xss := [[[49], [50]]]) hk44 ⟨hmr0, trivial⟩
  refine bsv U (strs [[49]]) rfl rfl rfl rfl rfl rfl (by decide) (by decide) rfl ?_
  intro w45 hk45 hz45 hg45
  have hs45 : Below w44.heap.size w44 w45 := (Below.refl _ _).grown hg45 (Nat.le_refl _) (fun k e => by cases e)
  have hr45 := bl_tr hr44 hs45 hr44.size
  have hm := hm.stay hs45
  have hv := lit_bk (n := 1) (c := 1) hk45 rfl
  have ht46 := ht.below (bl_tr hB42 hr45 hB42.size)
  refine call (f := 17) rfl rfl cb17 (lLeast_x en9 (by decide +kernel) (by decide +kernel) _ _ _ _ _ _ w45 hm hv ht46 rfl) ?_
  rintro v w46 ⟨⟨a46, c46, rfl, hS46, hC46, hA46⟩, hq46⟩
  have hs46 : Below w45.heap.size w45 w46 := hq46
  have hr46 := bl_tr hr45 hs46 hr45.size
  refine ⟨_, rfl, ?_⟩
  refine dr U 600 rfl trivial ?_
  have hRI := hRI.stay hr46
  have hRL := hRL.stay hr46
  have hRM := hRM.stay hr46
  have hRA := hRA.stay hr46
  have hB46 := bl_tr hB42 hr46 hB42.size
  refine bsv U (strs [[49]]) rfl rfl rfl rfl rfl rfl (by decide) (by decide) rfl ?_
  intro w47 hk47 hz47 hg47
  have hs47 : Below w46.heap.size w46 w47 := (Below.refl _ _).grown hg47 (Nat.le_refl _) (fun k e => by cases e)
  have hr47 := hs47
  have hmr0 := lit_bk (n := 1) (c := 1) hk47 rfl
  refine bsv U (strs [[50]]) rfl rfl rfl rfl rfl rfl (by decide) (by decide) rfl ?_
  intro w48 hk48 hz48 hg48
  have hs48 : Below w47.heap.size w47 w48 := (Below.refl _ _).grown hg48 (Nat.le_refl _) (fun k e => by cases e)
  have hr48 := bl_tr hr47 hs48 hr47.size
  have hmr0 := hmr0.stay hs48
  have hmr1 := lit_bk (n := 1) (c := 1) hk48 rfl
  refine bsv U [.slice (some ⟨w46.heap.size, 0, none⟩) 1 1, .slice (some ⟨w47.heap.size, 0, none⟩) 1 1] rfl rfl rfl rfl rfl rfl (by decide) (by decide) rfl ?_
  intro w49 hk49 hz49 hg49
  have hs49 : Below w48.heap.size w48 w49 := (Below.refl _ _).grown hg49 (Nat.le_refl _) (fun k e => by cases e)
  have hr49 := bl_tr hr48 hs49 hr48.size
  have hmr0 := hmr0.stay hs49
  have hmr1 := hmr1.stay hs49
  have hm := rwl_bk (xss := [[[49]], [[50]]]) hk49 ⟨hmr0, hmr1, trivial⟩
  refine bsv U (strs [[49]]) rfl rfl rfl rfl rfl rfl (by decide) (by decide) rfl ?_
  intro w50 hk50 hz50 hg50
  have hs50 : Below w49.heap.size w49 w50 := (Below.refl _ _).grown hg50 (Nat.le_refl _) (fun k e => by cases e)
  have hr50 := bl_tr hr49 hs50 hr49.size
  have hm := hm.stay hs50
  have hv := lit_bk (n := 1) (c := 1) hk50 rfl
  have ht51 := ht.below (bl_tr hB46 hr50 hB46.size)
  refine call (f := 17) rfl rfl cb17 (lLeast_x en10 (by decide +kernel) (by decide +kernel) _ _ _ _ _ _ w50 hm hv ht51 rfl) ?_
  rintro v w51 ⟨⟨a51, c51, rfl, hS51, hC51, hA51⟩, hq51⟩
  have hs51 : Below w50.heap.size w50 w51 := hq51
  have hr51 := bl_tr hr50 hs51 hr50.size
  refine ⟨_, rfl, ?_⟩
  refine dr U 600 rfl trivial ?_
  have hRI := hRI.stay hr51
  have hRL := hRL.stay hr51
  have hRM := hRM.stay hr51
  have hRA := hRA.stay hr51
  have hB51 := bl_tr hB46 hr51 hB46.size
  refine bsv U (strs [[48]]) rfl rfl rfl rfl rfl rfl (by decide) (by decide) rfl ?_
  intro w52 hk52 hz52 hg52
  have hs52 : Below w51.heap.size w51 w52 := (Below.refl _ _).grown hg52 (Nat.le_refl _) (fun k e => by cases e)
  have hr52 := hs52
  have hmr0 := lit_bk (n := 1) (c := 1) hk52 rfl
  refine bsv U [.slice (some ⟨w51.heap.size, 0, none⟩) 1 1] rfl rfl rfl rfl rfl rfl (by decide) (by decide) rfl ?_
  intro w53 hk53 hz53 hg53
  have hs53 : Below w52.heap.size w52 w53 := (Below.refl _ _).grown hg53 (Nat.le_refl _) (fun k e => by cases e)
  have hr53 := bl_tr hr52 hs53 hr52.size
  have hmr0 := hmr0.stay hs53
  have hm := rwl_bk (xss := [[[48]]]) hk53 ⟨hmr0, trivial⟩
  have ht54 := ht.below (bl_tr hB51 hr53 hB51.size)
  refine call (f := 27) rfl rfl cb27 (lInverse_x en11 (by decide +kernel) _ _ _ w53 hm ht54 rfl) ?_
  rintro v w54 ⟨⟨a54, c54, rfl, hS54⟩, hq54⟩
  have hs54 : Below w53.heap.size w53 w54 := hq54
  have hr54 := bl_tr hr53 hs54 hr53.size
  refine ⟨_, rfl, ?_⟩
  refine dr U 600 rfl trivial ?_
  have hRI := hRI.stay hr54
  have hRL := hRL.stay hr54
  have hRM := hRM.stay hr54
  have hRA := hRA.stay hr54
  have hB54 := bl_tr hB51 hr54 hB51.size
  refine bsv U (strs [[49], [50]]) rfl rfl rfl rfl rfl rfl (by decide) (by decide) rfl ?_
  intro w55 hk55 hz55 hg55
  have hs55 : Below w54.heap.size w54 w55 := (Below.refl _ _).grown hg55 (Nat.le_refl _) (fun k e => by cases e)
  have hr55 := hs55
  have hmr0 := lit_bk (n := 2) (c := 2) hk55 rfl
  refine bsv U [.slice (some ⟨w54.heap.size, 0, none⟩) 2 2] rfl rfl rfl rfl rfl rfl (by decide) (by decide) rfl ?_
  intro w56 hk56 hz56 hg56
  have hs56 : Below w55.heap.size w55 w56 := (Below.refl _ _).grown hg56 (Nat.le_refl _) (fun k e => by cases e)
  have hr56 := bl_tr hr55 hs56 hr55.size
  have hmr0 := hmr0.stay hs56
  have hm := rwl_bk (xss := [[[49], [50]]]) hk56 ⟨hmr0, trivial⟩
  have ht57 := ht.below (bl_tr hB54 hr56 hB54.size)
  refine call (f := 25) rfl rfl cb25 (lTranspose_x en12 (by decide +kernel) _ _ _ w56 hm ht57 rfl) ?_
  rintro v w57 ⟨⟨a57, c57, rfl, hS57⟩, hq57⟩
  have hs57 : Below w56.heap.size w56 w57 := hq57
  have hr57 := bl_tr hr56 hs57 hr56.size
  refine ⟨_, rfl, ?_⟩
  refine dr U 600 rfl trivial ?_
  have hRT := hS57
  have hRI := hRI.stay hr57
  have hRL := hRL.stay hr57
  have hRM := hRM.stay hr57
  have hRA := hRA.stay hr57
  have hB57 := bl_tr hB54 hr57 hB54.size
  refine loopR (fun fr w' mm => ∃ (i : Nat) (al : Option Addr) (cl : Nat), fr = [(2, .int .i64 17), (3, .slice a10 2 c10), (5, .int .i64 1), (7, .slice a21 2 c21), (9, .slice a28 2 c28), (11, .slice a33 2 c33), (14, .int .i64 10), (16, .int .i64 10), (18, .int .i64 17), (20, .int .i64 10), (22, .int .i64 17), (23, .slice a57 2 c57), (25, .slice al i cl), (26, .int .i64 (i : Nat))] ∧ i ≤ 65 ∧ w'.ownsRow w57.heap.size 34 1 (.slice al i cl) i (strs (List.replicate i [48])) ∧ Below w57.heap.size w57 w' ∧ mm = 65 - i)
    ⟨0, none, 0, rfl, by omega, ⟨rfl, .inl ⟨rfl, rfl⟩⟩, Below.refl _ _, rfl⟩ ⟨rfl, rfl, rfl, rfl, rfl, rfl, rfl, rfl, rfl, rfl, rfl, rfl, rfl, rfl, trivial⟩ ?_
  rintro fr wl mm ⟨i, al, cl, rfl, hi, hol, hbl, rfl⟩
  refine dr U 600 rfl trivial ?_
  refine cS rfl rfl rfl rfl (fun hq => ?_) (fun hq => ?_)
  · refine dr U 600 rfl trivial ?_
    refine ap U (v := (.string ⟨⟨[48]⟩⟩)) rfl rfl rfl rfl rfl rfl (fun _ => rfl) rfl (fun _ => rfl) rfl rfl rfl hol hbl.size (by omega) (by decide) ?_
    intro a5 c5 w5 ho5 hg5
    have hb5 := hbl.grown hg5 hbl.size (fun g e => (own_block hol g e).1)
    have e5 : strs (List.replicate i [48]) ++ [Value.string ⟨⟨[48]⟩⟩] = strs (List.replicate (i + 1) [48]) := by rw [List.replicate_succ', strs, strs, List.map_append]; rfl
    rw [e5] at ho5
    refine dr U 600 rfl (by first | exact True.intro | (simp only [AllP, InR, List.nil_append, List.cons_append, and_true]; omega)) ?_
    exact rend _ _ ⟨i + 1, a5, c5, rfl, by omega, ho5, hb5, rfl⟩ (by omega) ⟨rfl, rfl, rfl, rfl, rfl, rfl, rfl, rfl, rfl, rfl, rfl, rfl, rfl, iv (by omega), trivial⟩
  obtain rfl : i = 65 := by omega
  have hRl : Lit wl (.slice al 65 cl) (List.replicate 65 [48]) := ⟨al, cl, by rw [List.length_replicate], own_sl hol⟩
  have hRI := hRI.stay hbl
  have hRL := hRL.stay hbl
  have hRM := hRM.stay hbl
  have hRA := hRA.stay hbl
  have hRT := hRT.stay hbl
  have hBl := bl_tr hB57 hbl hB57.size
  refine dr U 600 rfl trivial ?_
  refine cT rfl rfl rfl rfl ?_
  refine dr U 600 rfl trivial ?_
  refine bsv U (strs [[49], [45, 49]]) rfl rfl rfl rfl rfl rfl (by decide) (by decide) rfl ?_
  intro w58 hk58 hz58 hg58
  have hs58 : Below wl.heap.size wl w58 := (Below.refl _ _).grown hg58 (Nat.le_refl _) (fun k e => by cases e)
  have hr58 := hs58
  have hmr0 := lit_bk (n := 2) (c := 2) hk58 rfl
  refine bsv U (strs [[45, 49], [50]]) rfl rfl rfl rfl rfl rfl (by decide) (by decide) rfl ?_
  intro w59 hk59 hz59 hg59
  have hs59 : Below w58.heap.size w58 w59 := (Below.refl _ _).grown hg59 (Nat.le_refl _) (fun k e => by cases e)
  have hr59 := bl_tr hr58 hs59 hr58.size
  have hmr0 := hmr0.stay hs59
  have hmr1 := lit_bk (n := 2) (c := 2) hk59 rfl
  refine bsv U [.slice (some ⟨wl.heap.size, 0, none⟩) 2 2, .slice (some ⟨w58.heap.size, 0, none⟩) 2 2] rfl rfl rfl rfl rfl rfl (by decide) (by decide) rfl ?_
  intro w60 hk60 hz60 hg60
  have hs60 : Below w59.heap.size w59 w60 := (Below.refl _ _).grown hg60 (Nat.le_refl _) (fun k e => by cases e)
  have hr60 := bl_tr hr59 hs60 hr59.size
  have hmr0 := hmr0.stay hs60
  have hmr1 := hmr1.stay hs60
  have hm := rwl_bk (xss := [[[49], [45, 49]], [[45, 49], [50]]]) hk60 ⟨hmr0, hmr1, trivial⟩
  have hRI := hRI.stay hr60
  have hRL := hRL.stay hr60
  have hRM := hRM.stay hr60
  have hRA := hRA.stay hr60
  have hRT := hRT.stay hr60
  have hRl := hRl.stay hr60
  refine call (f := 26) rfl rfl cb26 (msame_x _ _ _ _ _ _ w60 hRI hm (LtM.lens (by decide +kernel)) (LtM.lens (by decide +kernel)) rfl rfl) ?_
  rintro v w61 ⟨rfl, hq61⟩
  have hr61 := bl_tr hr60 hq61 hr60.size
  have hRI := hRI.stay hq61
  have hRL := hRL.stay hq61
  have hRM := hRM.stay hq61
  have hRA := hRA.stay hq61
  have hRT := hRT.stay hq61
  have hRl := hRl.stay hq61
  rw [decide_eq_true rfl]
  refine ⟨_, rfl, ?_⟩
  refine dr U 600 rfl trivial ?_
  have hB61 := bl_tr hBl hr61 hBl.size
  refine cT rfl rfl rfl rfl ?_
  refine dr U 600 rfl trivial ?_
  refine bsv U (strs [[52, 47, 51], [52, 47, 51]]) rfl rfl rfl rfl rfl rfl (by decide) (by decide) rfl ?_
  intro w62 hk62 hz62 hg62
  have hs62 : Below w61.heap.size w61 w62 := (Below.refl _ _).grown hg62 (Nat.le_refl _) (fun k e => by cases e)
  have hr62 := hs62
  have hv := lit_bk (n := 2) (c := 2) hk62 rfl
  have hRI := hRI.stay hr62
  have hRL := hRL.stay hr62
  have hRM := hRM.stay hr62
  have hRA := hRA.stay hr62
  have hRT := hRT.stay hr62
  have hRl := hRl.stay hr62
  refine call (f := 15) rfl rfl cb15 (nsame_x _ _ _ _ _ _ w62 hRL hv (by decide) (by decide)) ?_
  rintro v w63 ⟨rfl, hq63⟩
  have hr63 := bl_tr hr62 hq63 hr62.size
  have hRI := hRI.stay hq63
  have hRL := hRL.stay hq63
  have hRM := hRM.stay hq63
  have hRA := hRA.stay hq63
  have hRT := hRT.stay hq63
  have hRl := hRl.stay hq63
  rw [decide_eq_true rfl]
  refine ⟨_, rfl, ?_⟩
  refine dr U 600 rfl trivial ?_
  have hB63 := bl_tr hB61 hr63 hB61.size
  refine bsv U (strs [[50], [49]]) rfl rfl rfl rfl rfl rfl (by decide) (by decide) rfl ?_
  intro w64 hk64 hz64 hg64
  have hs64 : Below w63.heap.size w63 w64 := (Below.refl _ _).grown hg64 (Nat.le_refl _) (fun k e => by cases e)
  have hr64 := hs64
  have hmr0 := lit_bk (n := 2) (c := 2) hk64 rfl
  refine bsv U (strs [[52], [51]]) rfl rfl rfl rfl rfl rfl (by decide) (by decide) rfl ?_
  intro w65 hk65 hz65 hg65
  have hs65 : Below w64.heap.size w64 w65 := (Below.refl _ _).grown hg65 (Nat.le_refl _) (fun k e => by cases e)
  have hr65 := bl_tr hr64 hs65 hr64.size
  have hmr0 := hmr0.stay hs65
  have hmr1 := lit_bk (n := 2) (c := 2) hk65 rfl
  refine bsv U [.slice (some ⟨w63.heap.size, 0, none⟩) 2 2, .slice (some ⟨w64.heap.size, 0, none⟩) 2 2] rfl rfl rfl rfl rfl rfl (by decide) (by decide) rfl ?_
  intro w66 hk66 hz66 hg66
  have hs66 : Below w65.heap.size w65 w66 := (Below.refl _ _).grown hg66 (Nat.le_refl _) (fun k e => by cases e)
  have hr66 := bl_tr hr65 hs66 hr65.size
  have hmr0 := hmr0.stay hs66
  have hmr1 := hmr1.stay hs66
  have hm := rwl_bk (xss := [[[50], [49]], [[52], [51]]]) hk66 ⟨hmr0, hmr1, trivial⟩
  have hRI := hRI.stay hr66
  have hRL := hRL.stay hr66
  have hRM := hRM.stay hr66
  have hRA := hRA.stay hr66
  have hRT := hRT.stay hr66
  have hRl := hRl.stay hr66
  refine call (f := 26) rfl rfl cb26 (msame_x _ _ _ _ _ _ w66 hRM hm (LtM.lens (by decide +kernel)) (LtM.lens (by decide +kernel)) rfl rfl) ?_
  rintro v w67 ⟨rfl, hq67⟩
  have hr67 := bl_tr hr66 hq67 hr66.size
  have hRI := hRI.stay hq67
  have hRL := hRL.stay hq67
  have hRM := hRM.stay hq67
  have hRA := hRA.stay hq67
  have hRT := hRT.stay hq67
  have hRl := hRl.stay hq67
  rw [decide_eq_true rfl]
  refine ⟨_, rfl, ?_⟩
  refine dr U 600 rfl trivial ?_
  have hB67 := bl_tr hB63 hr67 hB63.size
  refine bsv U (strs [[53, 47, 50], [49, 49, 47, 50]]) rfl rfl rfl rfl rfl rfl (by decide) (by decide) rfl ?_
  intro w68 hk68 hz68 hg68
  have hs68 : Below w67.heap.size w67 w68 := (Below.refl _ _).grown hg68 (Nat.le_refl _) (fun k e => by cases e)
  have hr68 := hs68
  have hv := lit_bk (n := 2) (c := 2) hk68 rfl
  have hRI := hRI.stay hr68
  have hRL := hRL.stay hr68
  have hRM := hRM.stay hr68
  have hRA := hRA.stay hr68
  have hRT := hRT.stay hr68
  have hRl := hRl.stay hr68
  refine call (f := 15) rfl rfl cb15 (nsame_x _ _ _ _ _ _ w68 hRA hv (by decide) (by decide)) ?_
  rintro v w69 ⟨rfl, hq69⟩
  have hr69 := bl_tr hr68 hq69 hr68.size
  have hRI := hRI.stay hq69
  have hRL := hRL.stay hq69
  have hRM := hRM.stay hq69
  have hRA := hRA.stay hq69
  have hRT := hRT.stay hq69
  have hRl := hRl.stay hq69
  rw [decide_eq_true rfl]
  refine ⟨_, rfl, ?_⟩
  refine dr U 600 rfl trivial ?_
  have hB69 := bl_tr hB67 hr69 hB67.size
  refine cT rfl rfl rfl rfl ?_
  refine dr U 600 rfl trivial ?_
  refine cT rfl rfl rfl rfl ?_
  refine dr U 600 rfl trivial ?_
  refine cT rfl rfl rfl rfl ?_
  refine dr U 600 rfl trivial ?_
  refine cT rfl rfl rfl rfl ?_
  refine dr U 600 rfl trivial ?_
  refine cT rfl rfl rfl rfl ?_
  refine dr U 600 rfl trivial ?_
  refine bsv U (strs [[49]]) rfl rfl rfl rfl rfl rfl (by decide) (by decide) rfl ?_
  intro w70 hk70 hz70 hg70
  have hs70 : Below w69.heap.size w69 w70 := (Below.refl _ _).grown hg70 (Nat.le_refl _) (fun k e => by cases e)
  have hr70 := hs70
  have hmr0 := lit_bk (n := 1) (c := 1) hk70 rfl
  refine bsv U (strs [[50]]) rfl rfl rfl rfl rfl rfl (by decide) (by decide) rfl ?_
  intro w71 hk71 hz71 hg71
  have hs71 : Below w70.heap.size w70 w71 := (Below.refl _ _).grown hg71 (Nat.le_refl _) (fun k e => by cases e)
  have hr71 := bl_tr hr70 hs71 hr70.size
  have hmr0 := hmr0.stay hs71
  have hmr1 := lit_bk (n := 1) (c := 1) hk71 rfl
  refine bsv U [.slice (some ⟨w69.heap.size, 0, none⟩) 1 1, .slice (some ⟨w70.heap.size, 0, none⟩) 1 1] rfl rfl rfl rfl rfl rfl (by decide) (by decide) rfl ?_
  intro w72 hk72 hz72 hg72
  have hs72 : Below w71.heap.size w71 w72 := (Below.refl _ _).grown hg72 (Nat.le_refl _) (fun k e => by cases e)
  have hr72 := bl_tr hr71 hs72 hr71.size
  have hmr0 := hmr0.stay hs72
  have hmr1 := hmr1.stay hs72
  have hm := rwl_bk (xss := [[[49]], [[50]]]) hk72 ⟨hmr0, hmr1, trivial⟩
  have hRI := hRI.stay hr72
  have hRL := hRL.stay hr72
  have hRM := hRM.stay hr72
  have hRA := hRA.stay hr72
  have hRT := hRT.stay hr72
  have hRl := hRl.stay hr72
  refine call (f := 26) rfl rfl cb26 (msame_x _ _ _ _ _ _ w72 hRT hm (LtM.lens (by decide +kernel)) (LtM.lens (by decide +kernel)) rfl rfl) ?_
  rintro v w73 ⟨rfl, hq73⟩
  have hr73 := bl_tr hr72 hq73 hr72.size
  have hRI := hRI.stay hq73
  have hRL := hRL.stay hq73
  have hRM := hRM.stay hq73
  have hRA := hRA.stay hq73
  have hRT := hRT.stay hq73
  have hRl := hRl.stay hq73
  rw [decide_eq_true rfl]
  refine ⟨_, rfl, ?_⟩
  refine dr U 600 rfl trivial ?_
  have hB73 := bl_tr hB69 hr73 hB69.size
  refine bsv U (strs [[49], [50]]) rfl rfl rfl rfl rfl rfl (by decide) (by decide) rfl ?_
  intro w74 hk74 hz74 hg74
  have hs74 : Below w73.heap.size w73 w74 := (Below.refl _ _).grown hg74 (Nat.le_refl _) (fun k e => by cases e)
  have hr74 := hs74
  have hmr0 := lit_bk (n := 2) (c := 2) hk74 rfl
  refine bsv U (strs [[51]]) rfl rfl rfl rfl rfl rfl (by decide) (by decide) rfl ?_
  intro w75 hk75 hz75 hg75
  have hs75 : Below w74.heap.size w74 w75 := (Below.refl _ _).grown hg75 (Nat.le_refl _) (fun k e => by cases e)
  have hr75 := bl_tr hr74 hs75 hr74.size
  have hmr0 := hmr0.stay hs75
  have hmr1 := lit_bk (n := 1) (c := 1) hk75 rfl
  refine bsv U [.slice (some ⟨w73.heap.size, 0, none⟩) 2 2, .slice (some ⟨w74.heap.size, 0, none⟩) 1 1] rfl rfl rfl rfl rfl rfl (by decide) (by decide) rfl ?_
  intro w76 hk76 hz76 hg76
  have hs76 : Below w75.heap.size w75 w76 := (Below.refl _ _).grown hg76 (Nat.le_refl _) (fun k e => by cases e)
  have hr76 := bl_tr hr75 hs76 hr75.size
  have hmr0 := hmr0.stay hs76
  have hmr1 := hmr1.stay hs76
  have hm := rwl_bk (xss := [[[49], [50]], [[51]]]) hk76 ⟨hmr0, hmr1, trivial⟩
  have hRI := hRI.stay hr76
  have hRL := hRL.stay hr76
  have hRM := hRM.stay hr76
  have hRA := hRA.stay hr76
  have hRT := hRT.stay hr76
  have hRl := hRl.stay hr76
  refine call (f := 30) rfl rfl cb30 (lcheck_calls [[[49], [50]], [[51]]] _ _ w76 hm (by decide) (by decide) (by decide)) ?_
  rintro v w77 ⟨⟨e, rfl, he⟩, hq77⟩
  have hr77 := bl_tr hr76 hq77 hr76.size
  have hRI := hRI.stay hq77
  have hRL := hRL.stay hq77
  have hRM := hRM.stay hq77
  have hRA := hRA.stay hq77
  have hRT := hRT.stay hq77
  have hRl := hRl.stay hq77
  obtain rfl := he.uniq xe_form
  refine ⟨_, rfl, ?_⟩
  refine dr U 600 rfl trivial ?_
  have hB77 := bl_tr hB73 hr77 hB73.size
  refine cT rfl rfl rfl rfl ?_
  refine dr U 600 rfl trivial ?_
  refine call (f := 30) rfl rfl cb30 (lcheck_calls [] none 0 w77 (SM.nil _) (by decide) (by decide) (by decide)) ?_
  rintro v w78 ⟨⟨e, rfl, he⟩, hq78⟩
  have hr78 := hq78
  have hRI := hRI.stay hq78
  have hRL := hRL.stay hq78
  have hRM := hRM.stay hq78
  have hRA := hRA.stay hq78
  have hRT := hRT.stay hq78
  have hRl := hRl.stay hq78
  obtain rfl := he.uniq xe_nil
  refine ⟨_, rfl, ?_⟩
  refine dr U 600 rfl trivial ?_
  have hB78 := bl_tr hB77 hr78 hB77.size
  refine cT rfl rfl rfl rfl ?_
  refine dr U 600 rfl trivial ?_
  refine bs0 U rfl rfl rfl rfl ?_
  intro w79 ho79 hz79 hg79
  have hs79 : Below w78.heap.size w78 w79 := (Below.refl _ _).grown hg79 (Nat.le_refl _) (fun k e => by cases e)
  have hr79 := hs79
  have he0 : Lit w79 (.slice (some ⟨w78.heap.size, 0, none⟩) 0 0) [] := ⟨_, _, rfl, Sl.nil _ _⟩
  refine bsv U [.slice (some ⟨w78.heap.size, 0, none⟩) 0 0] rfl rfl rfl rfl rfl rfl (by decide) (by decide) rfl ?_
  intro w80 hk80 hz80 hg80
  have hs80 : Below w79.heap.size w79 w80 := (Below.refl _ _).grown hg80 (Nat.le_refl _) (fun k e => by cases e)
  have hr80 := bl_tr hr79 hs80 hr79.size
  have he0 := he0.stay hs80
  have hm := rwl_bk (xss := [[]]) hk80 ⟨he0, trivial⟩
  have hRI := hRI.stay hr80
  have hRL := hRL.stay hr80
  have hRM := hRM.stay hr80
  have hRA := hRA.stay hr80
  have hRT := hRT.stay hr80
  have hRl := hRl.stay hr80
  refine call (f := 30) rfl rfl cb30 (lcheck_calls [[]] _ _ w80 hm (by decide) (by decide) (by decide)) ?_
  rintro v w81 ⟨⟨e, rfl, he⟩, hq81⟩
  have hr81 := bl_tr hr80 hq81 hr80.size
  have hRI := hRI.stay hq81
  have hRL := hRL.stay hq81
  have hRM := hRM.stay hq81
  have hRA := hRA.stay hq81
  have hRT := hRT.stay hq81
  have hRl := hRl.stay hq81
  obtain rfl := he.uniq xe_empty
  refine ⟨_, rfl, ?_⟩
  refine dr U 600 rfl trivial ?_
  have hB81 := bl_tr hB78 hr81 hB78.size
  refine cT rfl rfl rfl rfl ?_
  refine dr U 600 rfl trivial ?_
  refine bsv U [.slice al 65 cl] rfl rfl rfl rfl rfl rfl (by decide) (by decide) rfl ?_
  intro w82 hk82 hz82 hg82
  have hs82 : Below w81.heap.size w81 w82 := (Below.refl _ _).grown hg82 (Nat.le_refl _) (fun k e => by cases e)
  have hr82 := hs82
  have hRl := hRl.stay hs82
  have hm := rwl_bk (xss := [List.replicate 65 [48]]) hk82 ⟨hRl, trivial⟩
  have hRI := hRI.stay hr82
  have hRL := hRL.stay hr82
  have hRM := hRM.stay hr82
  have hRA := hRA.stay hr82
  have hRT := hRT.stay hr82
  refine call (f := 30) rfl rfl cb30 (lcheck_calls [List.replicate 65 [48]] _ _ w82 hm (by decide) (fun i hi => by
    obtain rfl : i = 0 := by simpa using hi
    show (List.replicate 65 [48]).length ≤ _
    rw [List.length_replicate]; omega) (fun i hi j hj => by
    obtain rfl : i = 0 := by simpa using hi
    have hj' : j < (List.replicate 65 ([48] : Tx)).length := hj
    rw [List.length_replicate] at hj'
    show ((List.replicate 65 ([48] : Tx)).getD j []).length ≤ _
    rw [rep_getD hj']; decide)) ?_
  rintro v w83 ⟨⟨e, rfl, he⟩, hq83⟩
  have hr83 := bl_tr hr82 hq83 hr82.size
  have hRI := hRI.stay hq83
  have hRL := hRL.stay hq83
  have hRM := hRM.stay hq83
  have hRA := hRA.stay hq83
  have hRT := hRT.stay hq83
  obtain rfl := he.uniq (xe_long _ (by rw [List.length_replicate]; omega))
  have hRl := hRl.stay hq83
  refine ⟨_, rfl, ?_⟩
  refine dr U 600 rfl trivial ?_
  have hB83 := bl_tr hB81 hr83 hB81.size
  refine cT rfl rfl rfl rfl ?_
  refine dr U 600 rfl trivial ?_
  refine call (f := 31) rfl rfl cb31 (lVector_calls [] none 0 w83 (Sl.nil _ _) (by decide) (by decide)) ?_
  rintro v w84 ⟨⟨e, rfl, he⟩, hq84⟩
  have hr84 := hq84
  have hRI := hRI.stay hq84
  have hRL := hRL.stay hq84
  have hRM := hRM.stay hq84
  have hRA := hRA.stay hq84
  have hRT := hRT.stay hq84
  have hRl := hRl.stay hq84
  obtain rfl := he.uniq (.inl ⟨rfl, rfl⟩)
  refine ⟨_, rfl, ?_⟩
  refine dr U 600 rfl trivial ?_
  have hB84 := bl_tr hB83 hr84 hB83.size
  refine cT rfl rfl rfl rfl ?_
  refine dr U 600 rfl trivial ?_
  refine call (f := 31) rfl rfl cb31 (lVector_calls (List.replicate 65 [48]) al cl w84 hRl.sl.1 (by rw [List.length_replicate]; omega) (fun j hj => by
    rw [List.length_replicate] at hj
    rw [rep_getD hj]; decide)) ?_
  rintro v w85 ⟨⟨e, rfl, he⟩, hq85⟩
  have hr85 := hq85
  have hRI := hRI.stay hq85
  have hRL := hRL.stay hq85
  have hRM := hRM.stay hq85
  have hRA := hRA.stay hq85
  have hRT := hRT.stay hq85
  have hRl := hRl.stay hq85
  obtain rfl := he.uniq (.inr (.inl ⟨by rw [List.length_replicate]; omega, rfl⟩))
  refine ⟨_, rfl, ?_⟩
  refine dr U 600 rfl trivial ?_
  have hB85 := bl_tr hB84 hr85 hB84.size
  refine cT rfl rfl rfl rfl ?_
  refine dr U 600 rfl trivial ?_
  refine bsv U (strs [[50, 47, 50]]) rfl rfl rfl rfl rfl rfl (by decide) (by decide) rfl ?_
  intro w86 hk86 hz86 hg86
  have hs86 : Below w85.heap.size w85 w86 := (Below.refl _ _).grown hg86 (Nat.le_refl _) (fun k e => by cases e)
  have hr86 := hs86
  have hv := lit_bk (n := 1) (c := 1) hk86 rfl
  have hRI := hRI.stay hr86
  have hRL := hRL.stay hr86
  have hRM := hRM.stay hr86
  have hRA := hRA.stay hr86
  have hRT := hRT.stay hr86
  have hRl := hRl.stay hr86
  refine call (f := 31) rfl rfl cb31 (lVector_calls [[50, 47, 50]] _ _ w86 hv.sl.1 (by decide) (by decide)) ?_
  rintro v w87 ⟨⟨e, rfl, he⟩, hq87⟩
  have hr87 := bl_tr hr86 hq87 hr86.size
  have hRI := hRI.stay hq87
  have hRL := hRL.stay hq87
  have hRM := hRM.stay hq87
  have hRA := hRA.stay hq87
  have hRT := hRT.stay hq87
  have hRl := hRl.stay hq87
  obtain rfl := he.uniq ve_22
  refine ⟨_, rfl, ?_⟩
  refine dr U 600 rfl trivial ?_
  have hB87 := bl_tr hB85 hr87 hB85.size
  refine cT rfl rfl rfl rfl ?_
  refine dr U 600 rfl trivial ?_
  refine call (f := 24) rfl rfl cb24 (lIdentity_calls 0 (by omega) w87 (ht.below hB87)) ?_
  rintro v w88 ⟨hid, hq88⟩
  obtain ⟨ai, ci, rfl⟩ : ∃ a c, v = .slice a 0 c := by
    rcases hid with ⟨h, rfl⟩ | ⟨h1, h2, a, c, rfl, _⟩ <;> first | exact ⟨_, _, rfl⟩ | (exfalso; omega)
  refine ⟨_, rfl, ?_⟩
  refine dr U 600 rfl trivial ?_
  have hB88 := bl_tr hB87 hq88 hB87.size
  refine cT rfl rfl rfl rfl ?_
  refine dr U 600 rfl trivial ?_
  refine call (f := 24) rfl rfl cb24 (lIdentity_calls 65 (by omega) w88 (ht.below hB88)) ?_
  rintro v w89 ⟨hid, hq89⟩
  obtain ⟨ai, ci, rfl⟩ : ∃ a c, v = .slice a 0 c := by
    rcases hid with ⟨h, rfl⟩ | ⟨h1, h2, a, c, rfl, _⟩ <;> first | exact ⟨_, _, rfl⟩ | (exfalso; omega)
  refine ⟨_, rfl, ?_⟩
  refine dr U 600 rfl trivial ?_
  have hB89 := bl_tr hB88 hq89 hB88.size
  refine cT rfl rfl rfl rfl ?_
  refine dr U 600 rfl trivial ?_
  refine call (f := 24) rfl rfl cb24 (lIdentity_calls 64 (by omega) w89 (ht.below hB89)) ?_
  rintro v w90 ⟨hid, hq90⟩
  obtain ⟨ai, ci, rfl⟩ : ∃ a c, v = .slice a 64 c := by
    rcases hid with ⟨h, rfl⟩ | ⟨h1, h2, a, c, rfl, _⟩ <;> first | exact ⟨_, _, rfl⟩ | (exfalso; omega)
  refine ⟨_, rfl, ?_⟩
  refine dr U 600 rfl trivial ?_
  have hB90 := bl_tr hB89 hq90 hB89.size
  refine cT rfl rfl rfl rfl ?_
  refine dr U 600 rfl trivial ?_
  exact ret Tryz.results7 rfl ⟨_, rfl, rfl, hB90⟩
end Go.Proofs.YtfdekppnilffeaaGreatDoor
