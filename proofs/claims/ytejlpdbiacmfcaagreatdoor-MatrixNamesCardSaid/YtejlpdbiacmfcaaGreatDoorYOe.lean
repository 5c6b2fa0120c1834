/-
  The law MatrixNames: it returns true. Printed by names28.py.
  Conditions: the library's table of powers of ten is laid.
-/
import Derived.Test.YtejlpdbiacmfcaaGreatDoorYOa
set_option linter.unusedSimpArgs false
set_option linter.unusedVariables false
set_option maxHeartbeats 8000000
set_option maxRecDepth 100000
namespace Go.Proofs.YtejlpdbiacmfcaaGreatDoor
open Go Go.Proofs Go.RowKit Go.Lib

theorem nm_a1 : applyF (strat 1 3) [5, 0, 2] = ([5, 5, 7], 0) := by decide +kernel
theorem nm_e1 : ∀ i, i < 3 → mapp 3 (nrm (strat 1 3)) (fun i => if i = 0 then 5 else if i = 1 then 0 else 2) i = rhs (strat 1 3) (ratsI [5, 5, 7]) i (strat 1 3).length := by decide +kernel
theorem nm_t1 : txs 3 (fun i => if i = 0 then 5 else if i = 1 then 0 else 2) = [[53], [48], [50]] := by decide +kernel
theorem nm_s1 : SpdS 0 3 0 2 [51] 0 := .inr ⟨by decide +kernel, by decide, rfl, fun _ => 1, by decide +kernel, by decide +kernel⟩
theorem nm_s2 : SpdS 1 3 1 1 [50] 0 := .inr ⟨by decide +kernel, by decide, rfl, fun i => if i = 0 then -1 else if i = 1 then 2 else -1, by decide +kernel, by decide +kernel⟩
theorem nm_s3 : SpdS 3 3 0 0 [] 2 := .inl ⟨.inl (by decide +kernel), rfl, rfl⟩
theorem nm_q (s : Tx) (hs : QChk s) : QErr s 0 := qok_chk hs
theorem nm_v1 : VErr [[53], [48], [50]] 0 := .inr (.inr (.inr ⟨by decide, by decide, fun j hj => by
  have : j = 0 ∨ j = 1 ∨ j = 2 := by simp at hj; omega
  rcases this with rfl | rfl | rfl <;> exact nm_q _ (by decide +kernel), rfl⟩))
theorem nm_v2 : VErr [[49], [49]] 0 := .inr (.inr (.inr ⟨by decide, by decide, fun j hj => by
  have : j = 0 ∨ j = 1 := by simp at hj; omega
  rcases this with rfl | rfl <;> exact nm_q _ (by decide +kernel), rfl⟩))
theorem nm_w1 : AnsS [(0, 1), (1, 2)] [[53], [48], [50]] [[53], [50]] 0 := .inr (.inr (.inr ⟨nm_v1, by decide, by decide, by decide +kernel, rfl⟩))
theorem nm_w2 : AnsS [(2, 1)] [[49], [49]] [] 2 := .inr (.inr (.inl ⟨nm_v2, by decide, by decide, rfl, rfl⟩))
theorem nm_w3 : AnsS [] [] [] 3 := .inl ⟨by decide, .inl ⟨rfl, rfl⟩, rfl⟩
theorem nm_sm {xs : List Tx} {K : Nat} (h : ∀ j, j < xs.length → Small 10 (vval xs j)) (hK : xs.length ≤ 10) : ∀ lo k, lo + k ≤ xs.length → Small 4000 (sm k fun j => vval xs (lo + j)) := fun lo k hk =>
  small_mono (sm_small1 (K := 10) (n := k) (fun j hj => h (lo + j) (by omega)) k (Nat.le_refl _)) (by omega)
theorem nm_e0 : ∀ lo k, lo + k ≤ ([] : List Tx).length → Small 4000 (sm k fun j => vval ([] : List Tx) (lo + j)) := fun lo k hk => by
  obtain rfl : k = 0 := by simp at hk; omega
  exact small_mono small_zero (by omega)
theorem nm_small1 : ∀ j, j < [[53], [48], [50]].length → Small 10 (vval [[53], [48], [50]] j) := fun j hj => by
  have : j = 0 ∨ j = 1 ∨ j = 2 := by simp at hj; omega
  rcases this with rfl | rfl | rfl <;> exact ⟨by decide +kernel, by decide +kernel⟩
theorem nm_small2 : ∀ j, j < [[49], [49]].length → Small 10 (vval [[49], [49]] j) := fun j hj => by
  have : j = 0 ∨ j = 1 := by simp at hj; omega
  rcases this with rfl | rfl <;> exact ⟨by decide +kernel, by decide +kernel⟩

theorem matrixNames_calls (w : World) (ht : TabOk w) : Calls Tryz.prog 3 #[] w (Ret fun v w' => v = .bool true ∧ Below w.heap.size w w') := by
  refine enter Tryz.func3 rfl Tryz.ntmps3 (Nat.le_of_ble_eq_true rfl) ?_
  refine dr U 600 rfl trivial ?_
  have hB := Below.refl w.heap.size w
  refine call (f := 9) rfl rfl cb9 (lives28_calls w ht) ?_
  rintro v w1 ⟨rfl, hq1⟩
  have ht := ht.below hq1
  have hB := bl_tr hB hq1 hB.size
  refine ⟨_, rfl, ?_⟩
  refine dr U 600 rfl trivial ?_
  refine call (f := 11) rfl rfl cb11 (mstrat_calls 1 3 w1) ?_
  rintro v w2 ⟨⟨a1, c1, rfl, hO1, _⟩, hq2⟩
  have ht := ht.below hq2
  have hB := bl_tr hB hq2 hB.size
  refine ⟨_, rfl, ?_⟩
  refine bsv U (ivs [5, 0, 2]) rfl rfl rfl rfl rfl rfl (by decide) (by decide) rfl ?_
  intro w3 hk3 hz3 hg3
  have hq3 : Below w2.heap.size w2 w3 := (Below.refl _ _).grown hg3 (Nat.le_refl _) (fun k e => by cases e)
  have hO1 := hO1.stay hq3
  have ht := ht.below hq3
  have hB := bl_tr hB hq3 hB.size
  have hl1 := liti_bk (n := 3) (c := 3) (xs := [5, 0, 2]) hk3 rfl
  refine call (f := 10) rfl rfl cb10 (mapply_x nm_a1 (strat_lenz _ _) (by decide) _ _ _ _ _ _ w3 hO1.sz hl1 rfl) ?_
  rintro v w4 ⟨⟨a2, c2, rfl, hA⟩, hq4⟩
  have hO1 := hO1.stay hq4
  have hl1 := hl1.stay hq4
  have ht := ht.below hq4
  have hB := bl_tr hB hq4 hB.size
  refine ⟨_, rfl, ?_⟩
  refine dr U 600 rfl trivial ?_
  refine bsv U (ivs [5, 5, 7]) rfl rfl rfl rfl rfl rfl (by decide) (by decide) rfl ?_
  intro w5 hk5 hz5 hg5
  have hq5 : Below w4.heap.size w4 w5 := (Below.refl _ _).grown hg5 (Nat.le_refl _) (fun k e => by cases e)
  have hA := hA.stay hq5
  have ht := ht.below hq5
  have hB := bl_tr hB hq5 hB.size
  have hl2 := liti_bk (n := 3) (c := 3) (xs := [5, 5, 7]) hk5 rfl
  refine call (f := 12) rfl rfl cb12 (mest_x 1 3 [5, 5, 7] _ (by decide +kernel) (by decide +kernel) (by decide +kernel) (by omega) nm_e1 _ _ _ w5 hl2 ht) ?_
  rintro v w6 ⟨⟨a3, c3, rfl, hE, _⟩, hq6⟩
  have hA := hA.stay hq6
  have hl2 := hl2.stay hq6
  have ht := ht.below hq6
  have hB := bl_tr hB hq6 hB.size
  refine ⟨_, rfl, ?_⟩
  refine dr U 600 rfl trivial ?_
  refine bdp rfl rfl rfl rfl ?_
  refine bdp rfl rfl rfl rfl ?_
  refine bsS U [[.int .i64 0, .int .i64 1], [.int .i64 1, .int .i64 2]] rfl rfl rfl rfl rfl rfl (by decide) (by decide) (by intro cs h; simp at h; rcases h with rfl | rfl <;> rfl) ?_
  intro w7 hk7 hz7 hg7
  have hq7 : Below w6.heap.size w6 w7 := (Below.refl _ _).grown hg7 (Nat.le_refl _) (fun k e => by cases e)
  have hA := hA.stay hq7
  have hE := hE.stay hq7
  have ht := ht.below hq7
  have hB := bl_tr hB hq7 hB.size
  have hp1 := litp_bk (n := 2) (c := 2) (rs := [(0, 1), (1, 2)]) hk7 rfl rfl
  refine bsv U (strs [[53], [48], [50]]) rfl rfl rfl rfl rfl rfl (by decide) (by decide) rfl ?_
  intro w8 hk8 hz8 hg8
  have hq8 : Below w7.heap.size w7 w8 := (Below.refl _ _).grown hg8 (Nat.le_refl _) (fun k e => by cases e)
  have hA := hA.stay hq8
  have hE := hE.stay hq8
  have hp1 := hp1.stay hq8
  have ht := ht.below hq8
  have hB := bl_tr hB hq8 hB.size
  have hx1 := lit_bk (n := 3) (c := 3) (xs := [[53], [48], [50]]) hk8 rfl
  refine call (f := 13) rfl rfl cb13 (mans_x nm_w1 (by decide) ⟨by decide, by decide⟩ (fun _ j hj => small_mono (nm_small1 j hj) (by omega)) (fun _ => nm_sm (K := 0) nm_small1 (by decide)) _ _ _ _ _ _ w8 hp1 hx1 (by omega) ht) ?_
  rintro v w9 ⟨⟨a4, c4, rfl, hW⟩, hq9⟩
  have hA := hA.stay hq9
  have hE := hE.stay hq9
  have hp1 := hp1.stay hq9
  have hx1 := hx1.stay hq9
  have ht := ht.below hq9
  have hB := bl_tr hB hq9 hB.size
  refine ⟨_, rfl, ?_⟩
  refine dr U 600 rfl trivial ?_
  refine call (f := 14) rfl rfl cb14 (mspd_x nm_s1 (by omega) w9 ht) ?_
  rintro v w10 ⟨rfl, hq10⟩
  have hA := hA.stay hq10
  have hE := hE.stay hq10
  have hW := hW.stay hq10
  have ht := ht.below hq10
  have hB := bl_tr hB hq10 hB.size
  refine ⟨_, rfl, ?_⟩
  refine dr U 600 rfl trivial ?_
  refine call (f := 14) rfl rfl cb14 (mspd_x nm_s2 (by omega) w10 ht) ?_
  rintro v w11 ⟨rfl, hq11⟩
  have hA := hA.stay hq11
  have hE := hE.stay hq11
  have hW := hW.stay hq11
  have ht := ht.below hq11
  have hB := bl_tr hB hq11 hB.size
  refine ⟨_, rfl, ?_⟩
  refine dr U 600 rfl trivial ?_
  refine bsv U (ivs [1]) rfl rfl rfl rfl rfl rfl (by decide) (by decide) rfl ?_
  intro w12 hk12 hz12 hg12
  have hq12 : Below w11.heap.size w11 w12 := (Below.refl _ _).grown hg12 (Nat.le_refl _) (fun k e => by cases e)
  have hA := hA.stay hq12
  have hE := hE.stay hq12
  have hW := hW.stay hq12
  have ht := ht.below hq12
  have hB := bl_tr hB hq12 hB.size
  have hl3 := liti_bk (n := 1) (c := 1) (xs := [1]) hk12 rfl
  refine call (f := 12) rfl rfl cb12 (mest_e 0 2 [1] 10 (by omega) (by decide) (.inr (.inl ⟨by decide +kernel, by decide +kernel, rfl⟩)) _ _ _ w12 hl3 ht) ?_
  rintro v w13 ⟨rfl, hq13⟩
  have hA := hA.stay hq13
  have hE := hE.stay hq13
  have hW := hW.stay hq13
  have hl3 := hl3.stay hq13
  have ht := ht.below hq13
  have hB := bl_tr hB hq13 hB.size
  refine ⟨_, rfl, ?_⟩
  refine dr U 600 rfl trivial ?_
  refine bdp rfl rfl rfl rfl ?_
  refine bsS U [[.int .i64 2, .int .i64 1]] rfl rfl rfl rfl rfl rfl (by decide) (by decide) (by intro cs h; simp at h; rcases h with rfl | rfl <;> rfl) ?_
  intro w14 hk14 hz14 hg14
  have hq14 : Below w13.heap.size w13 w14 := (Below.refl _ _).grown hg14 (Nat.le_refl _) (fun k e => by cases e)
  have hA := hA.stay hq14
  have hE := hE.stay hq14
  have hW := hW.stay hq14
  have ht := ht.below hq14
  have hB := bl_tr hB hq14 hB.size
  have hp2 := litp_bk (n := 1) (c := 1) (rs := [(2, 1)]) hk14 rfl rfl
  refine bsv U (strs [[49], [49]]) rfl rfl rfl rfl rfl rfl (by decide) (by decide) rfl ?_
  intro w15 hk15 hz15 hg15
  have hq15 : Below w14.heap.size w14 w15 := (Below.refl _ _).grown hg15 (Nat.le_refl _) (fun k e => by cases e)
  have hA := hA.stay hq15
  have hE := hE.stay hq15
  have hW := hW.stay hq15
  have hp2 := hp2.stay hq15
  have ht := ht.below hq15
  have hB := bl_tr hB hq15 hB.size
  have hx2 := lit_bk (n := 2) (c := 2) (xs := [[49], [49]]) hk15 rfl
  refine call (f := 13) rfl rfl cb13 (mans_x nm_w2 (by decide) ⟨by decide, by decide⟩ (fun _ j hj => small_mono (nm_small2 j hj) (by omega)) (fun _ => nm_sm (K := 0) nm_small2 (by decide)) _ _ _ _ _ _ w15 hp2 hx2 (by omega) ht) ?_
  rintro v w16 ⟨⟨a5, c5, rfl, _⟩, hq16⟩
  have hA := hA.stay hq16
  have hE := hE.stay hq16
  have hW := hW.stay hq16
  have hp2 := hp2.stay hq16
  have hx2 := hx2.stay hq16
  have ht := ht.below hq16
  have hB := bl_tr hB hq16 hB.size
  refine ⟨_, rfl, ?_⟩
  refine dr U 600 rfl trivial ?_
  refine bsv U (ivs [1]) rfl rfl rfl rfl rfl rfl (by decide) (by decide) rfl ?_
  intro w17 hk17 hz17 hg17
  have hq17 : Below w16.heap.size w16 w17 := (Below.refl _ _).grown hg17 (Nat.le_refl _) (fun k e => by cases e)
  have hA := hA.stay hq17
  have hE := hE.stay hq17
  have hW := hW.stay hq17
  have ht := ht.below hq17
  have hB := bl_tr hB hq17 hB.size
  have hm1r0 := liti_bk (n := 1) (c := 1) (xs := [1]) hk17 rfl
  refine bsv U [.slice (some ⟨w16.heap.size, 0, none⟩) 1 1] rfl rfl rfl rfl rfl rfl (by decide) (by decide) rfl ?_
  intro w18 hk18 hz18 hg18
  have hq18 : Below w17.heap.size w17 w18 := (Below.refl _ _).grown hg18 (Nat.le_refl _) (fun k e => by cases e)
  have hA := hA.stay hq18
  have hE := hE.stay hq18
  have hW := hW.stay hq18
  have hm1r0 := hm1r0.stay hq18
  have ht := ht.below hq18
  have hB := bl_tr hB hq18 hB.size
  have hm1 := rwi_bk (xss := [[1]]) hk18 ⟨hm1r0, trivial⟩
  refine bsv U (ivs [1, 2]) rfl rfl rfl rfl rfl rfl (by decide) (by decide) rfl ?_
  intro w19 hk19 hz19 hg19
  have hq19 : Below w18.heap.size w18 w19 := (Below.refl _ _).grown hg19 (Nat.le_refl _) (fun k e => by cases e)
  have hA := hA.stay hq19
  have hE := hE.stay hq19
  have hW := hW.stay hq19
  have hm1 := hm1.stay hq19
  have ht := ht.below hq19
  have hB := bl_tr hB hq19 hB.size
  have hl4 := liti_bk (n := 2) (c := 2) (xs := [1, 2]) hk19 rfl
  refine call (f := 10) rfl rfl cb10 (mapply_x (l := []) (e := 10) (by decide +kernel) (lenz_of (by decide) (by decide)) (by decide) _ _ _ _ _ _ w19 hm1 hl4 rfl) ?_
  rintro v w20 ⟨⟨a6, c6, rfl, _⟩, hq20⟩
  have hA := hA.stay hq20
  have hE := hE.stay hq20
  have hW := hW.stay hq20
  have hm1 := hm1.stay hq20
  have hl4 := hl4.stay hq20
  have ht := ht.below hq20
  have hB := bl_tr hB hq20 hB.size
  refine ⟨_, rfl, ?_⟩
  refine dr U 600 rfl trivial ?_
  refine bsv U (ivs [1]) rfl rfl rfl rfl rfl rfl (by decide) (by decide) rfl ?_
  intro w21 hk21 hz21 hg21
  have hq21 : Below w20.heap.size w20 w21 := (Below.refl _ _).grown hg21 (Nat.le_refl _) (fun k e => by cases e)
  have hA := hA.stay hq21
  have hE := hE.stay hq21
  have hW := hW.stay hq21
  have ht := ht.below hq21
  have hB := bl_tr hB hq21 hB.size
  have hm2r0 := liti_bk (n := 1) (c := 1) (xs := [1]) hk21 rfl
  refine bsv U [.slice (some ⟨w20.heap.size, 0, none⟩) 1 1] rfl rfl rfl rfl rfl rfl (by decide) (by decide) rfl ?_
  intro w22 hk22 hz22 hg22
  have hq22 : Below w21.heap.size w21 w22 := (Below.refl _ _).grown hg22 (Nat.le_refl _) (fun k e => by cases e)
  have hA := hA.stay hq22
  have hE := hE.stay hq22
  have hW := hW.stay hq22
  have hm2r0 := hm2r0.stay hq22
  have ht := ht.below hq22
  have hB := bl_tr hB hq22 hB.size
  have hm2 := rwi_bk (xss := [[1]]) hk22 ⟨hm2r0, trivial⟩
  refine bsv U (ivs [1000001]) rfl rfl rfl rfl rfl rfl (by decide) (by decide) rfl ?_
  intro w23 hk23 hz23 hg23
  have hq23 : Below w22.heap.size w22 w23 := (Below.refl _ _).grown hg23 (Nat.le_refl _) (fun k e => by cases e)
  have hA := hA.stay hq23
  have hE := hE.stay hq23
  have hW := hW.stay hq23
  have hm2 := hm2.stay hq23
  have ht := ht.below hq23
  have hB := bl_tr hB hq23 hB.size
  have hl5 := liti_bk (n := 1) (c := 1) (xs := [1000001]) hk23 rfl
  refine call (f := 10) rfl rfl cb10 (mapply_x (l := []) (e := 2) (by decide +kernel) (lenz_of (by decide) (by decide)) (by decide) _ _ _ _ _ _ w23 hm2 hl5 rfl) ?_
  rintro v w24 ⟨⟨a7, c7, rfl, _⟩, hq24⟩
  have hA := hA.stay hq24
  have hE := hE.stay hq24
  have hW := hW.stay hq24
  have hm2 := hm2.stay hq24
  have hl5 := hl5.stay hq24
  have ht := ht.below hq24
  have hB := bl_tr hB hq24 hB.size
  refine ⟨_, rfl, ?_⟩
  refine dr U 600 rfl trivial ?_
  refine call (f := 14) rfl rfl cb14 (mspd_x nm_s3 (by omega) w24 ht) ?_
  rintro v w25 ⟨rfl, hq25⟩
  have hA := hA.stay hq25
  have hE := hE.stay hq25
  have hW := hW.stay hq25
  have ht := ht.below hq25
  have hB := bl_tr hB hq25 hB.size
  refine ⟨_, rfl, ?_⟩
  refine dr U 600 rfl trivial ?_
  refine bsv U (ivs [(-9223372036854775808)]) rfl rfl rfl rfl rfl rfl (by decide) (by decide) rfl ?_
  intro w26 hk26 hz26 hg26
  have hq26 : Below w25.heap.size w25 w26 := (Below.refl _ _).grown hg26 (Nat.le_refl _) (fun k e => by cases e)
  have hA := hA.stay hq26
  have hE := hE.stay hq26
  have hW := hW.stay hq26
  have ht := ht.below hq26
  have hB := bl_tr hB hq26 hB.size
  have hl6 := liti_bk (n := 1) (c := 1) (xs := [(-9223372036854775808)]) hk26 rfl
  refine call (f := 12) rfl rfl cb12 (mest_e 0 1 [(-9223372036854775808)] 2 (by omega) (by decide) (.inr (.inr ⟨by decide +kernel, by decide +kernel, by decide +kernel, rfl⟩)) _ _ _ w26 hl6 ht) ?_
  rintro v w27 ⟨rfl, hq27⟩
  have hA := hA.stay hq27
  have hE := hE.stay hq27
  have hW := hW.stay hq27
  have hl6 := hl6.stay hq27
  have ht := ht.below hq27
  have hB := bl_tr hB hq27 hB.size
  refine ⟨_, rfl, ?_⟩
  refine dr U 600 rfl trivial ?_
  refine call (f := 13) rfl rfl cb13 (mans_x nm_w3 (by decide) ⟨by decide, by decide⟩ (fun _ j hj => absurd hj (by simp)) (fun _ => nm_e0) _ _ _ _ _ _ w27 ⟨none, 0, rfl, Sl.nil _ _⟩ ⟨none, 0, rfl, Sl.nil _ _⟩ (by omega) ht) ?_
  rintro v w28 ⟨⟨a8, c8, rfl, _⟩, hq28⟩
  have hA := hA.stay hq28
  have hE := hE.stay hq28
  have hW := hW.stay hq28
  have ht := ht.below hq28
  have hB := bl_tr hB hq28 hB.size
  refine ⟨_, rfl, ?_⟩
  refine dr U 600 rfl trivial ?_
  refine bsv U (ivs [5, 5, 7]) rfl rfl rfl rfl rfl rfl (by decide) (by decide) rfl ?_
  intro w29 hk29 hz29 hg29
  have hq29 : Below w28.heap.size w28 w29 := (Below.refl _ _).grown hg29 (Nat.le_refl _) (fun k e => by cases e)
  have hA := hA.stay hq29
  have hE := hE.stay hq29
  have hW := hW.stay hq29
  have ht := ht.below hq29
  have hB := bl_tr hB hq29 hB.size
  have hl7 := liti_bk (n := 3) (c := 3) (xs := [5, 5, 7]) hk29 rfl
  refine call (f := 15) rfl rfl cb15 (isame_x _ _ _ _ _ _ w29 hA hl7 (by decide) (by decide)) ?_
  rintro v w30 ⟨rfl, hq30⟩
  have hA := hA.stay hq30
  have hE := hE.stay hq30
  have hW := hW.stay hq30
  have hl7 := hl7.stay hq30
  have ht := ht.below hq30
  have hB := bl_tr hB hq30 hB.size
  refine ⟨_, rfl, ?_⟩
  rw [decide_eq_true rfl]
  refine dr U 600 rfl trivial ?_
  refine bsv U (strs [[53], [48], [50]]) rfl rfl rfl rfl rfl rfl (by decide) (by decide) rfl ?_
  intro w31 hk31 hz31 hg31
  have hq31 : Below w30.heap.size w30 w31 := (Below.refl _ _).grown hg31 (Nat.le_refl _) (fun k e => by cases e)
  have hE := hE.stay hq31
  have hW := hW.stay hq31
  have ht := ht.below hq31
  have hB := bl_tr hB hq31 hB.size
  have hx3 := lit_bk (n := 3) (c := 3) (xs := [[53], [48], [50]]) hk31 rfl
  refine call (f := 16) rfl rfl cb16 (nsame_x _ _ _ _ _ _ w31 hE hx3 (by rw [txs_length]; omega) (by decide)) ?_
  rintro v w32 ⟨rfl, hq32⟩
  have hE := hE.stay hq32
  have hW := hW.stay hq32
  have hx3 := hx3.stay hq32
  have ht := ht.below hq32
  have hB := bl_tr hB hq32 hB.size
  refine ⟨_, rfl, ?_⟩
  rw [decide_eq_true nm_t1]
  refine dr U 600 rfl trivial ?_
  refine bsv U (strs [[53], [50]]) rfl rfl rfl rfl rfl rfl (by decide) (by decide) rfl ?_
  intro w33 hk33 hz33 hg33
  have hq33 : Below w32.heap.size w32 w33 := (Below.refl _ _).grown hg33 (Nat.le_refl _) (fun k e => by cases e)
  have hW := hW.stay hq33
  have ht := ht.below hq33
  have hB := bl_tr hB hq33 hB.size
  have hx4 := lit_bk (n := 2) (c := 2) (xs := [[53], [50]]) hk33 rfl
  refine call (f := 16) rfl rfl cb16 (nsame_x _ _ _ _ _ _ w33 hW hx4 (by decide) (by decide)) ?_
  rintro v w34 ⟨rfl, hq34⟩
  have hW := hW.stay hq34
  have hx4 := hx4.stay hq34
  have ht := ht.below hq34
  have hB := bl_tr hB hq34 hB.size
  refine ⟨_, rfl, ?_⟩
  rw [decide_eq_true rfl]
  refine dr U 600 rfl trivial ?_
  refine cT rfl rfl rfl rfl ?_
  refine dr U 600 rfl trivial ?_
  refine cT rfl rfl rfl rfl ?_
  refine dr U 600 rfl trivial ?_
  refine cT rfl rfl rfl rfl ?_
  refine dr U 600 rfl trivial ?_
  refine cT rfl rfl rfl rfl ?_
  refine dr U 600 rfl trivial ?_
  refine cT rfl rfl rfl rfl ?_
  refine dr U 600 rfl trivial ?_
  refine cT rfl rfl rfl rfl ?_
  refine dr U 600 rfl trivial ?_
  refine cT rfl rfl rfl rfl ?_
  refine dr U 600 rfl trivial ?_
  refine cT rfl rfl rfl rfl ?_
  refine dr U 600 rfl trivial ?_
  refine cT rfl rfl rfl rfl ?_
  refine dr U 600 rfl trivial ?_
  refine call (f := 11) rfl rfl cb11 (mstrat_calls 3 2 w34) ?_
  rintro v w35 ⟨⟨b1, d1, rfl, _, _⟩, hq35⟩
  have ht := ht.below hq35
  have hB := bl_tr hB hq35 hB.size
  refine ⟨_, rfl, ?_⟩
  refine dr U 600 rfl trivial ?_
  refine cT rfl rfl rfl (by rw [show (strat 3 2).length = 0 by decide +kernel]; rfl) ?_
  refine dr U 600 rfl trivial ?_
  refine call (f := 11) rfl rfl cb11 (mstrat_calls 0 65 w35) ?_
  rintro v w36 ⟨⟨b2, d2, rfl, _, _⟩, hq36⟩
  have ht := ht.below hq36
  have hB := bl_tr hB hq36 hB.size
  refine ⟨_, rfl, ?_⟩
  refine dr U 600 rfl trivial ?_
  refine cT rfl rfl rfl (by rw [show (strat 0 65).length = 0 by decide +kernel]; rfl) ?_
  refine dr U 600 rfl trivial ?_
  refine call (f := 11) rfl rfl cb11 (mstrat_calls 0 0 w36) ?_
  rintro v w37 ⟨⟨b3, d3, rfl, _, _⟩, hq37⟩
  have ht := ht.below hq37
  have hB := bl_tr hB hq37 hB.size
  refine ⟨_, rfl, ?_⟩
  refine dr U 600 rfl trivial ?_
  refine cT rfl rfl rfl (by rw [show (strat 0 0).length = 0 by decide +kernel]; rfl) ?_
  refine dr U 600 rfl trivial ?_
  refine call (f := 11) rfl rfl cb11 (mstrat_calls 2 64 w37) ?_
  rintro v w38 ⟨⟨b4, d4, rfl, _, _⟩, hq38⟩
  have ht := ht.below hq38
  have hB := bl_tr hB hq38 hB.size
  refine ⟨_, rfl, ?_⟩
  refine dr U 600 rfl trivial ?_
  refine cT rfl rfl rfl (by rw [show (strat 2 64).length = 127 by decide +kernel]; rfl) ?_
  refine dr U 600 rfl trivial ?_
  refine call (f := 11) rfl rfl cb11 (mstrat_calls 2 3 w38) ?_
  rintro v w39 ⟨⟨b5, d5, rfl, hO5, _⟩, hq39⟩
  have ht := ht.below hq39
  have hB := bl_tr hB hq39 hB.size
  refine ⟨_, rfl, ?_⟩
  refine dr U 600 rfl trivial ?_
  refine call (f := 17) rfl rfl cb17 (mnorm_x (n := 3) (by decide +kernel) (strat_lenz _ _) _ _ _ w39 hO5.sz rfl) ?_
  rintro v w40 ⟨rfl, hq40⟩
  have hO5 := hO5.stay hq40
  have ht := ht.below hq40
  have hB := bl_tr hB hq40 hB.size
  refine ⟨_, rfl, ?_⟩
  refine dr U 600 rfl trivial ?_
  refine cT rfl rfl rfl rfl ?_
  refine dr U 600 rfl trivial ?_
  refine call (f := 11) rfl rfl cb11 (mstrat_calls 1 3 w40) ?_
  rintro v w41 ⟨⟨b6, d6, rfl, hO6, _⟩, hq41⟩
  have ht := ht.below hq41
  have hB := bl_tr hB hq41 hB.size
  refine ⟨_, rfl, ?_⟩
  refine dr U 600 rfl trivial ?_
  refine call (f := 17) rfl rfl cb17 (mnorm_x (n := 3) (by decide +kernel) (strat_lenz _ _) _ _ _ w41 hO6.sz rfl) ?_
  rintro v w42 ⟨rfl, hq42⟩
  have hO6 := hO6.stay hq42
  have ht := ht.below hq42
  have hB := bl_tr hB hq42 hB.size
  refine ⟨_, rfl, ?_⟩
  refine dr U 600 rfl trivial ?_
  refine cT rfl rfl rfl rfl ?_
  refine dr U 600 rfl trivial ?_
  refine call (f := 11) rfl rfl cb11 (mstrat_calls 0 3 w42) ?_
  rintro v w43 ⟨⟨b7, d7, rfl, hO7, _⟩, hq43⟩
  have ht := ht.below hq43
  have hB := bl_tr hB hq43 hB.size
  refine ⟨_, rfl, ?_⟩
  refine dr U 600 rfl trivial ?_
  refine call (f := 17) rfl rfl cb17 (mnorm_x (n := 1) (by decide +kernel) (strat_lenz _ _) _ _ _ w43 hO7.sz rfl) ?_
  rintro v w44 ⟨rfl, hq44⟩
  have hO7 := hO7.stay hq44
  have ht := ht.below hq44
  have hB := bl_tr hB hq44 hB.size
  refine ⟨_, rfl, ?_⟩
  refine dr U 600 rfl trivial ?_
  refine cT rfl rfl rfl rfl ?_
  refine dr U 600 rfl trivial ?_
  refine call (f := 17) rfl rfl cb17 (mnorm_x (xss := []) (n := 0) (by decide +kernel) (lenz_of (by decide) (by decide)) _ _ _ w44 (SZ.nil _) rfl) ?_
  rintro v w45 ⟨rfl, hq45⟩
  have ht := ht.below hq45
  have hB := bl_tr hB hq45 hB.size
  refine ⟨_, rfl, ?_⟩
  refine dr U 600 rfl trivial ?_
  refine cT rfl rfl rfl rfl ?_
  refine dr U 600 rfl trivial ?_
  refine bsv U (ivs [(-2)]) rfl rfl rfl rfl rfl rfl (by decide) (by decide) rfl ?_
  intro w46 hk46 hz46 hg46
  have hq46 : Below w45.heap.size w45 w46 := (Below.refl _ _).grown hg46 (Nat.le_refl _) (fun k e => by cases e)
  have ht := ht.below hq46
  have hB := bl_tr hB hq46 hB.size
  have hn1r0 := liti_bk (n := 1) (c := 1) (xs := [(-2)]) hk46 rfl
  refine bsv U (ivs [1]) rfl rfl rfl rfl rfl rfl (by decide) (by decide) rfl ?_
  intro w47 hk47 hz47 hg47
  have hq47 : Below w46.heap.size w46 w47 := (Below.refl _ _).grown hg47 (Nat.le_refl _) (fun k e => by cases e)
  have hn1r0 := hn1r0.stay hq47
  have ht := ht.below hq47
  have hB := bl_tr hB hq47 hB.size
  have hn1r1 := liti_bk (n := 1) (c := 1) (xs := [1]) hk47 rfl
  refine bsv U [.slice (some ⟨w45.heap.size, 0, none⟩) 1 1, .slice (some ⟨w46.heap.size, 0, none⟩) 1 1] rfl rfl rfl rfl rfl rfl (by decide) (by decide) rfl ?_
  intro w48 hk48 hz48 hg48
  have hq48 : Below w47.heap.size w47 w48 := (Below.refl _ _).grown hg48 (Nat.le_refl _) (fun k e => by cases e)
  have hn1r0 := hn1r0.stay hq48
  have hn1r1 := hn1r1.stay hq48
  have ht := ht.below hq48
  have hB := bl_tr hB hq48 hB.size
  have hn1 := rwi_bk (xss := [[(-2)], [1]]) hk48 ⟨hn1r0, hn1r1, trivial⟩
  refine call (f := 17) rfl rfl cb17 (mnorm_x (n := 3) (by decide +kernel) (lenz_of (by decide) (by decide)) _ _ _ w48 hn1 rfl) ?_
  rintro v w49 ⟨rfl, hq49⟩
  have hn1 := hn1.stay hq49
  have ht := ht.below hq49
  have hB := bl_tr hB hq49 hB.size
  refine ⟨_, rfl, ?_⟩
  refine dr U 600 rfl trivial ?_
  refine cT rfl rfl rfl rfl ?_
  refine dr U 600 rfl trivial ?_
  refine bsv U (ivs [1]) rfl rfl rfl rfl rfl rfl (by decide) (by decide) rfl ?_
  intro w50 hk50 hz50 hg50
  have hq50 : Below w49.heap.size w49 w50 := (Below.refl _ _).grown hg50 (Nat.le_refl _) (fun k e => by cases e)
  have ht := ht.below hq50
  have hB := bl_tr hB hq50 hB.size
  have hn2r0 := liti_bk (n := 1) (c := 1) (xs := [1]) hk50 rfl
  refine bs0 U rfl rfl rfl rfl ?_
  intro w51 ho51 hz51 hg51
  have hq51 : Below w50.heap.size w50 w51 := (Below.refl _ _).grown hg51 (Nat.le_refl _) (fun k e => by cases e)
  have hn2r0 := hn2r0.stay hq51
  have ht := ht.below hq51
  have hB := bl_tr hB hq51 hB.size
  have hn2r1 : LitI w51 (.slice (some ⟨w50.heap.size, 0, none⟩) 0 0) [] := ⟨_, _, rfl, Sl.nil _ _⟩
  refine bsv U [.slice (some ⟨w49.heap.size, 0, none⟩) 1 1, .slice (some ⟨w50.heap.size, 0, none⟩) 0 0] rfl rfl rfl rfl rfl rfl (by decide) (by decide) rfl ?_
  intro w52 hk52 hz52 hg52
  have hq52 : Below w51.heap.size w51 w52 := (Below.refl _ _).grown hg52 (Nat.le_refl _) (fun k e => by cases e)
  have hn2r0 := hn2r0.stay hq52
  have hn2r1 := hn2r1.stay hq52
  have ht := ht.below hq52
  have hB := bl_tr hB hq52 hB.size
  have hn2 := rwi_bk (xss := [[1], []]) hk52 ⟨hn2r0, hn2r1, trivial⟩
  refine call (f := 17) rfl rfl cb17 (mnorm_x (n := 0) (by decide +kernel) (lenz_of (by decide) (by decide)) _ _ _ w52 hn2 rfl) ?_
  rintro v w53 ⟨rfl, hq53⟩
  have hn2 := hn2.stay hq53
  have ht := ht.below hq53
  have hB := bl_tr hB hq53 hB.size
  refine ⟨_, rfl, ?_⟩
  refine dr U 600 rfl trivial ?_
  refine cT rfl rfl rfl rfl ?_
  refine dr U 600 rfl trivial ?_
  refine bsv U (ivs [(-9223372036854775808)]) rfl rfl rfl rfl rfl rfl (by decide) (by decide) rfl ?_
  intro w54 hk54 hz54 hg54
  have hq54 : Below w53.heap.size w53 w54 := (Below.refl _ _).grown hg54 (Nat.le_refl _) (fun k e => by cases e)
  have ht := ht.below hq54
  have hB := bl_tr hB hq54 hB.size
  have hn3r0 := liti_bk (n := 1) (c := 1) (xs := [(-9223372036854775808)]) hk54 rfl
  refine bsv U [.slice (some ⟨w53.heap.size, 0, none⟩) 1 1] rfl rfl rfl rfl rfl rfl (by decide) (by decide) rfl ?_
  intro w55 hk55 hz55 hg55
  have hq55 : Below w54.heap.size w54 w55 := (Below.refl _ _).grown hg55 (Nat.le_refl _) (fun k e => by cases e)
  have hn3r0 := hn3r0.stay hq55
  have ht := ht.below hq55
  have hB := bl_tr hB hq55 hB.size
  have hn3 := rwi_bk (xss := [[(-9223372036854775808)]]) hk55 ⟨hn3r0, trivial⟩
  refine call (f := 17) rfl rfl cb17 (mnorm_x (n := 0) (by decide +kernel) (lenz_of (by decide) (by decide)) _ _ _ w55 hn3 rfl) ?_
  rintro v w56 ⟨rfl, hq56⟩
  have hn3 := hn3.stay hq56
  have ht := ht.below hq56
  have hB := bl_tr hB hq56 hB.size
  refine ⟨_, rfl, ?_⟩
  refine dr U 600 rfl trivial ?_
  refine cT rfl rfl rfl rfl ?_
  refine dr U 600 rfl trivial ?_
  exact ret Tryz.results3 rfl ⟨_, rfl, rfl, hB⟩
end Go.Proofs.YtejlpdbiacmfcaaGreatDoor
