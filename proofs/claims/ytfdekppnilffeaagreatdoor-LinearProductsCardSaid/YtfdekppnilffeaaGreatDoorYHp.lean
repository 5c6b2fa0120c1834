/-
  The law LinearProducts: it returns true for every input. Printed by prod27.py.
  Conditions: what is copied fits into memory; the library's table of powers of ten is laid.
-/
import Derived.Test.YtfdekppnilffeaaGreatDoorYHk
import Derived.Test.YtfdekppnilffeaaGreatDoorYPick
set_option linter.unusedSimpArgs false
set_option linter.unusedVariables false
set_option maxHeartbeats 4000000
namespace Go.Proofs.YtfdekppnilffeaaGreatDoor
open Go Go.Proofs Go.RowKit Go.Lib

theorem linearProducts_calls (xss : List (List Tx)) (a : Option Addr) (c : Nat) (yss : List (List Tx)) (b : Option Addr) (d : Nat) (zss : List (List Tx)) (z_ : Option Addr) (zc : Nat) (vs : List Tx) (v_ : Option Addr) (vc : Nat) (sz : Int) (hsz : -9223372036854775808 ≤ sz ∧ sz ≤ 9223372036854775807) (w : World) (ht : TabOk w) (hs : SM w a xss) (hfx : FitM xss 1) (hsy : SM w b yss) (hfy : FitM yss 1) (hsz' : SM w z_ zss) (hfz : FitM zss 1) (hv : Lit w (.slice v_ vs.length vc) vs) (hvl : vs.length ≤ 8796093022208) :
    Calls Tryz.prog 5 #[.slice a xss.length c, .slice b yss.length d, .slice z_ zss.length zc, .slice v_ vs.length vc, .int .i64 sz] w (Ret fun v w' => v = .bool true ∧ Below w.heap.size w w') := by
  refine enter Tryz.func5 rfl Tryz.ntmps5 (Nat.le_of_ble_eq_true rfl) ?_
  refine dr U 600 rfl trivial ?_
  have hB := Below.refl w.heap.size w
  refine call (f := 9) rfl rfl cb9 (lives27_calls w ht) ?_
  rintro v w1 ⟨rfl, hq1⟩
  have hs := hs.stay hq1
  have hsy := hsy.stay hq1
  have hsz' := hsz'.stay hq1
  have hv := hv.stay hq1
  have ht := ht.below hq1
  have hB := bl_tr hB hq1 hB.size
  refine ⟨_, rfl, ?_⟩
  refine dr U 600 rfl trivial ?_
  refine call (f := 10) rfl rfl cb10 (pick_calls sz 4 (by omega) (by omega) w1) ?_
  rintro v _ ⟨⟨r, rfl, hr⟩, rfl⟩
  refine ⟨_, rfl, ?_⟩
  refine dr U 600 rfl (by first | exact True.intro | (simp only [AllP, InR, List.nil_append, List.cons_append, and_true]; omega)) ?_
  obtain ⟨n, hn0, hn4, en⟩ : ∃ n : Nat, 0 < n ∧ n ≤ 4 ∧ (1 + (r : Int) : Int) = ((n : Nat) : Int) := ⟨1 + r, by omega, by omega, by omega⟩
  rw [en]
  refine call (f := 11) rfl rfl cb11 (square_calls xss n (by omega) a c w1 hs ⟨by have := hfx.l; omega, hfx.r⟩) ?_
  rintro v w3 ⟨hsqX, hq3⟩
  obtain ⟨vX, okX, rfl, hdX⟩ := sqc_of hsqX
  have hs := hs.stay hq3
  have hsy := hsy.stay hq3
  have hsz' := hsz'.stay hq3
  have hv := hv.stay hq3
  have ht := ht.below hq3
  have hB := bl_tr hB hq3 hB.size
  refine ⟨_, rfl, ?_⟩
  refine dr U 600 rfl trivial ?_
  refine call (f := 11) rfl rfl cb11 (square_calls yss n (by omega) b d w3 hsy ⟨by have := hfy.l; omega, hfy.r⟩) ?_
  rintro v w4 ⟨hsqY, hq4⟩
  obtain ⟨vY, okY, rfl, hdY⟩ := sqc_of hsqY
  have hs := hs.stay hq4
  have hsy := hsy.stay hq4
  have hsz' := hsz'.stay hq4
  have hv := hv.stay hq4
  have hdX := hdX.stay hq4
  have ht := ht.below hq4
  have hB := bl_tr hB hq4 hB.size
  refine ⟨_, rfl, ?_⟩
  refine dr U 600 rfl trivial ?_
  refine call (f := 11) rfl rfl cb11 (square_calls zss n (by omega) z_ zc w4 hsz' ⟨by have := hfz.l; omega, hfz.r⟩) ?_
  rintro v w5 ⟨hsqZ, hq5⟩
  obtain ⟨vZ, okZ, rfl, hdZ⟩ := sqc_of hsqZ
  have hs := hs.stay hq5
  have hsy := hsy.stay hq5
  have hsz' := hsz'.stay hq5
  have hv := hv.stay hq5
  have hdX := hdX.stay hq5
  have hdY := hdY.stay hq5
  have ht := ht.below hq5
  have hB := bl_tr hB hq5 hB.size
  refine ⟨_, rfl, ?_⟩
  refine dr U 600 rfl trivial ?_
  refine bsv U [.slice v_ vs.length vc] rfl rfl rfl rfl rfl rfl (by decide) (by decide) rfl ?_
  intro w6 hk6 hz6 hg6
  have hq6 : Below w5.heap.size w5 w6 := (Below.refl _ _).grown hg6 (Nat.le_refl _) (fun k e => by cases e)
  have hs := hs.stay hq6
  have hsy := hsy.stay hq6
  have hsz' := hsz'.stay hq6
  have hv := hv.stay hq6
  have hdX := hdX.stay hq6
  have hdY := hdY.stay hq6
  have hdZ := hdZ.stay hq6
  have ht := ht.below hq6
  have hB := bl_tr hB hq6 hB.size
  have hvm := rwl_bk (xss := [vs]) hk6 ⟨hv, trivial⟩
  refine dr U 600 rfl trivial ?_
  refine call (f := 11) rfl rfl cb11 (square_calls [vs] n (by omega) _ 1 w6 hvm (fitm_one hvl)) ?_
  rintro v w7 ⟨hsqV, hq7⟩
  obtain ⟨vV, okV, rfl, hdV⟩ := sqc_of hsqV
  have hs := hs.stay hq7
  have hsy := hsy.stay hq7
  have hsz' := hsz'.stay hq7
  have hv := hv.stay hq7
  have hdX := hdX.stay hq7
  have hdY := hdY.stay hq7
  have hdZ := hdZ.stay hq7
  have ht := ht.below hq7
  have hB := bl_tr hB hq7 hB.size
  refine ⟨_, rfl, ?_⟩
  cases okX with
  | false =>
    refine dr U 600 rfl trivial ?_
    exact ret Tryz.results5 rfl ⟨_, rfl, rfl, hB⟩
  | true =>
  cases okY with
  | false =>
    refine dr U 600 rfl trivial ?_
    exact ret Tryz.results5 rfl ⟨_, rfl, rfl, hB⟩
  | true =>
  cases okZ with
  | false =>
    refine dr U 600 rfl trivial ?_
    exact ret Tryz.results5 rfl ⟨_, rfl, rfl, hB⟩
  | true =>
  cases okV with
  | false =>
    refine dr U 600 rfl trivial ?_
    exact ret Tryz.results5 rfl ⟨_, rfl, rfl, hB⟩
  | true =>
  obtain ⟨fX, aX, cX, sX, rfl, hmX⟩ := hdX rfl
  obtain ⟨fY, aY, cY, sY, rfl, hmY⟩ := hdY rfl
  obtain ⟨fZ, aZ, cZ, sZ, rfl, hmZ⟩ := hdZ rfl
  obtain ⟨fV, aV, cV, sV, rfl, hmV⟩ := hdV rfl
  refine dr U 600 rfl trivial ?_
  obtain ⟨AV, CV, hsV, hrV⟩ := hmV.rows
  have hr0 := hrV 0 hn0
  have zXY : ∀ i, i < n → ∀ k, k < n → Small (101) (mmul n fX fY i k) := fun i hi k hk => small_mono (sm_small2 (fun t ht => sX i hi t ht) (fun t ht => sY t ht k hk) n (Nat.le_refl _)) (by omega)
  refine call (f := 23) rfl rfl cb23 (pMul_calls fX fY hn0 hn0 hn0 (by omega) (by omega) (by omega) (fun i hi k hk => small_mono (sX i hi k hk) (by omega)) (fun i hi k hk => small_mono (sY i hi k hk) (by omega)) (fun i hi k hk => small_mono (zXY i hi k hk) (by omega)) _ _ _ _ w7 hmX hmY ht) ?_
  rintro v w8 ⟨⟨aXY, cXY, rfl, hmXY⟩, hq8⟩
  have hmX := hmX.stay hq8
  have hmY := hmY.stay hq8
  have hmZ := hmZ.stay hq8
  have hsV := hsV.stay hq8
  have hr0 := hr0.stay hq8
  have ht := ht.below hq8
  have hB := bl_tr hB hq8 hB.size
  refine ⟨_, rfl, ?_⟩
  refine dr U 600 rfl trivial ?_
  have zYZ : ∀ i, i < n → ∀ k, k < n → Small (101) (mmul n fY fZ i k) := fun i hi k hk => small_mono (sm_small2 (fun t ht => sY i hi t ht) (fun t ht => sZ t ht k hk) n (Nat.le_refl _)) (by omega)
  refine call (f := 23) rfl rfl cb23 (pMul_calls fY fZ hn0 hn0 hn0 (by omega) (by omega) (by omega) (fun i hi k hk => small_mono (sY i hi k hk) (by omega)) (fun i hi k hk => small_mono (sZ i hi k hk) (by omega)) (fun i hi k hk => small_mono (zYZ i hi k hk) (by omega)) _ _ _ _ w8 hmY hmZ ht) ?_
  rintro v w9 ⟨⟨aYZ, cYZ, rfl, hmYZ⟩, hq9⟩
  have hmX := hmX.stay hq9
  have hmY := hmY.stay hq9
  have hmZ := hmZ.stay hq9
  have hsV := hsV.stay hq9
  have hr0 := hr0.stay hq9
  have hmXY := hmXY.stay hq9
  have ht := ht.below hq9
  have hB := bl_tr hB hq9 hB.size
  refine ⟨_, rfl, ?_⟩
  refine dr U 600 rfl trivial ?_
  have zP : ∀ i, i < n → ∀ k, k < n → Small (457) (mmul n (mmul n fX fY) fZ i k) := fun i hi k hk => small_mono (sm_small2 (fun t ht => zXY i hi t ht) (fun t ht => sZ t ht k hk) n (Nat.le_refl _)) (by omega)
  refine call (f := 23) rfl rfl cb23 (pMul_calls (mmul n fX fY) fZ hn0 hn0 hn0 (by omega) (by omega) (by omega) (fun i hi k hk => small_mono (zXY i hi k hk) (by omega)) (fun i hi k hk => small_mono (sZ i hi k hk) (by omega)) (fun i hi k hk => small_mono (zP i hi k hk) (by omega)) _ _ _ _ w9 hmXY hmZ ht) ?_
  rintro v w10 ⟨⟨aP, cP, rfl, hmP⟩, hq10⟩
  have hmX := hmX.stay hq10
  have hmY := hmY.stay hq10
  have hmZ := hmZ.stay hq10
  have hsV := hsV.stay hq10
  have hr0 := hr0.stay hq10
  have hmXY := hmXY.stay hq10
  have hmYZ := hmYZ.stay hq10
  have ht := ht.below hq10
  have hB := bl_tr hB hq10 hB.size
  refine ⟨_, rfl, ?_⟩
  refine dr U 600 rfl trivial ?_
  have zQ : ∀ i, i < n → ∀ k, k < n → Small (457) (mmul n fX (mmul n fY fZ) i k) := fun i hi k hk => small_mono (sm_small2 (fun t ht => sX i hi t ht) (fun t ht => zYZ t ht k hk) n (Nat.le_refl _)) (by omega)
  refine call (f := 23) rfl rfl cb23 (pMul_calls fX (mmul n fY fZ) hn0 hn0 hn0 (by omega) (by omega) (by omega) (fun i hi k hk => small_mono (sX i hi k hk) (by omega)) (fun i hi k hk => small_mono (zYZ i hi k hk) (by omega)) (fun i hi k hk => small_mono (zQ i hi k hk) (by omega)) _ _ _ _ w10 hmX hmYZ ht) ?_
  rintro v w11 ⟨⟨aQ, cQ, rfl, hmQ⟩, hq11⟩
  have hmX := hmX.stay hq11
  have hmY := hmY.stay hq11
  have hmZ := hmZ.stay hq11
  have hsV := hsV.stay hq11
  have hr0 := hr0.stay hq11
  have hmXY := hmXY.stay hq11
  have hmYZ := hmYZ.stay hq11
  have hmP := hmP.stay hq11
  have ht := ht.below hq11
  have hB := bl_tr hB hq11 hB.size
  refine ⟨_, rfl, ?_⟩
  refine dr U 600 rfl trivial ?_
  have sv := sV 0 hn0
  refine il U rfl rfl rfl rfl rfl rfl rfl (fun _ => rfl) rfl 0 rfl hn0 hsV (srws_at hn0) ?_
  refine dr U 600 rfl trivial ?_
  have zJ : ∀ i, i < n → Small (101) (mapp n fY (fV 0) i) := fun i hi => small_mono (sm_small2 (fun t ht => sY i hi t ht) (fun t ht => sv t ht) n (Nat.le_refl _)) (by omega)
  refine call (f := 13) rfl rfl cb13 (pApply_calls fY (fV 0) hn0 hn0 (by omega) (by omega) (fun i hi k hk => small_mono (sY i hi k hk) (by omega)) (fun i hi => small_mono (sv i hi) (by omega)) (fun i hi => small_mono (zJ i hi) (by omega)) _ _ _ _ w11 hmY hr0 ht) ?_
  rintro v w12 ⟨⟨aJ, cJ, rfl, hmJ⟩, hq12⟩
  have hmX := hmX.stay hq12
  have hmY := hmY.stay hq12
  have hmZ := hmZ.stay hq12
  have hsV := hsV.stay hq12
  have hr0 := hr0.stay hq12
  have hmXY := hmXY.stay hq12
  have hmYZ := hmYZ.stay hq12
  have hmP := hmP.stay hq12
  have hmQ := hmQ.stay hq12
  have ht := ht.below hq12
  have hB := bl_tr hB hq12 hB.size
  refine ⟨_, rfl, ?_⟩
  refine dr U 600 rfl trivial ?_
  refine il U rfl rfl rfl rfl rfl rfl rfl (fun _ => rfl) rfl 0 rfl hn0 hsV (srws_at hn0) ?_
  refine dr U 600 rfl trivial ?_
  have zB : ∀ i, i < n → Small (457) (mapp n (mmul n fX fY) (fV 0) i) := fun i hi => small_mono (sm_small2 (fun t ht => zXY i hi t ht) (fun t ht => sv t ht) n (Nat.le_refl _)) (by omega)
  refine call (f := 13) rfl rfl cb13 (pApply_calls (mmul n fX fY) (fV 0) hn0 hn0 (by omega) (by omega) (fun i hi k hk => small_mono (zXY i hi k hk) (by omega)) (fun i hi => small_mono (sv i hi) (by omega)) (fun i hi => small_mono (zB i hi) (by omega)) _ _ _ _ w12 hmXY hr0 ht) ?_
  rintro v w13 ⟨⟨aB, cB, rfl, hmB⟩, hq13⟩
  have hmX := hmX.stay hq13
  have hmY := hmY.stay hq13
  have hmZ := hmZ.stay hq13
  have hsV := hsV.stay hq13
  have hr0 := hr0.stay hq13
  have hmXY := hmXY.stay hq13
  have hmYZ := hmYZ.stay hq13
  have hmP := hmP.stay hq13
  have hmQ := hmQ.stay hq13
  have hmJ := hmJ.stay hq13
  have ht := ht.below hq13
  have hB := bl_tr hB hq13 hB.size
  refine ⟨_, rfl, ?_⟩
  refine dr U 600 rfl trivial ?_
  refine cF rfl rfl rfl (by decide) ?_
  refine dr U 600 rfl trivial ?_
  refine cF rfl rfl rfl (by decide) ?_
  refine dr U 600 rfl trivial ?_
  refine cF rfl rfl rfl (by decide) ?_
  refine dr U 600 rfl trivial ?_
  refine cF rfl rfl rfl (by decide) ?_
  refine dr U 600 rfl trivial ?_
  refine cF rfl rfl rfl (by decide) ?_
  refine dr U 600 rfl trivial ?_
  refine cF rfl rfl rfl (by decide) ?_
  refine dr U 600 rfl trivial ?_
  have zH : ∀ i, i < n → Small (457) (mapp n fX (mapp n fY (fV 0)) i) := fun i hi => small_mono (sm_small2 (fun t ht => sX i hi t ht) (fun t ht => zJ t ht) n (Nat.le_refl _)) (by omega)
  refine call (f := 13) rfl rfl cb13 (pApply_calls fX (mapp n fY (fV 0)) hn0 hn0 (by omega) (by omega) (fun i hi k hk => small_mono (sX i hi k hk) (by omega)) (fun i hi => small_mono (zJ i hi) (by omega)) (fun i hi => small_mono (zH i hi) (by omega)) _ _ _ _ w13 hmX hmJ ht) ?_
  rintro v w14 ⟨⟨aH, cH, rfl, hmH⟩, hq14⟩
  have hmX := hmX.stay hq14
  have hmY := hmY.stay hq14
  have hmZ := hmZ.stay hq14
  have hsV := hsV.stay hq14
  have hr0 := hr0.stay hq14
  have hmXY := hmXY.stay hq14
  have hmYZ := hmYZ.stay hq14
  have hmP := hmP.stay hq14
  have hmQ := hmQ.stay hq14
  have hmJ := hmJ.stay hq14
  have hmB := hmB.stay hq14
  have ht := ht.below hq14
  have hB := bl_tr hB hq14 hB.size
  refine ⟨_, rfl, ?_⟩
  refine dr U 600 rfl trivial ?_
  refine call (f := 24) rfl rfl cb24 (pIdentity_calls n hn0 (by omega) w14 ht) ?_
  rintro v w15 ⟨⟨aI, cI, rfl, hmI⟩, hq15⟩
  have hmX := hmX.stay hq15
  have hmY := hmY.stay hq15
  have hmZ := hmZ.stay hq15
  have hsV := hsV.stay hq15
  have hr0 := hr0.stay hq15
  have hmXY := hmXY.stay hq15
  have hmYZ := hmYZ.stay hq15
  have hmP := hmP.stay hq15
  have hmQ := hmQ.stay hq15
  have hmJ := hmJ.stay hq15
  have hmB := hmB.stay hq15
  have hmH := hmH.stay hq15
  have ht := ht.below hq15
  have hB := bl_tr hB hq15 hB.size
  refine ⟨_, rfl, ?_⟩
  refine dr U 600 rfl trivial ?_
  have sI : ∀ i, i < n → ∀ k, k < n → Small 1 (idn i k) := fun i _ k _ => idn_small i k
  have zU : ∀ i, i < n → ∀ k, k < n → Small (57) (mmul n fX idn i k) := fun i hi k hk => small_mono (sm_small2 (fun t ht => sX i hi t ht) (fun t ht => sI t ht k hk) n (Nat.le_refl _)) (by omega)
  refine call (f := 23) rfl rfl cb23 (pMul_calls fX idn hn0 hn0 hn0 (by omega) (by omega) (by omega) (fun i hi k hk => small_mono (sX i hi k hk) (by omega)) (fun i hi k hk => small_mono (sI i hi k hk) (by omega)) (fun i hi k hk => small_mono (zU i hi k hk) (by omega)) _ _ _ _ w15 hmX hmI ht) ?_
  rintro v w16 ⟨⟨aU, cU, rfl, hmU⟩, hq16⟩
  have hmX := hmX.stay hq16
  have hmY := hmY.stay hq16
  have hmZ := hmZ.stay hq16
  have hsV := hsV.stay hq16
  have hr0 := hr0.stay hq16
  have hmXY := hmXY.stay hq16
  have hmYZ := hmYZ.stay hq16
  have hmP := hmP.stay hq16
  have hmQ := hmQ.stay hq16
  have hmJ := hmJ.stay hq16
  have hmB := hmB.stay hq16
  have hmH := hmH.stay hq16
  have hmI := hmI.stay hq16
  have ht := ht.below hq16
  have hB := bl_tr hB hq16 hB.size
  refine ⟨_, rfl, ?_⟩
  refine dr U 600 rfl trivial ?_
  have zTT : ∀ i, i < n → ∀ k, k < n → Small 101 (trp (mmul n fX fY) i k) := fun i hi k hk => small_mono (zXY k hk i hi) (by omega)
  refine call (f := 25) rfl rfl cb25 (pTranspose_calls (mmul n fX fY) hn0 hn0 (by omega) (by omega) (fun i hi k hk => small_mono (zXY i hi k hk) (by omega)) _ _ w16 hmXY ht) ?_
  rintro v w17 ⟨⟨aTT, cTT, rfl, hmTT⟩, hq17⟩
  have hmX := hmX.stay hq17
  have hmY := hmY.stay hq17
  have hmZ := hmZ.stay hq17
  have hsV := hsV.stay hq17
  have hr0 := hr0.stay hq17
  have hmXY := hmXY.stay hq17
  have hmYZ := hmYZ.stay hq17
  have hmP := hmP.stay hq17
  have hmQ := hmQ.stay hq17
  have hmJ := hmJ.stay hq17
  have hmB := hmB.stay hq17
  have hmH := hmH.stay hq17
  have hmI := hmI.stay hq17
  have hmU := hmU.stay hq17
  have ht := ht.below hq17
  have hB := bl_tr hB hq17 hB.size
  refine ⟨_, rfl, ?_⟩
  refine dr U 600 rfl trivial ?_
  have zTX : ∀ i, i < n → ∀ k, k < n → Small 101 (trp fX i k) := fun i hi k hk => small_mono (sX k hk i hi) (by omega)
  refine call (f := 25) rfl rfl cb25 (pTranspose_calls fX hn0 hn0 (by omega) (by omega) (fun i hi k hk => small_mono (sX i hi k hk) (by omega)) _ _ w17 hmX ht) ?_
  rintro v w18 ⟨⟨aTX, cTX, rfl, hmTX⟩, hq18⟩
  have hmX := hmX.stay hq18
  have hmY := hmY.stay hq18
  have hmZ := hmZ.stay hq18
  have hsV := hsV.stay hq18
  have hr0 := hr0.stay hq18
  have hmXY := hmXY.stay hq18
  have hmYZ := hmYZ.stay hq18
  have hmP := hmP.stay hq18
  have hmQ := hmQ.stay hq18
  have hmJ := hmJ.stay hq18
  have hmB := hmB.stay hq18
  have hmH := hmH.stay hq18
  have hmI := hmI.stay hq18
  have hmU := hmU.stay hq18
  have hmTT := hmTT.stay hq18
  have ht := ht.below hq18
  have hB := bl_tr hB hq18 hB.size
  refine ⟨_, rfl, ?_⟩
  refine dr U 600 rfl trivial ?_
  have zTY : ∀ i, i < n → ∀ k, k < n → Small 101 (trp fY i k) := fun i hi k hk => small_mono (sY k hk i hi) (by omega)
  refine call (f := 25) rfl rfl cb25 (pTranspose_calls fY hn0 hn0 (by omega) (by omega) (fun i hi k hk => small_mono (sY i hi k hk) (by omega)) _ _ w18 hmY ht) ?_
  rintro v w19 ⟨⟨aTY, cTY, rfl, hmTY⟩, hq19⟩
  have hmX := hmX.stay hq19
  have hmY := hmY.stay hq19
  have hmZ := hmZ.stay hq19
  have hsV := hsV.stay hq19
  have hr0 := hr0.stay hq19
  have hmXY := hmXY.stay hq19
  have hmYZ := hmYZ.stay hq19
  have hmP := hmP.stay hq19
  have hmQ := hmQ.stay hq19
  have hmJ := hmJ.stay hq19
  have hmB := hmB.stay hq19
  have hmH := hmH.stay hq19
  have hmI := hmI.stay hq19
  have hmU := hmU.stay hq19
  have hmTT := hmTT.stay hq19
  have hmTX := hmTX.stay hq19
  have ht := ht.below hq19
  have hB := bl_tr hB hq19 hB.size
  refine ⟨_, rfl, ?_⟩
  refine dr U 600 rfl trivial ?_
  have yX : ∀ i, i < n → ∀ k, k < n → Small 12 (trp fX i k) := fun i hi k hk => sX k hk i hi
  have yY : ∀ i, i < n → ∀ k, k < n → Small 12 (trp fY i k) := fun i hi k hk => sY k hk i hi
  have zR : ∀ i, i < n → ∀ k, k < n → Small (101) (mmul n (trp fY) (trp fX) i k) := fun i hi k hk => small_mono (sm_small2 (fun t ht => yY i hi t ht) (fun t ht => yX t ht k hk) n (Nat.le_refl _)) (by omega)
  refine call (f := 23) rfl rfl cb23 (pMul_calls (trp fY) (trp fX) hn0 hn0 hn0 (by omega) (by omega) (by omega) (fun i hi k hk => small_mono (yY i hi k hk) (by omega)) (fun i hi k hk => small_mono (yX i hi k hk) (by omega)) (fun i hi k hk => small_mono (zR i hi k hk) (by omega)) _ _ _ _ w19 hmTY hmTX ht) ?_
  rintro v w20 ⟨⟨aR, cR, rfl, hmR⟩, hq20⟩
  have hmX := hmX.stay hq20
  have hmY := hmY.stay hq20
  have hmZ := hmZ.stay hq20
  have hsV := hsV.stay hq20
  have hr0 := hr0.stay hq20
  have hmXY := hmXY.stay hq20
  have hmYZ := hmYZ.stay hq20
  have hmP := hmP.stay hq20
  have hmQ := hmQ.stay hq20
  have hmJ := hmJ.stay hq20
  have hmB := hmB.stay hq20
  have hmH := hmH.stay hq20
  have hmI := hmI.stay hq20
  have hmU := hmU.stay hq20
  have hmTT := hmTT.stay hq20
  have hmTX := hmTX.stay hq20
  have hmTY := hmTY.stay hq20
  have ht := ht.below hq20
  have hB := bl_tr hB hq20 hB.size
  refine ⟨_, rfl, ?_⟩
  refine dr U 600 rfl trivial ?_
  have zBB : ∀ i, i < n → ∀ k, k < n → Small 101 (trp (trp fX) i k) := fun i hi k hk => small_mono (yX k hk i hi) (by omega)
  refine call (f := 25) rfl rfl cb25 (pTranspose_calls (trp fX) hn0 hn0 (by omega) (by omega) (fun i hi k hk => small_mono (yX i hi k hk) (by omega)) _ _ w20 hmTX ht) ?_
  rintro v w21 ⟨⟨aBB, cBB, rfl, hmBB⟩, hq21⟩
  have hmX := hmX.stay hq21
  have hmY := hmY.stay hq21
  have hmZ := hmZ.stay hq21
  have hsV := hsV.stay hq21
  have hr0 := hr0.stay hq21
  have hmXY := hmXY.stay hq21
  have hmYZ := hmYZ.stay hq21
  have hmP := hmP.stay hq21
  have hmQ := hmQ.stay hq21
  have hmJ := hmJ.stay hq21
  have hmB := hmB.stay hq21
  have hmH := hmH.stay hq21
  have hmI := hmI.stay hq21
  have hmU := hmU.stay hq21
  have hmTT := hmTT.stay hq21
  have hmTX := hmTX.stay hq21
  have hmTY := hmTY.stay hq21
  have hmR := hmR.stay hq21
  have ht := ht.below hq21
  have hB := bl_tr hB hq21 hB.size
  refine ⟨_, rfl, ?_⟩
  refine dr U 600 rfl trivial ?_
  refine call (f := 26) rfl rfl cb26 (msame_x _ _ _ _ _ _ w21 hmP hmQ (mtx_lens (by omega) (by omega) (fun i hi k hk => small_mono (zP i hi k hk) (by omega))) (mtx_lens (by omega) (by omega) (fun i hi k hk => small_mono (zQ i hi k hk) (by omega))) (mtx_length _ _ _).symm (mtx_length _ _ _).symm) ?_
  rintro v w22 ⟨rfl, hq22⟩
  have hmX := hmX.stay hq22
  have hmY := hmY.stay hq22
  have hmZ := hmZ.stay hq22
  have hsV := hsV.stay hq22
  have hr0 := hr0.stay hq22
  have hmXY := hmXY.stay hq22
  have hmYZ := hmYZ.stay hq22
  have hmP := hmP.stay hq22
  have hmQ := hmQ.stay hq22
  have hmJ := hmJ.stay hq22
  have hmB := hmB.stay hq22
  have hmH := hmH.stay hq22
  have hmI := hmI.stay hq22
  have hmU := hmU.stay hq22
  have hmTT := hmTT.stay hq22
  have hmTX := hmTX.stay hq22
  have hmTY := hmTY.stay hq22
  have hmR := hmR.stay hq22
  have hmBB := hmBB.stay hq22
  have ht := ht.below hq22
  have hB := bl_tr hB hq22 hB.size
  refine ⟨_, rfl, ?_⟩
  rw [decide_eq_true (mtx_congr fun i hi k hk => mul_assoc n n fX fY fZ i k)]
  refine dr U 600 rfl trivial ?_
  refine cT rfl rfl rfl rfl ?_
  refine dr U 600 rfl trivial ?_
  refine call (f := 15) rfl rfl cb15 (nsame_x _ _ _ _ _ _ w22 hmH hmB (by rw [txs_length]; omega) (by rw [txs_length]; omega)) ?_
  rintro v w23 ⟨rfl, hq23⟩
  have hmX := hmX.stay hq23
  have hmY := hmY.stay hq23
  have hmZ := hmZ.stay hq23
  have hsV := hsV.stay hq23
  have hr0 := hr0.stay hq23
  have hmXY := hmXY.stay hq23
  have hmYZ := hmYZ.stay hq23
  have hmP := hmP.stay hq23
  have hmQ := hmQ.stay hq23
  have hmJ := hmJ.stay hq23
  have hmB := hmB.stay hq23
  have hmH := hmH.stay hq23
  have hmI := hmI.stay hq23
  have hmU := hmU.stay hq23
  have hmTT := hmTT.stay hq23
  have hmTX := hmTX.stay hq23
  have hmTY := hmTY.stay hq23
  have hmR := hmR.stay hq23
  have hmBB := hmBB.stay hq23
  have ht := ht.below hq23
  have hB := bl_tr hB hq23 hB.size
  refine ⟨_, rfl, ?_⟩
  rw [decide_eq_true (txs_congr fun i hi => (app_mul n n fX fY (fV 0) i).symm)]
  refine dr U 600 rfl trivial ?_
  refine cT rfl rfl rfl rfl ?_
  refine dr U 600 rfl trivial ?_
  refine call (f := 26) rfl rfl cb26 (msame_x _ _ _ _ _ _ w23 hmU hmX (mtx_lens (by omega) (by omega) (fun i hi k hk => small_mono (zU i hi k hk) (by omega))) (mtx_lens (by omega) (by omega) (fun i hi k hk => small_mono (sX i hi k hk) (by omega))) (mtx_length _ _ _).symm (mtx_length _ _ _).symm) ?_
  rintro v w24 ⟨rfl, hq24⟩
  have hmX := hmX.stay hq24
  have hmY := hmY.stay hq24
  have hmZ := hmZ.stay hq24
  have hsV := hsV.stay hq24
  have hr0 := hr0.stay hq24
  have hmXY := hmXY.stay hq24
  have hmYZ := hmYZ.stay hq24
  have hmP := hmP.stay hq24
  have hmQ := hmQ.stay hq24
  have hmJ := hmJ.stay hq24
  have hmB := hmB.stay hq24
  have hmH := hmH.stay hq24
  have hmI := hmI.stay hq24
  have hmU := hmU.stay hq24
  have hmTT := hmTT.stay hq24
  have hmTX := hmTX.stay hq24
  have hmTY := hmTY.stay hq24
  have hmR := hmR.stay hq24
  have hmBB := hmBB.stay hq24
  have ht := ht.below hq24
  have hB := bl_tr hB hq24 hB.size
  refine ⟨_, rfl, ?_⟩
  rw [decide_eq_true (mtx_congr fun i hi k hk => mul_idn hk fX i)]
  refine dr U 600 rfl trivial ?_
  refine cT rfl rfl rfl rfl ?_
  refine dr U 600 rfl trivial ?_
  refine cT rfl rfl rfl rfl ?_
  refine dr U 600 rfl trivial ?_
  refine call (f := 26) rfl rfl cb26 (msame_x _ _ _ _ _ _ w24 hmTT hmR (mtx_lens (by omega) (by omega) (fun i hi k hk => small_mono (zTT i hi k hk) (by omega))) (mtx_lens (by omega) (by omega) (fun i hi k hk => small_mono (zR i hi k hk) (by omega))) (mtx_length _ _ _).symm (mtx_length _ _ _).symm) ?_
  rintro v w25 ⟨rfl, hq25⟩
  have hmX := hmX.stay hq25
  have hmY := hmY.stay hq25
  have hmZ := hmZ.stay hq25
  have hsV := hsV.stay hq25
  have hr0 := hr0.stay hq25
  have hmXY := hmXY.stay hq25
  have hmYZ := hmYZ.stay hq25
  have hmP := hmP.stay hq25
  have hmQ := hmQ.stay hq25
  have hmJ := hmJ.stay hq25
  have hmB := hmB.stay hq25
  have hmH := hmH.stay hq25
  have hmI := hmI.stay hq25
  have hmU := hmU.stay hq25
  have hmTT := hmTT.stay hq25
  have hmTX := hmTX.stay hq25
  have hmTY := hmTY.stay hq25
  have hmR := hmR.stay hq25
  have hmBB := hmBB.stay hq25
  have ht := ht.below hq25
  have hB := bl_tr hB hq25 hB.size
  refine ⟨_, rfl, ?_⟩
  rw [decide_eq_true (show mtx n n (trp (mmul n fX fY)) = mtx n n (mmul n (trp fY) (trp fX)) from mtx_congr fun i hi k hk => trp_mul n fX fY i k)]
  refine dr U 600 rfl trivial ?_
  refine call (f := 26) rfl rfl cb26 (msame_x _ _ _ _ _ _ w25 hmBB hmX (mtx_lens (by omega) (by omega) (fun i hi k hk => small_mono (zBB i hi k hk) (by omega))) (mtx_lens (by omega) (by omega) (fun i hi k hk => small_mono (sX i hi k hk) (by omega))) (mtx_length _ _ _).symm (mtx_length _ _ _).symm) ?_
  rintro v w26 ⟨rfl, hq26⟩
  have hmX := hmX.stay hq26
  have hmY := hmY.stay hq26
  have hmZ := hmZ.stay hq26
  have hsV := hsV.stay hq26
  have hr0 := hr0.stay hq26
  have hmXY := hmXY.stay hq26
  have hmYZ := hmYZ.stay hq26
  have hmP := hmP.stay hq26
  have hmQ := hmQ.stay hq26
  have hmJ := hmJ.stay hq26
  have hmB := hmB.stay hq26
  have hmH := hmH.stay hq26
  have hmI := hmI.stay hq26
  have hmU := hmU.stay hq26
  have hmTT := hmTT.stay hq26
  have hmTX := hmTX.stay hq26
  have hmTY := hmTY.stay hq26
  have hmR := hmR.stay hq26
  have hmBB := hmBB.stay hq26
  have ht := ht.below hq26
  have hB := bl_tr hB hq26 hB.size
  refine ⟨_, rfl, ?_⟩
  rw [decide_eq_true (show mtx n n (trp (trp fX)) = mtx n n fX from mtx_congr fun i hi k hk => rfl)]
  refine dr U 600 rfl trivial ?_
  exact ret Tryz.results5 rfl ⟨_, rfl, rfl, hB⟩
end Go.Proofs.YtfdekppnilffeaaGreatDoor
