/-
  The law LinearSolves: it returns true for every input. Printed by solv27.py.
  Conditions: what is copied fits into memory; the library's table of powers of ten is laid.
-/
import Derived.Test.YtfdekppnilffeaaGreatDoorYHr
set_option linter.unusedSimpArgs false
set_option linter.unusedVariables false
set_option maxHeartbeats 4000000
namespace Go.Proofs.YtfdekppnilffeaaGreatDoor
open Go Go.Proofs Go.RowKit Go.Lib

theorem linearSolves_calls (xss : List (List Tx)) (a : Option Addr) (c : Nat) (vs : List Tx) (v_ : Option Addr) (vc : Nat) (sz : Int) (hsz : -9223372036854775808 ≤ sz ∧ sz ≤ 9223372036854775807) (w : World) (ht : TabOk w) (hs : SM w a xss) (hfx : FitM xss 1) (hv : Lit w (.slice v_ vs.length vc) vs) (hvl : vs.length ≤ 8796093022208) :
    Calls Tryz.prog 3 #[.slice a xss.length c, .slice v_ vs.length vc, .int .i64 sz] w (Ret fun v w' => v = .bool true ∧ Below w.heap.size w w') := by
  refine enter Tryz.func3 rfl Tryz.ntmps3 (Nat.le_of_ble_eq_true rfl) ?_
  refine dr U 600 rfl trivial ?_
  have hB := Below.refl w.heap.size w
  refine call (f := 9) rfl rfl cb9 (lives27_calls w ht) ?_
  rintro v w1 ⟨rfl, hq1⟩
  have hs := hs.stay hq1
  have hv := hv.stay hq1
  have ht := ht.below hq1
  have hB := bl_tr hB hq1 hB.size
  refine ⟨_, rfl, ?_⟩
  refine dr U 600 rfl trivial ?_
  refine call (f := 10) rfl rfl cb10 (pick_calls sz 5 (by omega) (by omega) w1) ?_
  rintro v _ ⟨⟨r, rfl, hr⟩, rfl⟩
  refine ⟨_, rfl, ?_⟩
  refine dr U 600 rfl (by first | exact True.intro | (simp only [AllP, InR, List.nil_append, List.cons_append, and_true]; omega)) ?_
  obtain ⟨n, hn0, hn5, en⟩ : ∃ n : Nat, 0 < n ∧ n ≤ 5 ∧ (1 + (r : Int) : Int) = ((n : Nat) : Int) := ⟨1 + r, by omega, by omega, by omega⟩
  rw [en]
  refine call (f := 11) rfl rfl cb11 (square_calls xss n (by omega) a c w1 hs ⟨by have := hfx.l; omega, hfx.r⟩) ?_
  rintro v w3 ⟨hsqX, hq3⟩
  obtain ⟨vX, okX, rfl, hdX⟩ := sqc_of hsqX
  have hs := hs.stay hq3
  have hv := hv.stay hq3
  have ht := ht.below hq3
  have hB := bl_tr hB hq3 hB.size
  refine ⟨_, rfl, ?_⟩
  refine dr U 600 rfl trivial ?_
  refine bsv U [.slice v_ vs.length vc] rfl rfl rfl rfl rfl rfl (by decide) (by decide) rfl ?_
  intro w4 hk4 hz4 hg4
  have hq4 : Below w3.heap.size w3 w4 := (Below.refl _ _).grown hg4 (Nat.le_refl _) (fun k e => by cases e)
  have hs := hs.stay hq4
  have hv := hv.stay hq4
  have hdX := hdX.stay hq4
  have ht := ht.below hq4
  have hB := bl_tr hB hq4 hB.size
  have hvm := rwl_bk (xss := [vs]) hk4 ⟨hv, trivial⟩
  refine dr U 600 rfl trivial ?_
  refine call (f := 11) rfl rfl cb11 (square_calls [vs] n (by omega) _ 1 w4 hvm (fitm_one hvl)) ?_
  rintro v w5 ⟨hsqV, hq5⟩
  obtain ⟨vV, okV, rfl, hdV⟩ := sqc_of hsqV
  have hs := hs.stay hq5
  have hv := hv.stay hq5
  have hdX := hdX.stay hq5
  have ht := ht.below hq5
  have hB := bl_tr hB hq5 hB.size
  refine ⟨_, rfl, ?_⟩
  cases okX with
  | false =>
    refine dr U 600 rfl trivial ?_
    exact ret Tryz.results3 rfl ⟨_, rfl, rfl, hB⟩
  | true =>
  cases okV with
  | false =>
    refine dr U 600 rfl trivial ?_
    exact ret Tryz.results3 rfl ⟨_, rfl, rfl, hB⟩
  | true =>
  obtain ⟨fX, aX, cX, sX, rfl, hmX⟩ := hdX rfl
  obtain ⟨fV, aV, cV, sV, rfl, hmV⟩ := hdV rfl
  refine dr U 600 rfl trivial ?_
  obtain ⟨AV, CV, hsV, hrV⟩ := hmV.rows
  have hr0 := hrV 0 hn0
  have sv := sV 0 hn0
  have zJ := app_small5 (m := n) hn5 sX sv
  by_cases hF : (gj n fX n).2 = n
  · refine il U rfl rfl rfl rfl rfl rfl rfl (fun _ => rfl) rfl 0 rfl hn0 hsV (srws_at hn0) ?_
    refine dr U 600 rfl trivial ?_
    refine call (f := 12) rfl rfl cb12 (pSolve_calls fX (fV 0) 12 hn0 (by omega) (by omega) (fun i hi k hk => small_mono (sX i hi k hk) (by omega)) sv (grw5 hn5 (by omega)) (sol_small5 hn0 hn5 (by omega) (fun i hi k hk => small_mono (sX i hi k hk) (by omega)) sv) _ _ _ _ w5 hmX hr0 ht) ?_
    rintro v w6 ⟨hS1, hq6⟩
    obtain ⟨x1, a1, c1, hx1, hs1, rfl, hl1⟩ := hS1.full hF
    have hmX := hmX.stay hq6
    have hsV := hsV.stay hq6
    have hr0 := hr0.stay hq6
    have ht := ht.below hq6
    have hB := bl_tr hB hq6 hB.size
    refine ⟨_, rfl, ?_⟩
    refine dr U 600 rfl trivial ?_
    refine il U rfl rfl rfl rfl rfl rfl rfl (fun _ => rfl) rfl 0 rfl hn0 hsV (srws_at hn0) ?_
    refine dr U 600 rfl trivial ?_
    refine call (f := 13) rfl rfl cb13 (pApply_calls fX (fV 0) hn0 hn0 (by omega) (by omega) (fun i hi k hk => small_mono (sX i hi k hk) (by omega)) (fun i hi => small_mono (sv i hi) (by omega)) (fun i hi => small_mono (zJ i hi) (by omega)) _ _ _ _ w6 hmX hr0 ht) ?_
    rintro v w7 ⟨⟨aJ, cJ, rfl, hmJ⟩, hq7⟩
    have hmX := hmX.stay hq7
    have hsV := hsV.stay hq7
    have hr0 := hr0.stay hq7
    have hl1 := hl1.stay hq7
    have ht := ht.below hq7
    have hB := bl_tr hB hq7 hB.size
    refine ⟨_, rfl, ?_⟩
    refine dr U 600 rfl trivial ?_
    refine call (f := 12) rfl rfl cb12 (pSolve_calls fX (mapp n fX (fV 0)) 126 hn0 (by omega) (by omega) (fun i hi k hk => small_mono (sX i hi k hk) (by omega)) zJ (grw5 hn5 (by omega)) (sol_small5 hn0 hn5 (by omega) (fun i hi k hk => small_mono (sX i hi k hk) (by omega)) zJ) _ _ _ _ w7 hmX hmJ ht) ?_
    rintro v w8 ⟨hS2, hq8⟩
    obtain ⟨x2, a2, c2, hx2, hs2, rfl, hl2⟩ := hS2.full hF
    have hmX := hmX.stay hq8
    have hsV := hsV.stay hq8
    have hr0 := hr0.stay hq8
    have hl1 := hl1.stay hq8
    have hmJ := hmJ.stay hq8
    have ht := ht.below hq8
    have hB := bl_tr hB hq8 hB.size
    refine ⟨_, rfl, ?_⟩
    refine dr U 600 rfl trivial ?_
    refine call (f := 14) rfl rfl cb14 (pRank_calls fX 12 hn0 hn0 (by omega) (by omega) (by omega) sX (grw5 hn5 (by omega)) _ _ w8 hmX) ?_
    rintro v w9 ⟨rfl, hq9⟩
    have hmX := hmX.stay hq9
    have hsV := hsV.stay hq9
    have hr0 := hr0.stay hq9
    have hl1 := hl1.stay hq9
    have hmJ := hmJ.stay hq9
    have hl2 := hl2.stay hq9
    have ht := ht.below hq9
    have hB := bl_tr hB hq9 hB.size
    refine ⟨_, rfl, ?_⟩
    refine dr U 600 rfl trivial ?_
    refine cF rfl rfl rfl (by decide) ?_
    refine dr U 600 rfl trivial ?_
    refine cF rfl rfl rfl ((by omega)) ?_; refine dr U 600 rfl trivial ?_
    refine call (f := 13) rfl rfl cb13 (pApply_calls fX x1 hn0 hn0 (by omega) (by omega) (fun i hi k hk => small_mono (sX i hi k hk) (by omega)) hs1 (fun i hi => by rw [hx1 i hi]; exact small_mono (sv i hi) (by omega)) _ _ _ _ w9 hmX hl1 ht) ?_
    rintro v w10 ⟨⟨aK, cK, rfl, hmK⟩, hq10⟩
    have hmX := hmX.stay hq10
    have hsV := hsV.stay hq10
    have hr0 := hr0.stay hq10
    have hl1 := hl1.stay hq10
    have hmJ := hmJ.stay hq10
    have hl2 := hl2.stay hq10
    have ht := ht.below hq10
    have hB := bl_tr hB hq10 hB.size
    refine ⟨_, rfl, ?_⟩
    refine dr U 600 rfl trivial ?_
    refine cT rfl rfl rfl rfl ?_
    refine dr U 600 rfl trivial ?_
    refine cT rfl rfl rfl rfl ?_
    refine dr U 600 rfl trivial ?_
    refine cT rfl rfl rfl rfl ?_
    refine dr U 600 rfl trivial ?_
    refine il U rfl rfl rfl rfl rfl rfl rfl (fun _ => rfl) rfl 0 rfl hn0 hsV (srws_at hn0) ?_
    refine dr U 600 rfl trivial ?_
    refine call (f := 15) rfl rfl cb15 (nsame_x _ _ _ _ _ _ w10 hmK hr0 (by rw [txs_length]; omega) (by rw [txs_length]; omega)) ?_
    rintro v w11 ⟨rfl, hq11⟩
    have hmX := hmX.stay hq11
    have hsV := hsV.stay hq11
    have hr0 := hr0.stay hq11
    have hl1 := hl1.stay hq11
    have hmJ := hmJ.stay hq11
    have hl2 := hl2.stay hq11
    have hmK := hmK.stay hq11
    have ht := ht.below hq11
    have hB := bl_tr hB hq11 hB.size
    refine ⟨_, rfl, ?_⟩
    rw [decide_eq_true (txs_congr hx1)]
    refine dr U 600 rfl trivial ?_
    refine il U rfl rfl rfl rfl rfl rfl rfl (fun _ => rfl) rfl 0 rfl hn0 hsV (srws_at hn0) ?_
    refine dr U 600 rfl trivial ?_
    refine call (f := 15) rfl rfl cb15 (nsame_x _ _ _ _ _ _ w11 hl2 hr0 (by rw [txs_length]; omega) (by rw [txs_length]; omega)) ?_
    rintro v w12 ⟨rfl, hq12⟩
    have hmX := hmX.stay hq12
    have hsV := hsV.stay hq12
    have hr0 := hr0.stay hq12
    have hl1 := hl1.stay hq12
    have hmJ := hmJ.stay hq12
    have hl2 := hl2.stay hq12
    have hmK := hmK.stay hq12
    have ht := ht.below hq12
    have hB := bl_tr hB hq12 hB.size
    refine ⟨_, rfl, ?_⟩
    rw [decide_eq_true (txs_congr (sol_same hF hx2 (fun i _ => rfl)))]
    refine dr U 600 rfl trivial ?_
    exact ret Tryz.results3 rfl ⟨_, rfl, rfl, hB⟩
  · refine il U rfl rfl rfl rfl rfl rfl rfl (fun _ => rfl) rfl 0 rfl hn0 hsV (srws_at hn0) ?_
    refine dr U 600 rfl trivial ?_
    refine call (f := 12) rfl rfl cb12 (pSolve_calls fX (fV 0) 12 hn0 (by omega) (by omega) (fun i hi k hk => small_mono (sX i hi k hk) (by omega)) sv (grw5 hn5 (by omega)) (sol_small5 hn0 hn5 (by omega) (fun i hi k hk => small_mono (sX i hi k hk) (by omega)) sv) _ _ _ _ w5 hmX hr0 ht) ?_
    rintro v w6 ⟨hS1, hq6⟩
    obtain ⟨a1, c1, rfl⟩ := hS1.none hF
    have hmX := hmX.stay hq6
    have hsV := hsV.stay hq6
    have hr0 := hr0.stay hq6
    have ht := ht.below hq6
    have hB := bl_tr hB hq6 hB.size
    refine ⟨_, rfl, ?_⟩
    refine dr U 600 rfl trivial ?_
    refine il U rfl rfl rfl rfl rfl rfl rfl (fun _ => rfl) rfl 0 rfl hn0 hsV (srws_at hn0) ?_
    refine dr U 600 rfl trivial ?_
    refine call (f := 13) rfl rfl cb13 (pApply_calls fX (fV 0) hn0 hn0 (by omega) (by omega) (fun i hi k hk => small_mono (sX i hi k hk) (by omega)) (fun i hi => small_mono (sv i hi) (by omega)) (fun i hi => small_mono (zJ i hi) (by omega)) _ _ _ _ w6 hmX hr0 ht) ?_
    rintro v w7 ⟨⟨aJ, cJ, rfl, hmJ⟩, hq7⟩
    have hmX := hmX.stay hq7
    have hsV := hsV.stay hq7
    have hr0 := hr0.stay hq7
    have ht := ht.below hq7
    have hB := bl_tr hB hq7 hB.size
    refine ⟨_, rfl, ?_⟩
    refine dr U 600 rfl trivial ?_
    refine call (f := 12) rfl rfl cb12 (pSolve_calls fX (mapp n fX (fV 0)) 126 hn0 (by omega) (by omega) (fun i hi k hk => small_mono (sX i hi k hk) (by omega)) zJ (grw5 hn5 (by omega)) (sol_small5 hn0 hn5 (by omega) (fun i hi k hk => small_mono (sX i hi k hk) (by omega)) zJ) _ _ _ _ w7 hmX hmJ ht) ?_
    rintro v w8 ⟨hS2, hq8⟩
    obtain ⟨a2, c2, rfl⟩ := hS2.none hF
    have hmX := hmX.stay hq8
    have hsV := hsV.stay hq8
    have hr0 := hr0.stay hq8
    have hmJ := hmJ.stay hq8
    have ht := ht.below hq8
    have hB := bl_tr hB hq8 hB.size
    refine ⟨_, rfl, ?_⟩
    refine dr U 600 rfl trivial ?_
    refine call (f := 14) rfl rfl cb14 (pRank_calls fX 12 hn0 hn0 (by omega) (by omega) (by omega) sX (grw5 hn5 (by omega)) _ _ w8 hmX) ?_
    rintro v w9 ⟨rfl, hq9⟩
    have hmX := hmX.stay hq9
    have hsV := hsV.stay hq9
    have hr0 := hr0.stay hq9
    have hmJ := hmJ.stay hq9
    have ht := ht.below hq9
    have hB := bl_tr hB hq9 hB.size
    refine ⟨_, rfl, ?_⟩
    refine dr U 600 rfl trivial ?_
    refine cF rfl rfl rfl (by decide) ?_
    refine dr U 600 rfl trivial ?_
    refine cT rfl rfl rfl ((by have := (gj_le n fX n).2; omega)) ?_; refine dr U 600 rfl trivial ?_
    refine cT rfl rfl rfl rfl ?_
    refine dr U 600 rfl trivial ?_
    refine cT rfl rfl rfl rfl ?_
    refine dr U 600 rfl trivial ?_
    exact ret Tryz.results3 rfl ⟨_, rfl, rfl, hB⟩
end Go.Proofs.YtfdekppnilffeaaGreatDoor
