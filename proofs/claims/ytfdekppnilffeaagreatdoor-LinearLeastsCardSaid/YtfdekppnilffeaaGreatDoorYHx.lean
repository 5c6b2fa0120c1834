/-
  The law LinearLeasts: it returns true for every input. Printed by least27.py.
  Conditions: what is copied fits into memory; the library's table of powers of ten is laid.
-/
import Derived.Test.YtfdekppnilffeaaGreatDoorYHr
set_option linter.unusedSimpArgs false
set_option linter.unusedVariables false
set_option maxHeartbeats 4000000
namespace Go.Proofs.YtfdekppnilffeaaGreatDoor
open Go Go.Proofs Go.RowKit Go.Lib

theorem linearLeasts_calls (xss : List (List Tx)) (a : Option Addr) (c : Nat) (vs : List Tx) (v_ : Option Addr) (vc : Nat) (us : List Tx) (u_ : Option Addr) (uc : Nat) (sz sz2 : Int) (hsz : -9223372036854775808 ≤ sz ∧ sz ≤ 9223372036854775807) (hsz2 : -9223372036854775808 ≤ sz2 ∧ sz2 ≤ 9223372036854775807) (w : World) (ht : TabOk w) (hs : SM w a xss) (hfx : FitM xss 1) (hv : Lit w (.slice v_ vs.length vc) vs) (hvl : vs.length ≤ 8796093022208) (hu : Lit w (.slice u_ us.length uc) us) (hul : us.length ≤ 8796093022208) :
    Calls Tryz.prog 4 #[.slice a xss.length c, .slice v_ vs.length vc, .slice u_ us.length uc, .int .i64 sz, .int .i64 sz2] w (Ret fun v w' => v = .bool true ∧ Below w.heap.size w w') := by
  refine enter Tryz.func4 rfl Tryz.ntmps4 (Nat.le_of_ble_eq_true rfl) ?_
  refine dr U 600 rfl trivial ?_
  have hB := Below.refl w.heap.size w
  refine call (f := 9) rfl rfl cb9 (lives27_calls w ht) ?_
  rintro v w1 ⟨rfl, hq1⟩
  have hs := hs.stay hq1
  have hv := hv.stay hq1
  have hu := hu.stay hq1
  have ht := ht.below hq1
  have hB := bl_tr hB hq1 hB.size
  refine ⟨_, rfl, ?_⟩
  refine dr U 600 rfl trivial ?_
  refine call (f := 10) rfl rfl cb10 (pick_calls sz 5 (by omega) (by omega) w1) ?_
  rintro v _ ⟨⟨r, rfl, hr⟩, rfl⟩
  refine ⟨_, rfl, ?_⟩
  refine dr U 600 rfl (by first | exact True.intro | (simp only [AllP, InR, List.nil_append, List.cons_append, and_true]; omega)) ?_
  obtain ⟨n, hn0, hn5, en⟩ : ∃ n : Nat, 0 < n ∧ n ≤ 5 ∧ (1 + (r : Int) : Int) = ((n : Nat) : Int) := ⟨1 + r, by omega, by omega, by omega⟩
  rw [en]
  refine call (f := 10) rfl rfl cb10 (pick_calls sz2 n (by omega) (by omega) w1) ?_
  rintro v _ ⟨⟨r2, rfl, hr2⟩, rfl⟩
  refine ⟨_, rfl, ?_⟩
  refine dr U 600 rfl (by first | exact True.intro | (simp only [AllP, InR, List.nil_append, List.cons_append, and_true]; omega)) ?_
  obtain ⟨p, hp0, hpn, ep⟩ : ∃ p : Nat, 0 < p ∧ p ≤ n ∧ (1 + (r2 : Int) : Int) = ((p : Nat) : Int) := ⟨1 + r2, by omega, by omega, by omega⟩
  rw [ep]
  have hp5 : p ≤ 5 := by omega
  refine call (f := 11) rfl rfl cb11 (square_calls xss n (by omega) a c w1 hs ⟨by have := hfx.l; omega, hfx.r⟩) ?_
  rintro v w2 ⟨hsqX, hq2⟩
  obtain ⟨vX, okX, rfl, hdX⟩ := sqc_of hsqX
  have hs := hs.stay hq2
  have hv := hv.stay hq2
  have hu := hu.stay hq2
  have ht := ht.below hq2
  have hB := bl_tr hB hq2 hB.size
  refine ⟨_, rfl, ?_⟩
  refine dr U 600 rfl trivial ?_
  refine bsv U [.slice v_ vs.length vc] rfl rfl rfl rfl rfl rfl (by decide) (by decide) rfl ?_
  intro w3 hk3 hz3 hg3
  have hq3 : Below w2.heap.size w2 w3 := (Below.refl _ _).grown hg3 (Nat.le_refl _) (fun k e => by cases e)
  have hs := hs.stay hq3
  have hv := hv.stay hq3
  have hu := hu.stay hq3
  have hdX := hdX.stay hq3
  have ht := ht.below hq3
  have hB := bl_tr hB hq3 hB.size
  have hvm := rwl_bk (xss := [vs]) hk3 ⟨hv, trivial⟩
  refine dr U 600 rfl trivial ?_
  refine call (f := 11) rfl rfl cb11 (square_calls [vs] n (by omega) _ 1 w3 hvm (fitm_one hvl)) ?_
  rintro v w4 ⟨hsqV, hq4⟩
  obtain ⟨vV, okV, rfl, hdV⟩ := sqc_of hsqV
  have hs := hs.stay hq4
  have hv := hv.stay hq4
  have hu := hu.stay hq4
  have hdX := hdX.stay hq4
  have ht := ht.below hq4
  have hB := bl_tr hB hq4 hB.size
  refine ⟨_, rfl, ?_⟩
  refine dr U 600 rfl trivial ?_
  refine bsv U [.slice u_ us.length uc] rfl rfl rfl rfl rfl rfl (by decide) (by decide) rfl ?_
  intro w5 hk5 hz5 hg5
  have hq5 : Below w4.heap.size w4 w5 := (Below.refl _ _).grown hg5 (Nat.le_refl _) (fun k e => by cases e)
  have hs := hs.stay hq5
  have hv := hv.stay hq5
  have hu := hu.stay hq5
  have hdX := hdX.stay hq5
  have hdV := hdV.stay hq5
  have ht := ht.below hq5
  have hB := bl_tr hB hq5 hB.size
  have hum := rwl_bk (xss := [us]) hk5 ⟨hu, trivial⟩
  refine dr U 600 rfl trivial ?_
  refine call (f := 11) rfl rfl cb11 (square_calls [us] n (by omega) _ 1 w5 hum (fitm_one hul)) ?_
  rintro v w6 ⟨hsqU, hq6⟩
  obtain ⟨vU, okU, rfl, hdU⟩ := sqc_of hsqU
  have hs := hs.stay hq6
  have hv := hv.stay hq6
  have hu := hu.stay hq6
  have hdX := hdX.stay hq6
  have hdV := hdV.stay hq6
  have ht := ht.below hq6
  have hB := bl_tr hB hq6 hB.size
  refine ⟨_, rfl, ?_⟩
  cases okX with
  | false =>
    refine dr U 600 rfl trivial ?_
    exact ret Tryz.results4 rfl ⟨_, rfl, rfl, hB⟩
  | true =>
  cases okV with
  | false =>
    refine dr U 600 rfl trivial ?_
    exact ret Tryz.results4 rfl ⟨_, rfl, rfl, hB⟩
  | true =>
  cases okU with
  | false =>
    refine dr U 600 rfl trivial ?_
    exact ret Tryz.results4 rfl ⟨_, rfl, rfl, hB⟩
  | true =>
  obtain ⟨fX, aX, cX, sX, rfl, hmX⟩ := hdX rfl
  obtain ⟨fV, aV, cV, sV, rfl, hmV⟩ := hdV rfl
  obtain ⟨fU, aU, cU, sU, rfl, hmU⟩ := hdU rfl
  obtain ⟨AX, CX, hsX, hrX, hcX⟩ := hmX.rows
  obtain ⟨AV, CV, hsV, hrV, _⟩ := hmV.rows
  obtain ⟨AU, CU, hsU, hrU, hcU⟩ := hmU.rows
  have hr0 := hrV 0 hn0
  have hu0 := hrU 0 hn0
  have hcu := hcU 0 hn0
  have hgv := srws_at (A := AV) (C := CV) (f := fV) (n := n) (m := n) (i := 0) hn0
  have hgu := srws_at (A := AU) (C := CU) (f := fU) (n := n) (m := n) (i := 0) hn0
  obtain ⟨gV, oV, rfl, _⟩ := hsV 0 _ hgv
  obtain ⟨gv, ov, e0, _⟩ := hr0.sl.1 0 _ (txs_get hn0)
  rw [e0] at hr0 hgv
  have sv := sV 0 hn0
  have su : ∀ i, i < p → Small 12 (fU 0 i) := fun i hi => sU 0 hn0 i (by omega)
  have sA : ∀ i, i < n → ∀ k, k < p → Small 12 (fX i k) := fun i hi k hk => sX i hi k (by omega)
  have sA4 : ∀ i, i < n → ∀ k, k < p → Small 4000 (fX i k) := fun i hi k hk => small_mono (sA i hi k hk) (by omega)
  refine dr U 600 rfl trivial ?_
  refine call (f := 16) rfl rfl cb16 (tall_calls n p fX (by omega) hpn _ _ (by omega) w6 AX CX hsX (fun i hi => (hrX i hi).sl.1) hcX) ?_
  rintro v w7 ⟨⟨aA, cA, rfl, hmA⟩, hq7⟩
  have hsV := hsV.stay hq7
  have hr0 := hr0.stay hq7
  have hsU := hsU.stay hq7
  have hu0 := hu0.stay hq7
  have ht := ht.below hq7
  have hB := bl_tr hB hq7 hB.size
  refine ⟨_, rfl, ?_⟩
  refine dr U 600 rfl trivial ?_
  have sN : ∀ i, i < p → ∀ k, k < p → Small 126 (mmul n (trp fX) fX i k) := fun i hi k hk => small_mono (sm_small2 (fun t ht => sA t ht i hi) (fun t ht => sA t ht k hk) n (Nat.le_refl _)) (by omega)
  have sb : ∀ i, i < p → Small 126 (mapp n (trp fX) (fV 0) i) := fun i hi => small_mono (sm_small2 (fun t ht => sA t ht i hi) (fun t ht => sv t ht) n (Nat.le_refl _)) (by omega)
  have zQ : ∀ i, i < n → Small 126 (mapp p fX (fU 0) i) := app_small5 hp5 sA su
  have hrk := rank_normal n p fX
  have hle := (gj_le n fX p).2
  by_cases hF : (gj p (mmul n (trp fX) fX) p).2 = p
  · refine il U rfl rfl rfl rfl rfl rfl rfl (fun _ => rfl) rfl 0 rfl hn0 hsV hgv ?_
    refine dr U 600 rfl trivial ?_
    refine call (f := 17) rfl rfl cb17 (pLeast_calls fX (fV 0) 12 12 hn0 hp0 (by omega) (by omega) (by omega) (by omega) sA sv (by omega) (grw5 hp5 (by omega)) (sol_small5 hp0 hp5 (by omega) sN sb) _ _ _ _ w7 hmA hr0 ht) ?_
    rintro v w8 ⟨hS1, hq8⟩
    obtain ⟨z, aZ, cZ, hz, hzs, rfl, hlz⟩ := hS1.full hF
    have hsV := hsV.stay hq8
    have hr0 := hr0.stay hq8
    have hsU := hsU.stay hq8
    have hu0 := hu0.stay hq8
    have hmA := hmA.stay hq8
    have ht := ht.below hq8
    have hB := bl_tr hB hq8 hB.size
    refine ⟨_, rfl, ?_⟩
    refine dr U 600 rfl trivial ?_
    refine call (f := 14) rfl rfl cb14 (pRank_calls fX 12 hn0 hp0 (by omega) (by omega) (by omega) sA (grw5 hp5 (by omega)) _ _ w8 hmA) ?_
    rintro v w9 ⟨rfl, hq9⟩
    have hsV := hsV.stay hq9
    have hr0 := hr0.stay hq9
    have hsU := hsU.stay hq9
    have hu0 := hu0.stay hq9
    have hmA := hmA.stay hq9
    have hlz := hlz.stay hq9
    have ht := ht.below hq9
    have hB := bl_tr hB hq9 hB.size
    refine ⟨_, rfl, ?_⟩
    refine dr U 600 rfl trivial ?_
    refine cF rfl rfl rfl (by decide) ?_
    refine dr U 600 rfl trivial ?_
    refine cF rfl rfl rfl ((by omega)) ?_; refine dr U 600 rfl trivial ?_
    obtain ⟨q1, q2, q3, q4, q5, q6⟩ := resid_q hn0 hn5 hp5 sA sv hF hz
    refine call (f := 13) rfl rfl cb13 (pApply_calls fX z hn0 hp0 (by omega) (by omega) sA4 hzs (fun i hi => small_mono (q1 i hi) (by omega)) _ _ _ _ w9 hmA hlz ht) ?_
    rintro v w10 ⟨⟨aP, cP, rfl, hlP⟩, hq10⟩
    have hsV := hsV.stay hq10
    have hr0 := hr0.stay hq10
    have hsU := hsU.stay hq10
    have hu0 := hu0.stay hq10
    have hmA := hmA.stay hq10
    have hlz := hlz.stay hq10
    have ht := ht.below hq10
    have hB := bl_tr hB hq10 hB.size
    refine ⟨_, rfl, ?_⟩
    refine dr U 600 rfl trivial ?_
    refine il U rfl rfl rfl rfl rfl rfl rfl (fun _ => rfl) rfl 0 rfl hn0 hsU hgu ?_
    refine dr U 600 rfl (by first | exact True.intro | (simp only [AllP, InR, List.nil_append, List.cons_append, and_true]; omega)) ?_
    simp only [Int.toNat_natCast]
    refine call (f := 13) rfl rfl cb13 (pApply_calls fX (fU 0) hn0 hp0 (by omega) (by omega) sA4 (fun i hi => small_mono (su i hi) (by omega)) (fun i hi => small_mono (zQ i hi) (by omega)) _ _ _ _ w10 hmA (lit_take hu0 hpn) ht) ?_
    rintro v w11 ⟨⟨aQ, cQ, rfl, hlQ⟩, hq11⟩
    have hsV := hsV.stay hq11
    have hr0 := hr0.stay hq11
    have hsU := hsU.stay hq11
    have hu0 := hu0.stay hq11
    have hmA := hmA.stay hq11
    have hlz := hlz.stay hq11
    have hlP := hlP.stay hq11
    have ht := ht.below hq11
    have hB := bl_tr hB hq11 hB.size
    refine ⟨_, rfl, ?_⟩
    refine dr U 600 rfl trivial ?_
    refine cF rfl rfl rfl (by decide) ?_
    refine dr U 600 rfl trivial ?_
    refine cF rfl rfl rfl (by decide) ?_
    refine dr U 600 rfl trivial ?_
    refine cF rfl rfl rfl (by decide) ?_
    refine dr U 600 rfl trivial ?_
    refine cF rfl rfl rfl (fun h => h rfl) ?_
    refine dr U 600 rfl trivial ?_
    refine cF rfl rfl rfl (fun h => h rfl) ?_
    refine dr U 600 rfl trivial ?_
    refine cF rfl rfl rfl (fun h => h rfl) ?_
    refine dr U 600 rfl trivial ?_
    refine call (f := 17) rfl rfl cb17 (pLeast_calls fX (mapp p fX (fU 0)) 12 126 hn0 hp0 (by omega) (by omega) (by omega) (by omega) sA zQ (by omega) (Nat.le_trans (grw_mono2 (by omega : n * (12 + 126 + 1) + 1 ≤ 696) p) (grw_at hp5 (by decide))) (fun x hx _ i hi => by rw [normal_back hF hx i hi]; exact small_mono (su i hi) (by omega)) _ _ _ _ w11 hmA hlQ ht) ?_
    rintro v w12 ⟨hS2, hq12⟩
    obtain ⟨x2, a2, c2, hx2, hs2, rfl, hl2⟩ := hS2.full hF
    have hsV := hsV.stay hq12
    have hr0 := hr0.stay hq12
    have hsU := hsU.stay hq12
    have hu0 := hu0.stay hq12
    have hmA := hmA.stay hq12
    have hlz := hlz.stay hq12
    have hlP := hlP.stay hq12
    have hlQ := hlQ.stay hq12
    have ht := ht.below hq12
    have hB := bl_tr hB hq12 hB.size
    refine ⟨_, rfl, ?_⟩
    refine dr U 600 rfl trivial ?_
    refine cF rfl rfl rfl (by decide) ?_
    refine dr U 600 rfl trivial ?_
    refine il U rfl rfl rfl rfl rfl rfl rfl (fun _ => rfl) rfl 0 rfl hn0 hsU hgu ?_
    refine dr U 600 rfl (by first | exact True.intro | (simp only [AllP, InR, List.nil_append, List.cons_append, and_true]; omega)) ?_
    simp only [Int.toNat_natCast]
    refine call (f := 15) rfl rfl cb15 (nsame_x _ _ _ _ _ _ w12 hl2 (lit_take hu0 hpn) (by rw [txs_length]; omega) (by rw [txs_length]; omega)) ?_
    rintro v w13 ⟨rfl, hq13⟩
    have hsV := hsV.stay hq13
    have hr0 := hr0.stay hq13
    have hsU := hsU.stay hq13
    have hu0 := hu0.stay hq13
    have hmA := hmA.stay hq13
    have hlz := hlz.stay hq13
    have hlP := hlP.stay hq13
    have hlQ := hlQ.stay hq13
    have hl2 := hl2.stay hq13
    have ht := ht.below hq13
    have hB := bl_tr hB hq13 hB.size
    refine ⟨_, rfl, ?_⟩
    rw [decide_eq_true (txs_congr (normal_back hF hx2))]
    refine dr U 600 rfl trivial ?_
    obtain ⟨AA, CA, hsA, hrA⟩ := hmA.rows
    obtain ⟨gP, oP, rfl, _⟩ := hlP.sl.1 0 _ (txs_get hn0)
    have hsP := hlP.sl.1
    have hs0 := hr0.sl.1
    refine loopR (fun fr w' mm => ∃ (k : Nat), fr = [(3, .int .i64 (n : Nat)), (4, .int .i64 (p : Nat)), (13, .slice (some ⟨gV, oV, none⟩) n cV), (15, .slice aU n cU), (17, .slice aA n cA), (18, .slice aZ p cZ), (22, .slice (some ⟨gP, oP, none⟩) n cP), (24, .slice aQ n cQ), (28, .int .i64 (k : Nat))] ∧ k ≤ p ∧ Below w13.heap.size w13 w' ∧ mm = p - k)
      ⟨0, rfl, by omega, Below.refl _ _, rfl⟩ ⟨rfl, rfl, rfl, rfl, rfl, rfl, rfl, rfl, rfl, trivial⟩ ?_
    rintro fr y1 mm ⟨k, rfl, hk, hB1, rfl⟩
    refine dr U 600 rfl trivial ?_
    refine cS rfl rfl rfl rfl (fun hq => ?_) (fun hq => ?_)
    · have hkp : k < p := by omega
      refine dr U 600 rfl trivial ?_
      refine loopR (fun fr w' mm => ∃ (i : Nat), fr = [(3, .int .i64 (n : Nat)), (4, .int .i64 (p : Nat)), (13, .slice (some ⟨gV, oV, none⟩) n cV), (15, .slice aU n cU), (17, .slice aA n cA), (18, .slice aZ p cZ), (22, .slice (some ⟨gP, oP, none⟩) n cP), (24, .slice aQ n cQ), (28, .int .i64 (k : Nat)), (29, .string ⟨⟨qtext (sm i (fun i => (fV 0 i + -mapp p fX z i) * fX i k))⟩⟩), (30, .int .i64 (i : Nat))] ∧ i ≤ n ∧ Below w13.heap.size w13 w' ∧ mm = n - i)
        ⟨0, rfl, by omega, hB1, rfl⟩ ⟨rfl, rfl, rfl, rfl, rfl, rfl, rfl, rfl, rfl, by rw [sm, qtext_zero]; rfl, rfl, trivial⟩ ?_
      rintro fr y2 mm ⟨i, rfl, hi, hB2, rfl⟩
      refine dr U 600 rfl trivial ?_
      refine cS rfl rfl rfl rfl (fun hq => ?_) (fun hq => ?_)
      · have hin : i < n := by omega
        have ht1 := txs_get (f := fV 0) hin
        have ht2 := txs_get (f := mapp p fX z) hin
        refine dr U 600 rfl trivial ?_
        refine dwn 15 (fun W => Sl W (some ⟨gV, oV, none⟩) (srws (mtx n n fV) AV CV) ∧ Sl W (some ⟨gv, ov, none⟩) (strs (txs n (fV 0))) ∧ Sl W (some ⟨gP, oP, none⟩) (strs (txs n (mapp p fX z)))) hmo ?_
        intro x5 hh5 hg5
        have hB5 := hB2.grown hg5 hB2.size (fun k e => by cases e)
        refine dq U [0,1,2,3,4,5,6,7,8,9] [(2, .slice (some ⟨gv, ov, none⟩) n (CV 0)), (5, .string ⟨⟨qtext (fV 0 i)⟩⟩), (9, .string ⟨⟨qtext (mapp p fX z i)⟩⟩)] (by kernel_rfl) rfl rfl ⟨hsV.stay hB5, hs0.stay hB5, hsP.stay hB5⟩ (by simp only [AllP, InR, List.nil_append, List.cons_append]; (repeat' apply And.intro); all_goals first | exact True.intro | omega | exact fun w h => run_load_cell U rfl (by simpa [add_plain] using slc2 h.1 hgv) | exact fun w h => run_load_cell U rfl (by simpa [add_plain] using slc2 h.2.1 ht1) | exact fun w h => run_load_cell U rfl (by simpa [add_plain] using slc2 h.2.2 ht2)) ?_
        refine d1 rfl rfl (fun _ => ⟨hsV.stay hB5, hs0.stay hB5, hsP.stay hB5⟩) ?_
        refine call (f := 18) rfl rfl cb18 (rsub_q (small_mono (sv i hin) (by omega)) (small_mono (q1 i hin) (by omega)) (small_mono (q2 i hin) (by omega)) x5) ?_
        rintro v x6 ⟨rfl, hB56⟩
        have hB6 := bl_tr hB5 hB56 hB5.size
        refine ⟨_, rfl, d2 ?_⟩
        refine dq U [11,12,13,14] [] (by kernel_rfl) rfl rfl ⟨hsV.stay hB6, hs0.stay hB6, hsP.stay hB6⟩ (by simp only [AllP, InR, List.nil_append, List.cons_append]; (repeat' apply And.intro); all_goals first | exact True.intro | omega | (simp only [List.length_cons, List.length_nil]; omega) | (intro w_ hw_; refine ldC U rfl hw_ ?_; first | assumption | (simp [add_plain]; assumption)) | (intro w_ hw_; refine run_load_cell U rfl ?_; first | exact hw_ | exact hw_.1 | exact hw_.2 | exact hw_.2.1 | exact hw_.2.2 | exact hw_.2.2.1 | exact hw_.2.2.2 | (simp [add_plain]; first | exact hw_.1 | exact hw_.2.1 | exact hw_.2.2))) ?_
        refine d1 rfl rfl (fun _ => ⟨hsV.stay hB6, hs0.stay hB6, hsP.stay hB6⟩) ?_
        refine dr U 600 rfl trivial ?_
        refine d3 ?_; refine dend rfl (fun h => by cases h) ?_
        refine dr U 600 rfl trivial ?_
        refine il U rfl rfl rfl rfl rfl rfl rfl (fun _ => rfl) rfl i rfl hin (hsA.stay hB6) (srws_at hin) ?_
        refine dr U 600 rfl trivial ?_
        refine il U rfl rfl rfl rfl rfl rfl rfl (fun _ => rfl) rfl k rfl hkp ((hrA i hin).sl.1.stay hB6) (txs_get hkp) ?_
        have hsp := small_mul (q2 i hin) (sA i hin k hkp)
        refine call (f := 19) rfl rfl cb19 (rmul_q (small_mono (q2 i hin) (by omega)) (sA4 i hin k hkp) (small_mono hsp (by omega)) x6) ?_
        rintro v x7 ⟨rfl, hB67⟩
        have hB7 := bl_tr hB6 hB67 hB6.size
        refine ⟨_, rfl, ?_⟩
        refine dr U 600 rfl trivial ?_
        refine call (f := 20) rfl rfl cb20 (radd_q (small_mono (q4 k hkp i hi) (by omega)) (small_mono hsp (by omega)) (small_mono (q4 k hkp (i + 1) hin) (by omega)) x7) ?_
        rintro v x8 ⟨rfl, hB78⟩
        have hB8 := bl_tr hB7 hB78 hB7.size
        refine ⟨_, rfl, ?_⟩
        refine dr U 600 rfl (by first | exact True.intro | (simp only [AllP, InR, List.nil_append, List.cons_append, and_true]; omega)) ?_
        exact rend _ _ ⟨i + 1, rfl, by omega, hB8, rfl⟩ (by omega) ⟨rfl, rfl, rfl, rfl, rfl, rfl, rfl, rfl, rfl, rfl, iv (by omega), trivial⟩
      · obtain rfl : n = i := by omega
        rw [q6 k hkp, qtext_zero]
        refine dr U 600 rfl trivial ?_
        refine cF rfl rfl rfl (fun h => h rfl) ?_
        refine dr U 600 rfl (by first | exact True.intro | (simp only [AllP, InR, List.nil_append, List.cons_append, and_true]; omega)) ?_
        exact rend _ _ ⟨k + 1, rfl, by omega, hB2, rfl⟩ (by omega) ⟨rfl, rfl, rfl, rfl, rfl, rfl, rfl, rfl, iv (by omega), trivial⟩
    obtain rfl : p = k := by omega
    refine dr U 600 rfl trivial ?_
    refine dwn 15 (fun W => Sl W (some ⟨gV, oV, none⟩) (srws (mtx n n fV) AV CV)) hmo ?_
    intro x5 hh5 hg5
    have hB5 := hB1.grown hg5 hB1.size (fun k e => by cases e)
    refine dq U [0,1,2,3,5,6,7,8] [(3, .slice (some ⟨gv, ov, none⟩) n (CV 0)), (8, .slice (some ⟨gv, ov, none⟩) n (CV 0))] (by kernel_rfl) rfl rfl (hsV.stay hB5) (by simp only [AllP, InR, List.nil_append, List.cons_append]; (repeat' apply And.intro); all_goals first | exact True.intro | omega | exact fun w h => run_load_cell U rfl (by simpa [add_plain] using slc2 h hgv)) ?_
    refine d1 rfl rfl (fun _ => (hsV.stay hB5)) ?_
    refine call (f := 22) rfl rfl cb22 (squares_calls n (mapp p fX z) (fV 0) hn0 (by omega) (fun i hi => small_mono (q1 i hi) (by omega)) (fun i hi => small_mono (sv i hi) (by omega)) (fun i hi => small_mono (q3 i hi) (by omega)) (fun i hi => small_mono (small_mul (q3 i hi) (q3 i hi)) (by omega)) (fun t ht => small_mono (q5 t ht) (by omega)) _ _ _ _ x5 (hlP.stay hB5) (hr0.stay hB5)) ?_
    rintro v x6 ⟨rfl, hB56⟩
    have hB6 := bl_tr hB5 hB56 hB5.size
    refine ⟨_, rfl, d2 ?_⟩
    refine d1 rfl rfl (fun _ => (hsV.stay hB6)) ?_
    have sd : ∀ i, i < n → Small 139 (mapp p fX (fU 0) i + -fV 0 i) := fun i hi => small_mono (small_add (zQ i hi) (small_neg (sv i hi))) (by omega)
    have ssq : ∀ t, t ≤ n → Small 1400 (sm t (fun i => (mapp p fX (fU 0) i + -fV 0 i) * (mapp p fX (fU 0) i + -fV 0 i))) := fun t ht => small_mono (sm_small2 (n := t) (fun i hi => sd i (by omega)) (fun i hi => sd i (by omega)) t (Nat.le_refl _)) (by omega)
    refine call (f := 22) rfl rfl cb22 (squares_calls n (mapp p fX (fU 0)) (fV 0) hn0 (by omega) (fun i hi => small_mono (zQ i hi) (by omega)) (fun i hi => small_mono (sv i hi) (by omega)) (fun i hi => small_mono (sd i hi) (by omega)) (fun i hi => small_mono (small_mul (sd i hi) (sd i hi)) (by omega)) (fun t ht => small_mono (ssq t ht) (by omega)) _ _ _ _ x6 (hlQ.stay hB6) (hr0.stay hB6)) ?_
    rintro v x7 ⟨rfl, hB67⟩
    have hB7 := bl_tr hB6 hB67 hB6.size
    refine ⟨_, rfl, d2 ?_⟩
    refine d1 rfl rfl (fun _ => (hsV.stay hB7)) ?_
    refine call (f := 21) rfl rfl cb21 (rcmp_q (small_mono (q5 n (Nat.le_refl _)) (by omega)) (small_mono (ssq n (Nat.le_refl _)) (by omega)) x7) ?_
    rintro v x8 ⟨rfl, hB78⟩
    have hB8 := bl_tr hB7 hB78 hB7.size
    have hsV := hsV.stay hB8
    have hsU := hsU.stay hB8
    have hu0 := hu0.stay hB8
    have hlz := hlz.stay hB8
    have hB := bl_tr hB hB8 hB.size
    rcases least_cmp (w := fU 0) hF hz with hc | ⟨hc, hzw⟩
    · rw [hc]
      refine ⟨_, rfl, d2 ?_⟩
      refine dq U [11,12,13,14] [] (by kernel_rfl) rfl rfl hsV (by simp only [AllP, InR, List.nil_append, List.cons_append]; (repeat' apply And.intro); all_goals first | exact True.intro | omega | (simp only [List.length_cons, List.length_nil]; omega) | (intro w_ hw_; refine ldC U rfl hw_ ?_; first | assumption | (simp [add_plain]; assumption)) | (intro w_ hw_; refine run_load_cell U rfl ?_; first | exact hw_ | exact hw_.1 | exact hw_.2 | exact hw_.2.1 | exact hw_.2.2 | exact hw_.2.2.1 | exact hw_.2.2.2 | (simp [add_plain]; first | exact hw_.1 | exact hw_.2.1 | exact hw_.2.2))) ?_
      refine d1 rfl rfl (fun _ => hsV) ?_
      refine dr U 600 rfl trivial ?_
      refine d3 ?_; refine dend rfl (fun h => by cases h) ?_
      refine dr U 600 rfl trivial ?_
      refine cT rfl rfl rfl rfl ?_
      refine dr U 600 rfl trivial ?_
      refine cT rfl rfl rfl (by decide) ?_
      refine dr U 600 rfl trivial ?_
      refine cT rfl rfl rfl (by decide) ?_
      refine dr U 600 rfl trivial ?_
      exact ret Tryz.results4 rfl ⟨_, rfl, rfl, hB⟩
    · rw [hc]
      refine ⟨_, rfl, d2 ?_⟩
      refine dq U [11,12,13,14] [] (by kernel_rfl) rfl rfl hsV (by simp only [AllP, InR, List.nil_append, List.cons_append]; (repeat' apply And.intro); all_goals first | exact True.intro | omega | (simp only [List.length_cons, List.length_nil]; omega) | (intro w_ hw_; refine ldC U rfl hw_ ?_; first | assumption | (simp [add_plain]; assumption)) | (intro w_ hw_; refine run_load_cell U rfl ?_; first | exact hw_ | exact hw_.1 | exact hw_.2 | exact hw_.2.1 | exact hw_.2.2 | exact hw_.2.2.1 | exact hw_.2.2.2 | (simp [add_plain]; first | exact hw_.1 | exact hw_.2.1 | exact hw_.2.2))) ?_
      refine d1 rfl rfl (fun _ => hsV) ?_
      refine dr U 600 rfl trivial ?_
      refine d3 ?_; refine dend rfl (fun h => by cases h) ?_
      refine dr U 600 rfl trivial ?_
      refine cT rfl rfl rfl rfl ?_
      refine dr U 600 rfl trivial ?_
      refine cT rfl rfl rfl (by decide) ?_
      refine dr U 600 rfl trivial ?_
      refine cF rfl rfl rfl (by decide) ?_
      refine dr U 600 rfl trivial ?_
      refine il U rfl rfl rfl rfl rfl rfl rfl (fun _ => rfl) rfl 0 rfl hn0 hsU hgu ?_
      refine dr U 600 rfl (by first | exact True.intro | (simp only [AllP, InR, List.nil_append, List.cons_append, and_true]; omega)) ?_
      simp only [Int.toNat_natCast]
      have ht := ht.below hB8
      refine call (f := 15) rfl rfl cb15 (nsame_x _ _ _ _ _ _ x8 hlz (lit_take hu0 hpn) (by rw [txs_length]; omega) (by rw [txs_length]; omega)) ?_
      rintro v w14 ⟨rfl, hq14⟩
      have ht := ht.below hq14
      have hB := bl_tr hB hq14 hB.size
      refine ⟨_, rfl, ?_⟩
      rw [decide_eq_true (txs_congr hzw)]
      refine dr U 600 rfl trivial ?_
      exact ret Tryz.results4 rfl ⟨_, rfl, rfl, hB⟩
  · refine il U rfl rfl rfl rfl rfl rfl rfl (fun _ => rfl) rfl 0 rfl hn0 hsV hgv ?_
    refine dr U 600 rfl trivial ?_
    refine call (f := 17) rfl rfl cb17 (pLeast_calls fX (fV 0) 12 12 hn0 hp0 (by omega) (by omega) (by omega) (by omega) sA sv (by omega) (grw5 hp5 (by omega)) (sol_small5 hp0 hp5 (by omega) sN sb) _ _ _ _ w7 hmA hr0 ht) ?_
    rintro v w8 ⟨hS1, hq8⟩
    obtain ⟨a1, c1, rfl⟩ := hS1.none hF
    have hsV := hsV.stay hq8
    have hr0 := hr0.stay hq8
    have hsU := hsU.stay hq8
    have hu0 := hu0.stay hq8
    have hmA := hmA.stay hq8
    have ht := ht.below hq8
    have hB := bl_tr hB hq8 hB.size
    refine ⟨_, rfl, ?_⟩
    refine dr U 600 rfl trivial ?_
    refine call (f := 14) rfl rfl cb14 (pRank_calls fX 12 hn0 hp0 (by omega) (by omega) (by omega) sA (grw5 hp5 (by omega)) _ _ w8 hmA) ?_
    rintro v w9 ⟨rfl, hq9⟩
    have hsV := hsV.stay hq9
    have hr0 := hr0.stay hq9
    have hsU := hsU.stay hq9
    have hu0 := hu0.stay hq9
    have hmA := hmA.stay hq9
    have ht := ht.below hq9
    have hB := bl_tr hB hq9 hB.size
    refine ⟨_, rfl, ?_⟩
    refine dr U 600 rfl trivial ?_
    refine cF rfl rfl rfl (by decide) ?_
    refine dr U 600 rfl trivial ?_
    refine cT rfl rfl rfl ((by omega)) ?_; refine dr U 600 rfl trivial ?_
    refine cT rfl rfl rfl rfl ?_
    refine dr U 600 rfl trivial ?_
    refine cT rfl rfl rfl rfl ?_
    refine dr U 600 rfl trivial ?_
    exact ret Tryz.results4 rfl ⟨_, rfl, rfl, hB⟩
end Go.Proofs.YtfdekppnilffeaaGreatDoor
