/-
  The law LinearRanks: it returns true for every input. Printed by rank27.py.
  Conditions: what is copied fits into memory; the library's table of powers of ten is laid.
-/
import Derived.Test.YtfdekppnilffeaaGreatDoorYHt
set_option linter.unusedSimpArgs false
set_option linter.unusedVariables false
set_option maxHeartbeats 4000000
namespace Go.Proofs.YtfdekppnilffeaaGreatDoor
open Go Go.Proofs Go.RowKit Go.Lib

theorem linearRanks_calls (xss : List (List Tx)) (a : Option Addr) (c : Nat) (sz : Int) (hsz : -9223372036854775808 ≤ sz ∧ sz ≤ 9223372036854775807) (w : World) (ht : TabOk w) (hs : SM w a xss) (hfx : FitM xss 1) :
    Calls Tryz.prog 6 #[.slice a xss.length c, .int .i64 sz] w (Ret fun v w' => v = .bool true ∧ Below w.heap.size w w') := by
  refine enter Tryz.func6 rfl Tryz.ntmps6 (Nat.le_of_ble_eq_true rfl) ?_
  refine dr U 600 rfl trivial ?_
  have hB := Below.refl w.heap.size w
  refine call (f := 9) rfl rfl cb9 (lives27_calls w ht) ?_
  rintro v w1 ⟨rfl, hq1⟩
  have hs := hs.stay hq1
  have ht := ht.below hq1
  have hB := bl_tr hB hq1 hB.size
  refine ⟨_, rfl, ?_⟩
  refine dr U 600 rfl trivial ?_
  refine call (f := 10) rfl rfl cb10 (pick_calls sz 5 (by omega) (by omega) w1) ?_
  rintro v _ ⟨⟨r, rfl, hr⟩, rfl⟩
  refine ⟨_, rfl, ?_⟩
  refine dr U 600 rfl (by first | exact True.intro | (simp only [AllP, InR, List.nil_append, List.cons_append, and_true]; omega)) ?_
  obtain ⟨n, hn0, hn5, en⟩ : ∃ n : Nat, 0 < n ∧ n ≤ 5 ∧ (1 + (r : Int) : Int) = ((n : Nat) : Int) := ⟨1 + r, by omega, by omega, by omega⟩
  rw [en]
  refine call (f := 11) rfl rfl cb11 (square_calls xss n (by omega) a c w1 hs ⟨by have := hfx.l; omega, hfx.r⟩) ?_
  rintro v w3 ⟨hsq, hq3⟩
  obtain ⟨vX, okX, rfl, hdX⟩ := sqc_of hsq
  have hs := hs.stay hq3
  have ht := ht.below hq3
  have hB := bl_tr hB hq3 hB.size
  refine ⟨_, rfl, ?_⟩
  cases okX with
  | false =>
    refine dr U 600 rfl trivial ?_
    exact ret Tryz.results6 rfl ⟨_, rfl, rfl, hB⟩
  | true =>
  obtain ⟨fX, aX, cX, sX, rfl, hmX⟩ := hdX rfl
  have hmX := hmX.sm
  have hle := (gj_le n fX n).2
  refine dr U 600 rfl trivial ?_
  have zT : ∀ i, i < n → ∀ k, k < n → Small 12 (trp fX i k) := fun i hi k hk => sX k hk i hi
  refine call (f := 25) rfl rfl cb25 (pTranspose_calls fX hn0 hn0 (by omega) (by omega) (fun i hi k hk => small_mono (sX i hi k hk) (by omega)) _ _ w3 hmX ht) ?_
  rintro v w4 ⟨⟨aT, cT_, rfl, hmT⟩, hq4⟩
  have hmX := hmX.stay hq4
  have ht := ht.below hq4
  have hB := bl_tr hB hq4 hB.size
  refine ⟨_, rfl, ?_⟩
  refine dr U 600 rfl trivial ?_
  refine call (f := 14) rfl rfl cb14 (pRank_calls fX 12 hn0 hn0 (by omega) (by omega) (by omega) sX (grw5 hn5 (by omega)) _ _ w4 hmX) ?_
  rintro v w5 ⟨rfl, hq5⟩
  have hmX := hmX.stay hq5
  have hmT := hmT.stay hq5
  have ht := ht.below hq5
  have hB := bl_tr hB hq5 hB.size
  refine ⟨_, rfl, ?_⟩
  refine dr U 600 rfl trivial ?_
  refine call (f := 14) rfl rfl cb14 (pRank_calls (trp fX) 12 hn0 hn0 (by omega) (by omega) (by omega) zT (grw5 hn5 (by omega)) _ _ w5 hmT) ?_
  rintro v w6 ⟨rfl, hq6⟩
  have hmX := hmX.stay hq6
  have hmT := hmT.stay hq6
  have ht := ht.below hq6
  have hB := bl_tr hB hq6 hB.size
  refine ⟨_, rfl, ?_⟩
  rw [rank_trp n n fX]
  refine dr U 600 rfl trivial ?_
  refine call (f := 27) rfl rfl cb27 (pInverse_calls fX 12 hn0 (by omega) (by omega) (by omega) sX (grw5 hn5 (by omega)) (inv_small5 hn0 hn5 (by omega) (by omega) sX) _ _ w6 hmX ht) ?_
  rintro v w7 ⟨hinv, hq7⟩
  obtain ⟨vI, eI, rfl, hI⟩ := invc_of hinv
  have hmX := hmX.stay hq7
  have ht := ht.below hq7
  have hB := bl_tr hB hq7 hB.size
  refine ⟨_, rfl, ?_⟩
  refine dr U 600 rfl trivial ?_
  obtain ⟨AX, CX, hsX, hrX⟩ := hmX.rows
  have hx0 := (hrX 0 hn0).sl.1
  have hx1 := (hrX (n - 1) (by omega)).sl.1
  obtain ⟨gX, oX, rfl, _⟩ := hsX 0 _ (srws_at hn0)
  have hg0 := srws_at (A := AX) (C := CX) (f := fX) (n := n) (m := n) (i := 0) hn0
  have hg1 := srws_at (A := AX) (C := CX) (f := fX) (n := n) (m := n) (i := n - 1) (by omega)
  obtain ⟨g0, o0, e0, _⟩ := hx0 0 _ (txs_get hn0)
  obtain ⟨g1, o1, e1, _⟩ := hx1 0 _ (txs_get hn0)
  have hlr := hrX 0 hn0
  rw [e0] at hx0 hg0 hlr
  rw [e1] at hx1 hg1
  refine il U rfl rfl rfl rfl rfl rfl rfl (fun _ => rfl) rfl 0 rfl hn0 hsX hg0 ?_
  refine dr U 600 rfl trivial ?_
  refine call (f := 28) rfl rfl cb28 (nownN_calls n (fX 0) _ _ w7 hlr (by omega)) ?_
  rintro v wo ⟨⟨aS, cSm, rfl, hoS⟩, hqo⟩
  refine ⟨_, rfl, ?_⟩
  obtain ⟨gS, rfl⟩ : ∃ gS, aS = some ⟨gS, 0, none⟩ := by
    rcases hoS.2 with ⟨_, h⟩ | ⟨g, cap, cur, h, _⟩
    · omega
    · cases h; exact ⟨g, rfl⟩
  refine dr U 600 rfl trivial ?_
  refine loopR (fun fr w' mm => ∃ (i : Nat) (Y : Nat → Rat), fr = [(1, .int .i64 (n : Nat)), (5, .slice (some ⟨gX, oX, none⟩) n cX), (8, .int .i64 0), (9, .int .i64 ((gj n fX n).2 : Nat)), (10, .int .i64 0), (11, .int .i64 ((gj n fX n).2 : Nat)), (12, .int .i64 0), (13, vI), (14, .int .i64 eI), (15, .slice (some ⟨gS, 0, none⟩) n cSm), (16, .int .i64 (i : Nat))] ∧ i ≤ n ∧ w'.ownsRow w7.heap.size 34 1 (.slice (some ⟨gS, 0, none⟩) n cSm) n (strs (txs n Y)) ∧ (∀ j, j < i → Y j = fX 0 j + fX (n - 1) j) ∧ Below w7.heap.size w7 w' ∧ mm = n - i)
    ⟨0, fX 0, rfl, by omega, hoS, fun j hj => absurd hj (by omega), hqo, rfl⟩ ⟨rfl, rfl, rfl, rfl, rfl, rfl, rfl, rfl, rfl, rfl, rfl, trivial⟩ ?_
  rintro fr w1 mm ⟨i, Y, rfl, hi, hoS, hY, hBb, rfl⟩
  refine dr U 600 rfl trivial ?_
  refine cS rfl rfl rfl rfl (fun hq => ?_) (fun hq => ?_)
  · have hin : i < n := by omega
    have hgt0 := txs_get (f := fX 0) hin
    have hgt1 := txs_get (f := fX (n - 1)) hin
    have htn : ((n : Int) - 1).toNat = n - 1 := by omega
    refine dr U 600 rfl trivial ?_
    refine dwn 21 (fun W => Sl W (some ⟨gX, oX, none⟩) (srws (mtx n n fX) AX CX) ∧ Sl W (some ⟨g0, o0, none⟩) (strs (txs n (fX 0))) ∧ Sl W (some ⟨g1, o1, none⟩) (strs (txs n (fX (n - 1))))) hmo ?_
    intro x5 hh5 hg5
    have hB5 := hBb.grown hg5 hBb.size (fun k e => by cases e)
    have hoS := own_keep hoS hg5 (by intro g e h; cases h)
    refine dq U [0,1,2,3,4,5,6,7,8,9,10,11,12,13,14,15] [(4, .slice (some ⟨g0, o0, none⟩) n (CX 0)), (7, .string ⟨⟨qtext (fX 0 i)⟩⟩), (12, .slice (some ⟨g1, o1, none⟩) n (CX (n - 1))), (15, .string ⟨⟨qtext (fX (n - 1) i)⟩⟩)] (by kernel_rfl) rfl rfl ⟨hsX.stay hB5, hx0.stay hB5, hx1.stay hB5⟩ (by simp only [AllP, InR, List.nil_append, List.cons_append]; (repeat' apply And.intro); all_goals first | exact True.intro | omega | exact fun w h => run_load_cell U rfl (by simpa [add_plain] using slc2 h.1 hg0) | exact fun w h => run_load_cell U rfl (by simpa [add_plain] using slc2 h.2.1 hgt0) | exact fun w h => run_load_cell U rfl (by simpa [add_plain, htn] using slc2 h.1 hg1) | exact fun w h => run_load_cell U rfl (by simpa [add_plain] using slc2 h.2.2 hgt1)) ?_
    refine d1 rfl rfl (fun _ => ⟨hsX.stay hB5, hx0.stay hB5, hx1.stay hB5⟩) ?_
    refine call (f := 20) rfl rfl cb20 (radd_q (small_mono (sX 0 hn0 i hin) (by omega)) (small_mono (sX (n - 1) (by omega) i hin) (by omega)) (small_mono (small_add (sX 0 hn0 i hin) (sX (n - 1) (by omega) i hin)) (by omega)) x5) ?_
    rintro v x6 ⟨rfl, hB56⟩
    have hB6 := bl_tr hB5 hB56 hB5.size
    have hoS := own_bw hoS hB56
    refine ⟨_, rfl, d2 ?_⟩
    refine dq U [17,18,19,20] [] (by kernel_rfl) rfl rfl ⟨hsX.stay hB6, hx0.stay hB6, hx1.stay hB6⟩ (by simp only [AllP, InR, List.nil_append, List.cons_append]; (repeat' apply And.intro); all_goals first | exact True.intro | omega | (simp only [List.length_cons, List.length_nil]; omega) | (intro w_ hw_; refine ldC U rfl hw_ ?_; first | assumption | (simp [add_plain]; assumption)) | (intro w_ hw_; refine run_load_cell U rfl ?_; first | exact hw_ | exact hw_.1 | exact hw_.2 | exact hw_.2.1 | exact hw_.2.2 | exact hw_.2.2.1 | exact hw_.2.2.2 | (simp [add_plain]; first | exact hw_.1 | exact hw_.2.1 | exact hw_.2.2))) ?_
    refine d1 rfl rfl (fun _ => ⟨hsX.stay hB6, hx0.stay hB6, hx1.stay hB6⟩) ?_
    refine so U (v := (.string ⟨⟨qtext (fX 0 i + fX (n - 1) i)⟩⟩)) rfl rfl rfl rfl rfl rfl rfl i (by simp [add_plain]) hin hoS ?_
    intro x7 ho7 hg7 hs7
    rw [txs_set hin] at ho7
    have hgb : w7.heap.size ≤ gS := (own_block hoS gS rfl).1
    have hB7 := hB6.grown hg7 hB6.size (fun q e => by cases e; exact hgb)
    refine d2 ?_; refine dend rfl (fun h => by cases h) ?_
    refine dr U 600 rfl (by first | exact True.intro | (simp only [AllP, InR, List.nil_append, List.cons_append, and_true]; omega)) ?_
    refine rend _ _ ⟨i + 1, upd Y i (fX 0 i + fX (n - 1) i), rfl, by omega, ho7, fun j hj => ?_, hB7, rfl⟩ (by omega) ⟨rfl, rfl, rfl, rfl, rfl, rfl, rfl, rfl, rfl, rfl, iv (by omega), trivial⟩
    by_cases e : j = i
    · subst e; rw [upd_same]
    · rw [upd_ne _ _ e]; exact hY j (by omega)
  obtain rfl : n = i := by omega
  have hmX := hmX.stay hBb
  have hI := hI.stay hBb
  have ht := ht.below hBb
  have hB := bl_tr hB hBb hB.size
  have hsm : ∀ j, j < n → Small 25 (Y j) := fun j hj => by rw [hY j hj]; exact small_mono (small_add (sX 0 hn0 j hj) (sX (n - 1) (by omega) j hj)) (by omega)
  refine dr U 600 rfl trivial ?_
  refine call (f := 29) rfl rfl cb29 (mownN_calls n fX _ _ w1 hmX (by omega)) ?_
  rintro v wa ⟨⟨aO, cO, rfl, hO⟩, hqa⟩
  have hoS := own_bw hoS hqa
  refine ⟨_, rfl, ?_⟩
  refine dr U 600 rfl trivial ?_
  refine bsv U [.slice (some ⟨gS, 0, none⟩) n cSm] rfl rfl rfl rfl rfl rfl (by decide) (by decide) rfl ?_
  intro wl hkl hzl hgl
  have hql : Below wa.heap.size wa wl := (Below.refl _ _).grown hgl (Nat.le_refl _) (fun k e => by cases e)
  have hO := hO.stay hql
  have hoS := own_bw hoS hql
  obtain ⟨AO, CO, ho1, h2⟩ := hO
  have hqw := bl_tr hqa hql hqa.size
  rw [mtx_length] at ho1
  refine dr U 600 rfl trivial ?_
  refine aw U rfl rfl rfl rfl rfl rfl rfl rfl rfl ho1 (hkl.sl 0) rfl (by intro u hu; simp at hu; subst hu; rfl) hqw.size (by omega) rfl ?_
  intro a2 c2 wz ho2 hg2
  have hqz : Below w1.heap.size w1 wz := hqw.grown hg2 hqw.size (fun q e => (own_block ho1 q e).1)
  have hOa := OwnM.snoc (xss := mtx n n fX) (xs := txs n Y) (a := aO) (c := cO) (d := cSm) (by rw [mtx_length]; exact ho1) h2 (own_sl hoS) (own_tag hoS) hg2 (by rw [mtx_length, txs_length]; exact ho2)
  rw [← mtx_upd] at hOa
  have hmA := hOa.sm
  have hmX := hmX.stay hqz
  have hI := hI.stay hqz
  have ht := ht.below hqz
  have hB := bl_tr hB hqz hB.size
  have sA : ∀ i, i < n + 1 → ∀ k, k < n → Small 25 (upd fX n Y i k) := fun i hi k hk => by
    by_cases e : i = n
    · subst e; rw [upd_same]; exact hsm k hk
    · rw [upd_ne _ _ e]; exact small_mono (sX i (by omega) k hk) (by omega)
  refine dr U 600 rfl trivial ?_
  refine call (f := 14) rfl rfl cb14 (pRank_calls (upd fX n Y) 25 (by omega) hn0 (by omega) (by omega) (by omega) sA (grw5 hn5 (by omega)) _ _ wz hmA) ?_
  rintro v w8 ⟨rfl, hq8⟩
  have hmX := hmX.stay hq8
  have hI := hI.stay hq8
  have hmA := hmA.stay hq8
  have ht := ht.below hq8
  have hB := bl_tr hB hq8 hB.size
  refine ⟨_, rfl, ?_⟩
  rw [rank_append hn0 hY]
  refine dr U 600 rfl trivial ?_
  refine cF rfl rfl rfl (by decide) ?_
  refine dr U 600 rfl trivial ?_
  refine cF rfl rfl rfl (by decide) ?_
  refine dr U 600 rfl trivial ?_
  refine cF rfl rfl rfl (by decide) ?_
  refine dr U 600 rfl trivial ?_
  refine cF rfl rfl rfl (by decide) ?_
  refine dr U 600 rfl trivial ?_
  refine cF rfl rfl rfl (fun h => h rfl) ?_
  refine dr U 600 rfl trivial ?_
  refine cF rfl rfl rfl (fun h => h rfl) ?_
  refine dr U 600 rfl trivial ?_
  refine cF rfl rfl rfl (by omega) ?_
  refine dr U 600 rfl trivial ?_
  refine cF rfl rfl rfl (by omega) ?_
  refine dr U 600 rfl trivial ?_
  rcases hI with ⟨hF, rfl⟩ | ⟨hF, rfl, x, aI, cI, hx, hxs, rfl, hmI⟩
  · refine cT rfl rfl rfl ((by omega)) ?_; refine dr U 600 rfl trivial ?_
    refine cT rfl rfl rfl rfl ?_
    refine dr U 600 rfl trivial ?_
    exact ret Tryz.results6 rfl ⟨_, rfl, rfl, hB⟩
  have hlx := left_inv hF hx
  have si : ∀ i k, Small 4000 (idn i k) := fun i k => small_mono (idn_small i k) (by omega)
  refine cF rfl rfl rfl ((by omega)) ?_; refine dr U 600 rfl trivial ?_
  refine call (f := 23) rfl rfl cb23 (pMul_calls fX x hn0 hn0 hn0 (by omega) (by omega) (by omega) (fun i hi k hk => small_mono (sX i hi k hk) (by omega)) hxs (fun i hi k hk => by rw [hx i hi k hk]; exact si i k) _ _ _ _ w8 hmX hmI ht) ?_
  rintro v w9 ⟨⟨aP, cP, rfl, hmP⟩, hq9⟩
  have hmX := hmX.stay hq9
  have hmI := hmI.stay hq9
  have ht := ht.below hq9
  have hB := bl_tr hB hq9 hB.size
  refine ⟨_, rfl, ?_⟩
  refine dr U 600 rfl trivial ?_
  refine call (f := 23) rfl rfl cb23 (pMul_calls x fX hn0 hn0 hn0 (by omega) (by omega) (by omega) hxs (fun i hi k hk => small_mono (sX i hi k hk) (by omega)) (fun i hi k hk => by rw [hlx i hi k hk]; exact si i k) _ _ _ _ w9 hmI hmX ht) ?_
  rintro v w10 ⟨⟨aQ, cQ, rfl, hmQ⟩, hq10⟩
  have hmX := hmX.stay hq10
  have hmI := hmI.stay hq10
  have hmP := hmP.stay hq10
  have ht := ht.below hq10
  have hB := bl_tr hB hq10 hB.size
  refine ⟨_, rfl, ?_⟩
  refine dr U 600 rfl trivial ?_
  refine cT rfl rfl rfl rfl ?_
  refine dr U 600 rfl trivial ?_
  refine cT rfl rfl rfl rfl ?_
  refine dr U 600 rfl trivial ?_
  refine cT rfl rfl rfl rfl ?_
  refine dr U 600 rfl trivial ?_
  refine call (f := 24) rfl rfl cb24 (pIdentity_calls n hn0 (by omega) w10 ht) ?_
  rintro v w11 ⟨⟨aE, cE, rfl, hmE⟩, hq11⟩
  have hmX := hmX.stay hq11
  have hmI := hmI.stay hq11
  have hmP := hmP.stay hq11
  have hmQ := hmQ.stay hq11
  have ht := ht.below hq11
  have hB := bl_tr hB hq11 hB.size
  refine ⟨_, rfl, ?_⟩
  refine dr U 600 rfl trivial ?_
  refine call (f := 26) rfl rfl cb26 (msame_x _ _ _ _ _ _ w11 hmP hmE (mtx_lens (by omega) (by omega) (fun i hi k hk => by rw [hx i hi k hk]; exact si i k)) (mtx_lens (by omega) (by omega) (fun i hi k hk => si i k)) (mtx_length _ _ _).symm (mtx_length _ _ _).symm) ?_
  rintro v w12 ⟨rfl, hq12⟩
  have hmX := hmX.stay hq12
  have hmI := hmI.stay hq12
  have hmP := hmP.stay hq12
  have hmQ := hmQ.stay hq12
  have hmE := hmE.stay hq12
  have ht := ht.below hq12
  have hB := bl_tr hB hq12 hB.size
  refine ⟨_, rfl, ?_⟩
  rw [decide_eq_true (mtx_congr hx)]
  refine dr U 600 rfl trivial ?_
  refine call (f := 26) rfl rfl cb26 (msame_x _ _ _ _ _ _ w12 hmQ hmP (mtx_lens (by omega) (by omega) (fun i hi k hk => by rw [hlx i hi k hk]; exact si i k)) (mtx_lens (by omega) (by omega) (fun i hi k hk => by rw [hx i hi k hk]; exact si i k)) (mtx_length _ _ _).symm (mtx_length _ _ _).symm) ?_
  rintro v w13 ⟨rfl, hq13⟩
  have hmX := hmX.stay hq13
  have hmI := hmI.stay hq13
  have hmP := hmP.stay hq13
  have hmQ := hmQ.stay hq13
  have hmE := hmE.stay hq13
  have ht := ht.below hq13
  have hB := bl_tr hB hq13 hB.size
  refine ⟨_, rfl, ?_⟩
  rw [decide_eq_true (show mtx n n (mmul n x fX) = mtx n n (mmul n fX x) from mtx_congr fun i hi k hk => (hlx i hi k hk).trans (hx i hi k hk).symm)]
  refine dr U 600 rfl trivial ?_
  exact ret Tryz.results6 rfl ⟨_, rfl, rfl, hB⟩
end Go.Proofs.YtfdekppnilffeaaGreatDoor
