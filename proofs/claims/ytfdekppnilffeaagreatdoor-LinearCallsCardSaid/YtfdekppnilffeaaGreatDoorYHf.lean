/-
  The law LinearCalls: it returns true for every input.
  Conditions: what is copied fits into memory; the library's table of powers of ten is laid.
-/
import Derived.Test.YtfdekppnilffeaaGreatDoorYHd
set_option linter.unusedSimpArgs false
set_option linter.unusedVariables false
set_option maxHeartbeats 4000000
namespace Go.Proofs.YtfdekppnilffeaaGreatDoor
open Go Go.Proofs Go.RowKit Go.Lib

theorem MtxS.lens {m n : Nat} {f : Mx} {ys : List (List Tx)} {e : Int} (h : MtxS m n f ys e) (hm : m ≤ 64) (hn : n ≤ 64) : Lens ys := by
  rcases h with ⟨_, rfl, _⟩ | ⟨h1, rfl, _⟩
  · exact nil_lens
  · exact mtx_lens (by omega) (by omega) h1
theorem TxtS.lens {n : Nat} {f : Nat → Rat} {ys : List Tx} {e : Int} (h : TxtS n f ys e) (hn : n ≤ 64) : LenV ys := by
  rcases h with ⟨_, rfl, _⟩ | ⟨h1, rfl, _⟩
  · exact nil_lenv
  · exact txs_lenv (by omega) h1
theorem TraS.lens {xss ys : List (List Tx)} {e : Int} (h : TraS xss ys e) : Lens ys := by
  rcases h with ⟨_, _, rfl⟩ | ⟨h1, h2⟩
  · exact nil_lens
  · exact h2.lens h1.ok.2.2.2.1 h1.ok.2.2.1
theorem MulS.lens {xss yss ys : List (List Tx)} {e : Int} (h : MulS xss yss ys e) : Lens ys := by
  rcases h with ⟨_, _, rfl⟩ | ⟨_, _, rfl, _⟩ | ⟨h1, _, h2⟩
  · exact nil_lens
  · exact nil_lens
  · rcases h1 with ⟨h, _⟩ | ⟨h1, h1'⟩
    · exact absurd rfl h
    · exact h2.lens h1.ok.2.2.1 h1'.ok.2.2.2.1
theorem InvS.lens {xss ys : List (List Tx)} {e : Int} (h : InvS xss ys e) : Lens ys := by
  rcases h with ⟨_, _, rfl⟩ | ⟨_, _, rfl, _⟩ | ⟨h1, _, ⟨_, rfl, _⟩ | ⟨_, x, _, h2⟩⟩
  · exact nil_lens
  · exact nil_lens
  · exact nil_lens
  · exact h2.lens h1.ok.2.2.1 h1.ok.2.2.1
theorem AppS.lens {xss : List (List Tx)} {ys zs : List Tx} {e : Int} (h : AppS xss ys zs e) : LenV zs := by
  rcases h with ⟨_, _, rfl⟩ | ⟨_, _, rfl, _⟩ | ⟨h1, _, h2⟩
  · exact nil_lenv
  · exact nil_lenv
  · exact h2.lens h1.xok.2.2.1
theorem SlvS.lens {n : Nat} {f : Mx} {b : Nat → Rat} {zs : List Tx} {e : Int} (h : SlvS n f b zs e) (hn : n ≤ 64) : LenV zs := by
  rcases h with ⟨_, rfl, _⟩ | ⟨_, x, _, h2⟩
  · exact nil_lenv
  · exact h2.lens hn
theorem SolS.lens {xss : List (List Tx)} {ys zs : List Tx} {e : Int} (h : SolS xss ys zs e) : LenV zs := by
  rcases h with ⟨_, _, rfl⟩ | ⟨_, _, rfl, _⟩ | ⟨h1, _, _, h2⟩
  · exact nil_lenv
  · exact nil_lenv
  · exact h2.lens h1.xok.2.2.1
theorem LeaS.lens {xss : List (List Tx)} {ys zs : List Tx} {e : Int} (h : LeaS xss ys zs e) : LenV zs := by
  rcases h with ⟨_, _, rfl⟩ | ⟨_, _, rfl, _⟩ | ⟨h1, _, h2⟩
  · exact nil_lenv
  · exact nil_lenv
  · exact h2.lens h1.xok.2.2.2
theorem LightM.ltm {xss ls : List (List Tx)} (h : LightM xss ls) : LtM xss := ⟨by have := h.2; omega, fun i hi => by
  have := h.1 i (by rw [List.length_append]; omega)
  rwa [rw_app hi] at this⟩
theorem LightM.row {xss : List (List Tx)} {xs : List Tx} (h : LightM xss [xs]) : RowL xs := by
  have := h.1 xss.length (by rw [List.length_append, List.length_singleton]; omega)
  rwa [rw_app2] at this
theorem VOut.lit {ys : List Tx} {e : Int} {v : Value} {w : World} (h : VOut ys e v w) : ∃ a c, v = .tuple ⟨[.slice a ys.length c, .int .i64 e]⟩ ∧ Lit w (.slice a ys.length c) ys := by
  obtain ⟨a, c, h1, h2, _, h4⟩ := h
  exact ⟨a, c, h1, a, c, rfl, h2⟩
theorem IdR.out {n : Int} {v : Value} {w : World} (h : IdR n v w) : ∃ a c ys, v = .slice a ys.length c ∧ SM w a ys ∧ Lens ys ∧ ((n < 1 ∨ 64 < n) ∧ ys = [] ∨ (1 ≤ n ∧ n ≤ 64) ∧ ys = mtx n.toNat n.toNat idn) := by
  rcases h with ⟨h1, rfl⟩ | ⟨h1, h2, a, c, rfl, h3⟩
  · exact ⟨none, 0, [], rfl, SM.nil w, nil_lens, .inl ⟨h1, rfl⟩⟩
  · exact ⟨a, c, mtx n.toNat n.toNat idn, by rw [mtx_length], h3, mtx_lens (by omega) (by omega) (fun i _ k _ => small_mono (idn_small i k) (by omega)), .inr ⟨⟨h1, h2⟩, rfl⟩⟩

theorem linearCalls_calls (xss : List (List Tx)) (a : Option Addr) (c : Nat) (yss : List (List Tx)) (b : Option Addr) (d : Nat) (vs : List Tx) (v_ : Option Addr) (vc : Nat) (n : Int) (hn : -9223372036854775808 ≤ n ∧ n ≤ 9223372036854775807) (w : World) (ht : TabOk w) (hs : SM w a xss) (hfx : FitM xss 1) (hsy : SM w b yss) (hfy : FitM yss 1) (hv : Lit w (.slice v_ vs.length vc) vs) (hvl : vs.length ≤ 8796093022208) :
    Calls Tryz.prog 8 #[.slice a xss.length c, .slice b yss.length d, .slice v_ vs.length vc, .int .i64 n] w (Ret fun v w' => v = .bool true ∧ Below w.heap.size w w') := by
  refine enter Tryz.func8 rfl Tryz.ntmps8 (Nat.le_of_ble_eq_true rfl) ?_
  refine dr U 600 rfl trivial ?_
  have hB := Below.refl w.heap.size w
  refine call (f := 9) rfl rfl cb9 (lives27_calls w ht) ?_
  rintro v w1 ⟨rfl, hq1⟩
  have hs := hs.stay hq1
  have hsy := hsy.stay hq1
  have hv := hv.stay hq1
  have ht := ht.below hq1
  have hB := bl_tr hB hq1 hB.size
  refine ⟨_, rfl, ?_⟩
  refine dr U 600 rfl trivial ?_
  refine bsv U [.slice v_ vs.length vc] rfl rfl rfl rfl rfl rfl (by decide) (by decide) rfl ?_
  intro w2 hk2 hz2 hg2
  have hq2 : Below w1.heap.size w1 w2 := (Below.refl _ _).grown hg2 (Nat.le_refl _) (fun k e => by cases e)
  have hs := hs.stay hq2
  have hsy := hsy.stay hq2
  have hv := hv.stay hq2
  have ht := ht.below hq2
  have hB := bl_tr hB hq2 hB.size
  have hvm := rwl_bk (xss := [vs]) hk2 ⟨hv, trivial⟩
  refine dr U 600 rfl trivial ?_
  refine call (f := 32) rfl rfl cb32 (xlight_calls xss [vs] a _ c 1 w2 hs hvm hfx (fun i hi => by have h0 : i = 0 := (by simpa using hi); subst h0; exact hvl)) ?_
  rintro v w3 ⟨⟨q1, rfl, hl1⟩, hq3⟩
  have hs := hs.stay hq3
  have hsy := hsy.stay hq3
  have hv := hv.stay hq3
  have ht := ht.below hq3
  have hB := bl_tr hB hq3 hB.size
  refine ⟨_, rfl, ?_⟩
  cases q1 with
  | false =>
    refine dr U 600 rfl trivial ?_
    exact ret Tryz.results8 rfl ⟨_, rfl, rfl, hB⟩
  | true =>
  have hL1 := hl1.1 rfl
  refine dr U 600 rfl trivial ?_
  refine call (f := 32) rfl rfl cb32 (xlight_calls yss [] b none d 0 w3 hsy (SM.nil _) ⟨by have := hfy.l; simp only [List.length_nil]; omega, hfy.r⟩ (fun i hi => absurd hi (by simp))) ?_
  rintro v w4 ⟨⟨q2, rfl, hl2⟩, hq4⟩
  have hs := hs.stay hq4
  have hsy := hsy.stay hq4
  have hv := hv.stay hq4
  have ht := ht.below hq4
  have hB := bl_tr hB hq4 hB.size
  refine ⟨_, rfl, ?_⟩
  cases q2 with
  | false =>
    refine dr U 600 rfl trivial ?_
    exact ret Tryz.results8 rfl ⟨_, rfl, rfl, hB⟩
  | true =>
  have hL2 := hl2.1 rfl
  have hX := hL1.ltm
  have hY := hL2.ltm
  have hV := hL1.row
  refine dr U 600 rfl trivial ?_
  refine call (f := 29) rfl rfl cb29 (xown_calls xss a c w4 hs ⟨by have := hfx.l; omega, hfx.r⟩) ?_
  rintro v w5 ⟨⟨ax, cx, rfl, hox⟩, hq5⟩
  have hs := hs.stay hq5
  have hsy := hsy.stay hq5
  have hv := hv.stay hq5
  have ht := ht.below hq5
  have hB := bl_tr hB hq5 hB.size
  refine ⟨_, rfl, ?_⟩
  have hsx := hox.sm
  refine dr U 600 rfl trivial ?_
  refine call (f := 29) rfl rfl cb29 (xown_calls yss b d w5 hsy ⟨by have := hfy.l; omega, hfy.r⟩) ?_
  rintro v w6 ⟨⟨ay, cy, rfl, hoy⟩, hq6⟩
  have hs := hs.stay hq6
  have hsy := hsy.stay hq6
  have hv := hv.stay hq6
  have hsx := hsx.stay hq6
  have ht := ht.below hq6
  have hB := bl_tr hB hq6 hB.size
  refine ⟨_, rfl, ?_⟩
  have hsz := hoy.sm
  refine dr U 600 rfl trivial ?_
  refine call (f := 28) rfl rfl cb28 (nown_calls vs v_ vc w6 hv.sl.1 hvl) ?_
  rintro v w7 ⟨⟨av, cv, rfl, hov⟩, hq7⟩
  have hs := hs.stay hq7
  have hsy := hsy.stay hq7
  have hv := hv.stay hq7
  have hsx := hsx.stay hq7
  have hsz := hsz.stay hq7
  have ht := ht.below hq7
  have hB := bl_tr hB hq7 hB.size
  refine ⟨_, rfl, ?_⟩
  have hvo : Lit w7 (.slice av vs.length cv) vs := ⟨av, cv, rfl, own_sl hov⟩
  refine dr U 600 rfl trivial ?_
  refine call (f := 25) rfl rfl cb25 (lTranspose_s xss hX.lens ax cx w7 hsx ht) ?_
  rintro v w8 ⟨⟨zsT, eT, hpT, aT, ccT, rfl, hrT⟩, hq8⟩
  have hs := hs.stay hq8
  have hsy := hsy.stay hq8
  have hv := hv.stay hq8
  have hsx := hsx.stay hq8
  have hsz := hsz.stay hq8
  have hvo := hvo.stay hq8
  have ht := ht.below hq8
  have hB := bl_tr hB hq8 hB.size
  refine ⟨_, rfl, ?_⟩
  refine dr U 600 rfl trivial ?_
  refine call (f := 33) rfl rfl cb33 (gTranspose_calls xss a c w8 hs hX.lens) ?_
  rintro v w9 ⟨⟨_, _, hp, bT, dT, rfl, hgT⟩, hq9⟩
  obtain ⟨rfl, rfl⟩ := hp.uniq hpT
  have hs := hs.stay hq9
  have hsy := hsy.stay hq9
  have hv := hv.stay hq9
  have hsx := hsx.stay hq9
  have hsz := hsz.stay hq9
  have hvo := hvo.stay hq9
  have hrT := hrT.stay hq9
  have ht := ht.below hq9
  have hB := bl_tr hB hq9 hB.size
  refine ⟨_, rfl, ?_⟩
  refine dr U 600 rfl trivial ?_
  refine call (f := 23) rfl rfl cb23 (lMul_s xss yss hX.lens hY.lens ax ay cx cy w9 hsx hsz ht) ?_
  rintro v w10 ⟨⟨zsM, eM, hpM, aM, ccM, rfl, hrM⟩, hq10⟩
  have hs := hs.stay hq10
  have hsy := hsy.stay hq10
  have hv := hv.stay hq10
  have hsx := hsx.stay hq10
  have hsz := hsz.stay hq10
  have hvo := hvo.stay hq10
  have hrT := hrT.stay hq10
  have hgT := hgT.stay hq10
  have ht := ht.below hq10
  have hB := bl_tr hB hq10 hB.size
  refine ⟨_, rfl, ?_⟩
  refine dr U 600 rfl trivial ?_
  refine call (f := 34) rfl rfl cb34 (gMul_calls xss yss a b c d w10 hs hX.lens hsy hY.lens) ?_
  rintro v w11 ⟨⟨_, _, hp, bM, dM, rfl, hgM⟩, hq11⟩
  obtain ⟨rfl, rfl⟩ := hp.uniq hpM
  have hs := hs.stay hq11
  have hsy := hsy.stay hq11
  have hv := hv.stay hq11
  have hsx := hsx.stay hq11
  have hsz := hsz.stay hq11
  have hvo := hvo.stay hq11
  have hrT := hrT.stay hq11
  have hgT := hgT.stay hq11
  have hrM := hrM.stay hq11
  have ht := ht.below hq11
  have hB := bl_tr hB hq11 hB.size
  refine ⟨_, rfl, ?_⟩
  refine dr U 600 rfl trivial ?_
  refine call (f := 13) rfl rfl cb13 (lApply_s xss vs hX.lens hV.lenv ax av cx cv w11 hsx hvo.sl.1 ht) ?_
  rintro v w12 ⟨⟨zsA, eA, hpA, hout⟩, hq12⟩
  obtain ⟨aA, ccA, rfl, hrA⟩ := hout.lit
  have hs := hs.stay hq12
  have hsy := hsy.stay hq12
  have hv := hv.stay hq12
  have hsx := hsx.stay hq12
  have hsz := hsz.stay hq12
  have hvo := hvo.stay hq12
  have hrT := hrT.stay hq12
  have hgT := hgT.stay hq12
  have hrM := hrM.stay hq12
  have hgM := hgM.stay hq12
  have ht := ht.below hq12
  have hB := bl_tr hB hq12 hB.size
  refine ⟨_, rfl, ?_⟩
  refine dr U 600 rfl trivial ?_
  refine call (f := 35) rfl rfl cb35 (gApply_calls xss vs a v_ c vc w12 hs hX.lens hv.sl.1 hV.lenv) ?_
  rintro v w13 ⟨⟨_, _, hp, hout2A⟩, hq13⟩
  obtain ⟨rfl, rfl⟩ := hp.uniq hpA
  obtain ⟨bA, dA, rfl, hgA⟩ := hout2A.lit
  have hs := hs.stay hq13
  have hsy := hsy.stay hq13
  have hv := hv.stay hq13
  have hsx := hsx.stay hq13
  have hsz := hsz.stay hq13
  have hvo := hvo.stay hq13
  have hrT := hrT.stay hq13
  have hgT := hgT.stay hq13
  have hrM := hrM.stay hq13
  have hgM := hgM.stay hq13
  have hrA := hrA.stay hq13
  have ht := ht.below hq13
  have hB := bl_tr hB hq13 hB.size
  refine ⟨_, rfl, ?_⟩
  refine dr U 600 rfl trivial ?_
  refine call (f := 14) rfl rfl cb14 (lRank_l xss hX ax cx w13 hsx) ?_
  rintro v w14 ⟨⟨nR, eR, rfl, hpR⟩, hq14⟩
  have hs := hs.stay hq14
  have hsy := hsy.stay hq14
  have hv := hv.stay hq14
  have hsx := hsx.stay hq14
  have hsz := hsz.stay hq14
  have hvo := hvo.stay hq14
  have hrT := hrT.stay hq14
  have hgT := hgT.stay hq14
  have hrM := hrM.stay hq14
  have hgM := hgM.stay hq14
  have hrA := hrA.stay hq14
  have hgA := hgA.stay hq14
  have ht := ht.below hq14
  have hB := bl_tr hB hq14 hB.size
  refine ⟨_, rfl, ?_⟩
  refine dr U 600 rfl trivial ?_
  refine call (f := 36) rfl rfl cb36 (gRank_l xss hX a c w14 hs) ?_
  rintro v w15 ⟨⟨_, _, rfl, hp⟩, hq15⟩
  obtain ⟨rfl, rfl⟩ := hp.uniq hpR
  have hs := hs.stay hq15
  have hsy := hsy.stay hq15
  have hv := hv.stay hq15
  have hsx := hsx.stay hq15
  have hsz := hsz.stay hq15
  have hvo := hvo.stay hq15
  have hrT := hrT.stay hq15
  have hgT := hgT.stay hq15
  have hrM := hrM.stay hq15
  have hgM := hgM.stay hq15
  have hrA := hrA.stay hq15
  have hgA := hgA.stay hq15
  have ht := ht.below hq15
  have hB := bl_tr hB hq15 hB.size
  refine ⟨_, rfl, ?_⟩
  refine dr U 600 rfl trivial ?_
  refine call (f := 26) rfl rfl cb26 (msame_x _ _ _ _ _ _ w15 hrT hgT hpT.lens hpT.lens rfl rfl) ?_
  rintro v w16 ⟨rfl, hq16⟩
  have hs := hs.stay hq16
  have hsy := hsy.stay hq16
  have hv := hv.stay hq16
  have hsx := hsx.stay hq16
  have hsz := hsz.stay hq16
  have hvo := hvo.stay hq16
  have hrT := hrT.stay hq16
  have hgT := hgT.stay hq16
  have hrM := hrM.stay hq16
  have hgM := hgM.stay hq16
  have hrA := hrA.stay hq16
  have hgA := hgA.stay hq16
  have ht := ht.below hq16
  have hB := bl_tr hB hq16 hB.size
  refine ⟨_, rfl, ?_⟩
  rw [decide_eq_true rfl]
  refine dr U 600 rfl trivial ?_
  refine cF rfl rfl rfl (fun h => h rfl) ?_
  refine dr U 600 rfl trivial ?_
  refine call (f := 26) rfl rfl cb26 (msame_x _ _ _ _ _ _ w16 hrM hgM hpM.lens hpM.lens rfl rfl) ?_
  rintro v w17 ⟨rfl, hq17⟩
  have hs := hs.stay hq17
  have hsy := hsy.stay hq17
  have hv := hv.stay hq17
  have hsx := hsx.stay hq17
  have hsz := hsz.stay hq17
  have hvo := hvo.stay hq17
  have hrT := hrT.stay hq17
  have hgT := hgT.stay hq17
  have hrM := hrM.stay hq17
  have hgM := hgM.stay hq17
  have hrA := hrA.stay hq17
  have hgA := hgA.stay hq17
  have ht := ht.below hq17
  have hB := bl_tr hB hq17 hB.size
  refine ⟨_, rfl, ?_⟩
  rw [decide_eq_true rfl]
  refine dr U 600 rfl trivial ?_
  refine cF rfl rfl rfl (fun h => h rfl) ?_
  refine dr U 600 rfl trivial ?_
  refine call (f := 15) rfl rfl cb15 (nsame_x _ _ _ _ _ _ w17 hrA hgA hpA.lens.l hpA.lens.l) ?_
  rintro v w18 ⟨rfl, hq18⟩
  have hs := hs.stay hq18
  have hsy := hsy.stay hq18
  have hv := hv.stay hq18
  have hsx := hsx.stay hq18
  have hsz := hsz.stay hq18
  have hvo := hvo.stay hq18
  have hrT := hrT.stay hq18
  have hgT := hgT.stay hq18
  have hrM := hrM.stay hq18
  have hgM := hgM.stay hq18
  have hrA := hrA.stay hq18
  have hgA := hgA.stay hq18
  have ht := ht.below hq18
  have hB := bl_tr hB hq18 hB.size
  refine ⟨_, rfl, ?_⟩
  rw [decide_eq_true rfl]
  refine dr U 600 rfl trivial ?_
  refine cF rfl rfl rfl (fun h => h rfl) ?_
  refine dr U 600 rfl trivial ?_
  refine cF rfl rfl rfl (fun h => h rfl) ?_
  refine dr U 600 rfl trivial ?_
  refine cF rfl rfl rfl (fun h => h rfl) ?_
  refine dr U 600 rfl trivial ?_
  refine call (f := 12) rfl rfl cb12 (lSolve_l xss vs hX hV ax av cx cv w18 hsx hvo.sl.1 ht) ?_
  rintro v w19 ⟨⟨zsS, eS, hpS, hout⟩, hq19⟩
  obtain ⟨aS, ccS, rfl, hrS⟩ := hout.lit
  have hs := hs.stay hq19
  have hsy := hsy.stay hq19
  have hv := hv.stay hq19
  have hsx := hsx.stay hq19
  have hsz := hsz.stay hq19
  have hvo := hvo.stay hq19
  have ht := ht.below hq19
  have hB := bl_tr hB hq19 hB.size
  refine ⟨_, rfl, ?_⟩
  refine dr U 600 rfl trivial ?_
  refine call (f := 37) rfl rfl cb37 (gSolve_l xss vs hX hV a v_ c vc w19 hs hv.sl.1) ?_
  rintro v w20 ⟨⟨_, _, hp, hout2S⟩, hq20⟩
  obtain ⟨rfl, rfl⟩ := hp.uniq hpS
  obtain ⟨bS, dS, rfl, hgS⟩ := hout2S.lit
  have hs := hs.stay hq20
  have hsy := hsy.stay hq20
  have hv := hv.stay hq20
  have hsx := hsx.stay hq20
  have hsz := hsz.stay hq20
  have hvo := hvo.stay hq20
  have hrS := hrS.stay hq20
  have ht := ht.below hq20
  have hB := bl_tr hB hq20 hB.size
  refine ⟨_, rfl, ?_⟩
  refine dr U 600 rfl trivial ?_
  refine call (f := 27) rfl rfl cb27 (lInverse_l xss hX ax cx w20 hsx ht) ?_
  rintro v w21 ⟨⟨zsI, eI, hpI, aI, ccI, rfl, hrI⟩, hq21⟩
  have hs := hs.stay hq21
  have hsy := hsy.stay hq21
  have hv := hv.stay hq21
  have hsx := hsx.stay hq21
  have hsz := hsz.stay hq21
  have hvo := hvo.stay hq21
  have hrS := hrS.stay hq21
  have hgS := hgS.stay hq21
  have ht := ht.below hq21
  have hB := bl_tr hB hq21 hB.size
  refine ⟨_, rfl, ?_⟩
  refine dr U 600 rfl trivial ?_
  refine call (f := 38) rfl rfl cb38 (gInverse_l xss hX a c w21 hs) ?_
  rintro v w22 ⟨⟨_, _, hp, bI, dI, rfl, hgI⟩, hq22⟩
  obtain ⟨rfl, rfl⟩ := hp.uniq hpI
  have hs := hs.stay hq22
  have hsy := hsy.stay hq22
  have hv := hv.stay hq22
  have hsx := hsx.stay hq22
  have hsz := hsz.stay hq22
  have hvo := hvo.stay hq22
  have hrS := hrS.stay hq22
  have hgS := hgS.stay hq22
  have hrI := hrI.stay hq22
  have ht := ht.below hq22
  have hB := bl_tr hB hq22 hB.size
  refine ⟨_, rfl, ?_⟩
  refine dr U 600 rfl trivial ?_
  refine call (f := 17) rfl rfl cb17 (lLeast_l xss vs hX hV ax av cx cv w22 hsx hvo.sl.1 ht) ?_
  rintro v w23 ⟨⟨zsL, eL, hpL, hout⟩, hq23⟩
  obtain ⟨aL, ccL, rfl, hrL⟩ := hout.lit
  have hs := hs.stay hq23
  have hsy := hsy.stay hq23
  have hv := hv.stay hq23
  have hsx := hsx.stay hq23
  have hsz := hsz.stay hq23
  have hvo := hvo.stay hq23
  have hrS := hrS.stay hq23
  have hgS := hgS.stay hq23
  have hrI := hrI.stay hq23
  have hgI := hgI.stay hq23
  have ht := ht.below hq23
  have hB := bl_tr hB hq23 hB.size
  refine ⟨_, rfl, ?_⟩
  refine dr U 600 rfl trivial ?_
  refine call (f := 39) rfl rfl cb39 (gLeast_l xss vs hX hV a v_ c vc w23 hs hv.sl.1) ?_
  rintro v w24 ⟨⟨_, _, hp, hout2L⟩, hq24⟩
  obtain ⟨rfl, rfl⟩ := hp.uniq hpL
  obtain ⟨bL, dL, rfl, hgL⟩ := hout2L.lit
  have hs := hs.stay hq24
  have hsy := hsy.stay hq24
  have hv := hv.stay hq24
  have hsx := hsx.stay hq24
  have hsz := hsz.stay hq24
  have hvo := hvo.stay hq24
  have hrS := hrS.stay hq24
  have hgS := hgS.stay hq24
  have hrI := hrI.stay hq24
  have hgI := hgI.stay hq24
  have hrL := hrL.stay hq24
  have ht := ht.below hq24
  have hB := bl_tr hB hq24 hB.size
  refine ⟨_, rfl, ?_⟩
  refine dr U 600 rfl trivial ?_
  refine call (f := 15) rfl rfl cb15 (nsame_x _ _ _ _ _ _ w24 hrS hgS hpS.lens.l hpS.lens.l) ?_
  rintro v w25 ⟨rfl, hq25⟩
  have hs := hs.stay hq25
  have hsy := hsy.stay hq25
  have hv := hv.stay hq25
  have hsx := hsx.stay hq25
  have hsz := hsz.stay hq25
  have hvo := hvo.stay hq25
  have hrS := hrS.stay hq25
  have hgS := hgS.stay hq25
  have hrI := hrI.stay hq25
  have hgI := hgI.stay hq25
  have hrL := hrL.stay hq25
  have hgL := hgL.stay hq25
  have ht := ht.below hq25
  have hB := bl_tr hB hq25 hB.size
  refine ⟨_, rfl, ?_⟩
  rw [decide_eq_true rfl]
  refine dr U 600 rfl trivial ?_
  refine cT rfl rfl rfl rfl ?_
  refine dr U 600 rfl trivial ?_
  refine call (f := 26) rfl rfl cb26 (msame_x _ _ _ _ _ _ w25 hrI hgI hpI.lens hpI.lens rfl rfl) ?_
  rintro v w26 ⟨rfl, hq26⟩
  have hs := hs.stay hq26
  have hsy := hsy.stay hq26
  have hv := hv.stay hq26
  have hsx := hsx.stay hq26
  have hsz := hsz.stay hq26
  have hvo := hvo.stay hq26
  have hrS := hrS.stay hq26
  have hgS := hgS.stay hq26
  have hrI := hrI.stay hq26
  have hgI := hgI.stay hq26
  have hrL := hrL.stay hq26
  have hgL := hgL.stay hq26
  have ht := ht.below hq26
  have hB := bl_tr hB hq26 hB.size
  refine ⟨_, rfl, ?_⟩
  rw [decide_eq_true rfl]
  refine dr U 600 rfl trivial ?_
  refine cT rfl rfl rfl rfl ?_
  refine dr U 600 rfl trivial ?_
  refine call (f := 15) rfl rfl cb15 (nsame_x _ _ _ _ _ _ w26 hrL hgL hpL.lens.l hpL.lens.l) ?_
  rintro v w27 ⟨rfl, hq27⟩
  have hs := hs.stay hq27
  have hsy := hsy.stay hq27
  have hv := hv.stay hq27
  have hsx := hsx.stay hq27
  have hsz := hsz.stay hq27
  have hvo := hvo.stay hq27
  have hrS := hrS.stay hq27
  have hgS := hgS.stay hq27
  have hrI := hrI.stay hq27
  have hgI := hgI.stay hq27
  have hrL := hrL.stay hq27
  have hgL := hgL.stay hq27
  have ht := ht.below hq27
  have hB := bl_tr hB hq27 hB.size
  refine ⟨_, rfl, ?_⟩
  rw [decide_eq_true rfl]
  refine dr U 600 rfl trivial ?_
  refine cT rfl rfl rfl rfl ?_
  refine dr U 600 rfl trivial ?_
  refine call (f := 30) rfl rfl cb30 (lcheck_calls xss a c w27 hs hX.lens.l hX.lens.l2 hX.lens.x) ?_
  rintro v w28 ⟨⟨eC, rfl, hpC⟩, hq28⟩
  have hs := hs.stay hq28
  have hsy := hsy.stay hq28
  have hv := hv.stay hq28
  have hsx := hsx.stay hq28
  have hsz := hsz.stay hq28
  have hvo := hvo.stay hq28
  have ht := ht.below hq28
  have hB := bl_tr hB hq28 hB.size
  refine ⟨_, rfl, ?_⟩
  refine dr U 600 rfl trivial ?_
  refine call (f := 40) rfl rfl cb40 (gCheck_calls xss a c w28 hs hX.lens.l hX.lens.l2 hX.lens.x) ?_
  rintro v w29 ⟨⟨_, rfl, hp⟩, hq29⟩
  obtain rfl := hp.uniq hpC
  have hs := hs.stay hq29
  have hsy := hsy.stay hq29
  have hv := hv.stay hq29
  have hsx := hsx.stay hq29
  have hsz := hsz.stay hq29
  have hvo := hvo.stay hq29
  have ht := ht.below hq29
  have hB := bl_tr hB hq29 hB.size
  refine ⟨_, rfl, ?_⟩
  refine dr U 600 rfl trivial ?_
  refine cT rfl rfl rfl rfl ?_
  refine dr U 600 rfl trivial ?_
  refine call (f := 31) rfl rfl cb31 (lVector_calls vs v_ vc w29 hv.sl.1 hV.lenv.l hV.lenv.x) ?_
  rintro v w30 ⟨⟨eV, rfl, hpV⟩, hq30⟩
  have hs := hs.stay hq30
  have hsy := hsy.stay hq30
  have hv := hv.stay hq30
  have hsx := hsx.stay hq30
  have hsz := hsz.stay hq30
  have hvo := hvo.stay hq30
  have ht := ht.below hq30
  have hB := bl_tr hB hq30 hB.size
  refine ⟨_, rfl, ?_⟩
  refine dr U 600 rfl trivial ?_
  refine call (f := 41) rfl rfl cb41 (gVector_calls vs v_ vc w30 hv.sl.1 hV.lenv.l hV.lenv.x) ?_
  rintro v w31 ⟨⟨_, rfl, hp⟩, hq31⟩
  obtain rfl := hp.uniq hpV
  have hs := hs.stay hq31
  have hsy := hsy.stay hq31
  have hv := hv.stay hq31
  have hsx := hsx.stay hq31
  have hsz := hsz.stay hq31
  have hvo := hvo.stay hq31
  have ht := ht.below hq31
  have hB := bl_tr hB hq31 hB.size
  refine ⟨_, rfl, ?_⟩
  refine dr U 600 rfl trivial ?_
  refine cT rfl rfl rfl rfl ?_
  refine dr U 600 rfl trivial ?_
  refine call (f := 24) rfl rfl cb24 (lIdentity_calls n hn w31 ht) ?_
  rintro v w32 ⟨hid, hq32⟩
  obtain ⟨aD, cD, zsD, rfl, hrD, hlD, hpD⟩ := hid.out --hout
  have hs := hs.stay hq32
  have hsy := hsy.stay hq32
  have hv := hv.stay hq32
  have hsx := hsx.stay hq32
  have hsz := hsz.stay hq32
  have hvo := hvo.stay hq32
  have ht := ht.below hq32
  have hB := bl_tr hB hq32 hB.size
  refine ⟨_, rfl, ?_⟩
  refine dr U 600 rfl trivial ?_
  refine call (f := 42) rfl rfl cb42 (gIdentity_calls n hn w32) ?_
  rintro v w33 ⟨hid, hq33⟩
  obtain ⟨bD, dD, ysD, rfl, hgD, hmD, hoD⟩ := hid.out --hout
  obtain rfl : ysD = zsD := by --hout
    rcases hpD with ⟨h1, rfl⟩ | ⟨h1, rfl⟩ <;> rcases hoD with ⟨h2, rfl⟩ | ⟨h2, rfl⟩ <;> first | rfl | (exfalso; omega)
  have hs := hs.stay hq33
  have hsy := hsy.stay hq33
  have hv := hv.stay hq33
  have hsx := hsx.stay hq33
  have hsz := hsz.stay hq33
  have hvo := hvo.stay hq33
  have hrD := hrD.stay hq33
  have ht := ht.below hq33
  have hB := bl_tr hB hq33 hB.size
  refine ⟨_, rfl, ?_⟩
  refine dr U 600 rfl trivial ?_
  refine call (f := 26) rfl rfl cb26 (msame_x _ _ _ _ _ _ w33 hrD hgD hlD hlD rfl rfl) ?_
  rintro v w34 ⟨rfl, hq34⟩
  have hs := hs.stay hq34
  have hsy := hsy.stay hq34
  have hv := hv.stay hq34
  have hsx := hsx.stay hq34
  have hsz := hsz.stay hq34
  have hvo := hvo.stay hq34
  have hrD := hrD.stay hq34
  have hgD := hgD.stay hq34
  have ht := ht.below hq34
  have hB := bl_tr hB hq34 hB.size
  refine ⟨_, rfl, ?_⟩
  rw [decide_eq_true rfl]
  refine dr U 600 rfl trivial ?_
  refine call (f := 26) rfl rfl cb26 (msame_x _ _ _ _ _ _ w34 hsx hs hX.lens hX.lens rfl rfl) ?_
  rintro v w35 ⟨rfl, hq35⟩
  have hs := hs.stay hq35
  have hsy := hsy.stay hq35
  have hv := hv.stay hq35
  have hsx := hsx.stay hq35
  have hsz := hsz.stay hq35
  have hvo := hvo.stay hq35
  have hrD := hrD.stay hq35
  have hgD := hgD.stay hq35
  have ht := ht.below hq35
  have hB := bl_tr hB hq35 hB.size
  refine ⟨_, rfl, ?_⟩
  rw [decide_eq_true rfl]
  refine dr U 600 rfl trivial ?_
  refine call (f := 26) rfl rfl cb26 (msame_x _ _ _ _ _ _ w35 hsz hsy hY.lens hY.lens rfl rfl) ?_
  rintro v w36 ⟨rfl, hq36⟩
  have hs := hs.stay hq36
  have hsy := hsy.stay hq36
  have hv := hv.stay hq36
  have hsx := hsx.stay hq36
  have hsz := hsz.stay hq36
  have hvo := hvo.stay hq36
  have hrD := hrD.stay hq36
  have hgD := hgD.stay hq36
  have ht := ht.below hq36
  have hB := bl_tr hB hq36 hB.size
  refine ⟨_, rfl, ?_⟩
  rw [decide_eq_true rfl]
  refine dr U 600 rfl trivial ?_
  refine call (f := 15) rfl rfl cb15 (nsame_x _ _ _ _ _ _ w36 hvo hv hV.lenv.l hV.lenv.l) ?_
  rintro v w37 ⟨rfl, hq37⟩
  have hs := hs.stay hq37
  have hsy := hsy.stay hq37
  have hv := hv.stay hq37
  have hsx := hsx.stay hq37
  have hsz := hsz.stay hq37
  have hvo := hvo.stay hq37
  have hrD := hrD.stay hq37
  have hgD := hgD.stay hq37
  have ht := ht.below hq37
  have hB := bl_tr hB hq37 hB.size
  refine ⟨_, rfl, ?_⟩
  rw [decide_eq_true rfl]
  refine dr U 600 rfl trivial ?_
  exact ret Tryz.results8 rfl ⟨_, rfl, rfl, hB⟩
end Go.Proofs.YtfdekppnilffeaaGreatDoor
