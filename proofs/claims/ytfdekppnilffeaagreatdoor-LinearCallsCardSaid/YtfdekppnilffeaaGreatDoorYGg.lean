/-
  Walk of the reference's solve.
  Conditions: a bound on the sizes of the numbers.

  Walks of the reference's with, Identity, Transpose, Mul, Apply, Rank, Solve.
  Conditions: a bound on the sizes of the numbers.

  Walks of the reference's Solve, Inverse, Least.
  Conditions: a bound on the sizes of the numbers.
-/
import Derived.Test.YtfdekppnilffeaaGreatDoorYGd
section
set_option linter.unusedSimpArgs false
set_option linter.unusedVariables false
set_option maxHeartbeats 4000000
namespace Go.Proofs.YtfdekppnilffeaaGreatDoor
open Go Go.Proofs Go.RowKit Go.Lib

theorem greduce_small (m n cols S : Nat) (f : Nat → Nat → Rat) (hn : 0 < n) (hcols : cols ≤ n) (hc0 : 0 < cols) (hm' : m ≤ 1000000) (hn' : n ≤ 1000000) (hS : ∀ i t, i < m → t < n → Small S (f i t)) (hG : grw cols S ≤ 1000000)
    (go c base : Nat) (A0 : Nat → Option Addr) (C0 : Nat → Nat) (w : World) (ho0 : w.ownsRow base 93 1 (.slice (some ⟨go, 0, none⟩) m c) m (rws m n A0 C0)) (hO0 : RwsQ w m n A0 C0 f) (hbase : base ≤ w.heap.size) :
    Calls Tryz.prog 71 #[.slice (some ⟨go, 0, none⟩) m c, .int .i64 (cols : Nat)] w (Ret fun v w' => v = .tuple ⟨[.slice (some ⟨go, 0, none⟩) m c, .int .i64 ((gj m f cols).2 : Nat)]⟩ ∧ ∃ A C, RdqI w w' base go c m n A C (gj m f cols).1) :=
  greduce_calls m n cols (grw (cols - 1) S) f hn hcols hm' hn' (grw_le hG (show 0 < cols by omega)).1 (fun k hk i t hi ht => small_mono (gj_small hS k (by omega) i t hi ht) (grw_le hG hk).2) go c base A0 C0 w ho0 hO0 hbase

set_option maxRecDepth 100000 in
theorem gsolve_calls (n S : Nat) (f : Mx) (b : Nat → Rat) (hn : 0 < n) (hn' : n ≤ 500000) (hfS : ∀ i t, i < n → t < n → Small S (f i t)) (hbS : ∀ i, i < n → Small S (b i)) (hG : grw n S ≤ 1000000)
    (a ab_ : Option Addr) (c d : Nat) (w : World) (hf : MatQ w a n n f) (hb : VecQ w ab_ n b) :
    Calls Tryz.prog 72 #[.slice a n c, .slice ab_ n d] w (Ret fun v w' => (((gj n f n).2 ≠ n ∧ v = .tuple ⟨[.slice none 0 0, .bool false]⟩) ∨ ((gj n f n).2 = n ∧ ∃ a' c', v = .tuple ⟨[.slice a' n c', .bool true]⟩ ∧ n ≤ c' ∧ VecQ w' a' n (fun i => (gj n (aug n f (fun i _ => b i)) n).1 i (n + 0)))) ∧ Below w.heap.size w w') := by
  obtain ⟨A, C, hSl, hV, hTb⟩ := hf
  have hAb := fun g hg => (hTb g hg).lt
  obtain ⟨ga, oa, rfl, _⟩ := hSl.at (j := 0) (by rw [rws_length]; omega)
  obtain ⟨gb, ob, csg, rfl, hEg, hSg, hltg⟩ := hb.at hn
  have hAg : ∀ g, ab (some ⟨gb, ob, none⟩) = some g → g < w.heap.size := fun g e => by cases e; exact hltg
  refine enter Tryz.func72 rfl Tryz.ntmps72 (Nat.le_of_ble_eq_true rfl) ?_
  refine dr U 600 rfl trivial ?_
  refine loopR (fun fr w' mm => ∃ (i : Nat) (a2 : Option Addr) (c2 : Nat) (A2 : Nat → Option Addr) (C2 : Nat → Nat), fr = [(0, .slice (some ⟨ga, oa, none⟩) n c), (1, .slice (some ⟨gb, ob, none⟩) n d), (6, .slice a2 i c2), (7, .int .i64 (i : Nat))] ∧ i ≤ n ∧
      w'.ownsRow w.heap.size 93 1 (.slice a2 i c2) i (rws i (n + 1) A2 C2) ∧ RwsQ w' i (n + 1) A2 C2 (aug n f (fun i _ => b i)) ∧ Below w.heap.size w w' ∧ mm = n - i)
    ⟨0, none, 0, fun _ => none, fun _ => 0, rfl, by omega, ⟨rfl, .inl ⟨rfl, rfl⟩⟩, RwsQ.none _ _ _ _ _, Below.refl _ _, rfl⟩ ⟨rfl, rfl, rfl, rfl, trivial⟩ ?_
  rintro fr w1 mm ⟨i, a2, c2, A2, C2, rfl, hi, ho, hR, hBw, rfl⟩
  refine dr U 600 rfl trivial ?_
  refine cS rfl rfl rfl rfl (fun hq => ?_) (fun hq => ?_)
  · have hin : i < n := by omega
    obtain ⟨gr, orr, csr, hAr, hEr, hSr, hltr⟩ := (hV i hin).1.at hn
    have hxb := hEg.2 i hin
    obtain ⟨u1, u2, u3, u4, u5, u6, u7, hu⟩ := hxb.shape
    simp only [Value.agg.injEq, Array.mk.injEq] at hu
    rw [hu] at hxb
    refine dr U 600 rfl trivial ?_
    refine dwn 15 (fun W => Sl W (some ⟨ga, oa, none⟩) (rws n n A C) ∧ Sl W (some ⟨gb, ob, none⟩) csg) hmo ?_
    intro w5 hh5 hg5
    have hBP : Below w1.heap.size w1 w5 := (Below.refl _ _).grown hg5 (Nat.le_refl _) (fun k e => by cases e)
    have hl5 : ∀ W, (Sl W (some ⟨ga, oa, none⟩) (rws n n A C) ∧ Sl W (some ⟨gb, ob, none⟩) csg) → (loadVar 93 ((⟨ga, oa, none⟩ : Addr).add (((i : Nat) : Int).toNat * 1))).run Tryz.prog W = .ok (.slice (some ⟨gr, orr, none⟩) n (C i)) W := fun W h => run_load_cell U rfl (by rw [← hAr]; simpa [add_plain] using slc2 h.1 (rws_get hin))
    have hl10 : ∀ W, (Sl W (some ⟨ga, oa, none⟩) (rws n n A C) ∧ Sl W (some ⟨gb, ob, none⟩) csg) → (loadVar 75 ((⟨gb, ob, none⟩ : Addr).add (((i : Nat) : Int).toNat * 3))).run Tryz.prog W = .ok (.agg ⟨[.bool u1, .slice u2 u3 u4, .slice u5 u6 u7]⟩) W := fun W h => by rw [← hu]; exact elem_loadq hEg hin h.2
    refine dq U [0,2,3,4,5,7,8,9,10] [(5, .slice (some ⟨gr, orr, none⟩) n (C i)), (10, .agg ⟨[.bool u1, .slice u2 u3 u4, .slice u5 u6 u7]⟩)] (by kernel_rfl) rfl rfl ⟨hSl.below (bl_tr hBw hBP hBw.size) hAb, hSg.below (bl_tr hBw hBP hBw.size) hAg⟩ (by simp only [AllP, InR, List.nil_append, List.cons_append]; (repeat' apply And.intro); all_goals first | exact True.intro | omega | (with_reducible exact hl5) | (with_reducible exact hl10)) ?_
    refine d1or (i := 1) (j := 11) rfl rfl rfl (fun _ => ⟨hSl.below (bl_tr hBw hBP hBw.size) hAb, hSg.below (bl_tr hBw hBP hBw.size) hAg⟩) ?_ ?_
    · refine bs0 U rfl rfl rfl rfl ?_
      intro wA hoA hsA hgA
      have hbP := hBP.size
      have hoA := own_mono2 hoA hbP
      have hBA := hBP.grown hgA hbP (fun k e => by cases e)
      refine d2 ?_
      refine d1or (i := 6) (j := 11) rfl rfl rfl (fun _ => ⟨hSl.below (bl_tr hBw hBA hBw.size) hAb, hSg.below (bl_tr hBw hBA hBw.size) hAg⟩) ?_ ?_
      · refine aw U rfl rfl rfl rfl rfl rfl rfl rfl rfl hoA (hSr.below (bl_tr hBw hBA hBw.size) (fun q e => by cases e; exact hltr)) hEr.1 hEr.one hBA.size (by omega) rfl ?_
        intro aB cB wB hoB hgB
        rw [Nat.zero_add, List.nil_append] at hoB
        simp only [Nat.zero_add]
        have hBB := hBA.grown hgB hBA.size (fun g e => (own_block hoA g e).1)
        refine d2 ?_
        refine d1 rfl rfl (fun _ => ⟨hSl.below (bl_tr hBw hBB hBw.size) hAb, hSg.below (bl_tr hBw hBB hBw.size) hAg⟩) ?_
        refine bsS U [[.bool u1, .slice u2 u3 u4, .slice u5 u6 u7]] rfl rfl rfl rfl rfl rfl (by decide) (by decide) (by intro cs h; simp at h; subst h; rfl) ?_
        intro wC hkC hsC hgC
        have hBC := hBB.grown hgC hBB.size (fun k e => by cases e)
        refine d2 ?_
        have hoB := own_keep hoB hgC (by intro g e h; cases h)
        refine d1 rfl rfl (fun _ => ⟨hSl.below (bl_tr hBw hBC hBw.size) hAb, hSg.below (bl_tr hBw hBC hBw.size) hAg⟩) ?_
        have hBF := bl_tr hBw hBC hBw.size
        have hEF := hEr.stay hBF
        have hxF := hxb.stay hBF
        refine aw U rfl rfl rfl rfl rfl rfl rfl rfl rfl hoB (hkC.sl 0) rfl (by intro u hu; simp at hu; rcases hu with rfl | rfl | rfl <;> rfl) hBC.size (by omega) rfl ?_
        intro a9 c9 w9 ho9 hg9
        have hB9 := hBC.grown hg9 hBC.size (fun g e => (own_block hoB g e).1)
        have htk := own_tag hoB
        have hE1 : ElsQ w9 [.bool u1, .slice u2 u3 u4, .slice u5 u6 u7] 1 (fun _ => b i) := ⟨rfl, fun t ht => by
          obtain rfl : t = 0 := by omega
          exact hxF.push hg9 htk⟩
        have hE9 : ElsQ w9 (csr ++ [.bool u1, .slice u2 u3 u4, .slice u5 u6 u7]) (n + 1) (aug n f (fun i _ => b i) i) := (hEF.push hg9 htk).app hE1
        have hv9 := own_vecq ho9 hE9
        have hc9 := own_cap3 ho9
        refine d2 ?_
        refine d1 rfl rfl (fun _ => ⟨hSl.below (bl_tr hBw hB9 hBw.size) hAb, hSg.below (bl_tr hBw hB9 hBw.size) hAg⟩) ?_
        refine bs1 U (v := .slice a9 (n + 1) c9) rfl rfl rfl rfl rfl rfl rfl ?_
        intro wD hkD hsD hgD
        have hBD := hB9.grown hgD hB9.size (fun k e => by cases e)
        have h9D : Below w9.heap.size w9 wD := (Below.refl _ _).grown hgD (Nat.le_refl _) (fun k e => by cases e)
        have hv9 := hv9.stay h9D
        refine d2 ?_
        refine d1 rfl rfl (fun _ => ⟨hSl.below (bl_tr hBw hBD hBw.size) hAb, hSg.below (bl_tr hBw hBD hBw.size) hAg⟩) ?_
        have hoo := own_bw ho hBD
        refine aw U rfl rfl rfl rfl rfl rfl rfl rfl rfl hoo (hkD.sl 0) rfl (by intro u hu; simp at hu; rcases hu with rfl; rfl) (Nat.le_trans hBw.size hBD.size) (by omega) rfl ?_
        intro aE cE wE hoE hgE
        have htE := own_tag hoo
        have hBE := (bl_tr hBw hBD hBw.size).grown hgE (Nat.le_trans hBw.size hBD.size) (fun g e => (own_block hoo g e).1)
        have hRE := ((hR.stay hBD).push hgE htE).snoc (hv9.push hgE htE) hc9
        rw [show rws i (n + 1) A2 C2 ++ List.drop 0 [Value.slice a9 (n + 1) c9] = rws (i + 1) (n + 1) (upd A2 i a9) (upd C2 i c9) from rws_snoc _ _ _ _ _ _] at hoE
        refine d2 ?_
        refine d1 rfl rfl (fun _ => ⟨hSl.below hBE hAb, hSg.below hBE hAg⟩) ?_
        refine dr U 600 rfl trivial ?_
        refine d3 ?_; refine dend rfl (fun h => by cases h) ?_
        refine dr U 600 rfl (by first | exact True.intro | (simp only [AllP, InR, List.nil_append, List.cons_append, and_true]; omega)) ?_
        exact rend _ _ ⟨i + 1, aE, cE, _, _, rfl, by omega, hoE, hRE, hBE, rfl⟩ (by omega) ⟨rfl, rfl, rfl, iv (by omega), trivial⟩
      · refine bsS U [[.bool u1, .slice u2 u3 u4, .slice u5 u6 u7]] rfl rfl rfl rfl rfl rfl (by decide) (by decide) (by intro cs h; simp at h; subst h; rfl) ?_
        intro wC hkC hsC hgC
        have hBC := hBA.grown hgC hBA.size (fun k e => by cases e)
        refine d2 ?_
        have hoA := own_keep hoA hgC (by intro g e h; cases h)
        refine d1 rfl rfl (fun _ => ⟨hSl.below (bl_tr hBw hBC hBw.size) hAb, hSg.below (bl_tr hBw hBC hBw.size) hAg⟩) ?_
        refine aw U rfl rfl rfl rfl rfl rfl rfl rfl rfl hoA (hSr.below (bl_tr hBw hBC hBw.size) (fun q e => by cases e; exact hltr)) hEr.1 hEr.one hBC.size (by omega) rfl ?_
        intro aB cB wB hoB hgB
        rw [Nat.zero_add, List.nil_append] at hoB
        simp only [Nat.zero_add]
        have hBB := hBC.grown hgB hBC.size (fun g e => (own_block hoA g e).1)
        refine d2 ?_
        have hkC := hkC.keep hgB (fun e => by
          have h1 : w5.heap.size = wA.heap.size := Option.some.inj e
          omega)
        refine d1 rfl rfl (fun _ => ⟨hSl.below (bl_tr hBw hBB hBw.size) hAb, hSg.below (bl_tr hBw hBB hBw.size) hAg⟩) ?_
        have hBF := bl_tr hBw hBB hBw.size
        have hEF := hEr.stay hBF
        have hxF := hxb.stay hBF
        refine aw U rfl rfl rfl rfl rfl rfl rfl rfl rfl hoB (hkC.sl 0) rfl (by intro u hu; simp at hu; rcases hu with rfl | rfl | rfl <;> rfl) hBB.size (by omega) rfl ?_
        intro a9 c9 w9 ho9 hg9
        have hB9 := hBB.grown hg9 hBB.size (fun g e => (own_block hoB g e).1)
        have htk := own_tag hoB
        have hE1 : ElsQ w9 [.bool u1, .slice u2 u3 u4, .slice u5 u6 u7] 1 (fun _ => b i) := ⟨rfl, fun t ht => by
          obtain rfl : t = 0 := by omega
          exact hxF.push hg9 htk⟩
        have hE9 : ElsQ w9 (csr ++ [.bool u1, .slice u2 u3 u4, .slice u5 u6 u7]) (n + 1) (aug n f (fun i _ => b i) i) := (hEF.push hg9 htk).app hE1
        have hv9 := own_vecq ho9 hE9
        have hc9 := own_cap3 ho9
        refine d2 ?_
        refine d1 rfl rfl (fun _ => ⟨hSl.below (bl_tr hBw hB9 hBw.size) hAb, hSg.below (bl_tr hBw hB9 hBw.size) hAg⟩) ?_
        refine bs1 U (v := .slice a9 (n + 1) c9) rfl rfl rfl rfl rfl rfl rfl ?_
        intro wD hkD hsD hgD
        have hBD := hB9.grown hgD hB9.size (fun k e => by cases e)
        have h9D : Below w9.heap.size w9 wD := (Below.refl _ _).grown hgD (Nat.le_refl _) (fun k e => by cases e)
        have hv9 := hv9.stay h9D
        refine d2 ?_
        refine d1 rfl rfl (fun _ => ⟨hSl.below (bl_tr hBw hBD hBw.size) hAb, hSg.below (bl_tr hBw hBD hBw.size) hAg⟩) ?_
        have hoo := own_bw ho hBD
        refine aw U rfl rfl rfl rfl rfl rfl rfl rfl rfl hoo (hkD.sl 0) rfl (by intro u hu; simp at hu; rcases hu with rfl; rfl) (Nat.le_trans hBw.size hBD.size) (by omega) rfl ?_
        intro aE cE wE hoE hgE
        have htE := own_tag hoo
        have hBE := (bl_tr hBw hBD hBw.size).grown hgE (Nat.le_trans hBw.size hBD.size) (fun g e => (own_block hoo g e).1)
        have hRE := ((hR.stay hBD).push hgE htE).snoc (hv9.push hgE htE) hc9
        rw [show rws i (n + 1) A2 C2 ++ List.drop 0 [Value.slice a9 (n + 1) c9] = rws (i + 1) (n + 1) (upd A2 i a9) (upd C2 i c9) from rws_snoc _ _ _ _ _ _] at hoE
        refine d2 ?_
        refine d1 rfl rfl (fun _ => ⟨hSl.below hBE hAb, hSg.below hBE hAg⟩) ?_
        refine dr U 600 rfl trivial ?_
        refine d3 ?_; refine dend rfl (fun h => by cases h) ?_
        refine dr U 600 rfl (by first | exact True.intro | (simp only [AllP, InR, List.nil_append, List.cons_append, and_true]; omega)) ?_
        exact rend _ _ ⟨i + 1, aE, cE, _, _, rfl, by omega, hoE, hRE, hBE, rfl⟩ (by omega) ⟨rfl, rfl, rfl, iv (by omega), trivial⟩
    · refine bsS U [[.bool u1, .slice u2 u3 u4, .slice u5 u6 u7]] rfl rfl rfl rfl rfl rfl (by decide) (by decide) (by intro cs h; simp at h; subst h; rfl) ?_
      intro wC hkC hsC hgC
      have hBC := hBP.grown hgC hBP.size (fun k e => by cases e)
      refine d2 ?_
      refine d1 rfl rfl (fun _ => ⟨hSl.below (bl_tr hBw hBC hBw.size) hAb, hSg.below (bl_tr hBw hBC hBw.size) hAg⟩) ?_
      have hBP := hBC
      refine bs0 U rfl rfl rfl rfl ?_
      intro wA hoA hsA hgA
      have hbP := hBP.size
      have hoA := own_mono2 hoA hbP
      have hBA := hBP.grown hgA hbP (fun k e => by cases e)
      refine d2 ?_
      have hkC := hkC.keep hgA (by simp)
      refine d1 rfl rfl (fun _ => ⟨hSl.below (bl_tr hBw hBA hBw.size) hAb, hSg.below (bl_tr hBw hBA hBw.size) hAg⟩) ?_
      refine aw U rfl rfl rfl rfl rfl rfl rfl rfl rfl hoA (hSr.below (bl_tr hBw hBA hBw.size) (fun q e => by cases e; exact hltr)) hEr.1 hEr.one hBA.size (by omega) rfl ?_
      intro aB cB wB hoB hgB
      rw [Nat.zero_add, List.nil_append] at hoB
      simp only [Nat.zero_add]
      have hBB := hBA.grown hgB hBA.size (fun g e => (own_block hoA g e).1)
      refine d2 ?_
      have hkC := hkC.keep hgB (fun e => by
        have h1 : wC.heap.size = w5.heap.size := Option.some.inj e
        omega)
      refine d1 rfl rfl (fun _ => ⟨hSl.below (bl_tr hBw hBB hBw.size) hAb, hSg.below (bl_tr hBw hBB hBw.size) hAg⟩) ?_
      have hBF := bl_tr hBw hBB hBw.size
      have hEF := hEr.stay hBF
      have hxF := hxb.stay hBF
      refine aw U rfl rfl rfl rfl rfl rfl rfl rfl rfl hoB (hkC.sl 0) rfl (by intro u hu; simp at hu; rcases hu with rfl | rfl | rfl <;> rfl) hBB.size (by omega) rfl ?_
      intro a9 c9 w9 ho9 hg9
      have hB9 := hBB.grown hg9 hBB.size (fun g e => (own_block hoB g e).1)
      have htk := own_tag hoB
      have hE1 : ElsQ w9 [.bool u1, .slice u2 u3 u4, .slice u5 u6 u7] 1 (fun _ => b i) := ⟨rfl, fun t ht => by
        obtain rfl : t = 0 := by omega
        exact hxF.push hg9 htk⟩
      have hE9 : ElsQ w9 (csr ++ [.bool u1, .slice u2 u3 u4, .slice u5 u6 u7]) (n + 1) (aug n f (fun i _ => b i) i) := (hEF.push hg9 htk).app hE1
      have hv9 := own_vecq ho9 hE9
      have hc9 := own_cap3 ho9
      refine d2 ?_
      refine d1 rfl rfl (fun _ => ⟨hSl.below (bl_tr hBw hB9 hBw.size) hAb, hSg.below (bl_tr hBw hB9 hBw.size) hAg⟩) ?_
      refine bs1 U (v := .slice a9 (n + 1) c9) rfl rfl rfl rfl rfl rfl rfl ?_
      intro wD hkD hsD hgD
      have hBD := hB9.grown hgD hB9.size (fun k e => by cases e)
      have h9D : Below w9.heap.size w9 wD := (Below.refl _ _).grown hgD (Nat.le_refl _) (fun k e => by cases e)
      have hv9 := hv9.stay h9D
      refine d2 ?_
      refine d1 rfl rfl (fun _ => ⟨hSl.below (bl_tr hBw hBD hBw.size) hAb, hSg.below (bl_tr hBw hBD hBw.size) hAg⟩) ?_
      have hoo := own_bw ho hBD
      refine aw U rfl rfl rfl rfl rfl rfl rfl rfl rfl hoo (hkD.sl 0) rfl (by intro u hu; simp at hu; rcases hu with rfl; rfl) (Nat.le_trans hBw.size hBD.size) (by omega) rfl ?_
      intro aE cE wE hoE hgE
      have htE := own_tag hoo
      have hBE := (bl_tr hBw hBD hBw.size).grown hgE (Nat.le_trans hBw.size hBD.size) (fun g e => (own_block hoo g e).1)
      have hRE := ((hR.stay hBD).push hgE htE).snoc (hv9.push hgE htE) hc9
      rw [show rws i (n + 1) A2 C2 ++ List.drop 0 [Value.slice a9 (n + 1) c9] = rws (i + 1) (n + 1) (upd A2 i a9) (upd C2 i c9) from rws_snoc _ _ _ _ _ _] at hoE
      refine d2 ?_
      refine d1 rfl rfl (fun _ => ⟨hSl.below hBE hAb, hSg.below hBE hAg⟩) ?_
      refine dr U 600 rfl trivial ?_
      refine d3 ?_; refine dend rfl (fun h => by cases h) ?_
      refine dr U 600 rfl (by first | exact True.intro | (simp only [AllP, InR, List.nil_append, List.cons_append, and_true]; omega)) ?_
      exact rend _ _ ⟨i + 1, aE, cE, _, _, rfl, by omega, hoE, hRE, hBE, rfl⟩ (by omega) ⟨rfl, rfl, rfl, iv (by omega), trivial⟩
  · obtain rfl : n = i := by omega
    obtain ⟨go, rfl⟩ := own_go ho hn
    refine dr U 600 rfl trivial ?_
    refine call (f := 71) rfl rfl cb71 (greduce_small n (n + 1) n S (aug n f (fun i _ => b i)) (by omega) (by omega) hn (by omega) (by omega) (aug_small hfS (fun i t hi _ => hbS i hi)) hG go c2 w.heap.size A2 C2 w1 ho hR hBw.size) ?_
    rintro v w2 ⟨rfl, A3, C3, ho3, hO3, hB3⟩
    have hB2 := hBw.trans hB3
    have hle := gj_le n (aug n f (fun i _ => b i)) n
    have hrk := aug_rank n f (fun i _ => b i)
    refine ⟨_, rfl, ?_⟩
    refine dr U 600 rfl trivial ?_
    refine cS rfl rfl rfl rfl (fun hq => ?_) (fun hq => ?_)
    · refine dr U 600 rfl trivial ?_
      exact ret Tryz.results72 rfl ⟨_, rfl, .inl ⟨by omega, rfl⟩, hB2⟩
    have hfull : (gj n f n).2 = n := by omega
    refine dr U 600 rfl trivial ?_
    refine loopR (fun fr w' mm => ∃ (j : Nat) (a4 : Option Addr) (c4 : Nat) (cs : List Value), fr = [(0, .slice (some ⟨ga, oa, none⟩) n c), (6, .slice (some ⟨go, 0, none⟩) n c2), (9, .slice a4 j c4), (10, .int .i64 (j : Nat))] ∧ j ≤ n ∧
        w'.ownsRow w2.heap.size 75 3 (.slice a4 j c4) j cs ∧ ElsQ w' cs j (fun i => (gj n (aug n f (fun i _ => b i)) n).1 i (n + 0)) ∧ Below w2.heap.size w2 w' ∧ mm = n - j)
      ⟨0, none, 0, [], rfl, by omega, ⟨rfl, .inl ⟨rfl, rfl⟩⟩, ElsQ.nil _ _, Below.refl _ _, rfl⟩ ⟨rfl, rfl, rfl, rfl, trivial⟩ ?_
    rintro fr w4 mm ⟨j, a4, c4, cs, rfl, hj, ho4, hE4, hB24, rfl⟩
    refine dr U 600 rfl trivial ?_
    refine cS rfl rfl rfl rfl (fun hq => ?_) (fun hq => ?_)
    · have hjn : j < n := by omega
      obtain ⟨⟨csj, hEj, hSj, hTj⟩, _⟩ := hO3 j hjn
      refine dr U 600 rfl trivial ?_
      refine il U rfl rfl rfl rfl rfl rfl rfl (fun _ => rfl) rfl j rfl hjn ((own_sl ho3).below hB24 (fun g e => (own_block ho3 g e).2)) (rws_get hjn) ?_
      refine dr U 600 rfl trivial ?_
      refine ig U rfl rfl rfl rfl ag_q rfl rfl (fun _ => rfl) rfl n rfl (by omega) (hSj.below hB24 (fun g hg => (hTj g hg).lt)) (fun j v hv => el_get hv) (el_length (by rw [hEj.1]; omega)) (by decide) ?_
      have hfe := (hEj.2 n (by omega)).stay hB24
      obtain ⟨u1, u2, u3, u4, u5, u6, u7, hu⟩ := hfe.shape
      simp only [Value.agg.injEq, Array.mk.injEq] at hu
      rw [hu] at hfe ⊢
      refine aps U rfl rfl rfl rfl rfl rfl rfl rfl (fun _ => rfl) rfl (fun _ => rfl) rfl rfl rfl ho4 hB24.size (by omega) rfl ?_
      intro a5 c5 w5 ho5 hg5
      have hB5 := hB24.grown hg5 hB24.size (fun g e => (own_block ho4 g e).1)
      have hE5 := (hE4.push hg5 (fun g e => own_tag ho4 g e)).snoc (hfe.push hg5 (fun g e => own_tag ho4 g e))
      refine dr U 600 rfl (by first | exact True.intro | (simp only [AllP, InR, List.nil_append, List.cons_append, and_true]; omega)) ?_
      exact rend _ _ ⟨j + 1, a5, c5, _, rfl, by omega, ho5, hE5, hB5, rfl⟩ (by omega) ⟨rfl, rfl, rfl, iv (by omega), trivial⟩
    · obtain rfl : n = j := by omega
      refine dr U 600 rfl trivial ?_
      exact ret Tryz.results72 rfl ⟨_, rfl, .inr ⟨hfull, a4, c4, rfl, own_cap3 ho4, own_vecq ho4 hE4⟩, bl_tr hB2 hB24 hB2.size⟩
end Go.Proofs.YtfdekppnilffeaaGreatDoor
end
section
set_option linter.unusedSimpArgs false
set_option linter.unusedVariables false
set_option maxHeartbeats 4000000
namespace Go.Proofs.YtfdekppnilffeaaGreatDoor
open Go Go.Proofs Go.RowKit Go.Lib

theorem XErr.rows {xss : List (List Tx)} (h : XErr xss 0) : (∀ i, i < xss.length → (rw' xss i).length = (rw' xss 0).length) ∧ ∀ i, i < xss.length → ∀ j, j < (rw' xss 0).length → QErr ((rw' xss i).getD j []) 0 := by
  have hr := h.ok.2.2.2.2
  exact ⟨fun i hi => (hr i hi).1, fun i hi j hj => (hr i hi).2.ok.2.2 j (by rw [(hr i hi).1]; exact hj)⟩
/-- The lengths of lists and texts. -/
structure Lens (xss : List (List Tx)) : Prop where
  l : xss.length ≤ 1099511627776
  l2 : ∀ i, i < xss.length → (rw' xss i).length ≤ 1099511627776
  x : ∀ i, i < xss.length → ∀ j, j < (rw' xss i).length → ((rw' xss i).getD j []).length ≤ 1099511627776
theorem Lens.row {xss : List (List Tx)} (h : Lens xss) (he : XErr xss 0) : ∀ i, i < xss.length → ∀ j, j < (rw' xss 0).length → ((rw' xss i).getD j []).length ≤ 1099511627776 := fun i hi j hj => h.x i hi j (by rw [he.rows.1 i hi]; exact hj)
structure LenV (ys : List Tx) : Prop where
  l : ys.length ≤ 1099511627776
  x : ∀ j, j < ys.length → (ys.getD j []).length ≤ 1099511627776

theorem gwith_calls (xss : List (List Tx)) (ys : List Tx) (a b : Option Addr) (c d : Nat) (w : World) (hs : SM w a xss) (hl : Lens xss) (hsy : Sl w b (strs ys)) (hly : LenV ys) :
    Calls Tryz.prog 67 #[.slice a xss.length c, .slice b ys.length d] w (Ret fun v w' => (∃ e, v = .int .i64 e ∧ BErr xss ys e) ∧ Below w.heap.size w w') := by
  refine enter Tryz.func67 rfl Tryz.ntmps67 (Nat.le_of_ble_eq_true rfl) ?_
  refine dr U 600 rfl trivial ?_
  refine call (f := 40) rfl rfl cb40 (gCheck_calls xss a c w hs hl.l hl.l2 hl.x) ?_
  rintro v w1 ⟨⟨e, rfl, he⟩, hB1⟩
  refine ⟨_, rfl, ?_⟩
  refine dr U 600 rfl trivial ?_
  refine cS rfl rfl rfl rfl (fun hq => ?_) (fun hq => ?_)
  · refine dr U 600 rfl trivial ?_
    exact ret Tryz.results67 rfl ⟨_, rfl, ⟨e, rfl, .inl ⟨hq, he⟩⟩, hB1⟩
  obtain rfl := Classical.not_not.1 hq
  refine dr U 600 rfl trivial ?_
  refine call (f := 41) rfl rfl cb41 (gVector_calls ys b d w1 (hsy.stay hB1) hly.l hly.x) ?_
  rintro v w2 ⟨⟨e, rfl, he2⟩, hB2⟩
  refine ⟨_, rfl, ?_⟩
  refine dr U 600 rfl trivial ?_
  exact ret Tryz.results67 rfl ⟨_, rfl, ⟨e, rfl, .inr ⟨he, he2⟩⟩, bl_tr hB1 hB2 hB1.size⟩

theorem txs_snoc (n : Nat) (f : Nat → Rat) : txs (n + 1) f = txs n f ++ [qtext (f n)] := by unfold txs; rw [List.range_succ, List.map_append]; rfl
theorem qtext_zero : qtext 0 = [48] := by have := qtext_nat 0; rw [decDigits_one (by omega)] at this; simpa using this
theorem qtext_one : qtext 1 = [49] := by have := qtext_nat 1; rw [decDigits_one (by omega)] at this; simpa using this
theorem gIdentity_calls (n : Int) (hn : -9223372036854775808 ≤ n ∧ n ≤ 9223372036854775807) (w : World) :
    Calls Tryz.prog 42 #[.int .i64 n] w (Ret fun v w' => IdR n v w' ∧ Below w.heap.size w w') := by
  refine enter Tryz.func42 rfl Tryz.ntmps42 (Nat.le_of_ble_eq_true rfl) ?_
  refine dr U 600 rfl trivial ?_
  refine cS rfl rfl rfl rfl (fun hq1 => ?_) (fun hq1 => ?_)
  · refine dr U 600 rfl trivial ?_
    exact ret Tryz.results42 rfl ⟨_, rfl, .inl ⟨.inl hq1, rfl⟩, Below.refl _ _⟩
  refine dr U 600 rfl trivial ?_
  refine cS rfl rfl rfl rfl (fun hq2 => ?_) (fun hq2 => ?_)
  · refine dr U 600 rfl trivial ?_
    exact ret Tryz.results42 rfl ⟨_, rfl, .inl ⟨.inr hq2, rfl⟩, Below.refl _ _⟩
  obtain ⟨n, rfl⟩ : ∃ k : Nat, n = (k : Int) := ⟨n.toNat, by omega⟩
  have hn64 : n ≤ 64 := by omega
  refine dr U 600 rfl trivial ?_
  refine loopR (fun fr w' mm => ∃ (i : Nat) (a2 : Option Addr) (c2 : Nat) (A2 : Nat → Option Addr) (C2 : Nat → Nat), fr = [(0, .int .i64 (n : Nat)), (3, .slice a2 i c2), (4, .int .i64 (i : Nat))] ∧ i ≤ n ∧
      w'.ownsRow w.heap.size 23 1 (.slice a2 i c2) i (rws i n A2 C2) ∧ (∀ j, j < i → Sl w' (A2 j) (strs (txs n (idn j))) ∧ ∀ g, ab (A2 j) = some g → Tg w' 34 g) ∧ Below w.heap.size w w' ∧ mm = n - i)
    ⟨0, none, 0, fun _ => none, fun _ => 0, rfl, by omega, ⟨rfl, .inl ⟨rfl, rfl⟩⟩, fun j hj => absurd hj (by omega), Below.refl _ _, rfl⟩ ⟨rfl, rfl, rfl, trivial⟩ ?_
  rintro fr w1 mm ⟨i, a2, c2, A2, C2, rfl, hi, ho, hR, hB, rfl⟩
  refine dr U 600 rfl trivial ?_
  refine cS rfl rfl rfl rfl (fun hq => ?_) (fun hq => ?_)
  · have hin : i < n := by omega
    refine dr U 600 rfl trivial ?_
    refine loopR (fun fr w' mm => ∃ (k : Nat) (a3 : Option Addr) (c3 : Nat), fr = [(0, .int .i64 (n : Nat)), (3, .slice a2 i c2), (4, .int .i64 (i : Nat)), (5, .slice a3 k c3), (6, .int .i64 (k : Nat))] ∧ k ≤ n ∧
        w'.ownsRow w1.heap.size 34 1 (.slice a3 k c3) k (strs (txs k (idn i))) ∧ Below w1.heap.size w1 w' ∧ mm = n - k)
      ⟨0, none, 0, rfl, by omega, ⟨rfl, .inl ⟨rfl, rfl⟩⟩, Below.refl _ _, rfl⟩ ⟨rfl, rfl, rfl, rfl, rfl, trivial⟩ ?_
    rintro fr w2 mm ⟨k, a3, c3, rfl, hk, ho3, hB12, rfl⟩
    refine dr U 600 rfl trivial ?_
    refine cS rfl rfl rfl rfl (fun hq => ?_) (fun hq => ?_)
    · have hkn : k < n := by omega
      refine dr U 600 rfl trivial ?_
      refine cS rfl rfl rfl rfl (fun hq3 => ?_) (fun hq3 => ?_)
      · have hik : i = k := by omega
        refine dr U 600 rfl trivial ?_
        refine ap U (v := (.string ⟨⟨[49]⟩⟩)) rfl rfl rfl rfl rfl rfl (fun _ => rfl) rfl (fun _ => rfl) rfl rfl rfl ho3 hB12.size (by omega) (by decide) ?_
        intro a5 c5 w5 ho5 hg5
        have hB5 := hB12.grown hg5 hB12.size (fun g e => (own_block ho3 g e).1)
        have e5 : strs (txs k (idn i)) ++ [Value.string ⟨⟨[49]⟩⟩] = strs (txs (k + 1) (idn i)) := by
          rw [txs_snoc, show idn i k = 1 from (by unfold idn; rw [if_pos hik]), qtext_one, strs, strs, List.map_append]; rfl
        rw [e5] at ho5
        refine dr U 600 rfl (by first | exact True.intro | (simp only [AllP, InR, List.nil_append, List.cons_append, and_true]; omega)) ?_
        exact rend _ _ ⟨k + 1, a5, c5, rfl, by omega, ho5, hB5, rfl⟩ (by omega) ⟨rfl, rfl, rfl, rfl, iv (by omega), trivial⟩
      · have hik : i ≠ k := by omega
        refine dr U 600 rfl trivial ?_
        refine ap U (v := (.string ⟨⟨[48]⟩⟩)) rfl rfl rfl rfl rfl rfl (fun _ => rfl) rfl (fun _ => rfl) rfl rfl rfl ho3 hB12.size (by omega) (by decide) ?_
        intro a5 c5 w5 ho5 hg5
        have hB5 := hB12.grown hg5 hB12.size (fun g e => (own_block ho3 g e).1)
        have e5 : strs (txs k (idn i)) ++ [Value.string ⟨⟨[48]⟩⟩] = strs (txs (k + 1) (idn i)) := by
          rw [txs_snoc, show idn i k = 0 from (by unfold idn; rw [if_neg hik]), qtext_zero, strs, strs, List.map_append]; rfl
        rw [e5] at ho5
        refine dr U 600 rfl (by first | exact True.intro | (simp only [AllP, InR, List.nil_append, List.cons_append, and_true]; omega)) ?_
        exact rend _ _ ⟨k + 1, a5, c5, rfl, by omega, ho5, hB5, rfl⟩ (by omega) ⟨rfl, rfl, rfl, rfl, iv (by omega), trivial⟩
    · obtain rfl : n = k := by omega
      have ho2 := own_bw ho hB12
      have hB2 := bl_tr hB hB12 hB.size
      have hs3 := own_sl ho3
      have ht3 := own_tag ho3
      refine dr U 600 rfl trivial ?_
      refine ap U (v := (.slice a3 n c3)) rfl rfl rfl rfl rfl rfl (fun _ => rfl) rfl (fun _ => rfl) rfl rfl rfl ho2 hB2.size (by omega) (by decide) ?_
      intro a5 c5 w5 ho5 hg5
      have hB5 := hB2.grown hg5 hB2.size (fun g e => (own_block ho2 g e).1)
      rw [rws_snoc] at ho5
      have key : ∀ (b : Option Addr) (vs : List Value), Sl w2 b vs → (∀ g, ab b = some g → Tg w2 34 g) → Sl w5 b vs ∧ ∀ g, ab b = some g → Tg w5 34 g := fun b vs h1 h2 =>
        have hne : ∀ g, ab b = some g → ab a2 ≠ some g := fun g hg e => (h2 g hg).ne (own_tag ho2 g e) rfl rfl
        ⟨h1.keep hg5 hne, fun g hg => (h2 g hg).grown hg5 (hne g hg)⟩
      refine dr U 600 rfl (by first | exact True.intro | (simp only [AllP, InR, List.nil_append, List.cons_append, and_true]; omega)) ?_
      refine rend _ _ ⟨i + 1, a5, c5, _, _, rfl, by omega, ho5, fun j hj => ?_, hB5, rfl⟩ (by omega) ⟨rfl, rfl, iv (by omega), trivial⟩
      by_cases hji : j = i
      · subst hji; rw [upd_same]; exact key _ _ hs3 ht3
      · rw [upd_ne _ _ hji]
        have hj' := hR j (by omega)
        exact key _ _ (hj'.1.below hB12 (fun g hg => (hj'.2 g hg).lt)) (fun g hg => (hj'.2 g hg).below hB12)
  · obtain rfl : n = i := by omega
    refine dr U 600 rfl trivial ?_
    refine ret Tryz.results42 rfl ⟨_, rfl, .inr ⟨by omega, by omega, a2, c2, rfl, A2, C2, by rw [srws_mtx]; exact own_sl ho, fun j hj => ?_⟩, hB⟩
    rw [mtx_length] at hj
    rw [mtx_row hj]
    exact (hR j hj).1

theorem gTranspose_calls (xss : List (List Tx)) (a : Option Addr) (c : Nat) (w : World) (hs : SM w a xss) (hl : Lens xss) :
    Calls Tryz.prog 33 #[.slice a xss.length c] w (Ret fun v w' => (∃ ys e, TraS xss ys e ∧ MOut ys e v w') ∧ Below w.heap.size w w') := by
  refine enter Tryz.func33 rfl Tryz.ntmps33 (Nat.le_of_ble_eq_true rfl) ?_
  refine dr U 600 rfl trivial ?_
  refine call (f := 40) rfl rfl cb40 (gCheck_calls xss a c w hs hl.l hl.l2 hl.x) ?_
  rintro v w1 ⟨⟨e, rfl, he⟩, hB1⟩
  refine ⟨_, rfl, ?_⟩
  refine dr U 600 rfl trivial ?_
  refine cS rfl rfl rfl rfl (fun hq1 => ?_) (fun hq1 => ?_)
  · refine dr U 600 rfl trivial ?_
    exact ret Tryz.results33 rfl ⟨_, rfl, ⟨[], e, .inl ⟨hq1, he, rfl⟩, MOut.nil _ _⟩, hB1⟩
  obtain rfl := Classical.not_not.1 hq1
  obtain ⟨h0, h1, h64, h65, _⟩ := he.ok
  refine dr U 600 rfl trivial ?_
  refine call (f := 65) rfl rfl cb65 (gmatrix_calls xss (rw' xss 0).length he.rows.1 he.rows.2 a c w1 (hs.stay hB1) (by omega) (by omega) (hl.row he)) ?_
  rintro v w2 ⟨hm, hB2⟩
  obtain ⟨a2, c2, rfl, hM⟩ := hm.mat
  have hB2' := bl_tr hB1 hB2 hB1.size
  refine ⟨_, rfl, ?_⟩
  refine call (f := 64) rfl rfl cb64 (gflip_calls xss.length (rw' xss 0).length (mval xss) h0 (by omega) (by omega) a2 c2 w2 hM) ?_
  rintro v w3 ⟨⟨a3, c3, rfl, hT⟩, hB3⟩
  have hB3' := bl_tr hB2' hB3 hB2'.size
  refine ⟨_, rfl, ?_⟩
  refine call (f := 63) rfl rfl cb63 (gtable_calls _ _ _ (fun i hi k hk => small_mono (he.small k hk i hi) (by omega)) a3 c3 w3 hT (by omega) (by omega)) ?_
  rintro v w4 ⟨hr, hB4⟩
  obtain ⟨ys, e, h5, a4, c4, rfl, h6⟩ := hr.spec
  refine ⟨_, rfl, ?_⟩
  refine dr U 600 rfl trivial ?_
  exact ret Tryz.results33 rfl ⟨_, rfl, ⟨ys, e, .inr ⟨he, h5⟩, a4, c4, rfl, h6⟩, bl_tr hB3' hB4 hB3'.size⟩

theorem gMul_calls (xss yss : List (List Tx)) (a b : Option Addr) (c d : Nat) (w : World) (hs : SM w a xss) (hl : Lens xss) (hsy : SM w b yss) (hly : Lens yss) :
    Calls Tryz.prog 34 #[.slice a xss.length c, .slice b yss.length d] w (Ret fun v w' => (∃ ys e, MulS xss yss ys e ∧ MOut ys e v w') ∧ Below w.heap.size w w') := by
  refine enter Tryz.func34 rfl Tryz.ntmps34 (Nat.le_of_ble_eq_true rfl) ?_
  refine dr U 600 rfl trivial ?_
  refine call (f := 40) rfl rfl cb40 (gCheck_calls xss a c w hs hl.l hl.l2 hl.x) ?_
  rintro v w1 ⟨⟨e, rfl, he⟩, hB1⟩
  refine ⟨_, rfl, ?_⟩
  refine dr U 600 rfl trivial ?_
  refine cS rfl rfl rfl rfl (fun hq1 => ?_) (fun hq1 => ?_)
  · refine dr U 600 rfl trivial ?_
    exact ret Tryz.results34 rfl ⟨_, rfl, ⟨[], e, .inl ⟨hq1, .inl ⟨hq1, he⟩, rfl⟩, MOut.nil _ _⟩, hB1⟩
  obtain rfl := Classical.not_not.1 hq1
  obtain ⟨h0, h1, h64, h65, _⟩ := he.ok
  refine dr U 600 rfl trivial ?_
  refine call (f := 40) rfl rfl cb40 (gCheck_calls yss b d w1 (hsy.stay hB1) hly.l hly.l2 hly.x) ?_
  rintro v w2 ⟨⟨e2, rfl, he2⟩, hB2⟩
  have hB2' := bl_tr hB1 hB2 hB1.size
  refine ⟨_, rfl, ?_⟩
  refine dr U 600 rfl trivial ?_
  refine cS rfl rfl rfl rfl (fun hq2 => ?_) (fun hq2 => ?_)
  · refine dr U 600 rfl trivial ?_
    exact ret Tryz.results34 rfl ⟨_, rfl, ⟨[], e2, .inl ⟨hq2, .inr ⟨he, he2⟩, rfl⟩, MOut.nil _ _⟩, hB2'⟩
  obtain rfl := Classical.not_not.1 hq2
  obtain ⟨k0, k1, k64, k65, _⟩ := he2.ok
  have hs2 := hs.stay hB2'
  have hs2' := hs2
  obtain ⟨A, C, hSl, hR⟩ := hs2'
  refine dr U 600 rfl trivial ?_
  refine il U rfl rfl rfl rfl rfl rfl rfl (fun _ => rfl) rfl 0 rfl h0 hSl (srws_get h0) ?_
  refine dr U 600 rfl trivial ?_
  refine cS rfl rfl rfl rfl (fun hq3 => ?_) (fun hq3 => ?_)
  · refine dr U 600 rfl trivial ?_
    exact ret Tryz.results34 rfl ⟨_, rfl, ⟨[], 10, .inr (.inl ⟨.inr ⟨he, he2⟩, fun h => hq3 (by rw [h]), rfl, rfl⟩), MOut.nil _ _⟩, hB2'⟩
  have hlen : (rw' xss 0).length = yss.length := by omega
  refine dr U 600 rfl trivial ?_
  refine call (f := 65) rfl rfl cb65 (gmatrix_calls xss (rw' xss 0).length he.rows.1 he.rows.2 a c w2 hs2 (by omega) (by omega) (hl.row he)) ?_
  rintro v w3 ⟨hm, hB3⟩
  obtain ⟨a3, c3, rfl, hM⟩ := hm.mat
  have hB3' := bl_tr hB2' hB3 hB2'.size
  refine ⟨_, rfl, ?_⟩
  refine dr U 600 rfl trivial ?_
  refine call (f := 65) rfl rfl cb65 (gmatrix_calls yss (rw' yss 0).length he2.rows.1 he2.rows.2 b d w3 (hsy.stay hB3') (by omega) (by omega) (hly.row he2)) ?_
  rintro v w4 ⟨hm4, hB4⟩
  obtain ⟨a4, c4, rfl, hN⟩ := hm4.mat
  have hB4' := bl_tr hB3' hB4 hB3'.size
  refine ⟨_, rfl, ?_⟩
  rw [hlen] at hM
  have hsmf := he.small
  rw [hlen] at hsmf
  have hK : yss.length * (2 * 4000 + 1) + 1 ≤ 1000000 := by omega
  refine call (f := 66) rfl rfl cb66 (gtimes_calls xss.length yss.length (rw' yss 0).length 4000 (mval xss) (mval yss) hK hsmf he2.small k0 (by omega) (by omega) (by omega) a3 a4 c3 c4 w4 (hM.stay hB4) hN) ?_
  rintro v w5 ⟨⟨a5, c5, rfl, hP⟩, hB5⟩
  have hB5' := bl_tr hB4' hB5 hB4'.size
  refine ⟨_, rfl, ?_⟩
  refine call (f := 63) rfl rfl cb63 (gtable_calls _ _ _ (fun i hi k hk => small_mono (sm_small (hsmf i hi) (fun t ht => he2.small t ht k hk) yss.length (Nat.le_refl _)) (by omega)) a5 c5 w5 hP (by omega) (by omega)) ?_
  rintro v w6 ⟨hr, hB6⟩
  obtain ⟨ys, e, h5, a6, c6, rfl, h6⟩ := hr.spec
  refine ⟨_, rfl, ?_⟩
  refine dr U 600 rfl trivial ?_
  exact ret Tryz.results34 rfl ⟨_, rfl, ⟨ys, e, .inr (.inr ⟨.inr ⟨he, he2⟩, hlen, h5⟩), a6, c6, rfl, h6⟩, bl_tr hB5' hB6 hB5'.size⟩

theorem VErr.qok {ys : List Tx} (h : VErr ys 0) : ∀ i, i < ys.length → QErr (ys.getD i []) 0 := h.ok.2.2
theorem gApply_calls (xss : List (List Tx)) (ys : List Tx) (a b : Option Addr) (c d : Nat) (w : World) (hs : SM w a xss) (hl : Lens xss) (hsy : Sl w b (strs ys)) (hly : LenV ys) :
    Calls Tryz.prog 35 #[.slice a xss.length c, .slice b ys.length d] w (Ret fun v w' => (∃ zs e, AppS xss ys zs e ∧ VOut zs e v w') ∧ Below w.heap.size w w') := by
  refine enter Tryz.func35 rfl Tryz.ntmps35 (Nat.le_of_ble_eq_true rfl) ?_
  refine dr U 600 rfl trivial ?_
  refine call (f := 67) rfl rfl cb67 (gwith_calls xss ys a b c d w hs hl hsy hly) ?_
  rintro v w1 ⟨⟨e, rfl, he⟩, hB1⟩
  refine ⟨_, rfl, ?_⟩
  refine dr U 600 rfl trivial ?_
  refine cS rfl rfl rfl rfl (fun hq1 => ?_) (fun hq1 => ?_)
  · refine dr U 600 rfl trivial ?_
    exact ret Tryz.results35 rfl ⟨_, rfl, ⟨[], e, .inl ⟨hq1, he, rfl⟩, VOut.nil _ _⟩, hB1⟩
  obtain rfl := Classical.not_not.1 hq1
  obtain ⟨heX, heV⟩ := he.ok
  obtain ⟨h0, h1, h64, h65⟩ := he.xok
  obtain ⟨_, hy64, _⟩ := heV.ok
  have hs2 := hs.stay hB1
  have hs2' := hs2
  obtain ⟨A, C, hSl, hR⟩ := hs2'
  refine dr U 600 rfl trivial ?_
  refine il U rfl rfl rfl rfl rfl rfl rfl (fun _ => rfl) rfl 0 rfl h0 hSl (srws_get h0) ?_
  refine dr U 600 rfl trivial ?_
  refine cS rfl rfl rfl rfl (fun hq3 => ?_) (fun hq3 => ?_)
  · refine dr U 600 rfl trivial ?_
    exact ret Tryz.results35 rfl ⟨_, rfl, ⟨[], 10, .inr (.inl ⟨he, fun h => hq3 (by rw [h]), rfl, rfl⟩), VOut.nil _ _⟩, hB1⟩
  have hlen : (rw' xss 0).length = ys.length := by omega
  refine dr U 600 rfl trivial ?_
  refine call (f := 65) rfl rfl cb65 (gmatrix_calls xss (rw' xss 0).length heX.rows.1 heX.rows.2 a c w1 hs2 (by omega) (by omega) (hl.row heX)) ?_
  rintro v w3 ⟨hm, hB3⟩
  obtain ⟨a3, c3, rfl, hM⟩ := hm.mat
  have hB3' := bl_tr hB1 hB3 hB1.size
  refine ⟨_, rfl, ?_⟩
  refine dr U 600 rfl trivial ?_
  refine call (f := 70) rfl rfl cb70 (gvector_calls ys heV.qok b d w3 (hsy.stay hB3') (by omega) hly.x) ?_
  rintro v w4 ⟨⟨a4, c4, rfl, hV, hc4⟩, hB4⟩
  have hB4' := bl_tr hB3' hB4 hB3'.size
  refine ⟨_, rfl, ?_⟩
  rw [hlen] at hM
  have hsmf := heX.small
  rw [hlen] at hsmf
  have hK : ys.length * (2 * 4000 + 1) + 1 ≤ 1000000 := by omega
  refine call (f := 69) rfl rfl cb69 (gapply_calls xss.length ys.length 4000 (mval xss) (vval ys) hK hsmf heV.small a3 a4 c3 c4 w4 (hM.stay hB4) hV (by omega) (by omega)) ?_
  rintro v w5 ⟨⟨a5, c5, rfl, hc5, hP⟩, hB5⟩
  have hB5' := bl_tr hB4' hB5 hB4'.size
  refine ⟨_, rfl, ?_⟩
  refine call (f := 68) rfl rfl cb68 (gtexts_calls _ _ (fun i hi => small_mono (sm_small (hsmf i hi) heV.small ys.length (Nat.le_refl _)) (by omega)) a5 c5 w5 hP (by omega)) ?_
  rintro v w6 ⟨hr, hB6⟩
  obtain ⟨zs, e, h5, a6, c6, rfl, h6⟩ := hr.spec
  refine ⟨_, rfl, ?_⟩
  refine dr U 600 rfl trivial ?_
  exact ret Tryz.results35 rfl ⟨_, rfl, ⟨zs, e, .inr (.inr ⟨he, hlen, h5⟩), a6, c6, rfl, h6⟩, bl_tr hB5' hB6 hB5'.size⟩

theorem gRank_calls (xss : List (List Tx)) (S : Nat) (a : Option Addr) (c : Nat) (w : World) (hs : SM w a xss) (hl : Lens xss)
    (hS : XErr xss 0 → (∀ i t, i < xss.length → t < (rw' xss 0).length → Small S (mval xss i t)) ∧ grw (rw' xss 0).length S ≤ 1000000) :
    Calls Tryz.prog 36 #[.slice a xss.length c] w (Ret fun v w' => (∃ n e, v = .tuple ⟨[.int .i64 n, .int .i64 e]⟩ ∧ RnkS xss n e) ∧ Below w.heap.size w w') := by
  refine enter Tryz.func36 rfl Tryz.ntmps36 (Nat.le_of_ble_eq_true rfl) ?_
  refine dr U 600 rfl trivial ?_
  refine call (f := 40) rfl rfl cb40 (gCheck_calls xss a c w hs hl.l hl.l2 hl.x) ?_
  rintro v w1 ⟨⟨e, rfl, he⟩, hB1⟩
  refine ⟨_, rfl, ?_⟩
  refine dr U 600 rfl trivial ?_
  refine cS rfl rfl rfl rfl (fun hq1 => ?_) (fun hq1 => ?_)
  · refine dr U 600 rfl trivial ?_
    exact ret Tryz.results36 rfl ⟨_, rfl, ⟨0, e, rfl, .inl ⟨hq1, he, rfl⟩⟩, hB1⟩
  obtain rfl := Classical.not_not.1 hq1
  obtain ⟨h0, h1, h64, h65, _⟩ := he.ok
  obtain ⟨hSm, hG⟩ := hS he
  have hs2 := hs.stay hB1
  have hs2' := hs2
  obtain ⟨A, C, hSl, hR⟩ := hs2'
  obtain ⟨ga, oa, rfl, _⟩ := hSl.at (j := 0) (by simp [srws]; omega)
  refine dr U 600 rfl trivial ?_
  refine dwn 11 (fun W => Sl W (some ⟨ga, oa, none⟩) (srws xss A C)) hmo ?_
  intro w2 hh2 hg2
  have hB12 : Below w1.heap.size w1 w2 := (Below.refl _ _).grown hg2 (Nat.le_refl _) (fun k e => by cases e)
  have hB2 := bl_tr hB1 hB12 hB1.size
  have hl4 : ∀ W, Sl W (some ⟨ga, oa, none⟩) (srws xss A C) → (loadVar 23 ((⟨ga, oa, none⟩ : Addr).add ((0 : Int).toNat * 1))).run Tryz.prog W = .ok (.slice (A 0) (rw' xss 0).length (C 0)) W := fun W h => run_load_cell U rfl (by simpa [add_plain] using slc2 h (srws_get h0))
  refine dq U [0,2,3,4,5] [(4, .slice (A 0) (rw' xss 0).length (C 0))] (by kernel_rfl) rfl rfl (hSl.stay hB12) (by simp only [AllP, InR, List.nil_append, List.cons_append]; (repeat' apply And.intro); all_goals first | exact True.intro | omega | (with_reducible exact hl4)) ?_
  refine d1 rfl rfl (fun _ => hSl.stay hB12) ?_
  refine call (f := 65) rfl rfl cb65 (gmatrix_calls xss (rw' xss 0).length he.rows.1 he.rows.2 _ c w2 (hs2.stay hB12) (by omega) (by omega) (hl.row he)) ?_
  rintro v w3 ⟨⟨a3, c3, A3, C3, rfl, ho3, hR3⟩, hB3⟩
  obtain ⟨go, rfl⟩ := own_go ho3 h0
  have hB13 := bl_tr hB12 hB3 hB12.size
  have hB3' := bl_tr hB2 hB3 hB2.size
  refine ⟨_, rfl, d2 ?_⟩
  refine d1 rfl rfl (fun _ => hSl.stay hB13) ?_
  refine call (f := 71) rfl rfl cb71 (greduce_small xss.length (rw' xss 0).length (rw' xss 0).length S (mval xss) h1 (Nat.le_refl _) h1 (by omega) (by omega) hSm hG go c3 w2.heap.size A3 C3 w3 ho3 hR3 hB3.size) ?_
  rintro v w4 ⟨rfl, A4, C4, _, _, hB34⟩
  have hB14 := bl_tr hB13 hB34 hB12.size
  have hB4' := bl_tr hB3' hB34 hB2.size
  refine ⟨_, rfl, d2 ?_⟩
  refine dq U [7,8,9,10] [] (by kernel_rfl) rfl rfl (hSl.stay hB14) (by simp only [AllP, InR, List.nil_append, List.cons_append]; (repeat' apply And.intro); all_goals first | exact True.intro | omega | (simp only [List.length_cons, List.length_nil]; omega) | (intro w_ hw_; refine ldC U rfl hw_ ?_; first | assumption | (simp [add_plain]; assumption)) | (intro w_ hw_; refine run_load_cell U rfl ?_; first | exact hw_ | exact hw_.1 | exact hw_.2 | exact hw_.2.1 | exact hw_.2.2 | exact hw_.2.2.1 | exact hw_.2.2.2 | (simp [add_plain]; first | exact hw_.1 | exact hw_.2.1 | exact hw_.2.2))) ?_
  refine d1 rfl rfl (fun _ => hSl.stay hB14) ?_
  refine dr U 600 rfl trivial ?_
  refine d3 ?_; refine dend rfl (fun h => by cases h) ?_
  refine dr U 600 rfl trivial ?_
  exact ret Tryz.results36 rfl ⟨_, rfl, ⟨_, 0, rfl, .inr ⟨he, rfl, rfl⟩⟩, hB4'⟩
end Go.Proofs.YtfdekppnilffeaaGreatDoor
end
section
set_option linter.unusedSimpArgs false
set_option linter.unusedVariables false
set_option maxHeartbeats 4000000
namespace Go.Proofs.YtfdekppnilffeaaGreatDoor
open Go Go.Proofs Go.RowKit Go.Lib

theorem gSolve_calls (xss : List (List Tx)) (ys : List Tx) (S : Nat) (a b : Option Addr) (c d : Nat) (w : World) (hs : SM w a xss) (hl : Lens xss) (hsy : Sl w b (strs ys)) (hly : LenV ys)
    (hS : BErr xss ys 0 → (∀ i t, i < xss.length → t < (rw' xss 0).length → Small S (mval xss i t)) ∧ (∀ i, i < ys.length → Small S (vval ys i)) ∧ grw xss.length S ≤ 1000000) :
    Calls Tryz.prog 37 #[.slice a xss.length c, .slice b ys.length d] w (Ret fun v w' => (∃ zs e, SolS xss ys zs e ∧ VOut zs e v w') ∧ Below w.heap.size w w') := by
  refine enter Tryz.func37 rfl Tryz.ntmps37 (Nat.le_of_ble_eq_true rfl) ?_
  refine dr U 600 rfl trivial ?_
  refine call (f := 67) rfl rfl cb67 (gwith_calls xss ys a b c d w hs hl hsy hly) ?_
  rintro v w1 ⟨⟨e, rfl, he⟩, hB1⟩
  refine ⟨_, rfl, ?_⟩
  refine dr U 600 rfl trivial ?_
  refine cS rfl rfl rfl rfl (fun hq1 => ?_) (fun hq1 => ?_)
  · refine dr U 600 rfl trivial ?_
    exact ret Tryz.results37 rfl ⟨_, rfl, ⟨[], e, .inl ⟨hq1, he, rfl⟩, VOut.nil _ _⟩, hB1⟩
  obtain rfl := Classical.not_not.1 hq1
  obtain ⟨heX, heV⟩ := he.ok
  obtain ⟨h0, h1, h64, h65⟩ := he.xok
  obtain ⟨hSm, hSv, hG⟩ := hS he
  have hs2 := hs.stay hB1
  have hs2' := hs2
  obtain ⟨A, C, hSl, hR⟩ := hs2'
  refine dr U 600 rfl trivial ?_
  refine il U rfl rfl rfl rfl rfl rfl rfl (fun _ => rfl) rfl 0 rfl h0 hSl (srws_get h0) ?_
  refine dr U 600 rfl trivial ?_
  refine cS rfl rfl rfl rfl (fun hq2 => ?_) (fun hq2 => ?_)
  · refine dr U 600 rfl trivial ?_
    exact ret Tryz.results37 rfl ⟨_, rfl, ⟨[], 10, .inr (.inl ⟨he, .inl (fun h => hq2 (by rw [← h])), rfl, rfl⟩), VOut.nil _ _⟩, hB1⟩
  have hsq : xss.length = (rw' xss 0).length := by omega
  refine dr U 600 rfl trivial ?_
  refine cS rfl rfl rfl rfl (fun hq3 => ?_) (fun hq3 => ?_)
  · refine dr U 600 rfl trivial ?_
    exact ret Tryz.results37 rfl ⟨_, rfl, ⟨[], 10, .inr (.inl ⟨he, .inr (fun h => hq3 (by rw [← h])), rfl, rfl⟩), VOut.nil _ _⟩, hB1⟩
  have hlen : ys.length = xss.length := by omega
  refine dr U 600 rfl trivial ?_
  refine call (f := 65) rfl rfl cb65 (gmatrix_calls xss (rw' xss 0).length heX.rows.1 heX.rows.2 a c w1 hs2 (by omega) (by omega) (hl.row heX)) ?_
  rintro v w3 ⟨hm, hB3⟩
  obtain ⟨a3, c3, rfl, hM⟩ := hm.mat
  have hB3' := bl_tr hB1 hB3 hB1.size
  refine ⟨_, rfl, ?_⟩
  refine dr U 600 rfl trivial ?_
  refine call (f := 70) rfl rfl cb70 (gvector_calls ys heV.qok b d w3 (hsy.stay hB3') (by omega) hly.x) ?_
  rintro v w4 ⟨⟨a4, c4, rfl, hV, hc4⟩, hB4⟩
  have hB4' := bl_tr hB3' hB4 hB3'.size
  refine ⟨_, rfl, ?_⟩
  rw [hlen] at hV hSv ⊢
  rw [← hsq] at hM hSm
  refine call (f := 72) rfl rfl cb72 (gsolve_calls xss.length S (mval xss) (vval ys) h0 (by omega) hSm hSv hG a3 a4 c3 c4 w4 (hM.stay hB4) hV) ?_
  rintro v w5 ⟨hr, hB5⟩
  have hB5' := bl_tr hB4' hB5 hB4'.size
  rcases hr with ⟨hns, rfl⟩ | ⟨hfull, a5, c5, rfl, _, hX⟩
  · refine ⟨_, rfl, ?_⟩
    refine dr U 600 rfl trivial ?_
    exact ret Tryz.results37 rfl ⟨_, rfl, ⟨[], 17, .inr (.inr ⟨he, hsq, hlen, .inl ⟨hns, rfl, rfl⟩⟩), VOut.nil _ _⟩, hB5'⟩
  · refine ⟨_, rfl, ?_⟩
    refine dr U 600 rfl trivial ?_
    refine call (f := 68) rfl rfl cb68 (gtexts_calls xss.length _ (fun i hi => gj_aug_small (p := 1) hSm (fun i t hi _ => hSv i hi) hG i (xss.length + 0) hi (by omega)) a5 c5 w5 hX (by omega)) ?_
    rintro v w6 ⟨hr, hB6⟩
    obtain ⟨zs, e4, h3, a6, c6, rfl, h4⟩ := hr.spec
    refine ⟨_, rfl, ?_⟩
    refine dr U 600 rfl trivial ?_
    exact ret Tryz.results37 rfl ⟨_, rfl, ⟨zs, e4, .inr (.inr ⟨he, hsq, hlen, .inr ⟨hfull, _, gj_sol hfull, h3⟩⟩), a6, c6, rfl, h4⟩, bl_tr hB5' hB6 hB5'.size⟩

theorem gLeast_calls (xss : List (List Tx)) (ys : List Tx) (S : Nat) (a b : Option Addr) (c d : Nat) (w : World) (hs : SM w a xss) (hl : Lens xss) (hsy : Sl w b (strs ys)) (hly : LenV ys)
    (hS : BErr xss ys 0 → (∀ i t, i < xss.length → t < (rw' xss 0).length → Small S (mval xss i t)) ∧ (∀ i, i < ys.length → Small S (vval ys i)) ∧ xss.length * (2 * S + 1) + 1 ≤ 1000000 ∧ grw (rw' xss 0).length (xss.length * (2 * S + 1) + 1) ≤ 1000000) :
    Calls Tryz.prog 39 #[.slice a xss.length c, .slice b ys.length d] w (Ret fun v w' => (∃ zs e, LeaS xss ys zs e ∧ VOut zs e v w') ∧ Below w.heap.size w w') := by
  refine enter Tryz.func39 rfl Tryz.ntmps39 (Nat.le_of_ble_eq_true rfl) ?_
  refine dr U 600 rfl trivial ?_
  refine call (f := 67) rfl rfl cb67 (gwith_calls xss ys a b c d w hs hl hsy hly) ?_
  rintro v w1 ⟨⟨e, rfl, he⟩, hB1⟩
  refine ⟨_, rfl, ?_⟩
  refine dr U 600 rfl trivial ?_
  refine cS rfl rfl rfl rfl (fun hq1 => ?_) (fun hq1 => ?_)
  · refine dr U 600 rfl trivial ?_
    exact ret Tryz.results39 rfl ⟨_, rfl, ⟨[], e, .inl ⟨hq1, he, rfl⟩, VOut.nil _ _⟩, hB1⟩
  obtain rfl := Classical.not_not.1 hq1
  obtain ⟨heX, heV⟩ := he.ok
  obtain ⟨h0, h1, h64, h65⟩ := he.xok
  obtain ⟨hSm, hSv, hK, hG⟩ := hS he
  have hs2 := hs.stay hB1
  refine dr U 600 rfl trivial ?_
  refine cS rfl rfl rfl rfl (fun hq2 => ?_) (fun hq2 => ?_)
  · refine dr U 600 rfl trivial ?_
    exact ret Tryz.results39 rfl ⟨_, rfl, ⟨[], 10, .inr (.inl ⟨he, (fun h => hq2 (by rw [← h])), rfl, rfl⟩), VOut.nil _ _⟩, hB1⟩
  have hlen : ys.length = xss.length := by omega
  refine dr U 600 rfl trivial ?_
  refine call (f := 65) rfl rfl cb65 (gmatrix_calls xss (rw' xss 0).length heX.rows.1 heX.rows.2 a c w1 hs2 (by omega) (by omega) (hl.row heX)) ?_
  rintro v w2 ⟨hm, hB2⟩
  obtain ⟨a2, c2, rfl, hM⟩ := hm.mat
  have hB2' := bl_tr hB1 hB2 hB1.size
  refine ⟨_, rfl, ?_⟩
  refine dr U 600 rfl trivial ?_
  refine call (f := 64) rfl rfl cb64 (gflip_calls xss.length (rw' xss 0).length (mval xss) h0 (by omega) (by omega) a2 c2 w2 hM) ?_
  rintro v w3 ⟨⟨a3, c3, rfl, hT⟩, hB3⟩
  have hB3' := bl_tr hB2' hB3 hB2'.size
  refine ⟨_, rfl, ?_⟩
  refine dr U 600 rfl trivial ?_
  refine call (f := 66) rfl rfl cb66 (gtimes_calls (rw' xss 0).length xss.length (rw' xss 0).length S (trp (mval xss)) (mval xss) hK (fun i hi t ht => hSm t i ht hi) (fun t ht k hk => hSm t k ht hk) h0 (by omega) (by omega) (by omega) a3 a2 c3 c2 w3 hT (hM.stay hB3)) ?_
  rintro v w4 ⟨⟨a4, c4, rfl, hP⟩, hB4⟩
  have hB4' := bl_tr hB3' hB4 hB3'.size
  refine ⟨_, rfl, ?_⟩
  refine dr U 600 rfl trivial ?_
  refine call (f := 70) rfl rfl cb70 (gvector_calls ys heV.qok b d w4 (hsy.stay hB4') (by omega) hly.x) ?_
  rintro v w5 ⟨⟨a5, c5, rfl, hV, hc5⟩, hB5⟩
  have hB5' := bl_tr hB4' hB5 hB4'.size
  refine ⟨_, rfl, ?_⟩
  rw [hlen] at hV hSv ⊢
  refine call (f := 69) rfl rfl cb69 (gapply_calls (rw' xss 0).length xss.length S (trp (mval xss)) (vval ys) hK (fun k hk i hi => hSm i k hi hk) hSv a3 a5 c3 c5 w5 ((hT.stay hB4).stay hB5) hV (by omega) (by omega)) ?_
  rintro v w6 ⟨⟨a6, c6, rfl, hc6, hA⟩, hB6⟩
  have hB6' := bl_tr hB5' hB6 hB5'.size
  refine ⟨_, rfl, ?_⟩
  have hfS : ∀ i t, i < (rw' xss 0).length → t < (rw' xss 0).length → Small (xss.length * (2 * S + 1) + 1) (mmul xss.length (trp (mval xss)) (mval xss) i t) := fun i t hi ht => sm_small (fun q hq => hSm q i hq hi) (fun q hq => hSm q t hq ht) xss.length (Nat.le_refl _)
  have hbS : ∀ i, i < (rw' xss 0).length → Small (xss.length * (2 * S + 1) + 1) (mapp xss.length (trp (mval xss)) (vval ys) i) := fun i hi => sm_small (fun q hq => hSm q i hq hi) hSv xss.length (Nat.le_refl _)
  refine call (f := 72) rfl rfl cb72 (gsolve_calls (rw' xss 0).length (xss.length * (2 * S + 1) + 1) (mmul xss.length (trp (mval xss)) (mval xss)) (mapp xss.length (trp (mval xss)) (vval ys)) h1 (by omega) hfS hbS hG a4 a6 c4 c6 w6 ((hP.stay hB5).stay hB6) hA) ?_
  rintro v w7 ⟨hr, hB7⟩
  have hB7' := bl_tr hB6' hB7 hB6'.size
  rcases hr with ⟨hns, rfl⟩ | ⟨hfull, a7, c7, rfl, _, hX⟩
  · refine ⟨_, rfl, ?_⟩
    refine dr U 600 rfl trivial ?_
    exact ret Tryz.results39 rfl ⟨_, rfl, ⟨[], 17, .inr (.inr ⟨he, hlen, .inl ⟨hns, rfl, rfl⟩⟩), VOut.nil _ _⟩, hB7'⟩
  · refine ⟨_, rfl, ?_⟩
    refine dr U 600 rfl trivial ?_
    refine call (f := 68) rfl rfl cb68 (gtexts_calls (rw' xss 0).length _ (fun i hi => gj_aug_small (p := 1) hfS (fun i t hi _ => hbS i hi) hG i ((rw' xss 0).length + 0) hi (by omega)) a7 c7 w7 hX (by omega)) ?_
    rintro v w8 ⟨hr, hB8⟩
    obtain ⟨zs, e4, h3, a8, c8, rfl, h4⟩ := hr.spec
    refine ⟨_, rfl, ?_⟩
    refine dr U 600 rfl trivial ?_
    exact ret Tryz.results39 rfl ⟨_, rfl, ⟨zs, e4, .inr (.inr ⟨he, hlen, .inr ⟨hfull, _, gj_sol hfull, h3⟩⟩), a8, c8, rfl, h4⟩, bl_tr hB7' hB8 hB7'.size⟩

theorem mtx_getD {m n i j : Nat} {f : Nat → Nat → Rat} (hi : i < m) (hj : j < n) : (rw' (mtx m n f) i).getD j [] = qtext (f i j) := by
  rw [mtx_row hi]
  simp [txs, List.getD, hj]
theorem mtx_len {m n i : Nat} {f : Nat → Nat → Rat} (hi : i < m) : (rw' (mtx m n f) i).length = n := by rw [mtx_row hi, txs_length]
theorem gInverse_calls (xss : List (List Tx)) (S : Nat) (a : Option Addr) (c : Nat) (w : World) (hs : SM w a xss) (hl : Lens xss)
    (hS : XErr xss 0 → 0 < S ∧ (∀ i t, i < xss.length → t < (rw' xss 0).length → Small S (mval xss i t)) ∧ grw xss.length S ≤ 1000000) :
    Calls Tryz.prog 38 #[.slice a xss.length c] w (Ret fun v w' => (∃ zs e, InvS xss zs e ∧ MOut zs e v w') ∧ Below w.heap.size w w') := by
  refine enter Tryz.func38 rfl Tryz.ntmps38 (Nat.le_of_ble_eq_true rfl) ?_
  refine dr U 600 rfl trivial ?_
  refine call (f := 40) rfl rfl cb40 (gCheck_calls xss a c w hs hl.l hl.l2 hl.x) ?_
  rintro v w1 ⟨⟨e, rfl, he⟩, hB1⟩
  refine ⟨_, rfl, ?_⟩
  refine dr U 600 rfl trivial ?_
  refine cS rfl rfl rfl rfl (fun hq1 => ?_) (fun hq1 => ?_)
  · refine dr U 600 rfl trivial ?_
    exact ret Tryz.results38 rfl ⟨_, rfl, ⟨[], e, .inl ⟨hq1, he, rfl⟩, MOut.nil _ _⟩, hB1⟩
  obtain rfl := Classical.not_not.1 hq1
  obtain ⟨h0, h1, h64, h65, _⟩ := he.ok
  obtain ⟨hS0, hSm, hG⟩ := hS he
  have hs2 := hs.stay hB1
  have hs2' := hs2
  obtain ⟨A, C, hSl, hR⟩ := hs2'
  refine dr U 600 rfl trivial ?_
  refine il U rfl rfl rfl rfl rfl rfl rfl (fun _ => rfl) rfl 0 rfl h0 hSl (srws_get h0) ?_
  refine dr U 600 rfl trivial ?_
  refine cS rfl rfl rfl rfl (fun hq2 => ?_) (fun hq2 => ?_)
  · refine dr U 600 rfl trivial ?_
    exact ret Tryz.results38 rfl ⟨_, rfl, ⟨[], 10, .inr (.inl ⟨he, fun h => hq2 (by rw [← h]), rfl, rfl⟩), MOut.nil _ _⟩, hB1⟩
  have hsq : xss.length = (rw' xss 0).length := by omega
  have hrow := he.rows.1
  have hqok := he.rows.2
  have hlr := hl.row he
  rw [← hsq] at hrow hqok hlr hSm
  refine dr U 600 rfl trivial ?_
  refine call (f := 42) rfl rfl cb42 (gIdentity_calls (xss.length : Nat) (by omega) w1) ?_
  rintro v w2 ⟨hid, hB2⟩
  have hB2' := bl_tr hB1 hB2 hB1.size
  rcases hid with ⟨h, _⟩ | ⟨_, _, a2, c2, rfl, hI⟩
  · omega
  simp only [Int.toNat_natCast] at hI ⊢
  refine ⟨_, rfl, ?_⟩
  have hidS : ∀ i j, Small 4000 (idn i j) := fun i j => small_mono (idn_small i j) (by omega)
  have hmx := gmatrix_calls (mtx xss.length xss.length idn) xss.length (fun i hi => mtx_len (by rwa [mtx_length] at hi)) (fun i hi j hj => by
    rw [mtx_length] at hi
    rw [mtx_getD hi hj]; exact (q_text_ok _ (hidS i j)).1) a2 c2 w2 hI (by rw [mtx_length]; omega) (by omega) (fun i hi j hj => by
    rw [mtx_length] at hi
    rw [mtx_getD hi hj]; unfold idn; split
    · rw [qtext_one]; decide
    · rw [qtext_zero]; decide)
  rw [mtx_length] at hmx
  refine call (f := 65) rfl rfl cb65 hmx ?_
  rintro v w3 ⟨hm, hB3⟩
  obtain ⟨a3, c3, rfl, hM1⟩ := hm.mat
  have hB3' := bl_tr hB2' hB3 hB2'.size
  obtain ⟨A1, C1, hSl1, hV1, hTb1⟩ := hM1
  have hAb1 := fun g hg => (hTb1 g hg).lt
  obtain ⟨gi, oi, rfl, _⟩ := hSl1.at (j := 0) (by rw [rws_length]; omega)
  refine ⟨_, rfl, ?_⟩
  have hidv : ∀ i, i < xss.length → ∀ t, t < xss.length → mval (mtx xss.length xss.length idn) i t = idn i t := fun i hi t ht => by
    unfold mval
    rw [mtx_getD hi ht]; exact (q_text_ok _ (hidS i t)).2
  refine dr U 600 rfl trivial ?_
  refine loopR (fun fr w' mm => ∃ (i : Nat) (a4 : Option Addr) (c4 : Nat) (A4 : Nat → Option Addr) (C4 : Nat → Nat), fr = [(0, .slice a xss.length c), (5, .slice (some ⟨gi, oi, none⟩) xss.length c3), (6, .slice a4 i c4), (7, .int .i64 (i : Nat))] ∧ i ≤ xss.length ∧
      w'.ownsRow w3.heap.size 93 1 (.slice a4 i c4) i (rws i xss.length A4 C4) ∧ RwsQ w' i xss.length A4 C4 (fun i t => (gj xss.length (aug xss.length (mval xss) (fun q _ => idn i q)) xss.length).1 t (xss.length + 0)) ∧ (i = 0 ∨ (gj xss.length (mval xss) xss.length).2 = xss.length) ∧ Below w3.heap.size w3 w' ∧ mm = xss.length - i)
    ⟨0, none, 0, fun _ => none, fun _ => 0, rfl, by omega, ⟨rfl, .inl ⟨rfl, rfl⟩⟩, RwsQ.none _ _ _ _ _, .inl rfl, Below.refl _ _, rfl⟩ ⟨rfl, rfl, rfl, rfl, trivial⟩ ?_
  rintro fr w4 mm ⟨i, a4, c4, A4, C4, rfl, hi, ho, hR4, hfl, hB34, rfl⟩
  have hBw := bl_tr hB3' hB34 hB3'.size
  refine dr U 600 rfl trivial ?_
  refine cS rfl rfl rfl rfl (fun hq => ?_) (fun hq => ?_)
  · have hin : i < xss.length := by omega
    refine dr U 600 rfl trivial ?_
    refine dwn 11 (fun W => Sl W (some ⟨gi, oi, none⟩) (rws xss.length xss.length A1 C1)) hmo ?_
    intro w5 hh5 hg5
    have hB45 : Below w4.heap.size w4 w5 := (Below.refl _ _).grown hg5 (Nat.le_refl _) (fun k e => by cases e)
    have hB35 := bl_tr hB34 hB45 hB34.size
    have hBw5 := bl_tr hBw hB45 hBw.size
    have hl5 : ∀ W, Sl W (some ⟨gi, oi, none⟩) (rws xss.length xss.length A1 C1) → (loadVar 93 ((⟨gi, oi, none⟩ : Addr).add (((i : Nat) : Int).toNat * 1))).run Tryz.prog W = .ok (.slice (A1 i) xss.length (C1 i)) W := fun W h => run_load_cell U rfl (by simpa [add_plain] using slc2 h (rws_get hin))
    refine dq U [0,2,3,4,5] [(5, .slice (A1 i) xss.length (C1 i))] (by kernel_rfl) rfl rfl (hSl1.below hB35 hAb1) (by simp only [AllP, InR, List.nil_append, List.cons_append]; (repeat' apply And.intro); all_goals first | exact True.intro | omega | (with_reducible exact hl5)) ?_
    refine d1 rfl rfl (fun _ => hSl1.below hB35 hAb1) ?_
    refine call (f := 65) rfl rfl cb65 (gmatrix_calls xss xss.length hrow hqok a c w5 (hs.stay hBw5) (by omega) (by omega) hlr) ?_
    rintro v w6 ⟨hm6, hB6⟩
    obtain ⟨a6, c6, rfl, hM6⟩ := hm6.mat
    have hB46 := bl_tr hB45 hB6 hB45.size
    have hB36 := bl_tr hB34 hB46 hB34.size
    refine ⟨_, rfl, d2 ?_⟩
    refine d1 rfl rfl (fun _ => hSl1.below hB36 hAb1) ?_
    have hvi := ((hV1 i hin).1.congr (fun t ht => hidv i hin t ht)).stay hB36
    have hbS : ∀ t, t < xss.length → Small S (idn i t) := fun t ht => small_mono (idn_small i t) (by omega)
    refine call (f := 72) rfl rfl cb72 (gsolve_calls xss.length S (mval xss) (idn i) h0 (by omega) hSm hbS hG a6 (A1 i) c6 (C1 i) w6 hM6 hvi) ?_
    rintro v w7 ⟨hr, hB7⟩
    have hB47 := bl_tr hB46 hB7 hB46.size
    have hB37 := bl_tr hB34 hB47 hB34.size
    have hBw7 := bl_tr hBw hB47 hBw.size
    rcases hr with ⟨hns, rfl⟩ | ⟨hfull, a7, c7, rfl, hX⟩
    · refine ⟨_, rfl, d2 ?_⟩
      refine dq U [7,8,9,10] [] (by kernel_rfl) rfl rfl (hSl1.below hB37 hAb1) (by simp only [AllP, InR, List.nil_append, List.cons_append]; (repeat' apply And.intro); all_goals first | exact True.intro | omega | (simp only [List.length_cons, List.length_nil]; omega) | (intro w_ hw_; refine ldC U rfl hw_ ?_; first | assumption | (simp [add_plain]; assumption)) | (intro w_ hw_; refine run_load_cell U rfl ?_; first | exact hw_ | exact hw_.1 | exact hw_.2 | exact hw_.2.1 | exact hw_.2.2 | exact hw_.2.2.1 | exact hw_.2.2.2 | (simp [add_plain]; first | exact hw_.1 | exact hw_.2.1 | exact hw_.2.2))) ?_
      refine d1 rfl rfl (fun _ => hSl1.below hB37 hAb1) ?_
      refine dr U 600 rfl trivial ?_
      refine d3 ?_; refine dend rfl (fun h => by cases h) ?_
      refine dr U 600 rfl trivial ?_
      exact ret Tryz.results38 rfl ⟨_, rfl, ⟨[], 17, .inr (.inr ⟨he, hsq, .inl ⟨hns, rfl, rfl⟩⟩), MOut.nil _ _⟩, hBw7⟩
    · refine ⟨_, rfl, d2 ?_⟩
      refine dq U [7,8,9,10] [] (by kernel_rfl) rfl rfl (hSl1.below hB37 hAb1) (by simp only [AllP, InR, List.nil_append, List.cons_append]; (repeat' apply And.intro); all_goals first | exact True.intro | omega | (simp only [List.length_cons, List.length_nil]; omega) | (intro w_ hw_; refine ldC U rfl hw_ ?_; first | assumption | (simp [add_plain]; assumption)) | (intro w_ hw_; refine run_load_cell U rfl ?_; first | exact hw_ | exact hw_.1 | exact hw_.2 | exact hw_.2.1 | exact hw_.2.2 | exact hw_.2.2.1 | exact hw_.2.2.2 | (simp [add_plain]; first | exact hw_.1 | exact hw_.2.1 | exact hw_.2.2))) ?_
      refine d1 rfl rfl (fun _ => hSl1.below hB37 hAb1) ?_
      refine dr U 600 rfl trivial ?_
      refine d3 ?_; refine dend rfl (fun h => by cases h) ?_
      refine dr U 600 rfl trivial ?_
      have ho7 := own_bw ho hB47
      have hR7 := hR4.stay hB47
      obtain ⟨hc7, hX⟩ : xss.length ≤ c7 ∧ VecQ w7 a7 xss.length (fun t => (gj xss.length (aug xss.length (mval xss) (fun q _ => idn i q)) xss.length).1 t (xss.length + 0)) := hX
      refine ap U (v := (.slice a7 xss.length c7)) rfl rfl rfl rfl rfl rfl (fun _ => rfl) rfl (fun _ => rfl) rfl rfl rfl ho7 hB37.size (by omega) (by decide) ?_
      intro a8 c8 w8 ho8 hg8
      have hB8 := hB37.grown hg8 hB37.size (fun g e => (own_block ho7 g e).1)
      rw [rws_snoc] at ho8
      refine dr U 600 rfl (by first | exact True.intro | (simp only [AllP, InR, List.nil_append, List.cons_append, and_true]; omega)) ?_
      exact rend _ _ ⟨i + 1, a8, c8, _, _, rfl, by omega, ho8, ((hR7.push hg8 (own_tag ho7)).snoc (VecQ.push hX hg8 (own_tag ho7)) hc7), .inr hfull, hB8, rfl⟩ (by omega) ⟨rfl, rfl, rfl, iv (by omega), trivial⟩
  · obtain hi' : i = xss.length := by omega
    subst hi'
    have hfull : (gj xss.length (mval xss) xss.length).2 = xss.length := by
      rcases hfl with h | h
      · omega
      · exact h
    refine dr U 600 rfl trivial ?_
    refine call (f := 64) rfl rfl cb64 (gflip_calls xss.length xss.length _ h0 (by omega) (by omega) a4 c4 w4 ⟨A4, C4, own_sl ho, hR4, own_tag ho⟩) ?_
    rintro v w5 ⟨⟨a5, c5, rfl, hT⟩, hB5⟩
    have hBw5 := bl_tr hBw hB5 hBw.size
    refine ⟨_, rfl, ?_⟩
    have hbS : ∀ j t, j < xss.length → t < 1 → Small S ((fun q (_ : Nat) => idn j q) j t) := fun j t _ _ => small_mono (idn_small j j) (by omega)
    refine call (f := 63) rfl rfl cb63 (gtable_calls xss.length xss.length _ (fun i hi j hj => gj_aug_small (p := 1) hSm (fun q t _ _ => small_mono (idn_small j q) (by omega)) hG i (xss.length + 0) hi (by omega)) a5 c5 w5 hT (by omega) (by omega)) ?_
    rintro v w6 ⟨hr, hB6⟩
    obtain ⟨zs, e4, h3, a6, c6, rfl, h4⟩ := hr.spec
    refine ⟨_, rfl, ?_⟩
    refine dr U 600 rfl trivial ?_
    refine ret Tryz.results38 rfl ⟨_, rfl, ⟨zs, e4, .inr (.inr ⟨he, hsq, .inr ⟨hfull, _, fun i hi j hj => ?_, h3⟩⟩), a6, c6, rfl, h4⟩, bl_tr hBw5 hB6 hBw5.size⟩
    have := gj_sol (b := fun q => idn j q) hfull i hi
    have e : mmul xss.length (mval xss) (fun i j => (gj xss.length (aug xss.length (mval xss) (fun q _ => idn j q)) xss.length).1 i (xss.length + 0)) i j = idn j i := this
    rw [e]
    unfold idn
    by_cases h : i = j
    · rw [if_pos h, if_pos h.symm]
    · rw [if_neg h, if_neg (fun e => h e.symm)]
end Go.Proofs.YtfdekppnilffeaaGreatDoor
end
