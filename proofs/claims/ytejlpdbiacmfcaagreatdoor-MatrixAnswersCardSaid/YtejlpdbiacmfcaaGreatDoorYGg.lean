/-
  Walk of the reference's solve.
  Conditions: a bound on the sizes of the numbers.
  Walks of the reference's with, Identity, Transpose, Mul, Apply, Rank, Solve.
  Walks of the reference's Solve, Inverse, Least.
  The lengths of what package linear answers; calls at matrices of numbers.
  Conditions: the library's table of powers of ten is laid.
  Walks of the law package's square and tall.
  Conditions: what is copied fits into memory.
  Walk of the statements' Pick; digits of powers.
  Conditions: the number of choices is at least 1.
  What the solver answers at small systems of numbers.
  Conditions: each theorem names its own.
  The reference's solver at numbers; the sizes that a strategy's systems ask.
-/
import Derived.Test.YtejlpdbiacmfcaaGreatDoorYTab
import Derived.Test.YtejlpdbiacmfcaaGreatDoorYBld
import Derived.Test.YtejlpdbiacmfcaaGreatDoorYRB
import Derived.Test.YtejlpdbiacmfcaaGreatDoorYKa
import Derived.Test.YtejlpdbiacmfcaaGreatDoorYLd
import Derived.Test.YtejlpdbiacmfcaaGreatDoorYMj
import Derived.Test.YtejlpdbiacmfcaaGreatDoorYGe
set_option linter.unusedSimpArgs false
set_option linter.unusedVariables false
namespace Go.Proofs.YtejlpdbiacmfcaaGreatDoor
section
set_option maxHeartbeats 4000000
open Go Go.Proofs Go.RowKit Go.Lib

theorem greduce_small (m n cols S : Nat) (f : Nat → Nat → Rat) (hn : 0 < n) (hcols : cols ≤ n) (hc0 : 0 < cols) (hm' : m ≤ 1000000) (hn' : n ≤ 1000000) (hS : ∀ i t, i < m → t < n → Small S (f i t)) (hG : grw cols S ≤ 1000000)
  (go c base : Nat) (A0 : Nat → Option Addr) (C0 : Nat → Nat) (w : World) (ho0 : w.ownsRow base 169 1 (.slice (some ⟨go, 0, none⟩) m c) m (rws m n A0 C0)) (hO0 : RwsQ w m n A0 C0 f) (hbase : base ≤ w.heap.size) :
  Calls Tryz.prog 171 #[.slice (some ⟨go, 0, none⟩) m c, .int .i64 (cols : Nat)] w (Ret fun v w' => v = .tuple ⟨[.slice (some ⟨go, 0, none⟩) m c, .int .i64 ((gj m f cols).2 : Nat)]⟩ ∧ ∃ A C, RdqI w w' base go c m n A C (gj m f cols).1) :=
 greduce_calls m n cols (grw (cols - 1) S) f hn hcols hm' hn' (grw_le hG (show 0 < cols by omega)).1 (fun k hk i t hi ht => small_mono (gj_small hS k (by omega) i t hi ht) (grw_le hG hk).2) go c base A0 C0 w ho0 hO0 hbase

set_option maxRecDepth 100000 in
theorem gsolve_calls (n S : Nat) (f : Mx) (b : Nat → Rat) (hn : 0 < n) (hn' : n ≤ 500000) (hfS : ∀ i t, i < n → t < n → Small S (f i t)) (hbS : ∀ i, i < n → Small S (b i)) (hG : grw n S ≤ 1000000)
  (a ab_ : Option Addr) (c d : Nat) (w : World) (hf : MatQ w a n n f) (hb : VecQ w ab_ n b) :
  Calls Tryz.prog 142 #[.slice a n c, .slice ab_ n d] w (Ret fun v w' => (((gj n f n).2 ≠ n ∧ v = .tuple ⟨[.slice none 0 0, .bool false]⟩) ∨ ((gj n f n).2 = n ∧ ∃ a' c', v = .tuple ⟨[.slice a' n c', .bool true]⟩ ∧ n ≤ c' ∧ VecQ w' a' n (fun i => (gj n (aug n f (fun i _ => b i)) n).1 i (n + 0)))) ∧ Below w.heap.size w w') := by
 obtain ⟨A, C, hSl, hV, hTb⟩ := hf
 have hAb := fun g hg => (hTb g hg).lt
 obtain ⟨ga, oa, rfl, _⟩ := hSl.at (j := 0) (by rw [rws_length]; omega)
 obtain ⟨gb, ob, csg, rfl, hEg, hSg, hltg⟩ := hb.at hn
 have hAg : ∀ g, ab (some ⟨gb, ob, none⟩) = some g → g < w.heap.size := fun g e => by cases e; exact hltg
 refine enter Tryz.func142 rfl Tryz.ntmps142 (Nat.le_of_ble_eq_true rfl) ?_
 refine dT rfl ?_
 refine loopR (fun fr w' mm => ∃ (i : Nat) (a2 : Option Addr) (c2 : Nat) (A2 : Nat → Option Addr) (C2 : Nat → Nat), fr = [(0, .slice (some ⟨ga, oa, none⟩) n c), (1, .slice (some ⟨gb, ob, none⟩) n d), (6, .slice a2 i c2), (7, .int .i64 (i : Nat))] ∧ i ≤ n ∧
   w'.ownsRow w.heap.size 169 1 (.slice a2 i c2) i (rws i (n + 1) A2 C2) ∧ RwsQ w' i (n + 1) A2 C2 (aug n f (fun i _ => b i)) ∧ Below w.heap.size w w' ∧ mm = n - i)
  ⟨0, none, 0, fun _ => none, fun _ => 0, rfl, by omega, ⟨rfl, .inl ⟨rfl, rfl⟩⟩, RwsQ.none _ _ _ _ _, Below.refl _ _, rfl⟩ ⟨rfl, rfl, rfl, rfl, trivial⟩ ?_
 rintro fr w1 mm ⟨i, a2, c2, A2, C2, rfl, hi, ho, hR, hBw, rfl⟩
 refine dT rfl ?_
 refine cS rfl rfl rfl rfl (fun hq => ?_) (fun hq => ?_)
 ·have hin : i < n := by omega
  obtain ⟨gr, orr, csr, hAr, hEr, hSr, hltr⟩ := (hV i hin).1.at hn
  have hxb := hEg.2 i hin
  obtain ⟨u1, u2, u3, u4, u5, u6, u7, hu⟩ := hxb.shape
  simp only [Value.agg.injEq, Array.mk.injEq] at hu
  rw [hu] at hxb
  refine dT rfl ?_
  refine dwn 15 (fun W => Sl W (some ⟨ga, oa, none⟩) (rws n n A C) ∧ Sl W (some ⟨gb, ob, none⟩) csg) hmo ?_
  intro w5 hh5 hg5
  have hBP : Below w1.heap.size w1 w5 := (Below.refl _ _).grown hg5 (Nat.le_refl _) (fun k e => by cases e)
  have hl5 : ∀ W, (Sl W (some ⟨ga, oa, none⟩) (rws n n A C) ∧ Sl W (some ⟨gb, ob, none⟩) csg) → (loadVar 169 ((⟨ga, oa, none⟩ : Addr).add (((i : Nat) : Int).toNat * 1))).run Tryz.prog W = .ok (.slice (some ⟨gr, orr, none⟩) n (C i)) W := fun W h => run_load_cell U rfl (by rw [← hAr]; simpa [add_plain] using slc2 h.1 (rws_get hin))
  have hl10 : ∀ W, (Sl W (some ⟨ga, oa, none⟩) (rws n n A C) ∧ Sl W (some ⟨gb, ob, none⟩) csg) → (loadVar 86 ((⟨gb, ob, none⟩ : Addr).add (((i : Nat) : Int).toNat * 3))).run Tryz.prog W = .ok (.agg ⟨[.bool u1, .slice u2 u3 u4, .slice u5 u6 u7]⟩) W := fun W h => by rw [← hu]; exact elem_loadq hEg hin h.2
  refine dq U [0,2,3,4,5,7,8,9,10] [(5, .slice (some ⟨gr, orr, none⟩) n (C i)), (10, .agg ⟨[.bool u1, .slice u2 u3 u4, .slice u5 u6 u7]⟩)] (by kernel_rfl) rfl rfl ⟨hSl.below (bl_tr hBw hBP hBw.size) hAb, hSg.below (bl_tr hBw hBP hBw.size) hAg⟩ (by simp only [AllP, InR, List.nil_append, List.cons_append]; (repeat' apply And.intro); all_goals first | exact True.intro | omega | (with_reducible exact hl5) | (with_reducible exact hl10)) ?_
  refine d1or (i := 1) (j := 11) rfl rfl rfl (fun _ => ⟨hSl.below (bl_tr hBw hBP hBw.size) hAb, hSg.below (bl_tr hBw hBP hBw.size) hAg⟩) ?_ ?_
  ·refine bs0 U rfl rfl rfl rfl ?_
   intro wA hoA hsA hgA
   have hbP := hBP.size
   have hoA := own_mono2 hoA hbP
   have hBA := hBP.grown hgA hbP (fun k e => by cases e)
   refine d2 ?_
   refine d1or (i := 6) (j := 11) rfl rfl rfl (fun _ => ⟨hSl.below (bl_tr hBw hBA hBw.size) hAb, hSg.below (bl_tr hBw hBA hBw.size) hAg⟩) ?_ ?_
   ·refine aw U rfl rfl rfl rfl rfl rfl rfl rfl rfl hoA (hSr.below (bl_tr hBw hBA hBw.size) (fun q e => by cases e; exact hltr)) hEr.1 hEr.one hBA.size (by omega) rfl ?_
    intro aB cB wB hoB hgB
    rw [Nat.zero_add, List.nil_append] at hoB
    simp only [Nat.zero_add]
    have hBB := hBA.grown hgB hBA.size (fun g e => (own_block hoA g e).1)
    refine d2 ?_
    refine d1 rfl rfl (fun _ => ⟨hSl.below (bl_tr hBw hBB hBw.size) hAb, hSg.below (bl_tr hBw hBB hBw.size) hAg⟩) ?_
    refine bsS U [[.bool u1, .slice u2 u3 u4, .slice u5 u6 u7]] rfl rfl rfl rfl rfl rfl (by decide) (by decide) (by intro cs h; simp at h; subst h; rfl) ?_
    intro wC hkC hsC hgC
    have hBC := hBB.grown hgC hBB.size (fun k e => by cases e)
    refine d2 ?_
    have hoB := own_keep hoB hgC (by intro g e h; cases h)
    refine d1 rfl rfl (fun _ => ⟨hSl.below (bl_tr hBw hBC hBw.size) hAb, hSg.below (bl_tr hBw hBC hBw.size) hAg⟩) ?_
    have hBF := bl_tr hBw hBC hBw.size
    have hEF := hEr.stay hBF
    have hxF := hxb.stay hBF
    refine aw U rfl rfl rfl rfl rfl rfl rfl rfl rfl hoB (hkC.sl 0) rfl (by intro u hu; simp at hu; rcases hu with rfl | rfl | rfl <;> rfl) hBC.size (by omega) rfl ?_
    intro a9 c9 w9 ho9 hg9
    have hB9 := hBC.grown hg9 hBC.size (fun g e => (own_block hoB g e).1)
    have htk := own_tag hoB
    have hE1 : ElsQ w9 [.bool u1, .slice u2 u3 u4, .slice u5 u6 u7] 1 (fun _ => b i) := ⟨rfl, fun t ht => by
     obtain rfl : t = 0 := by omega
     exact hxF.push hg9 htk⟩
    have hE9 : ElsQ w9 (csr ++ [.bool u1, .slice u2 u3 u4, .slice u5 u6 u7]) (n + 1) (aug n f (fun i _ => b i) i) := (hEF.push hg9 htk).app hE1
    have hv9 := own_vecq ho9 hE9
    have hc9 := own_cap3 ho9
    refine d2 ?_
    refine d1 rfl rfl (fun _ => ⟨hSl.below (bl_tr hBw hB9 hBw.size) hAb, hSg.below (bl_tr hBw hB9 hBw.size) hAg⟩) ?_
    refine bs1 U (v := .slice a9 (n + 1) c9) rfl rfl rfl rfl rfl rfl rfl ?_
    intro wD hkD hsD hgD
    have hBD := hB9.grown hgD hB9.size (fun k e => by cases e)
    have h9D : Below w9.heap.size w9 wD := (Below.refl _ _).grown hgD (Nat.le_refl _) (fun k e => by cases e)
    have hv9 := hv9.stay h9D
    refine d2 ?_
    refine d1 rfl rfl (fun _ => ⟨hSl.below (bl_tr hBw hBD hBw.size) hAb, hSg.below (bl_tr hBw hBD hBw.size) hAg⟩) ?_
    have hoo := own_bw ho hBD
    refine aw U rfl rfl rfl rfl rfl rfl rfl rfl rfl hoo (hkD.sl 0) rfl (by intro u hu; simp at hu; rcases hu with rfl; rfl) (Nat.le_trans hBw.size hBD.size) (by omega) rfl ?_
    intro aE cE wE hoE hgE
    have htE := own_tag hoo
    have hBE := (bl_tr hBw hBD hBw.size).grown hgE (Nat.le_trans hBw.size hBD.size) (fun g e => (own_block hoo g e).1)
    have hRE := ((hR.stay hBD).push hgE htE).snoc (hv9.push hgE htE) hc9
    rw [show rws i (n + 1) A2 C2 ++ List.drop 0 [Value.slice a9 (n + 1) c9] = rws (i + 1) (n + 1) (upd A2 i a9) (upd C2 i c9) from rws_snoc _ _ _ _ _ _] at hoE
    refine d2 ?_
    refine d1 rfl rfl (fun _ => ⟨hSl.below hBE hAb, hSg.below hBE hAg⟩) ?_
    refine dT rfl ?_
    refine d3 ?_; refine dend rfl (fun h => by cases h) ?_
    refine dS rfl ?_
    exact rend _ _ ⟨i + 1, aE, cE, _, _, rfl, by omega, hoE, hRE, hBE, rfl⟩ (by omega) ⟨rfl, rfl, rfl, iv (by omega), trivial⟩
   ·refine bsS U [[.bool u1, .slice u2 u3 u4, .slice u5 u6 u7]] rfl rfl rfl rfl rfl rfl (by decide) (by decide) (by intro cs h; simp at h; subst h; rfl) ?_
    intro wC hkC hsC hgC
    have hBC := hBA.grown hgC hBA.size (fun k e => by cases e)
    refine d2 ?_
    have hoA := own_keep hoA hgC (by intro g e h; cases h)
    refine d1 rfl rfl (fun _ => ⟨hSl.below (bl_tr hBw hBC hBw.size) hAb, hSg.below (bl_tr hBw hBC hBw.size) hAg⟩) ?_
    refine aw U rfl rfl rfl rfl rfl rfl rfl rfl rfl hoA (hSr.below (bl_tr hBw hBC hBw.size) (fun q e => by cases e; exact hltr)) hEr.1 hEr.one hBC.size (by omega) rfl ?_
    intro aB cB wB hoB hgB
    rw [Nat.zero_add, List.nil_append] at hoB
    simp only [Nat.zero_add]
    have hBB := hBC.grown hgB hBC.size (fun g e => (own_block hoA g e).1)
    refine d2 ?_
    have hkC := hkC.keep hgB (fun e => by
     have h1 : w5.heap.size = wA.heap.size := Option.some.inj e
     omega)
    refine d1 rfl rfl (fun _ => ⟨hSl.below (bl_tr hBw hBB hBw.size) hAb, hSg.below (bl_tr hBw hBB hBw.size) hAg⟩) ?_
    have hBF := bl_tr hBw hBB hBw.size
    have hEF := hEr.stay hBF
    have hxF := hxb.stay hBF
    refine aw U rfl rfl rfl rfl rfl rfl rfl rfl rfl hoB (hkC.sl 0) rfl (by intro u hu; simp at hu; rcases hu with rfl | rfl | rfl <;> rfl) hBB.size (by omega) rfl ?_
    intro a9 c9 w9 ho9 hg9
    have hB9 := hBB.grown hg9 hBB.size (fun g e => (own_block hoB g e).1)
    have htk := own_tag hoB
    have hE1 : ElsQ w9 [.bool u1, .slice u2 u3 u4, .slice u5 u6 u7] 1 (fun _ => b i) := ⟨rfl, fun t ht => by
     obtain rfl : t = 0 := by omega
     exact hxF.push hg9 htk⟩
    have hE9 : ElsQ w9 (csr ++ [.bool u1, .slice u2 u3 u4, .slice u5 u6 u7]) (n + 1) (aug n f (fun i _ => b i) i) := (hEF.push hg9 htk).app hE1
    have hv9 := own_vecq ho9 hE9
    have hc9 := own_cap3 ho9
    refine d2 ?_
    refine d1 rfl rfl (fun _ => ⟨hSl.below (bl_tr hBw hB9 hBw.size) hAb, hSg.below (bl_tr hBw hB9 hBw.size) hAg⟩) ?_
    refine bs1 U (v := .slice a9 (n + 1) c9) rfl rfl rfl rfl rfl rfl rfl ?_
    intro wD hkD hsD hgD
    have hBD := hB9.grown hgD hB9.size (fun k e => by cases e)
    have h9D : Below w9.heap.size w9 wD := (Below.refl _ _).grown hgD (Nat.le_refl _) (fun k e => by cases e)
    have hv9 := hv9.stay h9D
    refine d2 ?_
    refine d1 rfl rfl (fun _ => ⟨hSl.below (bl_tr hBw hBD hBw.size) hAb, hSg.below (bl_tr hBw hBD hBw.size) hAg⟩) ?_
    have hoo := own_bw ho hBD
    refine aw U rfl rfl rfl rfl rfl rfl rfl rfl rfl hoo (hkD.sl 0) rfl (by intro u hu; simp at hu; rcases hu with rfl; rfl) (Nat.le_trans hBw.size hBD.size) (by omega) rfl ?_
    intro aE cE wE hoE hgE
    have htE := own_tag hoo
    have hBE := (bl_tr hBw hBD hBw.size).grown hgE (Nat.le_trans hBw.size hBD.size) (fun g e => (own_block hoo g e).1)
    have hRE := ((hR.stay hBD).push hgE htE).snoc (hv9.push hgE htE) hc9
    rw [show rws i (n + 1) A2 C2 ++ List.drop 0 [Value.slice a9 (n + 1) c9] = rws (i + 1) (n + 1) (upd A2 i a9) (upd C2 i c9) from rws_snoc _ _ _ _ _ _] at hoE
    refine d2 ?_
    refine d1 rfl rfl (fun _ => ⟨hSl.below hBE hAb, hSg.below hBE hAg⟩) ?_
    refine dT rfl ?_
    refine d3 ?_; refine dend rfl (fun h => by cases h) ?_
    refine dS rfl ?_
    exact rend _ _ ⟨i + 1, aE, cE, _, _, rfl, by omega, hoE, hRE, hBE, rfl⟩ (by omega) ⟨rfl, rfl, rfl, iv (by omega), trivial⟩
  ·refine bsS U [[.bool u1, .slice u2 u3 u4, .slice u5 u6 u7]] rfl rfl rfl rfl rfl rfl (by decide) (by decide) (by intro cs h; simp at h; subst h; rfl) ?_
   intro wC hkC hsC hgC
   have hBC := hBP.grown hgC hBP.size (fun k e => by cases e)
   refine d2 ?_
   refine d1 rfl rfl (fun _ => ⟨hSl.below (bl_tr hBw hBC hBw.size) hAb, hSg.below (bl_tr hBw hBC hBw.size) hAg⟩) ?_
   have hBP := hBC
   refine bs0 U rfl rfl rfl rfl ?_
   intro wA hoA hsA hgA
   have hbP := hBP.size
   have hoA := own_mono2 hoA hbP
   have hBA := hBP.grown hgA hbP (fun k e => by cases e)
   refine d2 ?_
   have hkC := hkC.keep hgA (by simp)
   refine d1 rfl rfl (fun _ => ⟨hSl.below (bl_tr hBw hBA hBw.size) hAb, hSg.below (bl_tr hBw hBA hBw.size) hAg⟩) ?_
   refine aw U rfl rfl rfl rfl rfl rfl rfl rfl rfl hoA (hSr.below (bl_tr hBw hBA hBw.size) (fun q e => by cases e; exact hltr)) hEr.1 hEr.one hBA.size (by omega) rfl ?_
   intro aB cB wB hoB hgB
   rw [Nat.zero_add, List.nil_append] at hoB
   simp only [Nat.zero_add]
   have hBB := hBA.grown hgB hBA.size (fun g e => (own_block hoA g e).1)
   refine d2 ?_
   have hkC := hkC.keep hgB (fun e => by
    have h1 : wC.heap.size = w5.heap.size := Option.some.inj e
    omega)
   refine d1 rfl rfl (fun _ => ⟨hSl.below (bl_tr hBw hBB hBw.size) hAb, hSg.below (bl_tr hBw hBB hBw.size) hAg⟩) ?_
   have hBF := bl_tr hBw hBB hBw.size
   have hEF := hEr.stay hBF
   have hxF := hxb.stay hBF
   refine aw U rfl rfl rfl rfl rfl rfl rfl rfl rfl hoB (hkC.sl 0) rfl (by intro u hu; simp at hu; rcases hu with rfl | rfl | rfl <;> rfl) hBB.size (by omega) rfl ?_
   intro a9 c9 w9 ho9 hg9
   have hB9 := hBB.grown hg9 hBB.size (fun g e => (own_block hoB g e).1)
   have htk := own_tag hoB
   have hE1 : ElsQ w9 [.bool u1, .slice u2 u3 u4, .slice u5 u6 u7] 1 (fun _ => b i) := ⟨rfl, fun t ht => by
    obtain rfl : t = 0 := by omega
    exact hxF.push hg9 htk⟩
   have hE9 : ElsQ w9 (csr ++ [.bool u1, .slice u2 u3 u4, .slice u5 u6 u7]) (n + 1) (aug n f (fun i _ => b i) i) := (hEF.push hg9 htk).app hE1
   have hv9 := own_vecq ho9 hE9
   have hc9 := own_cap3 ho9
   refine d2 ?_
   refine d1 rfl rfl (fun _ => ⟨hSl.below (bl_tr hBw hB9 hBw.size) hAb, hSg.below (bl_tr hBw hB9 hBw.size) hAg⟩) ?_
   refine bs1 U (v := .slice a9 (n + 1) c9) rfl rfl rfl rfl rfl rfl rfl ?_
   intro wD hkD hsD hgD
   have hBD := hB9.grown hgD hB9.size (fun k e => by cases e)
   have h9D : Below w9.heap.size w9 wD := (Below.refl _ _).grown hgD (Nat.le_refl _) (fun k e => by cases e)
   have hv9 := hv9.stay h9D
   refine d2 ?_
   refine d1 rfl rfl (fun _ => ⟨hSl.below (bl_tr hBw hBD hBw.size) hAb, hSg.below (bl_tr hBw hBD hBw.size) hAg⟩) ?_
   have hoo := own_bw ho hBD
   refine aw U rfl rfl rfl rfl rfl rfl rfl rfl rfl hoo (hkD.sl 0) rfl (by intro u hu; simp at hu; rcases hu with rfl; rfl) (Nat.le_trans hBw.size hBD.size) (by omega) rfl ?_
   intro aE cE wE hoE hgE
   have htE := own_tag hoo
   have hBE := (bl_tr hBw hBD hBw.size).grown hgE (Nat.le_trans hBw.size hBD.size) (fun g e => (own_block hoo g e).1)
   have hRE := ((hR.stay hBD).push hgE htE).snoc (hv9.push hgE htE) hc9
   rw [show rws i (n + 1) A2 C2 ++ List.drop 0 [Value.slice a9 (n + 1) c9] = rws (i + 1) (n + 1) (upd A2 i a9) (upd C2 i c9) from rws_snoc _ _ _ _ _ _] at hoE
   refine d2 ?_
   refine d1 rfl rfl (fun _ => ⟨hSl.below hBE hAb, hSg.below hBE hAg⟩) ?_
   refine dT rfl ?_
   refine d3 ?_; refine dend rfl (fun h => by cases h) ?_
   refine dS rfl ?_
   exact rend _ _ ⟨i + 1, aE, cE, _, _, rfl, by omega, hoE, hRE, hBE, rfl⟩ (by omega) ⟨rfl, rfl, rfl, iv (by omega), trivial⟩
 ·obtain rfl : n = i := by omega
  obtain ⟨go, rfl⟩ := own_go ho hn
  refine dT rfl ?_
  refine call (f := 171) rfl rfl cb171 (greduce_small n (n + 1) n S (aug n f (fun i _ => b i)) (by omega) (by omega) hn (by omega) (by omega) (aug_small hfS (fun i t hi _ => hbS i hi)) hG go c2 w.heap.size A2 C2 w1 ho hR hBw.size) ?_
  rintro v w2 ⟨rfl, A3, C3, ho3, hO3, hB3⟩
  have hB2 := hBw.trans hB3
  have hle := gj_le n (aug n f (fun i _ => b i)) n
  have hrk := aug_rank n f (fun i _ => b i)
  refine ⟨_, rfl, ?_⟩
  refine dT rfl ?_
  refine cS rfl rfl rfl rfl (fun hq => ?_) (fun hq => ?_)
  ·refine dT rfl ?_
   exact ret Tryz.results142 rfl ⟨_, rfl, .inl ⟨by omega, rfl⟩, hB2⟩
  have hfull : (gj n f n).2 = n := by omega
  refine dT rfl ?_
  refine loopR (fun fr w' mm => ∃ (j : Nat) (a4 : Option Addr) (c4 : Nat) (cs : List Value), fr = [(0, .slice (some ⟨ga, oa, none⟩) n c), (6, .slice (some ⟨go, 0, none⟩) n c2), (9, .slice a4 j c4), (10, .int .i64 (j : Nat))] ∧ j ≤ n ∧
    w'.ownsRow w2.heap.size 86 3 (.slice a4 j c4) j cs ∧ ElsQ w' cs j (fun i => (gj n (aug n f (fun i _ => b i)) n).1 i (n + 0)) ∧ Below w2.heap.size w2 w' ∧ mm = n - j)
   ⟨0, none, 0, [], rfl, by omega, ⟨rfl, .inl ⟨rfl, rfl⟩⟩, ElsQ.nil _ _, Below.refl _ _, rfl⟩ ⟨rfl, rfl, rfl, rfl, trivial⟩ ?_
  rintro fr w4 mm ⟨j, a4, c4, cs, rfl, hj, ho4, hE4, hB24, rfl⟩
  refine dT rfl ?_
  refine cS rfl rfl rfl rfl (fun hq => ?_) (fun hq => ?_)
  ·have hjn : j < n := by omega
   obtain ⟨⟨csj, hEj, hSj, hTj⟩, _⟩ := hO3 j hjn
   refine dT rfl ?_
   refine il U rfl rfl rfl rfl rfl rfl rfl (fun _ => rfl) rfl j rfl hjn ((own_sl ho3).below hB24 (fun g e => (own_block ho3 g e).2)) (rws_get hjn) ?_
   refine dT rfl ?_
   refine ig U rfl rfl rfl rfl ag_q rfl rfl (fun _ => rfl) rfl n rfl (by omega) (hSj.below hB24 (fun g hg => (hTj g hg).lt)) (fun j v hv => el_get hv) (el_length (by rw [hEj.1]; omega)) (by decide) ?_
   have hfe := (hEj.2 n (by omega)).stay hB24
   obtain ⟨u1, u2, u3, u4, u5, u6, u7, hu⟩ := hfe.shape
   simp only [Value.agg.injEq, Array.mk.injEq] at hu
   rw [hu] at hfe ⊢
   refine aps U rfl rfl rfl rfl rfl rfl rfl rfl (fun _ => rfl) rfl (fun _ => rfl) rfl rfl rfl ho4 hB24.size (by omega) rfl ?_
   intro a5 c5 w5 ho5 hg5
   have hB5 := hB24.grown hg5 hB24.size (fun g e => (own_block ho4 g e).1)
   have hE5 := (hE4.push hg5 (fun g e => own_tag ho4 g e)).snoc (hfe.push hg5 (fun g e => own_tag ho4 g e))
   refine dS rfl ?_
   exact rend _ _ ⟨j + 1, a5, c5, _, rfl, by omega, ho5, hE5, hB5, rfl⟩ (by omega) ⟨rfl, rfl, rfl, iv (by omega), trivial⟩
  ·obtain rfl : n = j := by omega
   refine dT rfl ?_
   exact ret Tryz.results142 rfl ⟨_, rfl, .inr ⟨hfull, a4, c4, rfl, own_cap3 ho4, own_vecq ho4 hE4⟩, bl_tr hB2 hB24 hB2.size⟩
end
section
set_option maxHeartbeats 4000000
open Go Go.Proofs Go.RowKit Go.Lib

theorem gwith_calls (xss : List (List Tx)) (ys : List Tx) (a b : Option Addr) (c d : Nat) (w : World) (hs : SM w a xss) (hl : Lens xss) (hsy : Sl w b (strs ys)) (hly : LenV ys) :
  Calls Tryz.prog 141 #[.slice a xss.length c, .slice b ys.length d] w (Ret fun v w' => (∃ e, v = .int .i64 e ∧ BErr xss ys e) ∧ Below w.heap.size w w') := by
 refine enter Tryz.func141 rfl Tryz.ntmps141 (Nat.le_of_ble_eq_true rfl) ?_
 refine dT rfl ?_
 refine call (f := 170) rfl rfl cb170 (gCheck_calls xss a c w hs hl.l hl.l2 hl.x) ?_
 rintro v w1 ⟨⟨e, rfl, he⟩, hB1⟩
 refine ⟨_, rfl, ?_⟩
 refine dT rfl ?_
 refine cS rfl rfl rfl rfl (fun hq => ?_) (fun hq => ?_)
 ·refine dT rfl ?_
  exact ret Tryz.results141 rfl ⟨_, rfl, ⟨e, rfl, .inl ⟨hq, he⟩⟩, hB1⟩
 obtain rfl := Classical.not_not.1 hq
 refine dT rfl ?_
 refine call (f := 71) rfl rfl cb71 (gVector_calls ys b d w1 (hsy.stay hB1) hly.l hly.x) ?_
 rintro v w2 ⟨⟨e, rfl, he2⟩, hB2⟩
 refine ⟨_, rfl, ?_⟩
 refine dT rfl ?_
 exact ret Tryz.results141 rfl ⟨_, rfl, ⟨e, rfl, .inr ⟨he, he2⟩⟩, bl_tr hB1 hB2 hB1.size⟩
end
section
set_option maxHeartbeats 4000000
open Go Go.Proofs Go.RowKit Go.Lib

theorem gSolve_calls (xss : List (List Tx)) (ys : List Tx) (S : Nat) (a b : Option Addr) (c d : Nat) (w : World) (hs : SM w a xss) (hl : Lens xss) (hsy : Sl w b (strs ys)) (hly : LenV ys)
  (hS : BErr xss ys 0 → (∀ i t, i < xss.length → t < (rw' xss 0).length → Small S (mval xss i t)) ∧ (∀ i, i < ys.length → Small S (vval ys i)) ∧ grw xss.length S ≤ 1000000) :
  Calls Tryz.prog 108 #[.slice a xss.length c, .slice b ys.length d] w (Ret fun v w' => (∃ zs e, SolS xss ys zs e ∧ VOut zs e v w') ∧ Below w.heap.size w w') := by
 refine enter Tryz.func108 rfl Tryz.ntmps108 (Nat.le_of_ble_eq_true rfl) ?_
 refine dT rfl ?_
 refine call (f := 141) rfl rfl cb141 (gwith_calls xss ys a b c d w hs hl hsy hly) ?_
 rintro v w1 ⟨⟨e, rfl, he⟩, hB1⟩
 refine ⟨_, rfl, ?_⟩
 refine dT rfl ?_
 refine cS rfl rfl rfl rfl (fun hq1 => ?_) (fun hq1 => ?_)
 ·refine dT rfl ?_
  exact ret Tryz.results108 rfl ⟨_, rfl, ⟨[], e, .inl ⟨hq1, he, rfl⟩, VOut.nil _ _⟩, hB1⟩
 obtain rfl := Classical.not_not.1 hq1
 obtain ⟨heX, heV⟩ := he.ok
 obtain ⟨h0, h1, h64, h65⟩ := he.xok
 obtain ⟨hSm, hSv, hG⟩ := hS he
 have hs2 := hs.stay hB1
 have hs2' := hs2
 obtain ⟨A, C, hSl, hR⟩ := hs2'
 refine dT rfl ?_
 refine il U rfl rfl rfl rfl rfl rfl rfl (fun _ => rfl) rfl 0 rfl h0 hSl (srws_get h0) ?_
 refine dT rfl ?_
 refine cS rfl rfl rfl rfl (fun hq2 => ?_) (fun hq2 => ?_)
 ·refine dT rfl ?_
  exact ret Tryz.results108 rfl ⟨_, rfl, ⟨[], 10, .inr (.inl ⟨he, .inl (fun h => hq2 (by rw [← h])), rfl, rfl⟩), VOut.nil _ _⟩, hB1⟩
 have hsq : xss.length = (rw' xss 0).length := by omega
 refine dT rfl ?_
 refine cS rfl rfl rfl rfl (fun hq3 => ?_) (fun hq3 => ?_)
 ·refine dT rfl ?_
  exact ret Tryz.results108 rfl ⟨_, rfl, ⟨[], 10, .inr (.inl ⟨he, .inr (fun h => hq3 (by rw [← h])), rfl, rfl⟩), VOut.nil _ _⟩, hB1⟩
 have hlen : ys.length = xss.length := by omega
 refine dT rfl ?_
 refine call (f := 143) rfl rfl cb143 (gmatrix_calls xss (rw' xss 0).length heX.rows.1 heX.rows.2 a c w1 hs2 (by omega) (by omega) (hl.row heX)) ?_
 rintro v w3 ⟨hm, hB3⟩
 obtain ⟨a3, c3, rfl, hM⟩ := hm.mat
 have hB3' := bl_tr hB1 hB3 hB1.size
 refine ⟨_, rfl, ?_⟩
 refine dT rfl ?_
 refine call (f := 144) rfl rfl cb144 (gvector_calls ys heV.qok b d w3 (hsy.stay hB3') (by omega) hly.x) ?_
 rintro v w4 ⟨⟨a4, c4, rfl, hV, hc4⟩, hB4⟩
 have hB4' := bl_tr hB3' hB4 hB3'.size
 refine ⟨_, rfl, ?_⟩
 rw [hlen] at hV hSv ⊢
 rw [← hsq] at hM hSm
 refine call (f := 142) rfl rfl cb142 (gsolve_calls xss.length S (mval xss) (vval ys) h0 (by omega) hSm hSv hG a3 a4 c3 c4 w4 (hM.stay hB4) hV) ?_
 rintro v w5 ⟨hr, hB5⟩
 have hB5' := bl_tr hB4' hB5 hB4'.size
 rcases hr with ⟨hns, rfl⟩ | ⟨hfull, a5, c5, rfl, _, hX⟩
 ·refine ⟨_, rfl, ?_⟩
  refine dT rfl ?_
  exact ret Tryz.results108 rfl ⟨_, rfl, ⟨[], 17, .inr (.inr ⟨he, hsq, hlen, .inl ⟨hns, rfl, rfl⟩⟩), VOut.nil _ _⟩, hB5'⟩
 ·refine ⟨_, rfl, ?_⟩
  refine dT rfl ?_
  refine call (f := 145) rfl rfl cb145 (gtexts_calls xss.length _ (fun i hi => gj_aug_small (p := 1) hSm (fun i t hi _ => hSv i hi) hG i (xss.length + 0) hi (by omega)) a5 c5 w5 hX (by omega)) ?_
  rintro v w6 ⟨hr, hB6⟩
  obtain ⟨zs, e4, h3, a6, c6, rfl, h4⟩ := hr.spec
  refine ⟨_, rfl, ?_⟩
  refine dT rfl ?_
  exact ret Tryz.results108 rfl ⟨_, rfl, ⟨zs, e4, .inr (.inr ⟨he, hsq, hlen, .inr ⟨hfull, _, gj_sol hfull, h3⟩⟩), a6, c6, rfl, h4⟩, bl_tr hB5' hB6 hB5'.size⟩
end
section
set_option maxHeartbeats 2000000
open Go Go.Proofs Go.RowKit Go.Lib

theorem LightM.row {xss : List (List Tx)} {xs : List Tx} (h : LightM xss [xs]) : RowL xs := by
 have := h.1 xss.length (by rw [List.length_append, List.length_singleton]; omega)
 rwa [rw_app2] at this
theorem VOut.lit {ys : List Tx} {e : Int} {v : Value} {w : World} (h : VOut ys e v w) : ∃ a c, v = .tuple ⟨[.slice a ys.length c, .int .i64 e]⟩ ∧ Lit w (.slice a ys.length c) ys := by
 obtain ⟨a, c, h1, h2, _, h4⟩ := h
 exact ⟨a, c, h1, a, c, rfl, h2⟩
theorem IdR.out {n : Int} {v : Value} {w : World} (h : IdR n v w) : ∃ a c ys, v = .slice a ys.length c ∧ SM w a ys ∧ Lens ys ∧ ((n < 1 ∨ 64 < n) ∧ ys = [] ∨ (1 ≤ n ∧ n ≤ 64) ∧ ys = mtx n.toNat n.toNat idn) := by
 rcases h with ⟨h1, rfl⟩ | ⟨h1, h2, a, c, rfl, h3⟩
 ·exact ⟨none, 0, [], rfl, SM.nil w, nil_lens, .inl ⟨h1, rfl⟩⟩
 ·exact ⟨a, c, mtx n.toNat n.toNat idn, by rw [mtx_length], h3, mtx_lens (by omega) (by omega) (fun i _ k _ => small_mono (idn_small i k) (by omega)), .inr ⟨⟨h1, h2⟩, rfl⟩⟩


section
variable {m n p : Nat} {f g : Mx}
end
def SolvedR (n : Nat) (f : Mx) (b : Nat → Rat) (v : Value) (w : World) : Prop :=
 ((gj n f n).2 ≠ n ∧ ∃ a c, v = .tuple ⟨[.slice a 0 c, .int .i64 17]⟩) ∨
 ((gj n f n).2 = n ∧ ∃ x a c, (∀ i, i < n → mapp n f x i = b i) ∧ (∀ i, i < n → Small 4000 (x i)) ∧ v = .tuple ⟨[.slice a n c, .int .i64 0]⟩ ∧ Lit w (.slice a n c) (txs n x))
theorem SlvS.solved {n : Nat} {f : Mx} {b : Nat → Rat} {zs : List Tx} {e : Int} {v : Value} {w : World} (h : SlvS n f b zs e) (ho : VOut zs e v w) (hsol : ∀ x, (∀ i, i < n → mapp n f x i = b i) → (gj n f n).2 = n → ∀ i, i < n → Small 4000 (x i)) : SolvedR n f b v w := by
 obtain ⟨a, c, rfl, hl⟩ := ho.lit
 rcases h with ⟨h1, rfl, rfl⟩ | ⟨h1, x, h2, h3⟩
 ·exact .inl ⟨h1, a, c, rfl⟩
 ·have hs := hsol x h2 h1
  rcases h3 with ⟨⟨i, hi, h4⟩, _⟩ | ⟨_, rfl, rfl⟩
  ·exact absurd (hs i hi) h4
  ·rw [txs_length] at hl ⊢
   exact .inr ⟨h1, x, a, c, h2, hs, rfl, hl⟩
end
section
set_option maxHeartbeats 2000000
open Go Go.Proofs Go.RowKit Go.Lib

def OwnMC (w : World) (B : Nat) (a : Option Addr) (c : Nat) (xss : List (List Tx)) : Prop := ∃ A C, w.ownsRow B 29 1 (.slice a xss.length c) xss.length (srws xss A C) ∧ (∀ i, i < xss.length → Sl w (A i) (strs (rw' xss i)) ∧ ∀ g, ab (A i) = some g → Tg w 35 g) ∧ ∀ i, i < xss.length → (rw' xss i).length ≤ C i
def SMC (w : World) (a : Option Addr) (xss : List (List Tx)) : Prop := ∃ A C, Sl w a (srws xss A C) ∧ (∀ i, i < xss.length → Sl w (A i) (strs (rw' xss i))) ∧ ∀ i, i < xss.length → (rw' xss i).length ≤ C i
theorem SMC.sm {w : World} {a : Option Addr} {xss : List (List Tx)} (h : SMC w a xss) : SM w a xss := by
 obtain ⟨A, C, h1, h2, _⟩ := h
 exact ⟨A, C, h1, h2⟩
theorem SMC.stay {w w' : World} {a : Option Addr} {xss : List (List Tx)} (h : SMC w a xss) (hb : Below w.heap.size w w') : SMC w' a xss := by
 obtain ⟨A, C, h1, h2, h3⟩ := h
 exact ⟨A, C, h1.stay hb, fun i hi => (h2 i hi).stay hb, h3⟩
theorem OwnMC.nil (w : World) (B : Nat) : OwnMC w B none 0 [] := ⟨fun _ => none, fun _ => 0, ⟨rfl, .inl ⟨rfl, rfl⟩⟩, fun i hi => absurd hi (by simp), fun i hi => absurd hi (by simp)⟩
theorem OwnMC.stay {w w' : World} {B : Nat} {a : Option Addr} {c : Nat} {xss : List (List Tx)} (h : OwnMC w B a c xss) (hb : Below w.heap.size w w') : OwnMC w' B a c xss := by
 obtain ⟨A, C, h1, h2, h3⟩ := h
 exact ⟨A, C, own_bw h1 hb, fun i hi => ⟨(h2 i hi).1.below hb (fun g hg => ((h2 i hi).2 g hg).lt), fun g hg => ((h2 i hi).2 g hg).below hb⟩, h3⟩
theorem OwnMC.snoc {w w' : World} {B : Nat} {a a' b : Option Addr} {c c' d : Nat} {xss : List (List Tx)} {xs : List Tx} {A : Nat → Option Addr} {C : Nat → Nat}
  (ho : w.ownsRow B 29 1 (.slice a xss.length c) xss.length (srws xss A C)) (h2 : ∀ i, i < xss.length → Sl w (A i) (strs (rw' xss i)) ∧ ∀ g, ab (A i) = some g → Tg w 35 g)
  (h3 : ∀ i, i < xss.length → (rw' xss i).length ≤ C i)
  (hb : Sl w b (strs xs)) (hbt : ∀ g, ab b = some g → Tg w 35 g) (hd : xs.length ≤ d) (hg : w.grownBy w' (ab a)) (ho' : w'.ownsRow B 29 1 (.slice a' (xss.length + 1) c') (xss.length + 1) (srws xss A C ++ [.slice b xs.length d])) : OwnMC w' B a' c' (xss ++ [xs]) := by
 have key : ∀ (b : Option Addr) (vs : List Value), Sl w b vs → (∀ g, ab b = some g → Tg w 35 g) → Sl w' b vs ∧ ∀ g, ab b = some g → Tg w' 35 g := fun b vs h1 h2 =>
  have hne : ∀ g, ab b = some g → ab a ≠ some g := fun g hg e => (h2 g hg).ne (own_tag ho g e) rfl rfl
  ⟨h1.keep hg hne, fun q hq => (h2 q hq).grown hg (hne q hq)⟩
 rw [srws_snoc] at ho'
 refine ⟨_, _, by rw [List.length_append, List.length_singleton]; exact ho', fun i hi => ?_, fun i hi => ?_⟩
 ·rw [List.length_append, List.length_singleton] at hi
  by_cases h : i = xss.length
  ·subst h; rw [upd_same, rw_app2]; exact key b _ hb hbt
  ·rw [upd_ne _ _ h, rw_app1 (by omega)]; exact key _ _ (h2 i (by omega)).1 (h2 i (by omega)).2
 ·rw [List.length_append, List.length_singleton] at hi
  by_cases h : i = xss.length
  ·subst h; rw [upd_same, rw_app2]; exact hd
  ·rw [upd_ne _ _ h, rw_app1 (by omega)]; exact h3 i (by omega)
theorem own_cap {w : World} {base e : Nat} {a : Option Addr} {m c : Nat} {cs : List Value} (h : w.ownsRow base e 1 (.slice a m c) m cs) : m ≤ c := by
 by_cases hm : 0 < m
 ·obtain ⟨_, _, _, _, _, _, _, h⟩ := own_bk h hm
  exact h
 ·omega

def SqC (n : Nat) (v : Value) (ok : Bool) (w : World) : Prop := ok = true → ∃ (F : Mx) (a : Option Addr) (c : Nat), (∀ i, i < n → ∀ k, k < n → Small 12 (F i k)) ∧ v = .slice a n c ∧ SMC w a (mtx n n F)
theorem SqC.stay {n : Nat} {v : Value} {ok : Bool} {w w' : World} (h : SqC n v ok w) (hb : Below w.heap.size w w') : SqC n v ok w' := fun e => by
 obtain ⟨F, a, c, h1, h2, h3⟩ := h e
 exact ⟨F, a, c, h1, h2, h3.stay hb⟩
theorem SM.rows {w : World} {a : Option Addr} {m n : Nat} {f : Mx} (h : SM w a (mtx m n f)) : ∃ A C, Sl w a (srws (mtx m n f) A C) ∧ ∀ i, i < m → Lit w (.slice (A i) n (C i)) (txs n (f i)) := by
 obtain ⟨A, C, h1, h2⟩ := h
 refine ⟨A, C, h1, fun i hi => ⟨A i, C i, by rw [txs_length], ?_⟩⟩
 have := h2 i (by rw [mtx_length]; exact hi)
 rwa [mtx_row hi] at this
end
section
set_option maxHeartbeats 1000000
open Go Go.Proofs Go.RowKit Go.Lib
end
section
set_option maxHeartbeats 1000000
open Go Go.Proofs Go.RowKit Go.Lib

theorem SolvedR.full {n : Nat} {f : Mx} {b : Nat → Rat} {v : Value} {w : World} (h : SolvedR n f b v w) (hF : (gj n f n).2 = n) :
  ∃ x a c, (∀ i, i < n → mapp n f x i = b i) ∧ (∀ i, i < n → Small 4000 (x i)) ∧ v = .tuple ⟨[.slice a n c, .int .i64 0]⟩ ∧ Lit w (.slice a n c) (txs n x) := by
 rcases h with ⟨h, _⟩ | ⟨_, h⟩
 ·exact absurd hF h
 ·exact h
theorem SolvedR.none {n : Nat} {f : Mx} {b : Nat → Rat} {v : Value} {w : World} (h : SolvedR n f b v w) (hF : (gj n f n).2 ≠ n) :
  ∃ a c, v = .tuple ⟨[.slice a 0 c, .int .i64 17]⟩ := by
 rcases h with ⟨_, h⟩ | ⟨h, _⟩
 ·exact h
 ·exact absurd h hF
end
section
set_option maxHeartbeats 2000000
open Go Go.Proofs Go.RowKit Go.Lib

def SolC (n : Nat) (f : Mx) (b : Nat → Rat) (v : Value) (w : World) : Prop := ∃ x a c, (∀ i, i < n → mapp n f x i = b i) ∧ (∀ i, i < n → Small 4000 (x i)) ∧ v = .tuple ⟨[.slice a n c, .int .i64 0]⟩ ∧ Lit w (.slice a n c) (txs n x) ∧ n ≤ c
theorem pSolveC_calls {n : Nat} (f : Mx) (b : Nat → Rat) (S : Nat) (h0 : 0 < n) (hn : n ≤ 64) (hS : S ≤ 4000) (hf : ∀ i, i < n → ∀ k, k < n → Small S (f i k)) (hb : ∀ i, i < n → Small S (b i)) (hG : grw n S ≤ 1000000) (hF : (gj n f n).2 = n)
  (hsol : ∀ x, (∀ i, i < n → mapp n f x i = b i) → ∀ i, i < n → Small 4000 (x i)) (a b_ : Option Addr) (c d : Nat) (w : World) (hs : SM w a (mtx n n f)) (hl : Lit w (.slice b_ n d) (txs n b)) (ht : TabOk w) :
  Calls Tryz.prog 50 #[.slice a n c, .slice b_ n d] w (Ret fun v w' => SolC n f b v w' ∧ Below w.heap.size w w') := by
 have hf' : ∀ i, i < n → ∀ k, k < n → Small 4000 (f i k) := fun i hi k hk => small_mono (hf i hi k hk) hS
 have hb' : ∀ i, i < n → Small 4000 (b i) := fun i hi => small_mono (hb i hi) hS
 have hlm := mtx_lens (m := n) (n := n) (by omega) (by omega) hf'
 have hlv := txs_lenv (n := n) (by omega) hb'
 have := lSolve_calls (mtx n n f) (txs n b) S a b_ c d w hs hlm.l hlm.l2 hlm.x hl.sl.1 hlv.l hlv.x ht (fun _ => by
  rw [mtx_length, mtx_len h0, txs_length]
  exact ⟨fun i t hi ht => by rw [mtx_mval hf' hi ht]; exact hf i hi t ht, fun i hi => by rw [txs_vval hb' hi]; exact hb i hi, hG⟩)
 rw [mtx_length, txs_length] at this
 refine this.mono ?_
 rintro e w' ⟨v, rfl, ⟨zs, e', h3, h4⟩, hB⟩
 refine ⟨_, rfl, ?_, hB⟩
 have hE : BErr (mtx n n f) (txs n b) 0 := .inr ⟨mtx_xerr h0 h0 hn hn hf', txs_verr h0 hn hb'⟩
 rcases h3 with ⟨h5, h6, _⟩ | ⟨_, h6, _⟩ | ⟨_, _, _, h6⟩
 ·exact absurd (h6.uniq hE) h5
 ·rw [mtx_length, mtx_len h0, txs_length] at h6; omega
 ·rw [mtx_length] at h6
  have h7 := h6.congr (fun i hi k hk => mtx_mval hf' hi hk) (fun i hi => txs_vval hb' hi)
  obtain ⟨a', c', rfl, hl', hc', hg'⟩ := h4
  rcases h7 with ⟨h8, _, _⟩ | ⟨_, x, h9, h10⟩
  ·exact absurd hF h8
  ·have hsm := hsol x h9
   rcases h10 with ⟨⟨i, hi, h11⟩, _⟩ | ⟨_, rfl, rfl⟩
   ·exact absurd (hsm i hi) h11
   ·rw [txs_length] at hc' ⊢
    exact ⟨x, a', c', h9, hsm, rfl, ⟨a', c', by rw [txs_length], hl'⟩, hc'⟩
theorem gpSolveC_calls {n : Nat} (f : Mx) (b : Nat → Rat) (S : Nat) (h0 : 0 < n) (hn : n ≤ 64) (hS : S ≤ 4000) (hf : ∀ i, i < n → ∀ k, k < n → Small S (f i k)) (hb : ∀ i, i < n → Small S (b i)) (hG : grw n S ≤ 1000000) (hF : (gj n f n).2 = n)
  (hsol : ∀ x, (∀ i, i < n → mapp n f x i = b i) → ∀ i, i < n → Small 4000 (x i)) (a b_ : Option Addr) (c d : Nat) (w : World) (hs : SM w a (mtx n n f)) (hl : Lit w (.slice b_ n d) (txs n b)) :
  Calls Tryz.prog 108 #[.slice a n c, .slice b_ n d] w (Ret fun v w' => SolC n f b v w' ∧ Below w.heap.size w w') := by
 have hf' : ∀ i, i < n → ∀ k, k < n → Small 4000 (f i k) := fun i hi k hk => small_mono (hf i hi k hk) hS
 have hb' : ∀ i, i < n → Small 4000 (b i) := fun i hi => small_mono (hb i hi) hS
 have hlm := mtx_lens (m := n) (n := n) (by omega) (by omega) hf'
 have hlv := txs_lenv (n := n) (by omega) hb'
 have := gSolve_calls (mtx n n f) (txs n b) S a b_ c d w hs hlm hl.sl.1 hlv (fun _ => by
  rw [mtx_length, mtx_len h0, txs_length]
  exact ⟨fun i t hi ht => by rw [mtx_mval hf' hi ht]; exact hf i hi t ht, fun i hi => by rw [txs_vval hb' hi]; exact hb i hi, hG⟩)
 rw [mtx_length, txs_length] at this
 refine this.mono ?_
 rintro e w' ⟨v, rfl, ⟨zs, e', h3, h4⟩, hB⟩
 refine ⟨_, rfl, ?_, hB⟩
 have hE : BErr (mtx n n f) (txs n b) 0 := .inr ⟨mtx_xerr h0 h0 hn hn hf', txs_verr h0 hn hb'⟩
 rcases h3 with ⟨h5, h6, _⟩ | ⟨_, h6, _⟩ | ⟨_, _, _, h6⟩
 ·exact absurd (h6.uniq hE) h5
 ·rw [mtx_length, mtx_len h0, txs_length] at h6; omega
 ·rw [mtx_length] at h6
  have h7 := h6.congr (fun i hi k hk => mtx_mval hf' hi hk) (fun i hi => txs_vval hb' hi)
  obtain ⟨a', c', rfl, hl', hc', hg'⟩ := h4
  rcases h7 with ⟨h8, _, _⟩ | ⟨_, x, h9, h10⟩
  ·exact absurd hF h8
  ·have hsm := hsol x h9
   rcases h10 with ⟨⟨i, hi, h11⟩, _⟩ | ⟨_, rfl, rfl⟩
   ·exact absurd (hsm i hi) h11
   ·rw [txs_length] at hc' ⊢
    exact ⟨x, a', c', h9, hsm, rfl, ⟨a', c', by rw [txs_length], hl'⟩, hc'⟩
theorem grw7 {n S : Nat} (hn : n ≤ 7) (hS : S ≤ 15) : grw n S ≤ 1000000 :=
 Nat.le_trans (grw_mono2 hS n) (grw_at hn (by decide))
theorem stsol_small {kind n : Int} (hs : strat kind n ≠ []) (hn : n ≤ 7) {b : Nat → Rat} (hb : ∀ i, i < n.toNat → Isn 13000000000000 (b i)) :
  ∀ x, (∀ i, i < n.toNat → mapp n.toNat (nrm (strat kind n)) x i = b i) → ∀ i, i < n.toNat → Small 150 (x i) := fun x hx => by
 have h1 := (strat_kind hs).1
 refine isol_small (B := 13000000000000) (by omega) (fun i k _ _ => (nrm_isn (B := 13) (strat_len7 hn) i k).mono (by omega)) hb (strat_reg hs) hx (fpow_lt (m := 7) (F := 5040) (by omega) (by omega) (fct7 (by omega)) (by decide)) (by omega)
theorem stsol_bits {kind n : Int} (hs : strat kind n ≠ []) (hn : n ≤ 7) {b : Nat → Rat} (hb : ∀ i, i < n.toNat → Isn 13 (b i)) :
  ∀ x, (∀ i, i < n.toNat → mapp n.toNat (nrm (strat kind n)) x i = b i) → ∀ i, i < n.toNat → Small 12 (x i) := fun x hx => by
 have h1 := (strat_kind hs).1
 refine isol_small (B := 13) (by omega) (fun i k _ _ => nrm_isn (B := 13) (strat_len7 hn) i k) hb (strat_reg hs) hx (fpow_lt (m := 7) (F := 5040) (by omega) (by omega) (fct7 (by omega)) (by decide)) (by omega)
end
end Go.Proofs.YtejlpdbiacmfcaaGreatDoor
