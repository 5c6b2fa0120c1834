/-
  Walks of package frac: Sign, Inv, Neg, Mul, Add.
  Conditions: numbers take fewer than 2^34 limbs.
-/
import Derived.Test.YtejlpdbiacmfcaaGreatDoorYSs
set_option linter.unusedSimpArgs false
set_option linter.unusedVariables false
set_option maxHeartbeats 1000000
namespace Go.Proofs.YtejlpdbiacmfcaaGreatDoor
open Go Go.Proofs Go.RowKit Go.Lib

theorem finv_calls (p : Rat) (hp : p ≠ 0) (v : Value) (w : World) (h : FQ w v p) : Calls Tryz.prog 152 #[v] w (Ret fun v' w' => FQ w' v' p⁻¹ ∧ Below w.heap.size w w') := by
 obtain ⟨an, cn, ad, cd, rfl, h1, h2⟩ := h
 have hn : p.num.natAbs ≠ 0 := fun h => hp (q_num_zero.1 (by omega))
 refine enter Tryz.func152 rfl Tryz.ntmps152 (Nat.le_of_ble_eq_true rfl) ?_
 refine dT rfl ?_
 refine bx rfl rfl rfl rfl ?_
 intro b1 wa hb1 hsa hk1 hga
 refine al U rfl rfl rfl rfl ?_
 intro b2 w0 hb2 hs0 hk2 hg0
 have hk1 := hk1.keep hg0 (by simp)
 have hB0 : Below w.heap.size w w0 := ((Below.refl _ _).grown hga (Nat.le_refl _) (fun k e => by cases e)).grown hg0 (by omega) (fun k e => by cases e)
 refine dT rfl ?_
 refine ld U rfl rfl rfl rfl ((hk1).cell rfl) ?_
 refine dT rfl ?_
 refine ld U rfl rfl rfl rfl ((hk1).cell rfl) ?_
 refine dT rfl ?_
 refine ld U rfl rfl rfl rfl ((hk1).cell rfl) ?_
 refine dT rfl ?_
 refine st U rfl rfl rfl rfl rfl rfl rfl rfl rfl rfl (hk2) ?_
 intro w1 hk2' hg1 hs1
 refine dT rfl ?_
 refine retS Tryz.results152 (vs := [_]) ⟨⟨_, rfl, run_load_agg ag_frac hk2' rfl⟩, trivial⟩ ⟨_, rfl, ?_, hB0.grown hg1 hB0.size (fun k e => by cases e; omega)⟩
 rw [mkq_inv hp]
 refine fv_fq hn ?_
 have hg : Nat.gcd p.den p.num.natAbs = 1 := by rw [Nat.gcd_comm]; exact p.reduced
 rw [hg, Nat.div_one, Nat.div_one, decide_eq_true p.den_nz, Bool.and_true]
 exact ⟨ad, cd, an, cn, rfl, (h2.below hB0).past hk2 ni0 hg1, (h1.below hB0).past hk2 ni0 hg1⟩

theorem fsign_calls (p : Rat) (v : Value) (w : World) (h : FQ w v p) : Calls Tryz.prog 151 #[v] w (Ret fun v' w' => v' = .int .i64 (if p = 0 then 0 else if p.num < 0 then -1 else 1) ∧ Below w.heap.size w w') := by
 obtain ⟨an, cn, ad, cd, rfl, h1, h2⟩ := h
 refine enter Tryz.func151 rfl Tryz.ntmps151 (Nat.le_of_ble_eq_true rfl) ?_
 refine dT rfl ?_
 refine bx rfl rfl rfl rfl ?_
 intro b1 wa hb1 hsa hk1 hga
 have hB0 : Below w.heap.size w wa := (Below.refl _ _).grown hga (Nat.le_refl _) (fun k e => by cases e)
 refine dT rfl ?_
 refine ld U rfl rfl rfl rfl ((hk1).cell rfl) ?_
 refine dT rfl ?_
 refine call (f := 125) rfl rfl cb125 (zero_calls (lim p.num.natAbs) an cn wa) ?_
 rintro v w1 ⟨rfl, rfl⟩
 refine ⟨_, rfl, ?_⟩
 by_cases hz : p = 0
 ·rw [decide_eq_true (lim_eq_nil.2 (by rw [q_num_zero.2 hz]; rfl))]
  refine dT rfl ?_
  exact ret Tryz.results151 rfl ⟨_, rfl, by rw [if_pos hz]; rfl, hB0⟩
 ·rw [decide_eq_false (fun h => hz (q_num_zero.1 (by have := lim_eq_nil.1 h; omega)))]
  refine dT rfl ?_
  refine ld U rfl rfl rfl rfl ((hk1).cell rfl) ?_
  by_cases hn : p.num < 0
  ·rw [decide_eq_true hn]
   refine dT rfl ?_
   exact ret Tryz.results151 rfl ⟨_, rfl, by rw [if_neg hz, if_pos hn]; rfl, hB0⟩
  ·rw [decide_eq_false hn]
   refine dT rfl ?_
   exact ret Tryz.results151 rfl ⟨_, rfl, by rw [if_neg hz, if_neg hn]; rfl, hB0⟩

theorem fneg_calls (p : Rat) (v : Value) (w : World) (h : FQ w v p) : Calls Tryz.prog 154 #[v] w (Ret fun v' w' => FQ w' v' (-p) ∧ Below w.heap.size w w') := by
 obtain ⟨an, cn, ad, cd, rfl, h1, h2⟩ := h
 by_cases hm : p.num < 0
 ·rw [decide_eq_true hm]
  refine enter Tryz.func154 rfl Tryz.ntmps154 (Nat.le_of_ble_eq_true rfl) ?_
  refine dT rfl ?_
  refine bx rfl rfl rfl rfl ?_
  intro b1 wa hb1 hsa hk1 hga
  refine al U rfl rfl rfl rfl ?_
  intro b2 w0 hb2 hs0 hk2 hg0
  have hk1 := hk1.keep hg0 (by simp)
  have hB0 : Below w.heap.size w w0 := ((Below.refl _ _).grown hga (Nat.le_refl _) (fun k e => by cases e)).grown hg0 (by omega) (fun k e => by cases e)
  refine dT rfl ?_
  refine dwn 14 (fun W => Bk W b1 76 [.bool true, .slice an (lim p.num.natAbs).length cn, .slice ad (lim p.den).length cd]) hmo ?_
  intro w1 hh1 hg1
  have hB1' : Below w0.heap.size w0 w1 := (Below.refl _ _).grown hg1 (Nat.le_refl _) (fun k e => by cases e)
  have hB1 := bl_tr hB0 hB1' hB0.size
  have hk1 := hk1.below hB1' hk1.lt
  have hk2 := hk2.below hB1' hk2.lt
  refine dq U [0,1,2,3,4,5,6,7,8,9,10,11,12,13] [(1, .bool true), (10, .slice an (lim p.num.natAbs).length cn), (12, .slice ad (lim p.den).length cd)] (by kernel_rfl) rfl rfl hk1 (by simp only [AllP, InR, List.nil_append, List.cons_append]; (repeat' apply And.intro); all_goals first | exact True.intro | omega | exact fun w h => run_load_cell U rfl (h.cell rfl)) ?_
  refine d1 rfl rfl (fun _ => hk1) ?_
  refine st U rfl rfl rfl rfl rfl rfl rfl rfl rfl rfl (hk2) ?_
  intro w2 hk2' hg2 hs2
  refine d2 ?_; refine dend rfl (fun h => by cases h) ?_
  refine dT rfl ?_
  refine retS Tryz.results154 (vs := [_]) ⟨⟨_, rfl, run_load_agg ag_frac hk2' rfl⟩, trivial⟩ ⟨_, rfl, ?_, hB1.grown hg2 hB1.size (fun k e => by cases e; omega)⟩
  have hne : decide ((-p).num < 0) = false := by rw [Rat.neg_num]; exact decide_eq_false (by omega)
  unfold FQ
  rw [hne, Rat.neg_num, Rat.neg_den, Int.natAbs_neg]
  exact ⟨an, cn, ad, cd, rfl, (h1.below hB1).past hk2 ni0 hg2, (h2.below hB1).past hk2 ni0 hg2⟩
 ·rw [decide_eq_false hm]
  refine enter Tryz.func154 rfl Tryz.ntmps154 (Nat.le_of_ble_eq_true rfl) ?_
  refine dT rfl ?_
  refine bx rfl rfl rfl rfl ?_
  intro b1 wa hb1 hsa hk1 hga
  refine al U rfl rfl rfl rfl ?_
  intro b2 w0 hb2 hs0 hk2 hg0
  have hk1 := hk1.keep hg0 (by simp)
  have hB0 : Below w.heap.size w w0 := ((Below.refl _ _).grown hga (Nat.le_refl _) (fun k e => by cases e)).grown hg0 (by omega) (fun k e => by cases e)
  refine dT rfl ?_
  refine dwn 14 (fun W => Bk W b1 76 [.bool false, .slice an (lim p.num.natAbs).length cn, .slice ad (lim p.den).length cd]) hmo ?_
  intro w1 hh1 hg1
  have hB1' : Below w0.heap.size w0 w1 := (Below.refl _ _).grown hg1 (Nat.le_refl _) (fun k e => by cases e)
  have hB1 := bl_tr hB0 hB1' hB0.size
  have hk1 := hk1.below hB1' hk1.lt
  have hk2 := hk2.below hB1' hk2.lt
  refine dq U [0,1,2,3,4,5,9,10,11,12] [(1, .bool false), (5, .slice an (lim p.num.natAbs).length cn), (10, .slice an (lim p.num.natAbs).length cn), (12, .slice ad (lim p.den).length cd)] (by kernel_rfl) rfl rfl hk1 (by simp only [AllP, InR, List.nil_append, List.cons_append]; (repeat' apply And.intro); all_goals first | exact True.intro | omega | exact fun w h => run_load_cell U rfl (h.cell rfl)) ?_
  refine d1 rfl rfl (fun _ => hk1) ?_
  refine call (f := 125) rfl rfl cb125 (zero_calls (lim p.num.natAbs) an cn w1) ?_
  rintro v w1' ⟨rfl, rfl⟩
  refine ⟨_, rfl, d2 ?_⟩
  by_cases hz : lim p.num.natAbs = []
  ·rw [decide_eq_true hz]
   have hn : p.num.natAbs = 0 := lim_eq_nil.1 hz
   refine dqS [7,8,13] [] rfl rfl hk1 ?_
   refine d1 rfl rfl (fun _ => hk1) ?_
   refine st U rfl rfl rfl rfl rfl rfl rfl rfl rfl rfl (hk2) ?_
   intro w2 hk2' hg2 hs2
   refine d2 ?_; refine dend rfl (fun h => by cases h) ?_
   refine dT rfl ?_
   refine retS Tryz.results154 (vs := [_]) ⟨⟨_, rfl, run_load_agg ag_frac hk2' rfl⟩, trivial⟩ ⟨_, rfl, ?_, hB1.grown hg2 hB1.size (fun k e => by cases e; omega)⟩
   have hne : decide ((-p).num < 0) = false := by rw [Rat.neg_num]; exact decide_eq_false (by omega)
   unfold FQ
   rw [hne, Rat.neg_num, Rat.neg_den, Int.natAbs_neg]
   exact ⟨an, cn, ad, cd, rfl, (h1.below hB1).past hk2 ni0 hg2, (h2.below hB1).past hk2 ni0 hg2⟩
  ·rw [decide_eq_false hz]
   have hn : p.num.natAbs ≠ 0 := fun h => hz (lim_eq_nil.2 h)
   refine dqS [7,8,13] [] rfl rfl hk1 ?_
   refine d1 rfl rfl (fun _ => hk1) ?_
   refine st U rfl rfl rfl rfl rfl rfl rfl rfl rfl rfl (hk2) ?_
   intro w2 hk2' hg2 hs2
   refine d2 ?_; refine dend rfl (fun h => by cases h) ?_
   refine dT rfl ?_
   refine retS Tryz.results154 (vs := [_]) ⟨⟨_, rfl, run_load_agg ag_frac hk2' rfl⟩, trivial⟩ ⟨_, rfl, ?_, hB1.grown hg2 hB1.size (fun k e => by cases e; omega)⟩
   have hne : decide ((-p).num < 0) = true := by rw [Rat.neg_num]; exact decide_eq_true (by omega)
   unfold FQ
   rw [hne, Rat.neg_num, Rat.neg_den, Int.natAbs_neg]
   exact ⟨an, cn, ad, cd, rfl, (h1.below hB1).past hk2 ni0 hg2, (h2.below hB1).past hk2 ni0 hg2⟩

theorem fmul_calls (p q : Rat) (K L : Nat) (hK : K ≤ 1000000000) (hL : L ≤ 1000000000) (v1 v2 : Value) (w : World) (h1 : FQ w v1 p) (h2 : FQ w v2 q) (hs1 : Small K p) (hs2 : Small L q) :
  Calls Tryz.prog 153 #[v1, v2] w (Ret fun v w' => FQ w' v (p * q) ∧ Below w.heap.size w w') := by
 obtain ⟨an, cn, ad, cd, rfl, hn1, hd1⟩ := h1
 obtain ⟨bn, en, bd, ed, rfl, hn2, hd2⟩ := h2
 obtain ⟨l1, l2⟩ := hs1.lim
 obtain ⟨l3, l4⟩ := hs2.lim
 have lnn := lim_len_mul p.num.natAbs q.num.natAbs
 have ldd := lim_len_mul p.den q.den
 have hp := mkq_self p
 have hq2 := mkq_self q
 generalize decide (p.num < 0) = m1 at *
 generalize decide (q.num < 0) = m2 at *
 have heq : p * q = mkq (m1 != m2) (p.num.natAbs * q.num.natAbs) (p.den * q.den) := by rw [← mkq_mul, hp, hq2]
 refine enter Tryz.func153 rfl Tryz.ntmps153 (Nat.le_of_ble_eq_true rfl) ?_
 refine dT rfl ?_
 refine bx rfl rfl rfl rfl ?_
 intro b2 wa hb2 hsa hk2 hga
 refine bx rfl rfl rfl rfl ?_
 intro b3 wb hb3 hsb hk3 hgb
 refine al U rfl rfl rfl rfl ?_
 intro b4 w0 hb4 hs0 hk4 hg0
 have hk2 := (hk2.keep hgb (by simp)).keep hg0 (by simp)
 have hk3 := hk3.keep hg0 (by simp)
 have hB0 : Below w.heap.size w w0 := (((Below.refl _ _).grown hga (Nat.le_refl _) (fun k e => by cases e)).grown hgb (by omega) (fun k e => by cases e)).grown hg0 (by omega) (fun k e => by cases e)
 refine dT rfl ?_
 refine dwn 16 (fun W => Bk W b2 76 [.bool m1, .slice an (lim p.num.natAbs).length cn, .slice ad (lim p.den).length cd] ∧ Bk W b3 76 [.bool m2, .slice bn (lim q.num.natAbs).length en, .slice bd (lim q.den).length ed]) hmo ?_
 intro w1 hh1 hg1
 have hB1' : Below w0.heap.size w0 w1 := (Below.refl _ _).grown hg1 (Nat.le_refl _) (fun k e => by cases e)
 have hB1 := bl_tr hB0 hB1' hB0.size
 have hk2 := hk2.below hB1' hk2.lt
 have hk3 := hk3.below hB1' hk3.lt
 have hk4 := hk4.below hB1' hk4.lt
 refine dq U [0,1,2,3,4,5,6,7,8,10,11,12,13] [(1, .bool m1), (3, .bool m2), (6, .slice an (lim p.num.natAbs).length cn), (8, .slice bn (lim q.num.natAbs).length en), (11, .slice ad (lim p.den).length cd), (13, .slice bd (lim q.den).length ed)] (by kernel_rfl) rfl rfl ⟨hk2, hk3⟩ (by simp only [AllP, InR, List.nil_append, List.cons_append]; (repeat' apply And.intro); all_goals first | exact True.intro | omega | exact fun w h => run_load_cell U rfl (h.1.cell rfl) | exact fun w h => run_load_cell U rfl (h.2.cell rfl)) ?_
 refine d1 rfl rfl (fun _ => ⟨hk2, hk3⟩) ?_
 refine call (f := 91) rfl rfl cb91 (mul_calls _ _ an bn cn en w1 (hn1.below hB1) (hn2.below hB1) (by omega) (by omega)) ?_
 rintro v w3 ⟨a3, c3, rfl, ho3, hB3⟩
 refine ⟨_, rfl, d2 ?_⟩
 have hB3' := bl_tr hB1 hB3 hB1.size
 have hk2 := hk2.below hB3 hk2.lt
 have hk3 := hk3.below hB3 hk3.lt
 have hk4 := hk4.below hB3 hk4.lt
 refine d1 rfl rfl (fun _ => ⟨hk2, hk3⟩) ?_
 refine call (f := 91) rfl rfl cb91 (mul_calls _ _ ad bd cd ed w3 (hd1.below hB3') (hd2.below hB3') (by omega) (by omega)) ?_
 rintro v w5 ⟨a5, c5, rfl, ho5, hB5⟩
 refine ⟨_, rfl, d2 ?_⟩
 have hB5' := bl_tr hB3' hB5 hB3'.size
 have hk2 := hk2.below hB5 hk2.lt
 have hk3 := hk3.below hB5 hk3.lt
 have hk4 := hk4.below hB5 hk4.lt
 refine d1 rfl rfl (fun _ => ⟨hk2, hk3⟩) ?_
 refine call (f := 93) rfl rfl cb93 (frmake_calls (m1 != m2) _ _ (Nat.mul_ne_zero p.den_nz q.den_nz) a3 a5 c3 c5 w5 ((own_rd ho3).below hB5) (own_rd ho5) (by omega) (by omega)) ?_
 rintro v w8 ⟨hres, hB8⟩
 obtain ⟨a8, c8, a9, c9, rfl, hx8, hx9⟩ := hres
 refine ⟨_, rfl, d2 ?_⟩
 have hB8' := bl_tr hB5' hB8 hB5'.size
 have hk2 := hk2.below hB8 hk2.lt
 have hk3 := hk3.below hB8 hk3.lt
 have hk4 := hk4.below hB8 hk4.lt
 refine d1 rfl rfl (fun _ => ⟨hk2, hk3⟩) ?_
 refine st U rfl rfl rfl rfl rfl rfl rfl rfl rfl rfl (hk4) ?_
 intro w9 hk9 hg9 hs9
 refine d2 ?_; refine dend rfl (fun h => by cases h) ?_
 refine dT rfl ?_
 refine retS Tryz.results153 (vs := [_]) ⟨⟨_, rfl, run_load_agg ag_frac hk9 rfl⟩, trivial⟩ ⟨_, rfl, ?_, hB8'.grown hg9 hB8'.size (fun k e => by cases e; omega)⟩
 rw [heq]
 exact fv_fq (Nat.mul_ne_zero p.den_nz q.den_nz) ⟨a8, c8, a9, c9, rfl, hx8.past hk4 ni0 hg9, hx9.past hk4 ni0 hg9⟩


theorem fadd_calls (p q : Rat) (K : Nat) (hK : K ≤ 1000000) (v1 v2 : Value) (w : World) (h1 : FQ w v1 p) (h2 : FQ w v2 q) (hs1 : Small K p) (hs2 : Small K q) :
  Calls Tryz.prog 53 #[v1, v2] w (Ret fun v w' => FQ w' v (p + q) ∧ Below w.heap.size w w') := by
 obtain ⟨an, cn, ad, cd, rfl, hn1, hd1⟩ := h1
 obtain ⟨bn, en, bd, ed, rfl, hn2, hd2⟩ := h2
 obtain ⟨l1, l2⟩ := hs1.lim
 obtain ⟨l3, l4⟩ := hs2.lim
 have lx := lim_len_mul p.num.natAbs q.den
 have ly := lim_len_mul q.num.natAbs p.den
 have lpq := lim_len_mul p.den q.den
 have hp := mkq_self p
 have hq2 := mkq_self q
 generalize decide (p.num < 0) = m1 at *
 generalize decide (q.num < 0) = m2 at *
 refine enter Tryz.func53 rfl Tryz.ntmps53 (Nat.le_of_ble_eq_true rfl) ?_
 refine dT rfl ?_
 refine bx rfl rfl rfl rfl ?_
 intro b2 wa hb2 hsa hk2 hga
 refine bx rfl rfl rfl rfl ?_
 intro b3 wb hb3 hsb hk3 hgb
 refine al U rfl rfl rfl rfl ?_
 intro b4 w0 hb4 hs0 hk4 hg0
 have hk2 := (hk2.keep hgb (by simp)).keep hg0 (by simp)
 have hk3 := hk3.keep hg0 (by simp)
 have hB0 : Below w.heap.size w w0 := (((Below.refl _ _).grown hga (Nat.le_refl _) (fun k e => by cases e)).grown hgb (by omega) (fun k e => by cases e)).grown hg0 (by omega) (fun k e => by cases e)
 refine dT rfl ?_
 refine dwn 11 (fun W => W.cell? ⟨b2, 1, none⟩ = some (.slice an (lim p.num.natAbs).length cn) ∧ W.cell? ⟨b2, 2, none⟩ = some (.slice ad (lim p.den).length cd) ∧ W.cell? ⟨b3, 1, none⟩ = some (.slice bn (lim q.num.natAbs).length en) ∧ W.cell? ⟨b3, 2, none⟩ = some (.slice bd (lim q.den).length ed)) hmo ?_
 intro w1 hh1 hg1
 have hB1' : Below w0.heap.size w0 w1 := (Below.refl _ _).grown hg1 (Nat.le_refl _) (fun k e => by cases e)
 have hB1 := bl_tr hB0 hB1' hB0.size
 have hk2 := hk2.below hB1' hk2.lt
 have hk3 := hk3.below hB1' hk3.lt
 have hk4 := hk4.below hB1' hk4.lt
 have hC1 : w1.cell? ⟨b2, 1, none⟩ = some (.slice an (lim p.num.natAbs).length cn) ∧ w1.cell? ⟨b2, 2, none⟩ = some (.slice ad (lim p.den).length cd) ∧ w1.cell? ⟨b3, 1, none⟩ = some (.slice bn (lim q.num.natAbs).length en) ∧ w1.cell? ⟨b3, 2, none⟩ = some (.slice bd (lim q.den).length ed) := ⟨hk2.cell rfl, hk2.cell rfl, hk3.cell rfl, hk3.cell rfl⟩
 refine dqS [0,1,2,3,5,6,7,8] [(1, .slice an (lim p.num.natAbs).length cn), (3, .slice bd (lim q.den).length ed), (6, .slice bn (lim q.num.natAbs).length en), (8, .slice ad (lim p.den).length cd)] rfl rfl hC1 ?_
 refine d1 rfl rfl (fun _ => hC1) ?_
 refine call (f := 91) rfl rfl cb91 (mul_calls _ _ an bd cn ed w1 (hn1.below hB1) (hd2.below hB1) (by omega) (by omega)) ?_
 rintro v w3 ⟨a3, c3, rfl, ho3, hB3⟩
 refine ⟨_, rfl, d2 ?_⟩
 have hB3' := bl_tr hB1 hB3 hB1.size
 have hk2 := hk2.below hB3 hk2.lt
 have hk3 := hk3.below hB3 hk3.lt
 have hk4 := hk4.below hB3 hk4.lt
 refine d1 rfl rfl (fun _ => ⟨hk2.cell rfl, hk2.cell rfl, hk3.cell rfl, hk3.cell rfl⟩) ?_
 refine call (f := 91) rfl rfl cb91 (mul_calls _ _ bn ad en cd w3 (hn2.below hB3') (hd1.below hB3') (by omega) (by omega)) ?_
 rintro v w4 ⟨a4, c4, rfl, ho4, hB4⟩
 refine ⟨_, rfl, d2 ?_⟩
 have hB4' := bl_tr hB3' hB4 hB3'.size
 have hk2 := hk2.below hB4 hk2.lt
 have hk3 := hk3.below hB4 hk3.lt
 have hk4 := hk4.below hB4 hk4.lt
 have hC4 : w4.cell? ⟨b2, 1, none⟩ = some (.slice an (lim p.num.natAbs).length cn) ∧ w4.cell? ⟨b2, 2, none⟩ = some (.slice ad (lim p.den).length cd) ∧ w4.cell? ⟨b3, 1, none⟩ = some (.slice bn (lim q.num.natAbs).length en) ∧ w4.cell? ⟨b3, 2, none⟩ = some (.slice bd (lim q.den).length ed) := ⟨hk2.cell rfl, hk2.cell rfl, hk3.cell rfl, hk3.cell rfl⟩
 refine dqS [10] [] rfl rfl hC4 ?_
 refine d1 rfl rfl (fun _ => hC4) ?_
 refine dT rfl ?_
 refine d3 ?_; refine dend rfl (fun h => by cases h) ?_
 refine dT rfl ?_
 refine ld U rfl rfl rfl rfl ((hk2).cell rfl) ?_
 refine dT rfl ?_
 refine ld U rfl rfl rfl rfl ((hk3).cell rfl) ?_
 refine dT rfl ?_
 refine call (f := 91) rfl rfl cb91 (mul_calls _ _ ad bd cd ed w4 (hd1.below hB4') (hd2.below hB4') (by omega) (by omega)) ?_
 rintro v w5 ⟨a5, c5, rfl, ho5, hB5⟩
 refine ⟨_, rfl, ?_⟩
 have hB5' := bl_tr hB4' hB5 hB4'.size
 have hk2 := hk2.below hB5 hk2.lt
 have hk3 := hk3.below hB5 hk3.lt
 have hk4 := hk4.below hB5 hk4.lt
 have hr3 := ((own_rd ho3).below hB4).below hB5
 have hr4 := (own_rd ho4).below hB5
 have hr5 := own_rd ho5
 refine dT rfl ?_
 refine call (f := 92) rfl rfl cb92 (cmp_calls _ _ a3 a4 c3 c4 w5 hr3 hr4 (by omega) (by omega)) ?_
 rintro v w6 ⟨rfl, hB6⟩
 refine ⟨_, rfl, ?_⟩
 have hr3 := hr3.below hB6
 have hr4 := hr4.below hB6
 have hr5 := hr5.below hB6
 have hk2 := hk2.below hB6 hk2.lt
 have hk3 := hk3.below hB6 hk3.lt
 have hk4 := hk4.below hB6 hk4.lt
 have hB6' := bl_tr hB5' hB6 hB5'.size
 refine dT rfl ?_
 refine ld U rfl rfl rfl rfl ((hk2).cell rfl) ?_
 refine dT rfl ?_
 refine ld U rfl rfl rfl rfl ((hk3).cell rfl) ?_
 cases m1 with
 | false =>
  cases m2 with
  | false =>
   refine eqlB (c := true) U rfl rfl rfl rfl rfl rfl ?_
   refine dT rfl ?_
   have heq : p + q = mkq false (p.num.natAbs * q.den + q.num.natAbs * p.den) (p.den * q.den) := by
    rw [← mkq_add_same _ _ _ _ _ p.den_nz q.den_nz, hp, hq2]
   have hla := lim_len_add (p.num.natAbs * q.den) (q.num.natAbs * p.den)
   refine dwn 7 (fun W => W.cell? ⟨b2, 0, none⟩ = some (.bool false)) hmo ?_
   intro wD hhD hgD
   have hkD := heap_bk hhD hk2
   have hBDs : Below w6.heap.size w6 wD := (Below.refl _ _).grown hgD (Nat.le_refl _) (fun k e => by cases e)
   have hBD := bl_tr hB6' hBDs hB6'.size
   have hr3 := hr3.below hBDs
   have hr4 := hr4.below hBDs
   have hr5 := hr5.below hBDs
   have hk4 := hk4.below hBDs hk4.lt
   refine dqS [0,1,2,3,5] [(1, .bool false)] rfl rfl (hkD.cell rfl) ?_
   refine d1 rfl rfl (fun _ => hkD.cell rfl) ?_
   refine call (f := 94) rfl rfl cb94 (add_calls _ _ a3 a4 c3 c4 wD hr3 hr4 (by omega) (by omega)) ?_
   rintro v w7 ⟨a7, c7, rfl, ho7, hB7⟩
   refine ⟨_, rfl, d2 ?_⟩
   have hr7 := own_rd ho7
   have hB7' := bl_tr hBD hB7 hBD.size
   have hk47 := hk4.below hB7 hk4.lt
   have hkx7 := hkD.below hB7 hkD.lt
   refine d1 rfl rfl (fun _ => hkx7.cell rfl) ?_
   refine call (f := 93) rfl rfl cb93 (frmake_calls false (p.num.natAbs * q.den + q.num.natAbs * p.den) (p.den * q.den) (Nat.mul_ne_zero p.den_nz q.den_nz) a7 a5 c7 c5 w7 hr7 (hr5.below hB7) (by omega) (by omega)) ?_
   rintro v w8 ⟨hres, hB8⟩
   obtain ⟨a8, c8, a9, c9, rfl, hx8, hx9⟩ := hres
   refine ⟨_, rfl, d2 ?_⟩
   have hB8' := bl_tr hB7' hB8 hB7'.size
   have hk48 := hk47.below hB8 hk47.lt
   have hkx8 := hkx7.below hB8 hkx7.lt
   refine d1 rfl rfl (fun _ => hkx8.cell rfl) ?_
   refine st U rfl rfl rfl rfl rfl rfl rfl rfl rfl rfl (hk48) ?_
   intro w9 hk9 hg9 hs9
   refine d2 ?_; refine dend rfl (fun h => by cases h) ?_
   refine dT rfl ?_
   refine retS Tryz.results53 (vs := [_]) ⟨⟨_, rfl, run_load_agg ag_frac hk9 rfl⟩, trivial⟩ ⟨_, rfl, ?_, hB8'.grown hg9 hB8'.size (fun k e => by cases e; omega)⟩
   rw [heq]
   exact fv_fq (Nat.mul_ne_zero p.den_nz q.den_nz) ⟨a8, c8, a9, c9, rfl, hx8.past hk48 ni0 hg9, hx9.past hk48 ni0 hg9⟩
  | true =>
   refine eqlB (c := false) U rfl rfl rfl rfl rfl rfl ?_
   refine dT rfl ?_
   have hlm1 := lim_len_mono (show p.num.natAbs * q.den - q.num.natAbs * p.den ≤ p.num.natAbs * q.den by omega)
   have hlm2 := lim_len_mono (show q.num.natAbs * p.den - p.num.natAbs * q.den ≤ q.num.natAbs * p.den by omega)
   refine dT rfl ?_
   refine cS rfl rfl rfl rfl (fun hq => ?_) (fun hq => ?_)
   ·have hlt := cmpN_neg.1 hq
    have heq : p + q = mkq true (q.num.natAbs * p.den - p.num.natAbs * q.den) (p.den * q.den) := by
     have h : mkq false p.num.natAbs p.den + mkq true q.num.natAbs q.den = mkq true (q.num.natAbs * p.den - p.num.natAbs * q.den) (p.den * q.den) := mkq_add_lt false _ _ _ _ p.den_nz q.den_nz (Nat.le_of_lt hlt)
     rw [hp, hq2] at h
     exact h
    refine dT rfl ?_
    refine dwn 7 (fun W => W.cell? ⟨b3, 0, none⟩ = some (.bool true)) hmo ?_
    intro wD hhD hgD
    have hkD := heap_bk hhD hk3
    have hBDs : Below w6.heap.size w6 wD := (Below.refl _ _).grown hgD (Nat.le_refl _) (fun k e => by cases e)
    have hBD := bl_tr hB6' hBDs hB6'.size
    have hr3 := hr3.below hBDs
    have hr4 := hr4.below hBDs
    have hr5 := hr5.below hBDs
    have hk4 := hk4.below hBDs hk4.lt
    refine dqS [0,1,2,3,5] [(1, .bool true)] rfl rfl (hkD.cell rfl) ?_
    refine d1 rfl rfl (fun _ => hkD.cell rfl) ?_
    refine call (f := 95) rfl rfl cb95 (sub_calls _ _ (Nat.le_of_lt hlt) a4 a3 c4 c3 wD hr4 hr3 (by omega)) ?_
    rintro v w7 ⟨a7, c7, rfl, ho7, hB7⟩
    refine ⟨_, rfl, d2 ?_⟩
    have hr7 := own_rd ho7
    have hB7' := bl_tr hBD hB7 hBD.size
    have hk47 := hk4.below hB7 hk4.lt
    have hkx7 := hkD.below hB7 hkD.lt
    refine d1 rfl rfl (fun _ => hkx7.cell rfl) ?_
    refine call (f := 93) rfl rfl cb93 (frmake_calls true (q.num.natAbs * p.den - p.num.natAbs * q.den) (p.den * q.den) (Nat.mul_ne_zero p.den_nz q.den_nz) a7 a5 c7 c5 w7 hr7 (hr5.below hB7) (by omega) (by omega)) ?_
    rintro v w8 ⟨hres, hB8⟩
    obtain ⟨a8, c8, a9, c9, rfl, hx8, hx9⟩ := hres
    refine ⟨_, rfl, d2 ?_⟩
    have hB8' := bl_tr hB7' hB8 hB7'.size
    have hk48 := hk47.below hB8 hk47.lt
    have hkx8 := hkx7.below hB8 hkx7.lt
    refine d1 rfl rfl (fun _ => hkx8.cell rfl) ?_
    refine st U rfl rfl rfl rfl rfl rfl rfl rfl rfl rfl (hk48) ?_
    intro w9 hk9 hg9 hs9
    refine d2 ?_; refine dend rfl (fun h => by cases h) ?_
    refine dT rfl ?_
    refine retS Tryz.results53 (vs := [_]) ⟨⟨_, rfl, run_load_agg ag_frac hk9 rfl⟩, trivial⟩ ⟨_, rfl, ?_, hB8'.grown hg9 hB8'.size (fun k e => by cases e; omega)⟩
    rw [heq]
    exact fv_fq (Nat.mul_ne_zero p.den_nz q.den_nz) ⟨a8, c8, a9, c9, rfl, hx8.past hk48 ni0 hg9, hx9.past hk48 ni0 hg9⟩
   ·have hge : q.num.natAbs * p.den ≤ p.num.natAbs * q.den := by
     rcases Nat.lt_or_ge (p.num.natAbs * q.den) (q.num.natAbs * p.den) with h | h
     ·exact absurd (cmpN_neg.2 h) hq
     ·exact h
    have heq : p + q = mkq false (p.num.natAbs * q.den - q.num.natAbs * p.den) (p.den * q.den) := by
     have h : mkq false p.num.natAbs p.den + mkq true q.num.natAbs q.den = mkq false (p.num.natAbs * q.den - q.num.natAbs * p.den) (p.den * q.den) := mkq_add_ge false _ _ _ _ p.den_nz q.den_nz hge
     rw [hp, hq2] at h
     exact h
    refine dT rfl ?_
    refine dwn 7 (fun W => W.cell? ⟨b2, 0, none⟩ = some (.bool false)) hmo ?_
    intro wD hhD hgD
    have hkD := heap_bk hhD hk2
    have hBDs : Below w6.heap.size w6 wD := (Below.refl _ _).grown hgD (Nat.le_refl _) (fun k e => by cases e)
    have hBD := bl_tr hB6' hBDs hB6'.size
    have hr3 := hr3.below hBDs
    have hr4 := hr4.below hBDs
    have hr5 := hr5.below hBDs
    have hk4 := hk4.below hBDs hk4.lt
    refine dqS [0,1,2,3,5] [(1, .bool false)] rfl rfl (hkD.cell rfl) ?_
    refine d1 rfl rfl (fun _ => hkD.cell rfl) ?_
    refine call (f := 95) rfl rfl cb95 (sub_calls _ _ hge a3 a4 c3 c4 wD hr3 hr4 (by omega)) ?_
    rintro v w7 ⟨a7, c7, rfl, ho7, hB7⟩
    refine ⟨_, rfl, d2 ?_⟩
    have hr7 := own_rd ho7
    have hB7' := bl_tr hBD hB7 hBD.size
    have hk47 := hk4.below hB7 hk4.lt
    have hkx7 := hkD.below hB7 hkD.lt
    refine d1 rfl rfl (fun _ => hkx7.cell rfl) ?_
    refine call (f := 93) rfl rfl cb93 (frmake_calls false (p.num.natAbs * q.den - q.num.natAbs * p.den) (p.den * q.den) (Nat.mul_ne_zero p.den_nz q.den_nz) a7 a5 c7 c5 w7 hr7 (hr5.below hB7) (by omega) (by omega)) ?_
    rintro v w8 ⟨hres, hB8⟩
    obtain ⟨a8, c8, a9, c9, rfl, hx8, hx9⟩ := hres
    refine ⟨_, rfl, d2 ?_⟩
    have hB8' := bl_tr hB7' hB8 hB7'.size
    have hk48 := hk47.below hB8 hk47.lt
    have hkx8 := hkx7.below hB8 hkx7.lt
    refine d1 rfl rfl (fun _ => hkx8.cell rfl) ?_
    refine st U rfl rfl rfl rfl rfl rfl rfl rfl rfl rfl (hk48) ?_
    intro w9 hk9 hg9 hs9
    refine d2 ?_; refine dend rfl (fun h => by cases h) ?_
    refine dT rfl ?_
    refine retS Tryz.results53 (vs := [_]) ⟨⟨_, rfl, run_load_agg ag_frac hk9 rfl⟩, trivial⟩ ⟨_, rfl, ?_, hB8'.grown hg9 hB8'.size (fun k e => by cases e; omega)⟩
    rw [heq]
    exact fv_fq (Nat.mul_ne_zero p.den_nz q.den_nz) ⟨a8, c8, a9, c9, rfl, hx8.past hk48 ni0 hg9, hx9.past hk48 ni0 hg9⟩
 | true =>
  cases m2 with
  | false =>
   refine eqlB (c := false) U rfl rfl rfl rfl rfl rfl ?_
   refine dT rfl ?_
   have hlm1 := lim_len_mono (show p.num.natAbs * q.den - q.num.natAbs * p.den ≤ p.num.natAbs * q.den by omega)
   have hlm2 := lim_len_mono (show q.num.natAbs * p.den - p.num.natAbs * q.den ≤ q.num.natAbs * p.den by omega)
   refine dT rfl ?_
   refine cS rfl rfl rfl rfl (fun hq => ?_) (fun hq => ?_)
   ·have hlt := cmpN_neg.1 hq
    have heq : p + q = mkq false (q.num.natAbs * p.den - p.num.natAbs * q.den) (p.den * q.den) := by
     have h : mkq true p.num.natAbs p.den + mkq false q.num.natAbs q.den = mkq false (q.num.natAbs * p.den - p.num.natAbs * q.den) (p.den * q.den) := mkq_add_lt true _ _ _ _ p.den_nz q.den_nz (Nat.le_of_lt hlt)
     rw [hp, hq2] at h
     exact h
    refine dT rfl ?_
    refine dwn 7 (fun W => W.cell? ⟨b3, 0, none⟩ = some (.bool false)) hmo ?_
    intro wD hhD hgD
    have hkD := heap_bk hhD hk3
    have hBDs : Below w6.heap.size w6 wD := (Below.refl _ _).grown hgD (Nat.le_refl _) (fun k e => by cases e)
    have hBD := bl_tr hB6' hBDs hB6'.size
    have hr3 := hr3.below hBDs
    have hr4 := hr4.below hBDs
    have hr5 := hr5.below hBDs
    have hk4 := hk4.below hBDs hk4.lt
    refine dqS [0,1,2,3,5] [(1, .bool false)] rfl rfl (hkD.cell rfl) ?_
    refine d1 rfl rfl (fun _ => hkD.cell rfl) ?_
    refine call (f := 95) rfl rfl cb95 (sub_calls _ _ (Nat.le_of_lt hlt) a4 a3 c4 c3 wD hr4 hr3 (by omega)) ?_
    rintro v w7 ⟨a7, c7, rfl, ho7, hB7⟩
    refine ⟨_, rfl, d2 ?_⟩
    have hr7 := own_rd ho7
    have hB7' := bl_tr hBD hB7 hBD.size
    have hk47 := hk4.below hB7 hk4.lt
    have hkx7 := hkD.below hB7 hkD.lt
    refine d1 rfl rfl (fun _ => hkx7.cell rfl) ?_
    refine call (f := 93) rfl rfl cb93 (frmake_calls false (q.num.natAbs * p.den - p.num.natAbs * q.den) (p.den * q.den) (Nat.mul_ne_zero p.den_nz q.den_nz) a7 a5 c7 c5 w7 hr7 (hr5.below hB7) (by omega) (by omega)) ?_
    rintro v w8 ⟨hres, hB8⟩
    obtain ⟨a8, c8, a9, c9, rfl, hx8, hx9⟩ := hres
    refine ⟨_, rfl, d2 ?_⟩
    have hB8' := bl_tr hB7' hB8 hB7'.size
    have hk48 := hk47.below hB8 hk47.lt
    have hkx8 := hkx7.below hB8 hkx7.lt
    refine d1 rfl rfl (fun _ => hkx8.cell rfl) ?_
    refine st U rfl rfl rfl rfl rfl rfl rfl rfl rfl rfl (hk48) ?_
    intro w9 hk9 hg9 hs9
    refine d2 ?_; refine dend rfl (fun h => by cases h) ?_
    refine dT rfl ?_
    refine retS Tryz.results53 (vs := [_]) ⟨⟨_, rfl, run_load_agg ag_frac hk9 rfl⟩, trivial⟩ ⟨_, rfl, ?_, hB8'.grown hg9 hB8'.size (fun k e => by cases e; omega)⟩
    rw [heq]
    exact fv_fq (Nat.mul_ne_zero p.den_nz q.den_nz) ⟨a8, c8, a9, c9, rfl, hx8.past hk48 ni0 hg9, hx9.past hk48 ni0 hg9⟩
   ·have hge : q.num.natAbs * p.den ≤ p.num.natAbs * q.den := by
     rcases Nat.lt_or_ge (p.num.natAbs * q.den) (q.num.natAbs * p.den) with h | h
     ·exact absurd (cmpN_neg.2 h) hq
     ·exact h
    have heq : p + q = mkq true (p.num.natAbs * q.den - q.num.natAbs * p.den) (p.den * q.den) := by
     have h : mkq true p.num.natAbs p.den + mkq false q.num.natAbs q.den = mkq true (p.num.natAbs * q.den - q.num.natAbs * p.den) (p.den * q.den) := mkq_add_ge true _ _ _ _ p.den_nz q.den_nz hge
     rw [hp, hq2] at h
     exact h
    refine dT rfl ?_
    refine dwn 7 (fun W => W.cell? ⟨b2, 0, none⟩ = some (.bool true)) hmo ?_
    intro wD hhD hgD
    have hkD := heap_bk hhD hk2
    have hBDs : Below w6.heap.size w6 wD := (Below.refl _ _).grown hgD (Nat.le_refl _) (fun k e => by cases e)
    have hBD := bl_tr hB6' hBDs hB6'.size
    have hr3 := hr3.below hBDs
    have hr4 := hr4.below hBDs
    have hr5 := hr5.below hBDs
    have hk4 := hk4.below hBDs hk4.lt
    refine dqS [0,1,2,3,5] [(1, .bool true)] rfl rfl (hkD.cell rfl) ?_
    refine d1 rfl rfl (fun _ => hkD.cell rfl) ?_
    refine call (f := 95) rfl rfl cb95 (sub_calls _ _ hge a3 a4 c3 c4 wD hr3 hr4 (by omega)) ?_
    rintro v w7 ⟨a7, c7, rfl, ho7, hB7⟩
    refine ⟨_, rfl, d2 ?_⟩
    have hr7 := own_rd ho7
    have hB7' := bl_tr hBD hB7 hBD.size
    have hk47 := hk4.below hB7 hk4.lt
    have hkx7 := hkD.below hB7 hkD.lt
    refine d1 rfl rfl (fun _ => hkx7.cell rfl) ?_
    refine call (f := 93) rfl rfl cb93 (frmake_calls true (p.num.natAbs * q.den - q.num.natAbs * p.den) (p.den * q.den) (Nat.mul_ne_zero p.den_nz q.den_nz) a7 a5 c7 c5 w7 hr7 (hr5.below hB7) (by omega) (by omega)) ?_
    rintro v w8 ⟨hres, hB8⟩
    obtain ⟨a8, c8, a9, c9, rfl, hx8, hx9⟩ := hres
    refine ⟨_, rfl, d2 ?_⟩
    have hB8' := bl_tr hB7' hB8 hB7'.size
    have hk48 := hk47.below hB8 hk47.lt
    have hkx8 := hkx7.below hB8 hkx7.lt
    refine d1 rfl rfl (fun _ => hkx8.cell rfl) ?_
    refine st U rfl rfl rfl rfl rfl rfl rfl rfl rfl rfl (hk48) ?_
    intro w9 hk9 hg9 hs9
    refine d2 ?_; refine dend rfl (fun h => by cases h) ?_
    refine dT rfl ?_
    refine retS Tryz.results53 (vs := [_]) ⟨⟨_, rfl, run_load_agg ag_frac hk9 rfl⟩, trivial⟩ ⟨_, rfl, ?_, hB8'.grown hg9 hB8'.size (fun k e => by cases e; omega)⟩
    rw [heq]
    exact fv_fq (Nat.mul_ne_zero p.den_nz q.den_nz) ⟨a8, c8, a9, c9, rfl, hx8.past hk48 ni0 hg9, hx9.past hk48 ni0 hg9⟩
  | true =>
   refine eqlB (c := true) U rfl rfl rfl rfl rfl rfl ?_
   refine dT rfl ?_
   have heq : p + q = mkq true (p.num.natAbs * q.den + q.num.natAbs * p.den) (p.den * q.den) := by
    rw [← mkq_add_same _ _ _ _ _ p.den_nz q.den_nz, hp, hq2]
   have hla := lim_len_add (p.num.natAbs * q.den) (q.num.natAbs * p.den)
   refine dwn 7 (fun W => W.cell? ⟨b2, 0, none⟩ = some (.bool true)) hmo ?_
   intro wD hhD hgD
   have hkD := heap_bk hhD hk2
   have hBDs : Below w6.heap.size w6 wD := (Below.refl _ _).grown hgD (Nat.le_refl _) (fun k e => by cases e)
   have hBD := bl_tr hB6' hBDs hB6'.size
   have hr3 := hr3.below hBDs
   have hr4 := hr4.below hBDs
   have hr5 := hr5.below hBDs
   have hk4 := hk4.below hBDs hk4.lt
   refine dqS [0,1,2,3,5] [(1, .bool true)] rfl rfl (hkD.cell rfl) ?_
   refine d1 rfl rfl (fun _ => hkD.cell rfl) ?_
   refine call (f := 94) rfl rfl cb94 (add_calls _ _ a3 a4 c3 c4 wD hr3 hr4 (by omega) (by omega)) ?_
   rintro v w7 ⟨a7, c7, rfl, ho7, hB7⟩
   refine ⟨_, rfl, d2 ?_⟩
   have hr7 := own_rd ho7
   have hB7' := bl_tr hBD hB7 hBD.size
   have hk47 := hk4.below hB7 hk4.lt
   have hkx7 := hkD.below hB7 hkD.lt
   refine d1 rfl rfl (fun _ => hkx7.cell rfl) ?_
   refine call (f := 93) rfl rfl cb93 (frmake_calls true (p.num.natAbs * q.den + q.num.natAbs * p.den) (p.den * q.den) (Nat.mul_ne_zero p.den_nz q.den_nz) a7 a5 c7 c5 w7 hr7 (hr5.below hB7) (by omega) (by omega)) ?_
   rintro v w8 ⟨hres, hB8⟩
   obtain ⟨a8, c8, a9, c9, rfl, hx8, hx9⟩ := hres
   refine ⟨_, rfl, d2 ?_⟩
   have hB8' := bl_tr hB7' hB8 hB7'.size
   have hk48 := hk47.below hB8 hk47.lt
   have hkx8 := hkx7.below hB8 hkx7.lt
   refine d1 rfl rfl (fun _ => hkx8.cell rfl) ?_
   refine st U rfl rfl rfl rfl rfl rfl rfl rfl rfl rfl (hk48) ?_
   intro w9 hk9 hg9 hs9
   refine d2 ?_; refine dend rfl (fun h => by cases h) ?_
   refine dT rfl ?_
   refine retS Tryz.results53 (vs := [_]) ⟨⟨_, rfl, run_load_agg ag_frac hk9 rfl⟩, trivial⟩ ⟨_, rfl, ?_, hB8'.grown hg9 hB8'.size (fun k e => by cases e; omega)⟩
   rw [heq]
   exact fv_fq (Nat.mul_ne_zero p.den_nz q.den_nz) ⟨a8, c8, a9, c9, rfl, hx8.past hk48 ni0 hg9, hx9.past hk48 ni0 hg9⟩
end Go.Proofs.YtejlpdbiacmfcaaGreatDoor
