/-
  Walks of the reference's rational numbers: Over, Negative, Times, Order, Check, Sub, Mul, Div, Cmp, Sign, Floor, Pow of a half.
  Conditions: texts take fewer than 2^40 bytes; numbers take fewer than a million digits.
-/
import Derived.Test.YtfdekppnilffeaaGreatDoorYRG
import Derived.Test.YtfdekppnilffeaaGreatDoorYR4
import Derived.Test.YtfdekppnilffeaaGreatDoorYSs
set_option linter.unusedSimpArgs false
set_option linter.unusedVariables false
set_option maxHeartbeats 1000000
namespace Go.Proofs.YtfdekppnilffeaaGreatDoor
open Go Go.Proofs Go.RowKit Go.Lib

theorem q_num_zero {p : Rat} : p.num = 0 ↔ p = 0 := by
  constructor
  · intro h
    have := mkq_self p
    rw [← Rat.mkRat_self p, h]; simp
  · rintro rfl; rfl
theorem lim_len_zero {n : Nat} : (lim n).length = 0 ↔ n = 0 := by
  rw [List.length_eq_zero_iff]; exact lim_eq_nil
theorem mkq_inv {p : Rat} (hp : p ≠ 0) : p⁻¹ = mkq (decide (p.num < 0)) p.den p.num.natAbs := by
  have hn : p.num.natAbs ≠ 0 := fun h => hp (q_num_zero.1 (by omega))
  have h1 : p * mkq (decide (p.num < 0)) p.den p.num.natAbs = 1 := by
    have e : mkq (decide (p.num < 0)) p.num.natAbs p.den * mkq (decide (p.num < 0)) p.den p.num.natAbs = 1 := by
      rw [mkq_mul, bne_self_eq_false, Nat.mul_comm p.den]
      have hd : p.num.natAbs * p.den ≠ 0 := Nat.mul_ne_zero hn p.den_nz
      apply Rat.ext
      · rw [(mkq_form _ _ _ hd).1, Nat.gcd_self, Nat.div_self (Nat.pos_of_ne_zero hd)]; rfl
      · rw [(mkq_form _ _ _ hd).2, Nat.gcd_self, Nat.div_self (Nat.pos_of_ne_zero hd)]; rfl
    rwa [mkq_self] at e
  have h2 := Rat.inv_mul_cancel p hp
  calc p⁻¹ = p⁻¹ * (p * mkq (decide (p.num < 0)) p.den p.num.natAbs) := by rw [h1, Rat.mul_one]
    _ = (p⁻¹ * p) * mkq (decide (p.num < 0)) p.den p.num.natAbs := by rw [Rat.mul_assoc]
    _ = _ := by rw [h2, Rat.one_mul]

theorem rneg_calls (p : Rat) (v : Value) (w : World) (h : QR w v p) : Calls Tryz.prog 57 #[v] w (Ret fun v' w' => QR w' v' (-p) ∧ Below w.heap.size w w') := by
  obtain ⟨an, cn, ad, cd, rfl, h1, h2⟩ := h
  by_cases hm : p.num < 0
  · rw [decide_eq_true hm]
    refine enter Tryz.func57 rfl Tryz.ntmps57 (Nat.le_of_ble_eq_true rfl) ?_
    refine dr U 600 rfl trivial ?_
    refine bx rfl rfl rfl rfl ?_
    intro b1 wa hb1 hsa hk1 hga
    refine al U rfl rfl rfl rfl ?_
    intro b2 w0 hb2 hs0 hk2 hg0
    have hk1 := hk1.keep hg0 (by simp)
    have hB0 : Below w.heap.size w w0 := ((Below.refl _ _).grown hga (Nat.le_refl _) (fun k e => by cases e)).grown hg0 (by omega) (fun k e => by cases e)
    refine dr U 600 rfl trivial ?_
    refine ld U rfl rfl rfl rfl ((hk1).cell rfl) ?_
    refine dr U 600 rfl trivial ?_
    refine st U rfl rfl rfl rfl rfl rfl rfl rfl rfl rfl (hk1) ?_
    intro w1 hk1' hg1 hs1
    refine dr U 600 rfl trivial ?_
    refine lg rfl ag_q rfl rfl hk1' rfl ?_
    refine st U rfl rfl rfl rfl rfl rfl rfl rfl rfl rfl (hk2.keep hg1 (by intro e; cases e; omega)) ?_
    intro w2 hk2' hg2 hs2
    refine dr U 600 rfl trivial ?_
    refine retS Tryz.results57 (vs := [_]) ⟨⟨_, rfl, run_load_agg ag_q hk2' rfl⟩, trivial⟩ ⟨_, rfl, ?_, (hB0.grown hg1 hB0.size (fun k e => by cases e; omega)).grown hg2 (by have := hB0.size; omega) (fun k e => by cases e; omega)⟩
    have hne : decide ((-p).num < 0) = false := by rw [Rat.neg_num]; exact decide_eq_false (by omega)
    unfold QR
    rw [hne, Rat.neg_num, Rat.neg_den, Int.natAbs_neg]
    exact ⟨an, cn, ad, cd, rfl, ((h1.below hB0).past hk1 (ni3 _ _ _ _ _ _ _) hg1).past (hk2.keep hg1 (by intro e; cases e; omega)) ni0 hg2, ((h2.below hB0).past hk1 (ni3 _ _ _ _ _ _ _) hg1).past (hk2.keep hg1 (by intro e; cases e; omega)) ni0 hg2⟩
  · rw [decide_eq_false hm]
    refine enter Tryz.func57 rfl Tryz.ntmps57 (Nat.le_of_ble_eq_true rfl) ?_
    refine dr U 600 rfl trivial ?_
    refine bx rfl rfl rfl rfl ?_
    intro b1 wa hb1 hsa hk1 hga
    refine al U rfl rfl rfl rfl ?_
    intro b2 w0 hb2 hs0 hk2 hg0
    have hk1 := hk1.keep hg0 (by simp)
    have hB0 : Below w.heap.size w w0 := ((Below.refl _ _).grown hga (Nat.le_refl _) (fun k e => by cases e)).grown hg0 (by omega) (fun k e => by cases e)
    refine dr U 600 rfl trivial ?_
    refine ld U rfl rfl rfl rfl ((hk1).cell rfl) ?_
    refine dr U 600 rfl trivial ?_
    refine ld U rfl rfl rfl rfl ((hk1).cell rfl) ?_
    refine dr U 600 rfl trivial ?_
    refine cS rfl rfl rfl rfl (fun hq => ?_) (fun hq => ?_)
    · have hn : p.num.natAbs ≠ 0 := fun h => by rw [h, lim_zero] at hq; simp at hq
      refine dr U 600 rfl trivial ?_
      refine st U rfl rfl rfl rfl rfl rfl rfl rfl rfl rfl (hk1) ?_
      intro w1 hk1' hg1 hs1
      refine dr U 600 rfl trivial ?_
      refine lg rfl ag_q rfl rfl hk1' rfl ?_
      refine st U rfl rfl rfl rfl rfl rfl rfl rfl rfl rfl (hk2.keep hg1 (by intro e; cases e; omega)) ?_
      intro w2 hk2' hg2 hs2
      refine dr U 600 rfl trivial ?_
      refine retS Tryz.results57 (vs := [_]) ⟨⟨_, rfl, run_load_agg ag_q hk2' rfl⟩, trivial⟩ ⟨_, rfl, ?_, (hB0.grown hg1 hB0.size (fun k e => by cases e; omega)).grown hg2 (by have := hB0.size; omega) (fun k e => by cases e; omega)⟩
      have hne : decide ((-p).num < 0) = true := by rw [Rat.neg_num]; exact decide_eq_true (by omega)
      unfold QR
      rw [hne, Rat.neg_num, Rat.neg_den, Int.natAbs_neg]
      exact ⟨an, cn, ad, cd, rfl, ((h1.below hB0).past hk1 (ni3 _ _ _ _ _ _ _) hg1).past (hk2.keep hg1 (by intro e; cases e; omega)) ni0 hg2, ((h2.below hB0).past hk1 (ni3 _ _ _ _ _ _ _) hg1).past (hk2.keep hg1 (by intro e; cases e; omega)) ni0 hg2⟩
    · have hn : p.num.natAbs = 0 := lim_len_zero.1 (by omega)
      refine dr U 600 rfl trivial ?_
      refine st U rfl rfl rfl rfl rfl rfl rfl rfl rfl rfl (hk1) ?_
      intro w1 hk1' hg1 hs1
      refine dr U 600 rfl trivial ?_
      refine lg rfl ag_q rfl rfl hk1' rfl ?_
      refine st U rfl rfl rfl rfl rfl rfl rfl rfl rfl rfl (hk2.keep hg1 (by intro e; cases e; omega)) ?_
      intro w2 hk2' hg2 hs2
      refine dr U 600 rfl trivial ?_
      refine retS Tryz.results57 (vs := [_]) ⟨⟨_, rfl, run_load_agg ag_q hk2' rfl⟩, trivial⟩ ⟨_, rfl, ?_, (hB0.grown hg1 hB0.size (fun k e => by cases e; omega)).grown hg2 (by have := hB0.size; omega) (fun k e => by cases e; omega)⟩
      have hne : decide ((-p).num < 0) = false := by rw [Rat.neg_num]; exact decide_eq_false (by omega)
      unfold QR
      rw [hne, Rat.neg_num, Rat.neg_den, Int.natAbs_neg]
      exact ⟨an, cn, ad, cd, rfl, ((h1.below hB0).past hk1 (ni3 _ _ _ _ _ _ _) hg1).past (hk2.keep hg1 (by intro e; cases e; omega)) ni0 hg2, ((h2.below hB0).past hk1 (ni3 _ _ _ _ _ _ _) hg1).past (hk2.keep hg1 (by intro e; cases e; omega)) ni0 hg2⟩

theorem rtimesq_calls (p q : Rat) (K L : Nat) (hK : K ≤ 1000000000) (hL : L ≤ 1000000000) (v1 v2 : Value) (w : World) (h1 : QR w v1 p) (h2 : QR w v2 q) (hs1 : Small K p) (hs2 : Small L q) :
    Calls Tryz.prog 58 #[v1, v2] w (Ret fun v w' => QR w' v (p * q) ∧ Below w.heap.size w w') := by
  obtain ⟨an, cn, ad, cd, rfl, hn1, hd1⟩ := h1
  obtain ⟨bn, en, bd, ed, rfl, hn2, hd2⟩ := h2
  obtain ⟨l1, l2⟩ := hs1.lim
  obtain ⟨l3, l4⟩ := hs2.lim
  have lnn := lim_len_mul p.num.natAbs q.num.natAbs
  have ldd := lim_len_mul p.den q.den
  have hp := mkq_self p
  have hq2 := mkq_self q
  generalize decide (p.num < 0) = m1 at *
  generalize decide (q.num < 0) = m2 at *
  have heq : p * q = mkq (m1 != m2) (p.num.natAbs * q.num.natAbs) (p.den * q.den) := by rw [← mkq_mul, hp, hq2]
  refine enter Tryz.func58 rfl Tryz.ntmps58 (Nat.le_of_ble_eq_true rfl) ?_
  refine dr U 600 rfl trivial ?_
  refine bx rfl rfl rfl rfl ?_
  intro b2 wa hb2 hsa hk2 hga
  refine bx rfl rfl rfl rfl ?_
  intro b3 wb hb3 hsb hk3 hgb
  refine al U rfl rfl rfl rfl ?_
  intro b4 w0 hb4 hs0 hk4 hg0
  have hk2 := (hk2.keep hgb (by simp)).keep hg0 (by simp)
  have hk3 := hk3.keep hg0 (by simp)
  have hB0 : Below w.heap.size w w0 := (((Below.refl _ _).grown hga (Nat.le_refl _) (fun k e => by cases e)).grown hgb (by omega) (fun k e => by cases e)).grown hg0 (by omega) (fun k e => by cases e)
  refine dr U 600 rfl trivial ?_
  refine dwn 16 (fun W => Bk W b2 75 [.bool m1, .slice an (lim p.num.natAbs).length cn, .slice ad (lim p.den).length cd] ∧ Bk W b3 75 [.bool m2, .slice bn (lim q.num.natAbs).length en, .slice bd (lim q.den).length ed]) hmo ?_
  intro w1 hh1 hg1
  have hB1' : Below w0.heap.size w0 w1 := (Below.refl _ _).grown hg1 (Nat.le_refl _) (fun k e => by cases e)
  have hB1 := bl_tr hB0 hB1' hB0.size
  have hk2 := hk2.below hB1' hk2.lt
  have hk3 := hk3.below hB1' hk3.lt
  have hk4 := hk4.below hB1' hk4.lt
  refine dq U [0,1,2,3,4,5,6,7,8,10,11,12,13] [(1, .bool m1), (3, .bool m2), (6, .slice an (lim p.num.natAbs).length cn), (8, .slice bn (lim q.num.natAbs).length en), (11, .slice ad (lim p.den).length cd), (13, .slice bd (lim q.den).length ed)] (by kernel_rfl) rfl rfl ⟨hk2, hk3⟩ (by simp only [AllP, InR, List.nil_append, List.cons_append]; (repeat' apply And.intro); all_goals first | exact True.intro | omega | exact fun w h => run_load_cell U rfl (h.1.cell rfl) | exact fun w h => run_load_cell U rfl (h.2.cell rfl)) ?_
  refine d1 rfl rfl (fun _ => ⟨hk2, hk3⟩) ?_
  refine call (f := 85) rfl rfl cb85 (times_calls _ _ an bn cn en w1 (hn1.below hB1) (hn2.below hB1) (by omega) (by omega)) ?_
  rintro v w3 ⟨a3, c3, rfl, ho3, hB3⟩
  refine ⟨_, rfl, d2 ?_⟩
  have hB3' := bl_tr hB1 hB3 hB1.size
  have hk2 := hk2.below hB3 hk2.lt
  have hk3 := hk3.below hB3 hk3.lt
  have hk4 := hk4.below hB3 hk4.lt
  refine d1 rfl rfl (fun _ => ⟨hk2, hk3⟩) ?_
  refine call (f := 85) rfl rfl cb85 (times_calls _ _ ad bd cd ed w3 (hd1.below hB3') (hd2.below hB3') (by omega) (by omega)) ?_
  rintro v w5 ⟨a5, c5, rfl, ho5, hB5⟩
  refine ⟨_, rfl, d2 ?_⟩
  have hB5' := bl_tr hB3' hB5 hB3'.size
  have hk2 := hk2.below hB5 hk2.lt
  have hk3 := hk3.below hB5 hk3.lt
  have hk4 := hk4.below hB5 hk4.lt
  refine d1 rfl rfl (fun _ => ⟨hk2, hk3⟩) ?_
  refine call (f := 86) rfl rfl cb86 (reduce_calls (m1 != m2) _ _ (Nat.mul_ne_zero p.den_nz q.den_nz) a3 a5 c3 c5 w5 ((ownI_rd ho3).below hB5) (ownI_rd ho5) (by omega) (by omega)) ?_
  rintro v w8 ⟨hres, hB8⟩
  obtain ⟨a8, c8, a9, c9, rfl, hx8, hx9⟩ := hres
  refine ⟨_, rfl, d2 ?_⟩
  have hB8' := bl_tr hB5' hB8 hB5'.size
  have hk2 := hk2.below hB8 hk2.lt
  have hk3 := hk3.below hB8 hk3.lt
  have hk4 := hk4.below hB8 hk4.lt
  refine d1 rfl rfl (fun _ => ⟨hk2, hk3⟩) ?_
  refine st U rfl rfl rfl rfl rfl rfl rfl rfl rfl rfl (hk4) ?_
  intro w9 hk9 hg9 hs9
  refine d2 ?_; refine dend rfl (fun h => by cases h) ?_
  refine dr U 600 rfl trivial ?_
  refine retS Tryz.results58 (vs := [_]) ⟨⟨_, rfl, run_load_agg ag_q hk9 rfl⟩, trivial⟩ ⟨_, rfl, ?_, hB8'.grown hg9 hB8'.size (fun k e => by cases e; omega)⟩
  rw [heq]
  exact ⟨a8, c8, a9, c9, rfl, hx8.past hk4 ni0 hg9, hx9.past hk4 ni0 hg9⟩

/-- The order of two numbers. -/
def cmpQ (p q : Rat) : Int := if p + -q = 0 then 0 else if (p + -q).num < 0 then -1 else 1

theorem rorder_calls (p q : Rat) (K : Nat) (hK : K ≤ 1000000) (v1 v2 : Value) (w : World) (h1 : QR w v1 p) (h2 : QR w v2 q) (hs1 : Small K p) (hs2 : Small K q) :
    Calls Tryz.prog 59 #[v1, v2] w (Ret fun v w' => v = .int .i64 (cmpQ p q) ∧ Below w.heap.size w w') := by
  have H1 := h1
  have H2 := h2
  obtain ⟨an, cn, ad, cd, rfl, hn1, hd1⟩ := H1
  obtain ⟨bn, en, bd, ed, rfl, hn2, hd2⟩ := H2
  generalize hm1 : decide (p.num < 0) = m1 at *
  generalize hm2 : decide (q.num < 0) = m2 at *
  refine enter Tryz.func59 rfl Tryz.ntmps59 (Nat.le_of_ble_eq_true rfl) ?_
  refine dr U 600 rfl trivial ?_
  refine bx rfl rfl rfl rfl ?_
  intro b2 wa hb2 hsa hk2 hga
  refine bx rfl rfl rfl rfl ?_
  intro b3 w0 hb3 hsb hk3 hgb
  have hk2 := hk2.keep hgb (by simp)
  have hB0 : Below w.heap.size w w0 := ((Below.refl _ _).grown hga (Nat.le_refl _) (fun k e => by cases e)).grown hgb (by omega) (fun k e => by cases e)
  refine dr U 600 rfl trivial ?_
  refine dwn 5 (fun W => Bk W b2 75 [.bool m1, .slice an (lim p.num.natAbs).length cn, .slice ad (lim p.den).length cd] ∧ Bk W b3 75 [.bool m2, .slice bn (lim q.num.natAbs).length en, .slice bd (lim q.den).length ed]) hmo ?_
  intro w1 hh1 hg1
  have hB1' : Below w0.heap.size w0 w1 := (Below.refl _ _).grown hg1 (Nat.le_refl _) (fun k e => by cases e)
  have hB1 := bl_tr hB0 hB1' hB0.size
  have hk2 := hk2.below hB1' hk2.lt
  have hk3 := hk3.below hB1' hk3.lt
  refine dq U [0,1] [(0, .agg ⟨[.bool m1, .slice an (lim p.num.natAbs).length cn, .slice ad (lim p.den).length cd]⟩), (1, .agg ⟨[.bool m2, .slice bn (lim q.num.natAbs).length en, .slice bd (lim q.den).length ed]⟩)] (by kernel_rfl) rfl rfl ⟨hk2, hk3⟩ (by simp only [AllP, InR, List.nil_append, List.cons_append]; (repeat' apply And.intro); all_goals first | exact True.intro | omega | exact fun w h => run_load_agg ag_q h.1 rfl | exact fun w h => run_load_agg ag_q h.2 rfl) ?_
  refine d1or rfl rfl rfl (fun _ => ⟨hk2, hk3⟩) ?_ ?_
  · refine call (f := 57) rfl rfl cb57 (rneg_calls q _ w1 (h2.stay hB1)) ?_
    rintro v w4 ⟨hn, hBn⟩
    refine ⟨_, rfl, d2 ?_⟩
    have hBW4 := bl_tr hB1 hBn hB1.size
    have hk2 := hk2.below hBn hk2.lt
    have hk3 := hk3.below hBn hk3.lt
    refine d1or rfl rfl rfl (fun _ => ⟨hk2, hk3⟩) ?_ ?_
    · refine call (f := 56) rfl rfl cb56 (rplus_calls p (-q) K hK _ _ w4 (h1.stay hBW4) hn hs1 (small_neg hs2)) ?_
      rintro v w6 ⟨hpl, hBp⟩
      obtain ⟨a8, c8, a9, c9, rfl, hx8, hx9⟩ := hpl
      refine ⟨_, rfl, d2 ?_⟩
      have hBW6 := bl_tr hBW4 hBp hBW4.size
      have hk2 := hk2.below hBp hk2.lt
      have hk3 := hk3.below hBp hk3.lt
      refine d1 rfl rfl (fun _ => ⟨hk2, hk3⟩) ?_
      refine al U rfl rfl rfl rfl ?_
      intro b5 w7 hb5 hs5 hk5 hg5
      have hBa : Below w6.heap.size w6 w7 := (Below.refl _ _).grown hg5 (Nat.le_refl _) (fun k e => by cases e)
      have hBW5 := bl_tr hBW6 hBa hBW6.size
      have hbx := hBW6.size
      have hk2 := hk2.below hBa hk2.lt
      have hk3 := hk3.below hBa hk3.lt
      refine d2 ?_
      refine d1 rfl rfl (fun _ => ⟨hk2, hk3⟩) ?_
      refine st U rfl rfl rfl rfl rfl rfl rfl rfl rfl rfl (hk5) ?_
      intro w9 hk5 hg9 hs9
      have hB9 := hBW5.grown hg9 hBW5.size (fun k e => by cases e; omega)
      refine d2 ?_; refine dend rfl (fun h => by cases h) ?_
      refine dr U 600 rfl trivial ?_
      refine ld U rfl rfl rfl rfl ((hk5).cell rfl) ?_
      refine dr U 600 rfl trivial ?_
      refine cS rfl rfl rfl rfl (fun hq => ?_) (fun hq => ?_)
      · have hz : p + -q = 0 := q_num_zero.1 (by have := lim_len_zero.1 (show (lim (p + -q).num.natAbs).length = 0 by omega); omega)
        refine dr U 600 rfl trivial ?_
        exact ret Tryz.results59 rfl ⟨_, rfl, by unfold cmpQ; rw [if_pos hz]; rfl, hB9⟩
      · have hz : ¬ p + -q = 0 := fun h => hq (by rw [h]; rw [show (0 : Rat).num.natAbs = 0 from rfl, lim_zero]; rfl)
        refine dr U 600 rfl trivial ?_
        refine ld U rfl rfl rfl rfl ((hk5).cell rfl) ?_
        by_cases hneg : (p + -q).num < 0
        · rw [decide_eq_true hneg]
          refine dr U 600 rfl trivial ?_
          exact ret Tryz.results59 rfl ⟨_, rfl, by unfold cmpQ; rw [if_neg hz, if_pos hneg]; rfl, hB9⟩
        · rw [decide_eq_false hneg]
          refine dr U 600 rfl trivial ?_
          exact ret Tryz.results59 rfl ⟨_, rfl, by unfold cmpQ; rw [if_neg hz, if_neg hneg]; rfl, hB9⟩
    · refine al U rfl rfl rfl rfl ?_
      intro b5 w7 hb5 hs5 hk5 hg5
      have hBa : Below w4.heap.size w4 w7 := (Below.refl _ _).grown hg5 (Nat.le_refl _) (fun k e => by cases e)
      have hBW5 := bl_tr hBW4 hBa hBW4.size
      have hbx := hBW4.size
      have hk2 := hk2.below hBa hk2.lt
      have hk3 := hk3.below hBa hk3.lt
      refine d2 ?_
      refine d1 rfl rfl (fun _ => ⟨hk2, hk3⟩) ?_
      refine call (f := 56) rfl rfl cb56 (rplus_calls p (-q) K hK _ _ w7 (h1.stay hBW5) (hn.stay hBa) hs1 (small_neg hs2)) ?_
      rintro v w6 ⟨hpl, hBp⟩
      obtain ⟨a8, c8, a9, c9, rfl, hx8, hx9⟩ := hpl
      refine ⟨_, rfl, d2 ?_⟩
      have hBW6 := bl_tr hBW5 hBp hBW5.size
      have hk2 := hk2.below hBp hk2.lt
      have hk3 := hk3.below hBp hk3.lt
      refine d1 rfl rfl (fun _ => ⟨hk2, hk3⟩) ?_
      refine st U rfl rfl rfl rfl rfl rfl rfl rfl rfl rfl ((hk5.below hBp hk5.lt)) ?_
      intro w9 hk5 hg9 hs9
      have hB9 := hBW6.grown hg9 hBW6.size (fun k e => by cases e; omega)
      refine d2 ?_; refine dend rfl (fun h => by cases h) ?_
      refine dr U 600 rfl trivial ?_
      refine ld U rfl rfl rfl rfl ((hk5).cell rfl) ?_
      refine dr U 600 rfl trivial ?_
      refine cS rfl rfl rfl rfl (fun hq => ?_) (fun hq => ?_)
      · have hz : p + -q = 0 := q_num_zero.1 (by have := lim_len_zero.1 (show (lim (p + -q).num.natAbs).length = 0 by omega); omega)
        refine dr U 600 rfl trivial ?_
        exact ret Tryz.results59 rfl ⟨_, rfl, by unfold cmpQ; rw [if_pos hz]; rfl, hB9⟩
      · have hz : ¬ p + -q = 0 := fun h => hq (by rw [h]; rw [show (0 : Rat).num.natAbs = 0 from rfl, lim_zero]; rfl)
        refine dr U 600 rfl trivial ?_
        refine ld U rfl rfl rfl rfl ((hk5).cell rfl) ?_
        by_cases hneg : (p + -q).num < 0
        · rw [decide_eq_true hneg]
          refine dr U 600 rfl trivial ?_
          exact ret Tryz.results59 rfl ⟨_, rfl, by unfold cmpQ; rw [if_neg hz, if_pos hneg]; rfl, hB9⟩
        · rw [decide_eq_false hneg]
          refine dr U 600 rfl trivial ?_
          exact ret Tryz.results59 rfl ⟨_, rfl, by unfold cmpQ; rw [if_neg hz, if_neg hneg]; rfl, hB9⟩
  · refine al U rfl rfl rfl rfl ?_
    intro b5 w7 hb5 hs5 hk5 hg5
    have hBa : Below w1.heap.size w1 w7 := (Below.refl _ _).grown hg5 (Nat.le_refl _) (fun k e => by cases e)
    have hBW5 := bl_tr hB1 hBa hB1.size
    have hbx := hB1.size
    have hk2 := hk2.below hBa hk2.lt
    have hk3 := hk3.below hBa hk3.lt
    refine d2 ?_
    refine d1 rfl rfl (fun _ => ⟨hk2, hk3⟩) ?_
    refine call (f := 57) rfl rfl cb57 (rneg_calls q _ w7 (h2.stay hBW5)) ?_
    rintro v w4 ⟨hn, hBn⟩
    refine ⟨_, rfl, d2 ?_⟩
    have hBW4 := bl_tr hBW5 hBn hBW5.size
    have hk2 := hk2.below hBn hk2.lt
    have hk3 := hk3.below hBn hk3.lt
    refine d1 rfl rfl (fun _ => ⟨hk2, hk3⟩) ?_
    refine call (f := 56) rfl rfl cb56 (rplus_calls p (-q) K hK _ _ w4 (h1.stay hBW4) hn hs1 (small_neg hs2)) ?_
    rintro v w6 ⟨hpl, hBp⟩
    obtain ⟨a8, c8, a9, c9, rfl, hx8, hx9⟩ := hpl
    refine ⟨_, rfl, d2 ?_⟩
    have hBW6 := bl_tr hBW4 hBp hBW4.size
    have hk2 := hk2.below hBp hk2.lt
    have hk3 := hk3.below hBp hk3.lt
    refine d1 rfl rfl (fun _ => ⟨hk2, hk3⟩) ?_
    refine st U rfl rfl rfl rfl rfl rfl rfl rfl rfl rfl (((hk5.below hBn hk5.lt).below hBp (hk5.below hBn hk5.lt).lt)) ?_
    intro w9 hk5 hg9 hs9
    have hB9 := hBW6.grown hg9 hBW6.size (fun k e => by cases e; omega)
    refine d2 ?_; refine dend rfl (fun h => by cases h) ?_
    refine dr U 600 rfl trivial ?_
    refine ld U rfl rfl rfl rfl ((hk5).cell rfl) ?_
    refine dr U 600 rfl trivial ?_
    refine cS rfl rfl rfl rfl (fun hq => ?_) (fun hq => ?_)
    · have hz : p + -q = 0 := q_num_zero.1 (by have := lim_len_zero.1 (show (lim (p + -q).num.natAbs).length = 0 by omega); omega)
      refine dr U 600 rfl trivial ?_
      exact ret Tryz.results59 rfl ⟨_, rfl, by unfold cmpQ; rw [if_pos hz]; rfl, hB9⟩
    · have hz : ¬ p + -q = 0 := fun h => hq (by rw [h]; rw [show (0 : Rat).num.natAbs = 0 from rfl, lim_zero]; rfl)
      refine dr U 600 rfl trivial ?_
      refine ld U rfl rfl rfl rfl ((hk5).cell rfl) ?_
      by_cases hneg : (p + -q).num < 0
      · rw [decide_eq_true hneg]
        refine dr U 600 rfl trivial ?_
        exact ret Tryz.results59 rfl ⟨_, rfl, by unfold cmpQ; rw [if_neg hz, if_pos hneg]; rfl, hB9⟩
      · rw [decide_eq_false hneg]
        refine dr U 600 rfl trivial ?_
        exact ret Tryz.results59 rfl ⟨_, rfl, by unfold cmpQ; rw [if_neg hz, if_neg hneg]; rfl, hB9⟩

theorem rcheck_calls (s : List UInt8) (hs : s.length ≤ 1099511627776) (w : World) :
    Calls Tryz.prog 43 #[.string ⟨⟨s⟩⟩] w (Ret fun v w' => (∃ e, v = .int .i64 e ∧ QErr s e) ∧ Below w.heap.size w w') := by
  refine enter Tryz.func43 rfl Tryz.ntmps43 (Nat.le_of_ble_eq_true rfl) ?_
  refine dr U 600 rfl trivial ?_
  refine call (f := 73) rfl rfl cb73 (rread_calls s hs w) ?_
  rintro v w1 ⟨hr, hB1⟩
  obtain ⟨m, a1, n1, c1, a2, n2, c2, e, rfl, hqe, hqr⟩ := hr.cases
  refine ⟨_, rfl, ?_⟩
  refine dr U 600 rfl trivial ?_
  refine al U rfl rfl rfl rfl ?_
  intro b w2 hb2 hs2 hk2 hg2
  have hB2 := hB1.grown hg2 hB1.size (fun k e => by cases e)
  refine dr U 600 rfl trivial ?_
  refine st U rfl rfl rfl rfl rfl rfl rfl rfl rfl rfl (hk2) ?_
  intro w3 hk3 hg3 hs3
  have hB3 := hB2.grown hg3 hB2.size (fun k e => by cases e; have := hB1.size; omega)
  refine dr U 600 rfl trivial ?_
  exact ret Tryz.results43 rfl ⟨_, rfl, ⟨e, rfl, hqe⟩, hB3⟩


theorem rsub_calls (s t : List UInt8) (hs : s.length ≤ 1099511627776) (ht : t.length ≤ 1099511627776) (w : World) :
    Calls Tryz.prog 18 #[.string ⟨⟨s⟩⟩, .string ⟨⟨t⟩⟩] w (Ret fun v w' => BinR (fun p q => p + -q) s t v ∧ Below w.heap.size w w') := by
  refine enter Tryz.func18 rfl Tryz.ntmps18 (Nat.le_of_ble_eq_true rfl) ?_
  refine dr U 600 rfl trivial ?_
  refine call (f := 54) rfl rfl cb54 (rtwo_calls s t hs ht w) ?_
  rintro v w1 ⟨hr, hB1⟩
  obtain ⟨m, a1, n1, c1, a2, n2, c2, m', a1', n1', c1', a2', n2', c2', e, rfl, hte, hqr⟩ := hr
  refine ⟨_, rfl, ?_⟩
  refine dr U 600 rfl trivial ?_
  refine al U rfl rfl rfl rfl ?_
  intro b6 w2 hb6 hs2 hk6 hg2
  refine al U rfl rfl rfl rfl ?_
  intro b7 w3 hb7 hs3 hk7 hg3
  have hk6 := hk6.keep hg3 (by simp)
  have hBa : Below w1.heap.size w1 w3 := ((Below.refl _ _).grown hg2 (Nat.le_refl _) (fun k e => by cases e)).grown hg3 (by omega) (fun k e => by cases e)
  refine st U rfl rfl rfl rfl rfl rfl rfl rfl rfl rfl (hk6) ?_
  intro w4 hk6' hg4 hs4
  have hk7 := hk7.keep hg4 (by intro e; cases e; omega)
  have hB4 := (bl_tr hB1 hBa hB1.size).grown hg4 (by have := hB1.size; omega) (fun k e => by cases e; have := hB1.size; omega)
  refine st U rfl rfl rfl rfl rfl rfl rfl rfl rfl rfl (hk7) ?_
  intro w5 hk7' hg5 hs5
  have hk6' := hk6'.keep hg5 (by intro e; cases e; omega)
  have hB5 := hB4.grown hg5 hB4.size (fun k e => by cases e; have := hB1.size; omega)
  have hqq : e = 0 → QR w5 (.agg ⟨[.bool m, .slice a1 n1 c1, .slice a2 n2 c2]⟩) (qval s) ∧ QR w5 (.agg ⟨[.bool m', .slice a1' n1' c1', .slice a2' n2' c2']⟩) (qval t) := fun h =>
    ⟨(((hqr h).1.stay hBa).past hk6 ni0 hg4).past hk7 ni0 hg5, (((hqr h).2.stay hBa).past hk6 ni0 hg4).past hk7 ni0 hg5⟩
  refine dr U 600 rfl trivial ?_
  refine cS rfl rfl rfl rfl (fun hq => ?_) (fun hq => ?_)
  · refine dr U 600 rfl trivial ?_
    exact ret Tryz.results18 rfl ⟨_, rfl, .inl ⟨e, hq, hte, rfl⟩, hB5⟩
  · obtain rfl := Classical.not_not.1 hq
    obtain ⟨hx, hy⟩ := hqq rfl
    have hsx := hte.ok.1.small
    have hsy := hte.ok.2.small
    refine dr U 600 rfl trivial ?_
    refine dwn 8 (fun W => Bk W b6 75 [.bool m, .slice a1 n1 c1, .slice a2 n2 c2] ∧ Bk W b7 75 [.bool m', .slice a1' n1' c1', .slice a2' n2' c2']) hmo ?_
    intro wD hhD hgD
    have hBD' : Below w5.heap.size w5 wD := (Below.refl _ _).grown hgD (Nat.le_refl _) (fun k e => by cases e)
    have hBD := bl_tr hB5 hBD' hB5.size
    have hk6 := hk6'.below hBD' hk6'.lt
    have hk7 := hk7'.below hBD' hk7'.lt
    refine dq U [0,1] [(0, .agg ⟨[.bool m, .slice a1 n1 c1, .slice a2 n2 c2]⟩), (1, .agg ⟨[.bool m', .slice a1' n1' c1', .slice a2' n2' c2']⟩)] (by kernel_rfl) rfl rfl ⟨hk6, hk7⟩ (by simp only [AllP, InR, List.nil_append, List.cons_append]; (repeat' apply And.intro); all_goals first | exact True.intro | omega | exact fun w h => run_load_agg ag_q h.1 rfl | exact fun w h => run_load_agg ag_q h.2 rfl) ?_
    refine d1 rfl rfl (fun _ => ⟨hk6, hk7⟩) ?_
    refine call (f := 57) rfl rfl cb57 (rneg_calls _ _ wD (hy.stay hBD')) ?_
    rintro v w6 ⟨hn, hBn⟩
    refine ⟨_, rfl, d2 ?_⟩
    have hB6 := bl_tr hBD hBn hBD.size
    have hk6 := hk6.below hBn hk6.lt
    have hk7 := hk7.below hBn hk7.lt
    refine d1 rfl rfl (fun _ => ⟨hk6, hk7⟩) ?_
    refine call (f := 56) rfl rfl cb56 (rplus_calls _ _ 4000 (by omega) _ _ w6 ((hx.stay hBD').stay hBn) hn hsx (small_neg hsy)) ?_
    rintro v w7 ⟨hv, hB7'⟩
    refine ⟨_, rfl, d2 ?_⟩
    have hB7 := bl_tr hB6 hB7' hB6.size
    have hk6 := hk6.below hB7' hk6.lt
    have hk7 := hk7.below hB7' hk7.lt
    have hsz := small_add hsx (small_neg hsy)
    refine d1 rfl rfl (fun _ => ⟨hk6, hk7⟩) ?_
    refine call (f := 55) rfl rfl cb55 (rwriteq_calls _ v w7 hv (hsz.fits (by omega)) (Nat.le_trans hsz.1 (by omega)) (Nat.le_trans hsz.2 (by omega))) ?_
    rintro v w9 ⟨hr, hB9'⟩
    obtain ⟨x, e, rfl⟩ := hr.tup
    refine ⟨_, rfl, d2 ?_⟩
    have hk6 := hk6.below hB9' hk6.lt
    have hk7 := hk7.below hB9' hk7.lt
    refine dq U [5,6,7] [] (by kernel_rfl) rfl rfl ⟨hk6, hk7⟩ (by simp only [AllP, InR, List.nil_append, List.cons_append]; (repeat' apply And.intro); all_goals first | exact True.intro | omega | (simp only [List.length_cons, List.length_nil]; omega) | (intro w_ hw_; refine ldC U rfl hw_ ?_; first | assumption | (simp [add_plain]; assumption)) | (intro w_ hw_; refine run_load_cell U rfl ?_; first | exact hw_ | exact hw_.1 | exact hw_.2 | exact hw_.2.1 | exact hw_.2.2 | exact hw_.2.2.1 | exact hw_.2.2.2 | (simp [add_plain]; first | exact hw_.1 | exact hw_.2.1 | exact hw_.2.2))) ?_
    refine d1 rfl rfl (fun _ => ⟨hk6, hk7⟩) ?_
    refine dr U 600 rfl trivial ?_
    refine d3 ?_; refine dend rfl (fun h => by cases h) ?_
    refine dr U 600 rfl trivial ?_
    exact ret Tryz.results18 rfl ⟨_, rfl, .inr ⟨hte, hr⟩, bl_tr hB7 hB9' hB7.size⟩

theorem rmul_calls (s t : List UInt8) (hs : s.length ≤ 1099511627776) (ht : t.length ≤ 1099511627776) (w : World) :
    Calls Tryz.prog 19 #[.string ⟨⟨s⟩⟩, .string ⟨⟨t⟩⟩] w (Ret fun v w' => BinR (· * ·) s t v ∧ Below w.heap.size w w') := by
  refine enter Tryz.func19 rfl Tryz.ntmps19 (Nat.le_of_ble_eq_true rfl) ?_
  refine dr U 600 rfl trivial ?_
  refine call (f := 54) rfl rfl cb54 (rtwo_calls s t hs ht w) ?_
  rintro v w1 ⟨hr, hB1⟩
  obtain ⟨m, a1, n1, c1, a2, n2, c2, m', a1', n1', c1', a2', n2', c2', e, rfl, hte, hqr⟩ := hr
  refine ⟨_, rfl, ?_⟩
  refine dr U 600 rfl trivial ?_
  refine al U rfl rfl rfl rfl ?_
  intro b6 w2 hb6 hs2 hk6 hg2
  refine al U rfl rfl rfl rfl ?_
  intro b7 w3 hb7 hs3 hk7 hg3
  have hk6 := hk6.keep hg3 (by simp)
  have hBa : Below w1.heap.size w1 w3 := ((Below.refl _ _).grown hg2 (Nat.le_refl _) (fun k e => by cases e)).grown hg3 (by omega) (fun k e => by cases e)
  refine st U rfl rfl rfl rfl rfl rfl rfl rfl rfl rfl (hk6) ?_
  intro w4 hk6' hg4 hs4
  have hk7 := hk7.keep hg4 (by intro e; cases e; omega)
  have hB4 := (bl_tr hB1 hBa hB1.size).grown hg4 (by have := hB1.size; omega) (fun k e => by cases e; have := hB1.size; omega)
  refine st U rfl rfl rfl rfl rfl rfl rfl rfl rfl rfl (hk7) ?_
  intro w5 hk7' hg5 hs5
  have hk6' := hk6'.keep hg5 (by intro e; cases e; omega)
  have hB5 := hB4.grown hg5 hB4.size (fun k e => by cases e; have := hB1.size; omega)
  have hqq : e = 0 → QR w5 (.agg ⟨[.bool m, .slice a1 n1 c1, .slice a2 n2 c2]⟩) (qval s) ∧ QR w5 (.agg ⟨[.bool m', .slice a1' n1' c1', .slice a2' n2' c2']⟩) (qval t) := fun h =>
    ⟨(((hqr h).1.stay hBa).past hk6 ni0 hg4).past hk7 ni0 hg5, (((hqr h).2.stay hBa).past hk6 ni0 hg4).past hk7 ni0 hg5⟩
  refine dr U 600 rfl trivial ?_
  refine cS rfl rfl rfl rfl (fun hq => ?_) (fun hq => ?_)
  · refine dr U 600 rfl trivial ?_
    exact ret Tryz.results19 rfl ⟨_, rfl, .inl ⟨e, hq, hte, rfl⟩, hB5⟩
  · obtain rfl := Classical.not_not.1 hq
    obtain ⟨hx, hy⟩ := hqq rfl
    have hsx := hte.ok.1.small
    have hsy := hte.ok.2.small
    refine dr U 600 rfl trivial ?_
    refine lg rfl ag_q rfl rfl hk6' rfl ?_
    refine lg rfl ag_q rfl rfl hk7' rfl ?_
    refine call (f := 58) rfl rfl cb58 (rtimesq_calls _ _ 4000 4000 (by omega) (by omega) _ _ w5 hx hy hsx hsy) ?_
    rintro v w6 ⟨hv, hB6'⟩
    refine ⟨_, rfl, ?_⟩
    have hB6 := bl_tr hB5 hB6' hB5.size
    have hsz := small_mul hsx hsy
    refine dr U 600 rfl trivial ?_
    refine call (f := 55) rfl rfl cb55 (rwriteq_calls _ v w6 hv (hsz.fits (by omega)) (Nat.le_trans hsz.1 (by omega)) (Nat.le_trans hsz.2 (by omega))) ?_
    rintro v w9 ⟨hr, hB9'⟩
    obtain ⟨x, e, rfl⟩ := hr.tup
    refine ⟨_, rfl, ?_⟩
    refine dr U 600 rfl trivial ?_
    exact ret Tryz.results19 rfl ⟨_, rfl, .inr ⟨hte, hr⟩, bl_tr hB6 hB9' hB6.size⟩

/-- What Cmp answers. -/
def CmpR (s t : List UInt8) (v : Value) : Prop :=
  (∃ e, e ≠ 0 ∧ Two s t e ∧ v = .tuple ⟨[.int .i64 0, .int .i64 e]⟩) ∨ (Two s t 0 ∧ v = .tuple ⟨[.int .i64 (cmpQ (qval s) (qval t)), .int .i64 0]⟩)
theorem CmpR.text {p q : Rat} {v : Value} (hp : Small 4000 p) (hq : Small 4000 q) (h : CmpR (qtext p) (qtext q) v) : v = .tuple ⟨[.int .i64 (cmpQ p q), .int .i64 0]⟩ := by
  have h1 := q_text_ok p hp
  have h2 := q_text_ok q hq
  rcases h with ⟨e, g1, g2, rfl⟩ | ⟨_, g⟩
  · exact absurd (g2.uniq (.inr ⟨h1.1, h2.1⟩)) g1
  · rwa [h1.2, h2.2] at g
theorem rcmp_calls (s t : List UInt8) (hs : s.length ≤ 1099511627776) (ht : t.length ≤ 1099511627776) (w : World) :
    Calls Tryz.prog 21 #[.string ⟨⟨s⟩⟩, .string ⟨⟨t⟩⟩] w (Ret fun v w' => CmpR s t v ∧ Below w.heap.size w w') := by
  refine enter Tryz.func21 rfl Tryz.ntmps21 (Nat.le_of_ble_eq_true rfl) ?_
  refine dr U 600 rfl trivial ?_
  refine call (f := 54) rfl rfl cb54 (rtwo_calls s t hs ht w) ?_
  rintro v w1 ⟨hr, hB1⟩
  obtain ⟨m, a1, n1, c1, a2, n2, c2, m', a1', n1', c1', a2', n2', c2', e, rfl, hte, hqr⟩ := hr
  refine ⟨_, rfl, ?_⟩
  refine dr U 600 rfl trivial ?_
  refine al U rfl rfl rfl rfl ?_
  intro b6 w2 hb6 hs2 hk6 hg2
  refine al U rfl rfl rfl rfl ?_
  intro b7 w3 hb7 hs3 hk7 hg3
  have hk6 := hk6.keep hg3 (by simp)
  have hBa : Below w1.heap.size w1 w3 := ((Below.refl _ _).grown hg2 (Nat.le_refl _) (fun k e => by cases e)).grown hg3 (by omega) (fun k e => by cases e)
  refine st U rfl rfl rfl rfl rfl rfl rfl rfl rfl rfl (hk6) ?_
  intro w4 hk6' hg4 hs4
  have hk7 := hk7.keep hg4 (by intro e; cases e; omega)
  have hB4 := (bl_tr hB1 hBa hB1.size).grown hg4 (by have := hB1.size; omega) (fun k e => by cases e; have := hB1.size; omega)
  refine st U rfl rfl rfl rfl rfl rfl rfl rfl rfl rfl (hk7) ?_
  intro w5 hk7' hg5 hs5
  have hk6' := hk6'.keep hg5 (by intro e; cases e; omega)
  have hB5 := hB4.grown hg5 hB4.size (fun k e => by cases e; have := hB1.size; omega)
  have hqq : e = 0 → QR w5 (.agg ⟨[.bool m, .slice a1 n1 c1, .slice a2 n2 c2]⟩) (qval s) ∧ QR w5 (.agg ⟨[.bool m', .slice a1' n1' c1', .slice a2' n2' c2']⟩) (qval t) := fun h =>
    ⟨(((hqr h).1.stay hBa).past hk6 ni0 hg4).past hk7 ni0 hg5, (((hqr h).2.stay hBa).past hk6 ni0 hg4).past hk7 ni0 hg5⟩
  refine dr U 600 rfl trivial ?_
  refine cS rfl rfl rfl rfl (fun hq => ?_) (fun hq => ?_)
  · refine dr U 600 rfl trivial ?_
    exact ret Tryz.results21 rfl ⟨_, rfl, .inl ⟨e, hq, hte, rfl⟩, hB5⟩
  · obtain rfl := Classical.not_not.1 hq
    obtain ⟨hx, hy⟩ := hqq rfl
    have hsx := hte.ok.1.small
    have hsy := hte.ok.2.small
    refine dr U 600 rfl trivial ?_
    refine lg rfl ag_q rfl rfl hk6' rfl ?_
    refine lg rfl ag_q rfl rfl hk7' rfl ?_
    refine call (f := 59) rfl rfl cb59 (rorder_calls _ _ 4000 (by omega) _ _ w5 hx hy hsx hsy) ?_
    rintro v w6 ⟨rfl, hB6'⟩
    refine ⟨_, rfl, ?_⟩
    refine dr U 600 rfl trivial ?_
    exact ret Tryz.results21 rfl ⟨_, rfl, .inr ⟨hte, rfl⟩, bl_tr hB5 hB6' hB5.size⟩

/-- What Div answers. -/
def DivR (s t : List UInt8) (v : Value) : Prop :=
  (∃ e, e ≠ 0 ∧ Two s t e ∧ v = .tuple ⟨[.string ⟨⟨[]⟩⟩, .int .i64 e]⟩) ∨ (Two s t 0 ∧ qval t = 0 ∧ v = .tuple ⟨[.string ⟨⟨[]⟩⟩, .int .i64 6]⟩) ∨ (Two s t 0 ∧ qval t ≠ 0 ∧ QRes (qval s * (qval t)⁻¹) v)
theorem DivR.text {p q : Rat} {v : Value} (hp : Small 4000 p) (hq : Small 4000 q) (h0 : q ≠ 0) (h : DivR (qtext p) (qtext q) v) : QRes (p * q⁻¹) v := by
  have h1 := q_text_ok p hp
  have h2 := q_text_ok q hq
  rcases h with ⟨e, g1, g2, rfl⟩ | ⟨_, g, _⟩ | ⟨_, _, g⟩
  · exact absurd (g2.uniq (.inr ⟨h1.1, h2.1⟩)) g1
  · rw [h2.2] at g; exact absurd g h0
  · rwa [h1.2, h2.2] at g
theorem small_inv {K : Nat} {p : Rat} (h : p ≠ 0) (hp : Small K p) : Small K p⁻¹ := by
  rw [mkq_inv h]
  exact mkq_small (fun e => h (q_num_zero.1 (by omega))) hp.2 hp.1
end Go.Proofs.YtfdekppnilffeaaGreatDoor
