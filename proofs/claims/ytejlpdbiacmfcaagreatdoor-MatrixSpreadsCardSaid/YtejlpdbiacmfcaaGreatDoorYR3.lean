/-
  Walk of the reference's sum of rational numbers.
  Conditions: numbers take fewer than 2^34 limbs.

  Walks of the law package's helpers: Pick, sum, product; the texts of given numbers.
  Conditions: texts take fewer than 2^40 bytes; the library's table of powers of ten is laid.

  Walks of frac.Integer and rat.Make; the cells of bit strings.
  Conditions: texts take fewer than 2^40 bytes; the library's table of powers of ten is laid.

  Walks of the reference's rational numbers: integer, Make.
  Conditions: texts take fewer than 2^40 bytes.
-/
import Derived.Test.YtejlpdbiacmfcaaGreatDoorYRef
import Derived.Test.YtejlpdbiacmfcaaGreatDoorYFr
section
set_option linter.unusedSimpArgs false
set_option linter.unusedVariables false
set_option maxHeartbeats 1000000
namespace Go.Proofs.YtejlpdbiacmfcaaGreatDoor
open Go Go.Proofs Go.RowKit Go.Lib



theorem rplus_calls (p q : Rat) (K : Nat) (hK : K ≤ 1000000) (v1 v2 : Value) (w : World) (h1 : QR w v1 p) (h2 : QR w v2 q) (hs1 : Small K p) (hs2 : Small K q) :
    Calls Tryz.prog 59 #[v1, v2] w (Ret fun v w' => QR w' v (p + q) ∧ Below w.heap.size w w') := by
  obtain ⟨an, cn, ad, cd, rfl, hn1, hd1⟩ := h1
  obtain ⟨bn, en, bd, ed, rfl, hn2, hd2⟩ := h2
  obtain ⟨l1, l2⟩ := hs1.lim
  obtain ⟨l3, l4⟩ := hs2.lim
  have lx := lim_len_mul p.num.natAbs q.den
  have ly := lim_len_mul q.num.natAbs p.den
  have lpq := lim_len_mul p.den q.den
  have hp := mkq_self p
  have hq2 := mkq_self q
  generalize decide (p.num < 0) = m1 at *
  generalize decide (q.num < 0) = m2 at *
  refine enter Tryz.func59 rfl Tryz.ntmps59 (Nat.le_of_ble_eq_true rfl) ?_
  refine dr U 600 rfl trivial ?_
  refine bx rfl rfl rfl rfl ?_
  intro b2 wa hb2 hsa hk2 hga
  refine bx rfl rfl rfl rfl ?_
  intro b3 wb hb3 hsb hk3 hgb
  refine al U rfl rfl rfl rfl ?_
  intro b4 w0 hb4 hs0 hk4 hg0
  have hk2 := (hk2.keep hgb (by simp)).keep hg0 (by simp)
  have hk3 := hk3.keep hg0 (by simp)
  have hB0 : Below w.heap.size w w0 := (((Below.refl _ _).grown hga (Nat.le_refl _) (fun k e => by cases e)).grown hgb (by omega) (fun k e => by cases e)).grown hg0 (by omega) (fun k e => by cases e)
  refine dr U 600 rfl trivial ?_
  refine dwn 11 (fun W => W.cell? ⟨b2, 1, none⟩ = some (.slice an (lim p.num.natAbs).length cn) ∧ W.cell? ⟨b2, 2, none⟩ = some (.slice ad (lim p.den).length cd) ∧ W.cell? ⟨b3, 1, none⟩ = some (.slice bn (lim q.num.natAbs).length en) ∧ W.cell? ⟨b3, 2, none⟩ = some (.slice bd (lim q.den).length ed)) hmo ?_
  intro w1 hh1 hg1
  have hB1' : Below w0.heap.size w0 w1 := (Below.refl _ _).grown hg1 (Nat.le_refl _) (fun k e => by cases e)
  have hB1 := bl_tr hB0 hB1' hB0.size
  have hk2 := hk2.below hB1' hk2.lt
  have hk3 := hk3.below hB1' hk3.lt
  have hk4 := hk4.below hB1' hk4.lt
  have hC1 : w1.cell? ⟨b2, 1, none⟩ = some (.slice an (lim p.num.natAbs).length cn) ∧ w1.cell? ⟨b2, 2, none⟩ = some (.slice ad (lim p.den).length cd) ∧ w1.cell? ⟨b3, 1, none⟩ = some (.slice bn (lim q.num.natAbs).length en) ∧ w1.cell? ⟨b3, 2, none⟩ = some (.slice bd (lim q.den).length ed) := ⟨hk2.cell rfl, hk2.cell rfl, hk3.cell rfl, hk3.cell rfl⟩
  refine dq U [0,1,2,3,5,6,7,8] [(1, .slice an (lim p.num.natAbs).length cn), (3, .slice bd (lim q.den).length ed), (6, .slice bn (lim q.num.natAbs).length en), (8, .slice ad (lim p.den).length cd)] (by kernel_rfl) rfl rfl hC1 (by simp only [AllP, InR, List.nil_append, List.cons_append]; (repeat' apply And.intro); all_goals first | exact True.intro | omega | (simp only [List.length_cons, List.length_nil]; omega) | (intro w_ hw_; refine ldC U rfl hw_ ?_; first | assumption | (simp [add_plain]; assumption)) | (intro w_ hw_; refine run_load_cell U rfl ?_; first | exact hw_ | exact hw_.1 | exact hw_.2 | exact hw_.2.1 | exact hw_.2.2 | exact hw_.2.2.1 | exact hw_.2.2.2 | (simp [add_plain]; first | exact hw_.1 | exact hw_.2.1 | exact hw_.2.2))) ?_
  refine d1 rfl rfl (fun _ => hC1) ?_
  refine call (f := 101) rfl rfl cb101 (times_calls _ _ an bd cn ed w1 (hn1.below hB1) (hd2.below hB1) (by omega) (by omega)) ?_
  rintro v w3 ⟨a3, c3, rfl, ho3, hB3⟩
  refine ⟨_, rfl, d2 ?_⟩
  have hB3' := bl_tr hB1 hB3 hB1.size
  have hk2 := hk2.below hB3 hk2.lt
  have hk3 := hk3.below hB3 hk3.lt
  have hk4 := hk4.below hB3 hk4.lt
  refine d1 rfl rfl (fun _ => ⟨hk2.cell rfl, hk2.cell rfl, hk3.cell rfl, hk3.cell rfl⟩) ?_
  refine call (f := 101) rfl rfl cb101 (times_calls _ _ bn ad en cd w3 (hn2.below hB3') (hd1.below hB3') (by omega) (by omega)) ?_
  rintro v w4 ⟨a4, c4, rfl, ho4, hB4⟩
  refine ⟨_, rfl, d2 ?_⟩
  have hB4' := bl_tr hB3' hB4 hB3'.size
  have hk2 := hk2.below hB4 hk2.lt
  have hk3 := hk3.below hB4 hk3.lt
  have hk4 := hk4.below hB4 hk4.lt
  have hC4 : w4.cell? ⟨b2, 1, none⟩ = some (.slice an (lim p.num.natAbs).length cn) ∧ w4.cell? ⟨b2, 2, none⟩ = some (.slice ad (lim p.den).length cd) ∧ w4.cell? ⟨b3, 1, none⟩ = some (.slice bn (lim q.num.natAbs).length en) ∧ w4.cell? ⟨b3, 2, none⟩ = some (.slice bd (lim q.den).length ed) := ⟨hk2.cell rfl, hk2.cell rfl, hk3.cell rfl, hk3.cell rfl⟩
  refine dq U [10] [] (by kernel_rfl) rfl rfl hC4 (by simp only [AllP, InR, List.nil_append, List.cons_append]; (repeat' apply And.intro); all_goals first | exact True.intro | omega | (simp only [List.length_cons, List.length_nil]; omega) | (intro w_ hw_; refine ldC U rfl hw_ ?_; first | assumption | (simp [add_plain]; assumption)) | (intro w_ hw_; refine run_load_cell U rfl ?_; first | exact hw_ | exact hw_.1 | exact hw_.2 | exact hw_.2.1 | exact hw_.2.2 | exact hw_.2.2.1 | exact hw_.2.2.2 | (simp [add_plain]; first | exact hw_.1 | exact hw_.2.1 | exact hw_.2.2))) ?_
  refine d1 rfl rfl (fun _ => hC4) ?_
  refine dr U 600 rfl trivial ?_
  refine d3 ?_; refine dend rfl (fun h => by cases h) ?_
  refine dr U 600 rfl trivial ?_
  refine ld U rfl rfl rfl rfl ((hk2).cell rfl) ?_
  refine dr U 600 rfl trivial ?_
  refine ld U rfl rfl rfl rfl ((hk3).cell rfl) ?_
  refine dr U 600 rfl trivial ?_
  refine call (f := 101) rfl rfl cb101 (times_calls _ _ ad bd cd ed w4 (hd1.below hB4') (hd2.below hB4') (by omega) (by omega)) ?_
  rintro v w5 ⟨a5, c5, rfl, ho5, hB5⟩
  refine ⟨_, rfl, ?_⟩
  have hB5' := bl_tr hB4' hB5 hB4'.size
  have hk2 := hk2.below hB5 hk2.lt
  have hk3 := hk3.below hB5 hk3.lt
  have hk4 := hk4.below hB5 hk4.lt
  have hr3 := ((ownI_rd ho3).below hB4).below hB5
  have hr4 := (ownI_rd ho4).below hB5
  have hr5 := ownI_rd ho5
  refine dr U 600 rfl trivial ?_
  refine ld U rfl rfl rfl rfl ((hk2).cell rfl) ?_
  refine dr U 600 rfl trivial ?_
  refine ld U rfl rfl rfl rfl ((hk3).cell rfl) ?_
  cases m1 with
  | false =>
    cases m2 with
    | false =>
      refine eqlB (c := true) U rfl rfl rfl rfl rfl rfl ?_
      refine dr U 600 rfl trivial ?_
      have heq : p + q = mkq false (p.num.natAbs * q.den + q.num.natAbs * p.den) (p.den * q.den) := by
        rw [← mkq_add_same _ _ _ _ _ p.den_nz q.den_nz, hp, hq2]
      have hla := lim_len_add (p.num.natAbs * q.den) (q.num.natAbs * p.den)
      refine dwn 7 (fun W => W.cell? ⟨b2, 0, none⟩ = some (.bool false)) hmo ?_
      intro wD hhD hgD
      have hkD := heap_bk hhD hk2
      have hBDs : Below w5.heap.size w5 wD := (Below.refl _ _).grown hgD (Nat.le_refl _) (fun k e => by cases e)
      have hBD := bl_tr hB5' hBDs hB5'.size
      have hr3 := hr3.below hBDs
      have hr4 := hr4.below hBDs
      have hr5 := hr5.below hBDs
      have hk4 := hk4.below hBDs hk4.lt
      refine dq U [0,1,2,3,5] [(1, .bool false)] (by kernel_rfl) rfl rfl (hkD.cell rfl) (by simp only [AllP, InR, List.nil_append, List.cons_append]; (repeat' apply And.intro); all_goals first | exact True.intro | omega | (simp only [List.length_cons, List.length_nil]; omega) | (intro w_ hw_; refine ldC U rfl hw_ ?_; first | assumption | (simp [add_plain]; assumption)) | (intro w_ hw_; refine run_load_cell U rfl ?_; first | exact hw_ | exact hw_.1 | exact hw_.2 | exact hw_.2.1 | exact hw_.2.2 | exact hw_.2.2.1 | exact hw_.2.2.2 | (simp [add_plain]; first | exact hw_.1 | exact hw_.2.1 | exact hw_.2.2))) ?_
      refine d1 rfl rfl (fun _ => hkD.cell rfl) ?_
      refine call (f := 61) rfl rfl cb61 (plus_calls _ _ a3 a4 c3 c4 wD hr3 hr4 (by omega) (by omega)) ?_
      rintro v w7 ⟨a7, c7, rfl, ho7, hB7⟩
      refine ⟨_, rfl, d2 ?_⟩
      have hr7 := ownI_rd ho7
      have hB7' := bl_tr hBD hB7 hBD.size
      have hk47 := hk4.below hB7 hk4.lt
      have hkx7 := hkD.below hB7 hkD.lt
      refine d1 rfl rfl (fun _ => hkx7.cell rfl) ?_
      refine call (f := 102) rfl rfl cb102 (reduce_calls false (p.num.natAbs * q.den + q.num.natAbs * p.den) (p.den * q.den) (Nat.mul_ne_zero p.den_nz q.den_nz) a7 a5 c7 c5 w7 hr7 (hr5.below hB7) (by omega) (by omega)) ?_
      rintro v w8 ⟨hres, hB8⟩
      obtain ⟨a8, c8, a9, c9, rfl, hx8, hx9⟩ := hres
      refine ⟨_, rfl, d2 ?_⟩
      have hB8' := bl_tr hB7' hB8 hB7'.size
      have hk48 := hk47.below hB8 hk47.lt
      have hkx8 := hkx7.below hB8 hkx7.lt
      refine d1 rfl rfl (fun _ => hkx8.cell rfl) ?_
      refine st U rfl rfl rfl rfl rfl rfl rfl rfl rfl rfl (hk48) ?_
      intro w9 hk9 hg9 hs9
      refine d2 ?_; refine dend rfl (fun h => by cases h) ?_
      refine dr U 600 rfl trivial ?_
      refine retS Tryz.results59 (vs := [_]) ⟨⟨_, rfl, run_load_agg ag_q hk9 rfl⟩, trivial⟩ ⟨_, rfl, ?_, hB8'.grown hg9 hB8'.size (fun k e => by cases e; omega)⟩
      rw [heq]
      exact ⟨a8, c8, a9, c9, rfl, hx8.past hk48 ni0 hg9, hx9.past hk48 ni0 hg9⟩
    | true =>
      refine eqlB (c := false) U rfl rfl rfl rfl rfl rfl ?_
      refine dr U 600 rfl trivial ?_
      refine call (f := 103) rfl rfl cb103 (order_calls _ _ a3 a4 c3 c4 w5 hr3 hr4 (by omega) (by omega)) ?_
      rintro v w6 ⟨rfl, hB6⟩
      refine ⟨_, rfl, ?_⟩
      have hr3 := hr3.below hB6
      have hr4 := hr4.below hB6
      have hr5 := hr5.below hB6
      have hk2 := hk2.below hB6 hk2.lt
      have hk3 := hk3.below hB6 hk3.lt
      have hk4 := hk4.below hB6 hk4.lt
      have hB6' := bl_tr hB5' hB6 hB5'.size
      have hlm1 := lim_len_mono (show p.num.natAbs * q.den - q.num.natAbs * p.den ≤ p.num.natAbs * q.den by omega)
      have hlm2 := lim_len_mono (show q.num.natAbs * p.den - p.num.natAbs * q.den ≤ q.num.natAbs * p.den by omega)
      refine dr U 600 rfl trivial ?_
      refine cS rfl rfl rfl rfl (fun hq => ?_) (fun hq => ?_)
      · have hlt := cmpN_neg.1 hq
        have heq : p + q = mkq true (q.num.natAbs * p.den - p.num.natAbs * q.den) (p.den * q.den) := by
          have h : mkq false p.num.natAbs p.den + mkq true q.num.natAbs q.den = mkq true (q.num.natAbs * p.den - p.num.natAbs * q.den) (p.den * q.den) := mkq_add_lt false _ _ _ _ p.den_nz q.den_nz (Nat.le_of_lt hlt)
          rw [hp, hq2] at h
          exact h
        refine dr U 600 rfl trivial ?_
        refine dwn 7 (fun W => W.cell? ⟨b3, 0, none⟩ = some (.bool true)) hmo ?_
        intro wD hhD hgD
        have hkD := heap_bk hhD hk3
        have hBDs : Below w6.heap.size w6 wD := (Below.refl _ _).grown hgD (Nat.le_refl _) (fun k e => by cases e)
        have hBD := bl_tr hB6' hBDs hB6'.size
        have hr3 := hr3.below hBDs
        have hr4 := hr4.below hBDs
        have hr5 := hr5.below hBDs
        have hk4 := hk4.below hBDs hk4.lt
        refine dq U [0,1,2,3,5] [(1, .bool true)] (by kernel_rfl) rfl rfl (hkD.cell rfl) (by simp only [AllP, InR, List.nil_append, List.cons_append]; (repeat' apply And.intro); all_goals first | exact True.intro | omega | (simp only [List.length_cons, List.length_nil]; omega) | (intro w_ hw_; refine ldC U rfl hw_ ?_; first | assumption | (simp [add_plain]; assumption)) | (intro w_ hw_; refine run_load_cell U rfl ?_; first | exact hw_ | exact hw_.1 | exact hw_.2 | exact hw_.2.1 | exact hw_.2.2 | exact hw_.2.2.1 | exact hw_.2.2.2 | (simp [add_plain]; first | exact hw_.1 | exact hw_.2.1 | exact hw_.2.2))) ?_
        refine d1 rfl rfl (fun _ => hkD.cell rfl) ?_
        refine call (f := 104) rfl rfl cb104 (minus_calls _ _ (Nat.le_of_lt hlt) a4 a3 c4 c3 wD hr4 hr3 (by omega)) ?_
        rintro v w7 ⟨a7, c7, rfl, ho7, hB7⟩
        refine ⟨_, rfl, d2 ?_⟩
        have hr7 := ownI_rd ho7
        have hB7' := bl_tr hBD hB7 hBD.size
        have hk47 := hk4.below hB7 hk4.lt
        have hkx7 := hkD.below hB7 hkD.lt
        refine d1 rfl rfl (fun _ => hkx7.cell rfl) ?_
        refine call (f := 102) rfl rfl cb102 (reduce_calls true (q.num.natAbs * p.den - p.num.natAbs * q.den) (p.den * q.den) (Nat.mul_ne_zero p.den_nz q.den_nz) a7 a5 c7 c5 w7 hr7 (hr5.below hB7) (by omega) (by omega)) ?_
        rintro v w8 ⟨hres, hB8⟩
        obtain ⟨a8, c8, a9, c9, rfl, hx8, hx9⟩ := hres
        refine ⟨_, rfl, d2 ?_⟩
        have hB8' := bl_tr hB7' hB8 hB7'.size
        have hk48 := hk47.below hB8 hk47.lt
        have hkx8 := hkx7.below hB8 hkx7.lt
        refine d1 rfl rfl (fun _ => hkx8.cell rfl) ?_
        refine st U rfl rfl rfl rfl rfl rfl rfl rfl rfl rfl (hk48) ?_
        intro w9 hk9 hg9 hs9
        refine d2 ?_; refine dend rfl (fun h => by cases h) ?_
        refine dr U 600 rfl trivial ?_
        refine retS Tryz.results59 (vs := [_]) ⟨⟨_, rfl, run_load_agg ag_q hk9 rfl⟩, trivial⟩ ⟨_, rfl, ?_, hB8'.grown hg9 hB8'.size (fun k e => by cases e; omega)⟩
        rw [heq]
        exact ⟨a8, c8, a9, c9, rfl, hx8.past hk48 ni0 hg9, hx9.past hk48 ni0 hg9⟩
      · have hge : q.num.natAbs * p.den ≤ p.num.natAbs * q.den := by
          rcases Nat.lt_or_ge (p.num.natAbs * q.den) (q.num.natAbs * p.den) with h | h
          · exact absurd (cmpN_neg.2 h) hq
          · exact h
        have heq : p + q = mkq false (p.num.natAbs * q.den - q.num.natAbs * p.den) (p.den * q.den) := by
          have h : mkq false p.num.natAbs p.den + mkq true q.num.natAbs q.den = mkq false (p.num.natAbs * q.den - q.num.natAbs * p.den) (p.den * q.den) := mkq_add_ge false _ _ _ _ p.den_nz q.den_nz hge
          rw [hp, hq2] at h
          exact h
        refine dr U 600 rfl trivial ?_
        refine dwn 7 (fun W => W.cell? ⟨b2, 0, none⟩ = some (.bool false)) hmo ?_
        intro wD hhD hgD
        have hkD := heap_bk hhD hk2
        have hBDs : Below w6.heap.size w6 wD := (Below.refl _ _).grown hgD (Nat.le_refl _) (fun k e => by cases e)
        have hBD := bl_tr hB6' hBDs hB6'.size
        have hr3 := hr3.below hBDs
        have hr4 := hr4.below hBDs
        have hr5 := hr5.below hBDs
        have hk4 := hk4.below hBDs hk4.lt
        refine dq U [0,1,2,3,5] [(1, .bool false)] (by kernel_rfl) rfl rfl (hkD.cell rfl) (by simp only [AllP, InR, List.nil_append, List.cons_append]; (repeat' apply And.intro); all_goals first | exact True.intro | omega | (simp only [List.length_cons, List.length_nil]; omega) | (intro w_ hw_; refine ldC U rfl hw_ ?_; first | assumption | (simp [add_plain]; assumption)) | (intro w_ hw_; refine run_load_cell U rfl ?_; first | exact hw_ | exact hw_.1 | exact hw_.2 | exact hw_.2.1 | exact hw_.2.2 | exact hw_.2.2.1 | exact hw_.2.2.2 | (simp [add_plain]; first | exact hw_.1 | exact hw_.2.1 | exact hw_.2.2))) ?_
        refine d1 rfl rfl (fun _ => hkD.cell rfl) ?_
        refine call (f := 104) rfl rfl cb104 (minus_calls _ _ hge a3 a4 c3 c4 wD hr3 hr4 (by omega)) ?_
        rintro v w7 ⟨a7, c7, rfl, ho7, hB7⟩
        refine ⟨_, rfl, d2 ?_⟩
        have hr7 := ownI_rd ho7
        have hB7' := bl_tr hBD hB7 hBD.size
        have hk47 := hk4.below hB7 hk4.lt
        have hkx7 := hkD.below hB7 hkD.lt
        refine d1 rfl rfl (fun _ => hkx7.cell rfl) ?_
        refine call (f := 102) rfl rfl cb102 (reduce_calls false (p.num.natAbs * q.den - q.num.natAbs * p.den) (p.den * q.den) (Nat.mul_ne_zero p.den_nz q.den_nz) a7 a5 c7 c5 w7 hr7 (hr5.below hB7) (by omega) (by omega)) ?_
        rintro v w8 ⟨hres, hB8⟩
        obtain ⟨a8, c8, a9, c9, rfl, hx8, hx9⟩ := hres
        refine ⟨_, rfl, d2 ?_⟩
        have hB8' := bl_tr hB7' hB8 hB7'.size
        have hk48 := hk47.below hB8 hk47.lt
        have hkx8 := hkx7.below hB8 hkx7.lt
        refine d1 rfl rfl (fun _ => hkx8.cell rfl) ?_
        refine st U rfl rfl rfl rfl rfl rfl rfl rfl rfl rfl (hk48) ?_
        intro w9 hk9 hg9 hs9
        refine d2 ?_; refine dend rfl (fun h => by cases h) ?_
        refine dr U 600 rfl trivial ?_
        refine retS Tryz.results59 (vs := [_]) ⟨⟨_, rfl, run_load_agg ag_q hk9 rfl⟩, trivial⟩ ⟨_, rfl, ?_, hB8'.grown hg9 hB8'.size (fun k e => by cases e; omega)⟩
        rw [heq]
        exact ⟨a8, c8, a9, c9, rfl, hx8.past hk48 ni0 hg9, hx9.past hk48 ni0 hg9⟩
  | true =>
    cases m2 with
    | false =>
      refine eqlB (c := false) U rfl rfl rfl rfl rfl rfl ?_
      refine dr U 600 rfl trivial ?_
      refine call (f := 103) rfl rfl cb103 (order_calls _ _ a3 a4 c3 c4 w5 hr3 hr4 (by omega) (by omega)) ?_
      rintro v w6 ⟨rfl, hB6⟩
      refine ⟨_, rfl, ?_⟩
      have hr3 := hr3.below hB6
      have hr4 := hr4.below hB6
      have hr5 := hr5.below hB6
      have hk2 := hk2.below hB6 hk2.lt
      have hk3 := hk3.below hB6 hk3.lt
      have hk4 := hk4.below hB6 hk4.lt
      have hB6' := bl_tr hB5' hB6 hB5'.size
      have hlm1 := lim_len_mono (show p.num.natAbs * q.den - q.num.natAbs * p.den ≤ p.num.natAbs * q.den by omega)
      have hlm2 := lim_len_mono (show q.num.natAbs * p.den - p.num.natAbs * q.den ≤ q.num.natAbs * p.den by omega)
      refine dr U 600 rfl trivial ?_
      refine cS rfl rfl rfl rfl (fun hq => ?_) (fun hq => ?_)
      · have hlt := cmpN_neg.1 hq
        have heq : p + q = mkq false (q.num.natAbs * p.den - p.num.natAbs * q.den) (p.den * q.den) := by
          have h : mkq true p.num.natAbs p.den + mkq false q.num.natAbs q.den = mkq false (q.num.natAbs * p.den - p.num.natAbs * q.den) (p.den * q.den) := mkq_add_lt true _ _ _ _ p.den_nz q.den_nz (Nat.le_of_lt hlt)
          rw [hp, hq2] at h
          exact h
        refine dr U 600 rfl trivial ?_
        refine dwn 7 (fun W => W.cell? ⟨b3, 0, none⟩ = some (.bool false)) hmo ?_
        intro wD hhD hgD
        have hkD := heap_bk hhD hk3
        have hBDs : Below w6.heap.size w6 wD := (Below.refl _ _).grown hgD (Nat.le_refl _) (fun k e => by cases e)
        have hBD := bl_tr hB6' hBDs hB6'.size
        have hr3 := hr3.below hBDs
        have hr4 := hr4.below hBDs
        have hr5 := hr5.below hBDs
        have hk4 := hk4.below hBDs hk4.lt
        refine dq U [0,1,2,3,5] [(1, .bool false)] (by kernel_rfl) rfl rfl (hkD.cell rfl) (by simp only [AllP, InR, List.nil_append, List.cons_append]; (repeat' apply And.intro); all_goals first | exact True.intro | omega | (simp only [List.length_cons, List.length_nil]; omega) | (intro w_ hw_; refine ldC U rfl hw_ ?_; first | assumption | (simp [add_plain]; assumption)) | (intro w_ hw_; refine run_load_cell U rfl ?_; first | exact hw_ | exact hw_.1 | exact hw_.2 | exact hw_.2.1 | exact hw_.2.2 | exact hw_.2.2.1 | exact hw_.2.2.2 | (simp [add_plain]; first | exact hw_.1 | exact hw_.2.1 | exact hw_.2.2))) ?_
        refine d1 rfl rfl (fun _ => hkD.cell rfl) ?_
        refine call (f := 104) rfl rfl cb104 (minus_calls _ _ (Nat.le_of_lt hlt) a4 a3 c4 c3 wD hr4 hr3 (by omega)) ?_
        rintro v w7 ⟨a7, c7, rfl, ho7, hB7⟩
        refine ⟨_, rfl, d2 ?_⟩
        have hr7 := ownI_rd ho7
        have hB7' := bl_tr hBD hB7 hBD.size
        have hk47 := hk4.below hB7 hk4.lt
        have hkx7 := hkD.below hB7 hkD.lt
        refine d1 rfl rfl (fun _ => hkx7.cell rfl) ?_
        refine call (f := 102) rfl rfl cb102 (reduce_calls false (q.num.natAbs * p.den - p.num.natAbs * q.den) (p.den * q.den) (Nat.mul_ne_zero p.den_nz q.den_nz) a7 a5 c7 c5 w7 hr7 (hr5.below hB7) (by omega) (by omega)) ?_
        rintro v w8 ⟨hres, hB8⟩
        obtain ⟨a8, c8, a9, c9, rfl, hx8, hx9⟩ := hres
        refine ⟨_, rfl, d2 ?_⟩
        have hB8' := bl_tr hB7' hB8 hB7'.size
        have hk48 := hk47.below hB8 hk47.lt
        have hkx8 := hkx7.below hB8 hkx7.lt
        refine d1 rfl rfl (fun _ => hkx8.cell rfl) ?_
        refine st U rfl rfl rfl rfl rfl rfl rfl rfl rfl rfl (hk48) ?_
        intro w9 hk9 hg9 hs9
        refine d2 ?_; refine dend rfl (fun h => by cases h) ?_
        refine dr U 600 rfl trivial ?_
        refine retS Tryz.results59 (vs := [_]) ⟨⟨_, rfl, run_load_agg ag_q hk9 rfl⟩, trivial⟩ ⟨_, rfl, ?_, hB8'.grown hg9 hB8'.size (fun k e => by cases e; omega)⟩
        rw [heq]
        exact ⟨a8, c8, a9, c9, rfl, hx8.past hk48 ni0 hg9, hx9.past hk48 ni0 hg9⟩
      · have hge : q.num.natAbs * p.den ≤ p.num.natAbs * q.den := by
          rcases Nat.lt_or_ge (p.num.natAbs * q.den) (q.num.natAbs * p.den) with h | h
          · exact absurd (cmpN_neg.2 h) hq
          · exact h
        have heq : p + q = mkq true (p.num.natAbs * q.den - q.num.natAbs * p.den) (p.den * q.den) := by
          have h : mkq true p.num.natAbs p.den + mkq false q.num.natAbs q.den = mkq true (p.num.natAbs * q.den - q.num.natAbs * p.den) (p.den * q.den) := mkq_add_ge true _ _ _ _ p.den_nz q.den_nz hge
          rw [hp, hq2] at h
          exact h
        refine dr U 600 rfl trivial ?_
        refine dwn 7 (fun W => W.cell? ⟨b2, 0, none⟩ = some (.bool true)) hmo ?_
        intro wD hhD hgD
        have hkD := heap_bk hhD hk2
        have hBDs : Below w6.heap.size w6 wD := (Below.refl _ _).grown hgD (Nat.le_refl _) (fun k e => by cases e)
        have hBD := bl_tr hB6' hBDs hB6'.size
        have hr3 := hr3.below hBDs
        have hr4 := hr4.below hBDs
        have hr5 := hr5.below hBDs
        have hk4 := hk4.below hBDs hk4.lt
        refine dq U [0,1,2,3,5] [(1, .bool true)] (by kernel_rfl) rfl rfl (hkD.cell rfl) (by simp only [AllP, InR, List.nil_append, List.cons_append]; (repeat' apply And.intro); all_goals first | exact True.intro | omega | (simp only [List.length_cons, List.length_nil]; omega) | (intro w_ hw_; refine ldC U rfl hw_ ?_; first | assumption | (simp [add_plain]; assumption)) | (intro w_ hw_; refine run_load_cell U rfl ?_; first | exact hw_ | exact hw_.1 | exact hw_.2 | exact hw_.2.1 | exact hw_.2.2 | exact hw_.2.2.1 | exact hw_.2.2.2 | (simp [add_plain]; first | exact hw_.1 | exact hw_.2.1 | exact hw_.2.2))) ?_
        refine d1 rfl rfl (fun _ => hkD.cell rfl) ?_
        refine call (f := 104) rfl rfl cb104 (minus_calls _ _ hge a3 a4 c3 c4 wD hr3 hr4 (by omega)) ?_
        rintro v w7 ⟨a7, c7, rfl, ho7, hB7⟩
        refine ⟨_, rfl, d2 ?_⟩
        have hr7 := ownI_rd ho7
        have hB7' := bl_tr hBD hB7 hBD.size
        have hk47 := hk4.below hB7 hk4.lt
        have hkx7 := hkD.below hB7 hkD.lt
        refine d1 rfl rfl (fun _ => hkx7.cell rfl) ?_
        refine call (f := 102) rfl rfl cb102 (reduce_calls true (p.num.natAbs * q.den - q.num.natAbs * p.den) (p.den * q.den) (Nat.mul_ne_zero p.den_nz q.den_nz) a7 a5 c7 c5 w7 hr7 (hr5.below hB7) (by omega) (by omega)) ?_
        rintro v w8 ⟨hres, hB8⟩
        obtain ⟨a8, c8, a9, c9, rfl, hx8, hx9⟩ := hres
        refine ⟨_, rfl, d2 ?_⟩
        have hB8' := bl_tr hB7' hB8 hB7'.size
        have hk48 := hk47.below hB8 hk47.lt
        have hkx8 := hkx7.below hB8 hkx7.lt
        refine d1 rfl rfl (fun _ => hkx8.cell rfl) ?_
        refine st U rfl rfl rfl rfl rfl rfl rfl rfl rfl rfl (hk48) ?_
        intro w9 hk9 hg9 hs9
        refine d2 ?_; refine dend rfl (fun h => by cases h) ?_
        refine dr U 600 rfl trivial ?_
        refine retS Tryz.results59 (vs := [_]) ⟨⟨_, rfl, run_load_agg ag_q hk9 rfl⟩, trivial⟩ ⟨_, rfl, ?_, hB8'.grown hg9 hB8'.size (fun k e => by cases e; omega)⟩
        rw [heq]
        exact ⟨a8, c8, a9, c9, rfl, hx8.past hk48 ni0 hg9, hx9.past hk48 ni0 hg9⟩
    | true =>
      refine eqlB (c := true) U rfl rfl rfl rfl rfl rfl ?_
      refine dr U 600 rfl trivial ?_
      have heq : p + q = mkq true (p.num.natAbs * q.den + q.num.natAbs * p.den) (p.den * q.den) := by
        rw [← mkq_add_same _ _ _ _ _ p.den_nz q.den_nz, hp, hq2]
      have hla := lim_len_add (p.num.natAbs * q.den) (q.num.natAbs * p.den)
      refine dwn 7 (fun W => W.cell? ⟨b2, 0, none⟩ = some (.bool true)) hmo ?_
      intro wD hhD hgD
      have hkD := heap_bk hhD hk2
      have hBDs : Below w5.heap.size w5 wD := (Below.refl _ _).grown hgD (Nat.le_refl _) (fun k e => by cases e)
      have hBD := bl_tr hB5' hBDs hB5'.size
      have hr3 := hr3.below hBDs
      have hr4 := hr4.below hBDs
      have hr5 := hr5.below hBDs
      have hk4 := hk4.below hBDs hk4.lt
      refine dq U [0,1,2,3,5] [(1, .bool true)] (by kernel_rfl) rfl rfl (hkD.cell rfl) (by simp only [AllP, InR, List.nil_append, List.cons_append]; (repeat' apply And.intro); all_goals first | exact True.intro | omega | (simp only [List.length_cons, List.length_nil]; omega) | (intro w_ hw_; refine ldC U rfl hw_ ?_; first | assumption | (simp [add_plain]; assumption)) | (intro w_ hw_; refine run_load_cell U rfl ?_; first | exact hw_ | exact hw_.1 | exact hw_.2 | exact hw_.2.1 | exact hw_.2.2 | exact hw_.2.2.1 | exact hw_.2.2.2 | (simp [add_plain]; first | exact hw_.1 | exact hw_.2.1 | exact hw_.2.2))) ?_
      refine d1 rfl rfl (fun _ => hkD.cell rfl) ?_
      refine call (f := 61) rfl rfl cb61 (plus_calls _ _ a3 a4 c3 c4 wD hr3 hr4 (by omega) (by omega)) ?_
      rintro v w7 ⟨a7, c7, rfl, ho7, hB7⟩
      refine ⟨_, rfl, d2 ?_⟩
      have hr7 := ownI_rd ho7
      have hB7' := bl_tr hBD hB7 hBD.size
      have hk47 := hk4.below hB7 hk4.lt
      have hkx7 := hkD.below hB7 hkD.lt
      refine d1 rfl rfl (fun _ => hkx7.cell rfl) ?_
      refine call (f := 102) rfl rfl cb102 (reduce_calls true (p.num.natAbs * q.den + q.num.natAbs * p.den) (p.den * q.den) (Nat.mul_ne_zero p.den_nz q.den_nz) a7 a5 c7 c5 w7 hr7 (hr5.below hB7) (by omega) (by omega)) ?_
      rintro v w8 ⟨hres, hB8⟩
      obtain ⟨a8, c8, a9, c9, rfl, hx8, hx9⟩ := hres
      refine ⟨_, rfl, d2 ?_⟩
      have hB8' := bl_tr hB7' hB8 hB7'.size
      have hk48 := hk47.below hB8 hk47.lt
      have hkx8 := hkx7.below hB8 hkx7.lt
      refine d1 rfl rfl (fun _ => hkx8.cell rfl) ?_
      refine st U rfl rfl rfl rfl rfl rfl rfl rfl rfl rfl (hk48) ?_
      intro w9 hk9 hg9 hs9
      refine d2 ?_; refine dend rfl (fun h => by cases h) ?_
      refine dr U 600 rfl trivial ?_
      refine retS Tryz.results59 (vs := [_]) ⟨⟨_, rfl, run_load_agg ag_q hk9 rfl⟩, trivial⟩ ⟨_, rfl, ?_, hB8'.grown hg9 hB8'.size (fun k e => by cases e; omega)⟩
      rw [heq]
      exact ⟨a8, c8, a9, c9, rfl, hx8.past hk48 ni0 hg9, hx9.past hk48 ni0 hg9⟩
end Go.Proofs.YtejlpdbiacmfcaaGreatDoor
end
section
set_option linter.unusedSimpArgs false
set_option linter.unusedVariables false
set_option maxHeartbeats 1000000
namespace Go.Proofs.YtejlpdbiacmfcaaGreatDoor
open Go Go.Proofs Go.RowKit Go.Lib

/-- A text of a number of at most so many digits. -/
def Num (k : Nat) (x : List UInt8) (n : Nat) : Prop := x = decDigits n ∧ nDigits n ≤ k
theorem Num.of {l : List UInt8} (h : (l.all fun c => decide (48 ≤ c.toNat) && decide (c.toNat ≤ 57)) = true) (hne : l ≠ []) (hz : l = [48] ∨ l.head? ≠ some 48) : Num l.length l (dval l) := by
  have hd : Dgs l := fun c hc => by
    have := List.all_eq_true.1 h c hc
    simp at this; exact this
  have := dec_of hd hne hz
  exact ⟨this, by rw [← decDigits_length, ← this]; exact Nat.le_refl _⟩
theorem Num.mono {k k' : Nat} {x : List UInt8} {n : Nat} (h : Num k x n) (hk : k ≤ k') : Num k' x n := ⟨h.1, Nat.le_trans h.2 hk⟩

end Go.Proofs.YtejlpdbiacmfcaaGreatDoor
end
section
set_option linter.unusedSimpArgs false
set_option linter.unusedVariables false
set_option maxHeartbeats 1000000
namespace Go.Proofs.YtejlpdbiacmfcaaGreatDoor
open Go Go.Proofs Go.RowKit Go.Lib

def ineg (x : List UInt8) : Bool := hasPrefix x [45]
def irest (x : List UInt8) : List UInt8 := trimPrefix x [45]
/-- A text of an integer. -/
def IOk (x : List UInt8) : Prop := Form (irest x) ∧ ¬(ineg x = true ∧ irest x = [48])
theorem irest_len (x : List UInt8) : (irest x).length ≤ x.length := by
  unfold irest trimPrefix
  split
  · simp
  · exact Nat.le_refl _

theorem cutminus (x : List UInt8) (w : World) : Calls Tryz.prog 161 #[.string ⟨⟨x⟩⟩, .string ⟨⟨[45]⟩⟩] w (Ret fun v w' => v = .tuple ⟨[.string ⟨⟨irest x⟩⟩, .bool (ineg x)]⟩ ∧ w = w') :=
  (Tryz.strings_CutPrefix ⟨⟨x⟩⟩ ⟨⟨[45]⟩⟩ w).mono (by rintro e w' ⟨rfl, rfl⟩; exact ⟨_, rfl, rfl, rfl⟩)

theorem integer_calls (x : List UInt8) (hx : x.length ≤ 1099511627776) (w : World) :
    Calls Tryz.prog 130 #[.string ⟨⟨x⟩⟩] w (Ret fun v w' => (∃ b, v = .tuple ⟨[.bool (ineg x), .string ⟨⟨irest x⟩⟩, .bool b]⟩ ∧ (b = true ↔ IOk x)) ∧ Below w.heap.size w w') := by
  have hlen := irest_len x
  have hio : IOk x ↔ Form (irest x) ∧ ¬(ineg x = true ∧ irest x = [48]) := Iff.rfl
  refine enter Tryz.func130 rfl Tryz.ntmps130 (Nat.le_of_ble_eq_true rfl) ?_
  refine dr U 600 rfl trivial ?_
  refine call (f := 161) rfl rfl cb161 (cutminus x w) ?_
  rintro v w1 ⟨rfl, rfl⟩
  refine ⟨_, rfl, ?_⟩
  generalize ineg x = ng at *
  generalize irest x = rs at *
  refine dr U 600 rfl trivial ?_
  refine call (f := 131) rfl rfl cb131 (form_calls rs (by omega) w) ?_
  rintro v w1 ⟨⟨b, rfl, hb⟩, hB⟩
  refine ⟨_, rfl, ?_⟩
  cases b with
  | false =>
    refine dr U 600 rfl trivial ?_
    exact ret Tryz.results130 rfl ⟨_, rfl, ⟨false, rfl, by rw [hio]; simp at hb; simp [hb]⟩, hB⟩
  | true =>
    have hf := hb.1 rfl
    cases ng with
    | false =>
      refine dr U 600 rfl trivial ?_
      exact ret Tryz.results130 rfl ⟨_, rfl, ⟨true, rfl, by rw [hio]; simp [hf]⟩, hB⟩
    | true =>
      refine dr U 600 rfl trivial ?_
      refine cS rfl rfl rfl rfl (fun hq => ?_) (fun hq => ?_)
      · refine dr U 600 rfl trivial ?_
        exact ret Tryz.results130 rfl ⟨_, rfl, ⟨false, rfl, by rw [hio]; simp [hq]⟩, hB⟩
      · refine dr U 600 rfl trivial ?_
        exact ret Tryz.results130 rfl ⟨_, rfl, ⟨true, rfl, by rw [hio]; simp [hf, hq]⟩, hB⟩

/-- The errors of Make. -/
def MErr (x y : List UInt8) (e : Int) : Prop :=
  (¬ IOk x ∧ e = 3) ∨ (IOk x ∧ 4000 < (irest x).length ∧ e = 5) ∨ (IOk x ∧ (irest x).length ≤ 4000 ∧ e ≠ 0 ∧ Chk y e) ∨
  (IOk x ∧ (irest x).length ≤ 4000 ∧ Chk y 0 ∧ y = [48] ∧ e = 6) ∨ (IOk x ∧ (irest x).length ≤ 4000 ∧ Chk y 0 ∧ y ≠ [48] ∧ e = 0)
theorem Chk.uniq' {l : List UInt8} {e f : Int} (h : Chk l e) (h' : Chk l f) : e = f := by
  rcases h with ⟨h1, h2, rfl⟩ | ⟨h1, h2, rfl⟩ | ⟨h1, rfl⟩ <;> rcases h' with ⟨h3, h4, rfl⟩ | ⟨h3, h4, rfl⟩ | ⟨h3, rfl⟩ <;> first | rfl | contradiction | omega
theorem MErr.uniq {x y : List UInt8} {e f : Int} (h : MErr x y e) (h' : MErr x y f) : e = f := by
  rcases h with ⟨h1, rfl⟩ | ⟨h1, h2, rfl⟩ | ⟨h1, h2, h3, h4⟩ | ⟨h1, h2, h3, h4, rfl⟩ | ⟨h1, h2, h3, h4, rfl⟩ <;>
    rcases h' with ⟨g1, rfl⟩ | ⟨g1, g2, rfl⟩ | ⟨g1, g2, g3, g4⟩ | ⟨g1, g2, g3, g4, rfl⟩ | ⟨g1, g2, g3, g4, rfl⟩ <;> first
    | rfl
    | contradiction
    | omega
    | exact h4.uniq' g4
    | exact absurd (h4.uniq' g3) h3
    | exact absurd (g4.uniq' h3) g3
/-- What Make answers. -/
def MakeR (x y : List UInt8) (v : Value) : Prop :=
  (∃ e, e ≠ 0 ∧ MErr x y e ∧ v = .tuple ⟨[.string ⟨⟨[]⟩⟩, .int .i64 e]⟩) ∨ (MErr x y 0 ∧ QRes (mkq (ineg x) (dval (irest x)) (dval y)) v)
theorem MakeR.uniq {x y : List UInt8} {v v' : Value} (h : MakeR x y v) (h' : MakeR x y v') : v = v' := by
  rcases h with ⟨e, h1, h2, rfl⟩ | ⟨h2, h⟩ <;> rcases h' with ⟨e', h3, h4, rfl⟩ | ⟨h4, h'⟩
  · rw [h2.uniq h4]
  · exact absurd (h2.uniq h4) h1
  · exact absurd (h4.uniq h2) h3
  · exact h.uniq h'
end Go.Proofs.YtejlpdbiacmfcaaGreatDoor
end
section
set_option linter.unusedSimpArgs false
set_option linter.unusedVariables false
set_option maxHeartbeats 1000000
namespace Go.Proofs.YtejlpdbiacmfcaaGreatDoor
open Go Go.Proofs Go.RowKit Go.Lib

theorem ineg_nil : ineg [] = false ∧ irest [] = [] := ⟨rfl, rfl⟩
theorem ineg_cons (c : UInt8) (t : List UInt8) : ineg (c :: t) = decide (c = 45) ∧ irest (c :: t) = if c = 45 then t else c :: t := by
  have h : ineg (c :: t) = decide (c = 45) := by
    unfold ineg hasPrefix
    simp only [List.isPrefixOf, Bool.and_true]
    by_cases hc : c = 45
    · subst hc; rfl
    · rw [decide_eq_false hc, beq_eq_false_iff_ne]; exact fun h => hc h.symm
  refine ⟨h, ?_⟩
  unfold irest trimPrefix
  unfold ineg at h
  rw [h]
  simp

theorem rinteger_calls (x : List UInt8) (hx : x.length ≤ 1099511627776) (w : World) :
    Calls Tryz.prog 137 #[.string ⟨⟨x⟩⟩] w (Ret fun v w' => (∃ b, v = .tuple ⟨[.bool (ineg x), .string ⟨⟨irest x⟩⟩, .bool b]⟩ ∧ (b = true ↔ IOk x)) ∧ w = w') := by
  cases x with
  | nil =>
    obtain ⟨hng, hrs⟩ := ineg_nil
    have hio : IOk [] ↔ Form [] ∧ ¬(false = true ∧ ([] : List UInt8) = [48]) := by unfold IOk; rw [hng, hrs]
    refine enter Tryz.func137 rfl Tryz.ntmps137 (Nat.le_of_ble_eq_true rfl) ?_
    refine dr U 600 rfl trivial ?_
    refine cF rfl rfl rfl ((by decide)) ?_; refine dr U 600 rfl trivial ?_
    refine call (f := 138) rfl rfl cb138 (rdigits_calls [] (by first | exact Nat.zero_le _ | exact hx | (simp at hx; omega)) w) ?_
    rintro v w1 ⟨⟨bb, rfl, hb⟩, rfl⟩
    refine ⟨_, rfl, ?_⟩
    cases bb with
    | false =>
      refine dr U 600 rfl trivial ?_
      exact ret Tryz.results137 rfl ⟨_, rfl, ⟨false, by rw [hng, hrs]; rfl, by rw [hio]; simp at hb; simp [hb]⟩, rfl⟩
    | true =>
      have hf := hb.1 rfl
      refine dr U 600 rfl trivial ?_
      exact ret Tryz.results137 rfl ⟨_, rfl, ⟨true, by rw [hng, hrs]; rfl, by rw [hio]; simp [hf]⟩, rfl⟩
  | cons c t =>
    obtain ⟨hng, hrs⟩ := ineg_cons c t
    by_cases hc : c = 45
    · subst hc
      rw [if_pos rfl] at hrs
      rw [decide_eq_true rfl] at hng
      have hio : IOk (45 :: t) ↔ Form t ∧ ¬(true = true ∧ t = [48]) := by unfold IOk; rw [hng, hrs]
      refine enter Tryz.func137 rfl Tryz.ntmps137 (Nat.le_of_ble_eq_true rfl) ?_
      refine dr U 600 rfl trivial ?_
      refine cT rfl rfl rfl (by simp only [List.length_cons]; omega) ?_
      refine dr U 600 rfl (by simp only [AllP, InR, List.nil_append, List.cons_append, and_true, List.length_cons, List.length_nil, List.length_append]; omega) ?_
      refine cT rfl rfl rfl rfl ?_
      refine dr U 600 rfl (by simp only [AllP, InR, List.nil_append, List.cons_append, and_true, List.length_cons, List.length_nil, List.length_append]; omega) ?_
      refine call (f := 138) rfl rfl cb138 (rdigits_calls t (by first | exact Nat.zero_le _ | exact hx | (simp at hx; omega)) w) ?_
      rintro v w1 ⟨⟨bb, rfl, hb⟩, rfl⟩
      refine ⟨_, rfl, ?_⟩
      cases bb with
      | false =>
        refine dr U 600 rfl trivial ?_
        exact ret Tryz.results137 rfl ⟨_, rfl, ⟨false, by rw [hng, hrs]; rfl, by rw [hio]; simp at hb; simp [hb]⟩, rfl⟩
      | true =>
        have hf := hb.1 rfl
        refine dr U 600 rfl trivial ?_
        refine cS rfl rfl rfl rfl (fun hq => ?_) (fun hq => ?_)
        · refine dr U 600 rfl trivial ?_
          exact ret Tryz.results137 rfl ⟨_, rfl, ⟨false, by rw [hng, hrs]; rfl, by rw [hio]; exact ⟨fun h => (by cases h), fun h => absurd ⟨rfl, hq⟩ h.2⟩⟩, rfl⟩
        · refine dr U 600 rfl trivial ?_
          exact ret Tryz.results137 rfl ⟨_, rfl, ⟨true, by rw [hng, hrs]; rfl, by rw [hio]; exact ⟨fun _ => ⟨hf, fun h => hq h.2⟩, fun _ => rfl⟩⟩, rfl⟩
    · rw [if_neg hc] at hrs
      rw [decide_eq_false hc] at hng
      have hio : IOk (c :: t) ↔ Form (c :: t) ∧ ¬(false = true ∧ c :: t = [48]) := by unfold IOk; rw [hng, hrs]
      refine enter Tryz.func137 rfl Tryz.ntmps137 (Nat.le_of_ble_eq_true rfl) ?_
      refine dr U 600 rfl trivial ?_
      refine cT rfl rfl rfl (by simp only [List.length_cons]; omega) ?_
      refine dr U 600 rfl (by simp only [AllP, InR, List.nil_append, List.cons_append, and_true, List.length_cons, List.length_nil, List.length_append]; omega) ?_
      refine cF rfl rfl rfl ((fun h => hc (UInt8.toNat_inj.1 (show c.toNat = 45 from Int.ofNat.inj h)))) ?_; refine dr U 600 rfl trivial ?_
      refine call (f := 138) rfl rfl cb138 (rdigits_calls (c :: t) (by first | exact Nat.zero_le _ | exact hx | (simp at hx; omega)) w) ?_
      rintro v w1 ⟨⟨bb, rfl, hb⟩, rfl⟩
      refine ⟨_, rfl, ?_⟩
      cases bb with
      | false =>
        refine dr U 600 rfl trivial ?_
        exact ret Tryz.results137 rfl ⟨_, rfl, ⟨false, by rw [hng, hrs]; rfl, by rw [hio]; simp at hb; simp [hb]⟩, rfl⟩
      | true =>
        have hf := hb.1 rfl
        refine dr U 600 rfl trivial ?_
        exact ret Tryz.results137 rfl ⟨_, rfl, ⟨true, by rw [hng, hrs]; rfl, by rw [hio]; simp [hf]⟩, rfl⟩

end Go.Proofs.YtejlpdbiacmfcaaGreatDoor
end
