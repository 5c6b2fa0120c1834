/-
  Walk of the reference's sum of rational numbers.
  Conditions: numbers take fewer than 2^34 limbs.
  Walks of the reference's rational numbers: integer, Make.
  Conditions: texts take fewer than 2^40 bytes.
-/
import Derived.Test.YtejlpdbiacmfcaaGreatDoorYFr
import Derived.Test.YtejlpdbiacmfcaaGreatDoorYR2
set_option linter.unusedSimpArgs false
set_option linter.unusedVariables false
namespace Go.Proofs.YtejlpdbiacmfcaaGreatDoor
section
set_option maxHeartbeats 1000000
open Go Go.Proofs Go.RowKit Go.Lib



theorem rplus_calls (p q : Rat) (K : Nat) (hK : K ≤ 1000000) (v1 v2 : Value) (w : World) (h1 : QR w v1 p) (h2 : QR w v2 q) (hs1 : Small K p) (hs2 : Small K q) :
  Calls Tryz.prog 59 #[v1, v2] w (Ret fun v w' => QR w' v (p + q) ∧ Below w.heap.size w w') := by
 obtain ⟨an, cn, ad, cd, rfl, hn1, hd1⟩ := h1
 obtain ⟨bn, en, bd, ed, rfl, hn2, hd2⟩ := h2
 obtain ⟨l1, l2⟩ := hs1.lim
 obtain ⟨l3, l4⟩ := hs2.lim
 have lx := lim_len_mul p.num.natAbs q.den
 have ly := lim_len_mul q.num.natAbs p.den
 have lpq := lim_len_mul p.den q.den
 have hp := mkq_self p
 have hq2 := mkq_self q
 generalize decide (p.num < 0) = m1 at *
 generalize decide (q.num < 0) = m2 at *
 refine enter Tryz.func59 rfl Tryz.ntmps59 (Nat.le_of_ble_eq_true rfl) ?_
 refine dT rfl ?_
 refine bx rfl rfl rfl rfl ?_
 intro b2 wa hb2 hsa hk2 hga
 refine bx rfl rfl rfl rfl ?_
 intro b3 wb hb3 hsb hk3 hgb
 refine al U rfl rfl rfl rfl ?_
 intro b4 w0 hb4 hs0 hk4 hg0
 have hk2 := (hk2.keep hgb (by simp)).keep hg0 (by simp)
 have hk3 := hk3.keep hg0 (by simp)
 have hB0 : Below w.heap.size w w0 := (((Below.refl _ _).grown hga (Nat.le_refl _) (fun k e => by cases e)).grown hgb (by omega) (fun k e => by cases e)).grown hg0 (by omega) (fun k e => by cases e)
 refine dT rfl ?_
 refine dwn 11 (fun W => W.cell? ⟨b2, 1, none⟩ = some (.slice an (lim p.num.natAbs).length cn) ∧ W.cell? ⟨b2, 2, none⟩ = some (.slice ad (lim p.den).length cd) ∧ W.cell? ⟨b3, 1, none⟩ = some (.slice bn (lim q.num.natAbs).length en) ∧ W.cell? ⟨b3, 2, none⟩ = some (.slice bd (lim q.den).length ed)) hmo ?_
 intro w1 hh1 hg1
 have hB1' : Below w0.heap.size w0 w1 := (Below.refl _ _).grown hg1 (Nat.le_refl _) (fun k e => by cases e)
 have hB1 := bl_tr hB0 hB1' hB0.size
 have hk2 := hk2.below hB1' hk2.lt
 have hk3 := hk3.below hB1' hk3.lt
 have hk4 := hk4.below hB1' hk4.lt
 have hC1 : w1.cell? ⟨b2, 1, none⟩ = some (.slice an (lim p.num.natAbs).length cn) ∧ w1.cell? ⟨b2, 2, none⟩ = some (.slice ad (lim p.den).length cd) ∧ w1.cell? ⟨b3, 1, none⟩ = some (.slice bn (lim q.num.natAbs).length en) ∧ w1.cell? ⟨b3, 2, none⟩ = some (.slice bd (lim q.den).length ed) := ⟨hk2.cell rfl, hk2.cell rfl, hk3.cell rfl, hk3.cell rfl⟩
 refine dqS [0,1,2,3,5,6,7,8] [(1, .slice an (lim p.num.natAbs).length cn), (3, .slice bd (lim q.den).length ed), (6, .slice bn (lim q.num.natAbs).length en), (8, .slice ad (lim p.den).length cd)] rfl rfl hC1 ?_
 refine d1 rfl rfl (fun _ => hC1) ?_
 refine call (f := 101) rfl rfl cb101 (times_calls _ _ an bd cn ed w1 (hn1.below hB1) (hd2.below hB1) (by omega) (by omega)) ?_
 rintro v w3 ⟨a3, c3, rfl, ho3, hB3⟩
 refine ⟨_, rfl, d2 ?_⟩
 have hB3' := bl_tr hB1 hB3 hB1.size
 have hk2 := hk2.below hB3 hk2.lt
 have hk3 := hk3.below hB3 hk3.lt
 have hk4 := hk4.below hB3 hk4.lt
 refine d1 rfl rfl (fun _ => ⟨hk2.cell rfl, hk2.cell rfl, hk3.cell rfl, hk3.cell rfl⟩) ?_
 refine call (f := 101) rfl rfl cb101 (times_calls _ _ bn ad en cd w3 (hn2.below hB3') (hd1.below hB3') (by omega) (by omega)) ?_
 rintro v w4 ⟨a4, c4, rfl, ho4, hB4⟩
 refine ⟨_, rfl, d2 ?_⟩
 have hB4' := bl_tr hB3' hB4 hB3'.size
 have hk2 := hk2.below hB4 hk2.lt
 have hk3 := hk3.below hB4 hk3.lt
 have hk4 := hk4.below hB4 hk4.lt
 have hC4 : w4.cell? ⟨b2, 1, none⟩ = some (.slice an (lim p.num.natAbs).length cn) ∧ w4.cell? ⟨b2, 2, none⟩ = some (.slice ad (lim p.den).length cd) ∧ w4.cell? ⟨b3, 1, none⟩ = some (.slice bn (lim q.num.natAbs).length en) ∧ w4.cell? ⟨b3, 2, none⟩ = some (.slice bd (lim q.den).length ed) := ⟨hk2.cell rfl, hk2.cell rfl, hk3.cell rfl, hk3.cell rfl⟩
 refine dqS [10] [] rfl rfl hC4 ?_
 refine d1 rfl rfl (fun _ => hC4) ?_
 refine dT rfl ?_
 refine d3 ?_; refine dend rfl (fun h => by cases h) ?_
 refine dT rfl ?_
 refine ld U rfl rfl rfl rfl ((hk2).cell rfl) ?_
 refine dT rfl ?_
 refine ld U rfl rfl rfl rfl ((hk3).cell rfl) ?_
 refine dT rfl ?_
 refine call (f := 101) rfl rfl cb101 (times_calls _ _ ad bd cd ed w4 (hd1.below hB4') (hd2.below hB4') (by omega) (by omega)) ?_
 rintro v w5 ⟨a5, c5, rfl, ho5, hB5⟩
 refine ⟨_, rfl, ?_⟩
 have hB5' := bl_tr hB4' hB5 hB4'.size
 have hk2 := hk2.below hB5 hk2.lt
 have hk3 := hk3.below hB5 hk3.lt
 have hk4 := hk4.below hB5 hk4.lt
 have hr3 := ((ownI_rd ho3).below hB4).below hB5
 have hr4 := (ownI_rd ho4).below hB5
 have hr5 := ownI_rd ho5
 refine dT rfl ?_
 refine ld U rfl rfl rfl rfl ((hk2).cell rfl) ?_
 refine dT rfl ?_
 refine ld U rfl rfl rfl rfl ((hk3).cell rfl) ?_
 cases m1 with
 | false =>
  cases m2 with
  | false =>
   refine eqlB (c := true) U rfl rfl rfl rfl rfl rfl ?_
   refine dT rfl ?_
   have heq : p + q = mkq false (p.num.natAbs * q.den + q.num.natAbs * p.den) (p.den * q.den) := by
    rw [← mkq_add_same _ _ _ _ _ p.den_nz q.den_nz, hp, hq2]
   have hla := lim_len_add (p.num.natAbs * q.den) (q.num.natAbs * p.den)
   refine dwn 7 (fun W => W.cell? ⟨b2, 0, none⟩ = some (.bool false)) hmo ?_
   intro wD hhD hgD
   have hkD := heap_bk hhD hk2
   have hBDs : Below w5.heap.size w5 wD := (Below.refl _ _).grown hgD (Nat.le_refl _) (fun k e => by cases e)
   have hBD := bl_tr hB5' hBDs hB5'.size
   have hr3 := hr3.below hBDs
   have hr4 := hr4.below hBDs
   have hr5 := hr5.below hBDs
   have hk4 := hk4.below hBDs hk4.lt
   refine dqS [0,1,2,3,5] [(1, .bool false)] rfl rfl (hkD.cell rfl) ?_
   refine d1 rfl rfl (fun _ => hkD.cell rfl) ?_
   refine call (f := 61) rfl rfl cb61 (plus_calls _ _ a3 a4 c3 c4 wD hr3 hr4 (by omega) (by omega)) ?_
   rintro v w7 ⟨a7, c7, rfl, ho7, hB7⟩
   refine ⟨_, rfl, d2 ?_⟩
   have hr7 := ownI_rd ho7
   have hB7' := bl_tr hBD hB7 hBD.size
   have hk47 := hk4.below hB7 hk4.lt
   have hkx7 := hkD.below hB7 hkD.lt
   refine d1 rfl rfl (fun _ => hkx7.cell rfl) ?_
   refine call (f := 102) rfl rfl cb102 (reduce_calls false (p.num.natAbs * q.den + q.num.natAbs * p.den) (p.den * q.den) (Nat.mul_ne_zero p.den_nz q.den_nz) a7 a5 c7 c5 w7 hr7 (hr5.below hB7) (by omega) (by omega)) ?_
   rintro v w8 ⟨hres, hB8⟩
   obtain ⟨a8, c8, a9, c9, rfl, hx8, hx9⟩ := hres
   refine ⟨_, rfl, d2 ?_⟩
   have hB8' := bl_tr hB7' hB8 hB7'.size
   have hk48 := hk47.below hB8 hk47.lt
   have hkx8 := hkx7.below hB8 hkx7.lt
   refine d1 rfl rfl (fun _ => hkx8.cell rfl) ?_
   refine st U rfl rfl rfl rfl rfl rfl rfl rfl rfl rfl (hk48) ?_
   intro w9 hk9 hg9 hs9
   refine d2 ?_; refine dend rfl (fun h => by cases h) ?_
   refine dT rfl ?_
   refine retS Tryz.results59 (vs := [_]) ⟨⟨_, rfl, run_load_agg ag_q hk9 rfl⟩, trivial⟩ ⟨_, rfl, ?_, hB8'.grown hg9 hB8'.size (fun k e => by cases e; omega)⟩
   rw [heq]
   exact ⟨a8, c8, a9, c9, rfl, hx8.past hk48 ni0 hg9, hx9.past hk48 ni0 hg9⟩
  | true =>
   refine eqlB (c := false) U rfl rfl rfl rfl rfl rfl ?_
   refine dT rfl ?_
   refine call (f := 103) rfl rfl cb103 (order_calls _ _ a3 a4 c3 c4 w5 hr3 hr4 (by omega) (by omega)) ?_
   rintro v w6 ⟨rfl, hB6⟩
   refine ⟨_, rfl, ?_⟩
   have hr3 := hr3.below hB6
   have hr4 := hr4.below hB6
   have hr5 := hr5.below hB6
   have hk2 := hk2.below hB6 hk2.lt
   have hk3 := hk3.below hB6 hk3.lt
   have hk4 := hk4.below hB6 hk4.lt
   have hB6' := bl_tr hB5' hB6 hB5'.size
   have hlm1 := lim_len_mono (show p.num.natAbs * q.den - q.num.natAbs * p.den ≤ p.num.natAbs * q.den by omega)
   have hlm2 := lim_len_mono (show q.num.natAbs * p.den - p.num.natAbs * q.den ≤ q.num.natAbs * p.den by omega)
   refine dT rfl ?_
   refine cS rfl rfl rfl rfl (fun hq => ?_) (fun hq => ?_)
   ·have hlt := cmpN_neg.1 hq
    have heq : p + q = mkq true (q.num.natAbs * p.den - p.num.natAbs * q.den) (p.den * q.den) := by
     have h : mkq false p.num.natAbs p.den + mkq true q.num.natAbs q.den = mkq true (q.num.natAbs * p.den - p.num.natAbs * q.den) (p.den * q.den) := mkq_add_lt false _ _ _ _ p.den_nz q.den_nz (Nat.le_of_lt hlt)
     rw [hp, hq2] at h
     exact h
    refine dT rfl ?_
    refine dwn 7 (fun W => W.cell? ⟨b3, 0, none⟩ = some (.bool true)) hmo ?_
    intro wD hhD hgD
    have hkD := heap_bk hhD hk3
    have hBDs : Below w6.heap.size w6 wD := (Below.refl _ _).grown hgD (Nat.le_refl _) (fun k e => by cases e)
    have hBD := bl_tr hB6' hBDs hB6'.size
    have hr3 := hr3.below hBDs
    have hr4 := hr4.below hBDs
    have hr5 := hr5.below hBDs
    have hk4 := hk4.below hBDs hk4.lt
    refine dqS [0,1,2,3,5] [(1, .bool true)] rfl rfl (hkD.cell rfl) ?_
    refine d1 rfl rfl (fun _ => hkD.cell rfl) ?_
    refine call (f := 104) rfl rfl cb104 (minus_calls _ _ (Nat.le_of_lt hlt) a4 a3 c4 c3 wD hr4 hr3 (by omega)) ?_
    rintro v w7 ⟨a7, c7, rfl, ho7, hB7⟩
    refine ⟨_, rfl, d2 ?_⟩
    have hr7 := ownI_rd ho7
    have hB7' := bl_tr hBD hB7 hBD.size
    have hk47 := hk4.below hB7 hk4.lt
    have hkx7 := hkD.below hB7 hkD.lt
    refine d1 rfl rfl (fun _ => hkx7.cell rfl) ?_
    refine call (f := 102) rfl rfl cb102 (reduce_calls true (q.num.natAbs * p.den - p.num.natAbs * q.den) (p.den * q.den) (Nat.mul_ne_zero p.den_nz q.den_nz) a7 a5 c7 c5 w7 hr7 (hr5.below hB7) (by omega) (by omega)) ?_
    rintro v w8 ⟨hres, hB8⟩
    obtain ⟨a8, c8, a9, c9, rfl, hx8, hx9⟩ := hres
    refine ⟨_, rfl, d2 ?_⟩
    have hB8' := bl_tr hB7' hB8 hB7'.size
    have hk48 := hk47.below hB8 hk47.lt
    have hkx8 := hkx7.below hB8 hkx7.lt
    refine d1 rfl rfl (fun _ => hkx8.cell rfl) ?_
    refine st U rfl rfl rfl rfl rfl rfl rfl rfl rfl rfl (hk48) ?_
    intro w9 hk9 hg9 hs9
    refine d2 ?_; refine dend rfl (fun h => by cases h) ?_
    refine dT rfl ?_
    refine retS Tryz.results59 (vs := [_]) ⟨⟨_, rfl, run_load_agg ag_q hk9 rfl⟩, trivial⟩ ⟨_, rfl, ?_, hB8'.grown hg9 hB8'.size (fun k e => by cases e; omega)⟩
    rw [heq]
    exact ⟨a8, c8, a9, c9, rfl, hx8.past hk48 ni0 hg9, hx9.past hk48 ni0 hg9⟩
   ·have hge : q.num.natAbs * p.den ≤ p.num.natAbs * q.den := by
     rcases Nat.lt_or_ge (p.num.natAbs * q.den) (q.num.natAbs * p.den) with h | h
     ·exact absurd (cmpN_neg.2 h) hq
     ·exact h
    have heq : p + q = mkq false (p.num.natAbs * q.den - q.num.natAbs * p.den) (p.den * q.den) := by
     have h : mkq false p.num.natAbs p.den + mkq true q.num.natAbs q.den = mkq false (p.num.natAbs * q.den - q.num.natAbs * p.den) (p.den * q.den) := mkq_add_ge false _ _ _ _ p.den_nz q.den_nz hge
     rw [hp, hq2] at h
     exact h
    refine dT rfl ?_
    refine dwn 7 (fun W => W.cell? ⟨b2, 0, none⟩ = some (.bool false)) hmo ?_
    intro wD hhD hgD
    have hkD := heap_bk hhD hk2
    have hBDs : Below w6.heap.size w6 wD := (Below.refl _ _).grown hgD (Nat.le_refl _) (fun k e => by cases e)
    have hBD := bl_tr hB6' hBDs hB6'.size
    have hr3 := hr3.below hBDs
    have hr4 := hr4.below hBDs
    have hr5 := hr5.below hBDs
    have hk4 := hk4.below hBDs hk4.lt
    refine dqS [0,1,2,3,5] [(1, .bool false)] rfl rfl (hkD.cell rfl) ?_
    refine d1 rfl rfl (fun _ => hkD.cell rfl) ?_
    refine call (f := 104) rfl rfl cb104 (minus_calls _ _ hge a3 a4 c3 c4 wD hr3 hr4 (by omega)) ?_
    rintro v w7 ⟨a7, c7, rfl, ho7, hB7⟩
    refine ⟨_, rfl, d2 ?_⟩
    have hr7 := ownI_rd ho7
    have hB7' := bl_tr hBD hB7 hBD.size
    have hk47 := hk4.below hB7 hk4.lt
    have hkx7 := hkD.below hB7 hkD.lt
    refine d1 rfl rfl (fun _ => hkx7.cell rfl) ?_
    refine call (f := 102) rfl rfl cb102 (reduce_calls false (p.num.natAbs * q.den - q.num.natAbs * p.den) (p.den * q.den) (Nat.mul_ne_zero p.den_nz q.den_nz) a7 a5 c7 c5 w7 hr7 (hr5.below hB7) (by omega) (by omega)) ?_
    rintro v w8 ⟨hres, hB8⟩
    obtain ⟨a8, c8, a9, c9, rfl, hx8, hx9⟩ := hres
    refine ⟨_, rfl, d2 ?_⟩
    have hB8' := bl_tr hB7' hB8 hB7'.size
    have hk48 := hk47.below hB8 hk47.lt
    have hkx8 := hkx7.below hB8 hkx7.lt
    refine d1 rfl rfl (fun _ => hkx8.cell rfl) ?_
    refine st U rfl rfl rfl rfl rfl rfl rfl rfl rfl rfl (hk48) ?_
    intro w9 hk9 hg9 hs9
    refine d2 ?_; refine dend rfl (fun h => by cases h) ?_
    refine dT rfl ?_
    refine retS Tryz.results59 (vs := [_]) ⟨⟨_, rfl, run_load_agg ag_q hk9 rfl⟩, trivial⟩ ⟨_, rfl, ?_, hB8'.grown hg9 hB8'.size (fun k e => by cases e; omega)⟩
    rw [heq]
    exact ⟨a8, c8, a9, c9, rfl, hx8.past hk48 ni0 hg9, hx9.past hk48 ni0 hg9⟩
 | true =>
  cases m2 with
  | false =>
   refine eqlB (c := false) U rfl rfl rfl rfl rfl rfl ?_
   refine dT rfl ?_
   refine call (f := 103) rfl rfl cb103 (order_calls _ _ a3 a4 c3 c4 w5 hr3 hr4 (by omega) (by omega)) ?_
   rintro v w6 ⟨rfl, hB6⟩
   refine ⟨_, rfl, ?_⟩
   have hr3 := hr3.below hB6
   have hr4 := hr4.below hB6
   have hr5 := hr5.below hB6
   have hk2 := hk2.below hB6 hk2.lt
   have hk3 := hk3.below hB6 hk3.lt
   have hk4 := hk4.below hB6 hk4.lt
   have hB6' := bl_tr hB5' hB6 hB5'.size
   have hlm1 := lim_len_mono (show p.num.natAbs * q.den - q.num.natAbs * p.den ≤ p.num.natAbs * q.den by omega)
   have hlm2 := lim_len_mono (show q.num.natAbs * p.den - p.num.natAbs * q.den ≤ q.num.natAbs * p.den by omega)
   refine dT rfl ?_
   refine cS rfl rfl rfl rfl (fun hq => ?_) (fun hq => ?_)
   ·have hlt := cmpN_neg.1 hq
    have heq : p + q = mkq false (q.num.natAbs * p.den - p.num.natAbs * q.den) (p.den * q.den) := by
     have h : mkq true p.num.natAbs p.den + mkq false q.num.natAbs q.den = mkq false (q.num.natAbs * p.den - p.num.natAbs * q.den) (p.den * q.den) := mkq_add_lt true _ _ _ _ p.den_nz q.den_nz (Nat.le_of_lt hlt)
     rw [hp, hq2] at h
     exact h
    refine dT rfl ?_
    refine dwn 7 (fun W => W.cell? ⟨b3, 0, none⟩ = some (.bool false)) hmo ?_
    intro wD hhD hgD
    have hkD := heap_bk hhD hk3
    have hBDs : Below w6.heap.size w6 wD := (Below.refl _ _).grown hgD (Nat.le_refl _) (fun k e => by cases e)
    have hBD := bl_tr hB6' hBDs hB6'.size
    have hr3 := hr3.below hBDs
    have hr4 := hr4.below hBDs
    have hr5 := hr5.below hBDs
    have hk4 := hk4.below hBDs hk4.lt
    refine dqS [0,1,2,3,5] [(1, .bool false)] rfl rfl (hkD.cell rfl) ?_
    refine d1 rfl rfl (fun _ => hkD.cell rfl) ?_
    refine call (f := 104) rfl rfl cb104 (minus_calls _ _ (Nat.le_of_lt hlt) a4 a3 c4 c3 wD hr4 hr3 (by omega)) ?_
    rintro v w7 ⟨a7, c7, rfl, ho7, hB7⟩
    refine ⟨_, rfl, d2 ?_⟩
    have hr7 := ownI_rd ho7
    have hB7' := bl_tr hBD hB7 hBD.size
    have hk47 := hk4.below hB7 hk4.lt
    have hkx7 := hkD.below hB7 hkD.lt
    refine d1 rfl rfl (fun _ => hkx7.cell rfl) ?_
    refine call (f := 102) rfl rfl cb102 (reduce_calls false (q.num.natAbs * p.den - p.num.natAbs * q.den) (p.den * q.den) (Nat.mul_ne_zero p.den_nz q.den_nz) a7 a5 c7 c5 w7 hr7 (hr5.below hB7) (by omega) (by omega)) ?_
    rintro v w8 ⟨hres, hB8⟩
    obtain ⟨a8, c8, a9, c9, rfl, hx8, hx9⟩ := hres
    refine ⟨_, rfl, d2 ?_⟩
    have hB8' := bl_tr hB7' hB8 hB7'.size
    have hk48 := hk47.below hB8 hk47.lt
    have hkx8 := hkx7.below hB8 hkx7.lt
    refine d1 rfl rfl (fun _ => hkx8.cell rfl) ?_
    refine st U rfl rfl rfl rfl rfl rfl rfl rfl rfl rfl (hk48) ?_
    intro w9 hk9 hg9 hs9
    refine d2 ?_; refine dend rfl (fun h => by cases h) ?_
    refine dT rfl ?_
    refine retS Tryz.results59 (vs := [_]) ⟨⟨_, rfl, run_load_agg ag_q hk9 rfl⟩, trivial⟩ ⟨_, rfl, ?_, hB8'.grown hg9 hB8'.size (fun k e => by cases e; omega)⟩
    rw [heq]
    exact ⟨a8, c8, a9, c9, rfl, hx8.past hk48 ni0 hg9, hx9.past hk48 ni0 hg9⟩
   ·have hge : q.num.natAbs * p.den ≤ p.num.natAbs * q.den := by
     rcases Nat.lt_or_ge (p.num.natAbs * q.den) (q.num.natAbs * p.den) with h | h
     ·exact absurd (cmpN_neg.2 h) hq
     ·exact h
    have heq : p + q = mkq true (p.num.natAbs * q.den - q.num.natAbs * p.den) (p.den * q.den) := by
     have h : mkq true p.num.natAbs p.den + mkq false q.num.natAbs q.den = mkq true (p.num.natAbs * q.den - q.num.natAbs * p.den) (p.den * q.den) := mkq_add_ge true _ _ _ _ p.den_nz q.den_nz hge
     rw [hp, hq2] at h
     exact h
    refine dT rfl ?_
    refine dwn 7 (fun W => W.cell? ⟨b2, 0, none⟩ = some (.bool true)) hmo ?_
    intro wD hhD hgD
    have hkD := heap_bk hhD hk2
    have hBDs : Below w6.heap.size w6 wD := (Below.refl _ _).grown hgD (Nat.le_refl _) (fun k e => by cases e)
    have hBD := bl_tr hB6' hBDs hB6'.size
    have hr3 := hr3.below hBDs
    have hr4 := hr4.below hBDs
    have hr5 := hr5.below hBDs
    have hk4 := hk4.below hBDs hk4.lt
    refine dqS [0,1,2,3,5] [(1, .bool true)] rfl rfl (hkD.cell rfl) ?_
    refine d1 rfl rfl (fun _ => hkD.cell rfl) ?_
    refine call (f := 104) rfl rfl cb104 (minus_calls _ _ hge a3 a4 c3 c4 wD hr3 hr4 (by omega)) ?_
    rintro v w7 ⟨a7, c7, rfl, ho7, hB7⟩
    refine ⟨_, rfl, d2 ?_⟩
    have hr7 := ownI_rd ho7
    have hB7' := bl_tr hBD hB7 hBD.size
    have hk47 := hk4.below hB7 hk4.lt
    have hkx7 := hkD.below hB7 hkD.lt
    refine d1 rfl rfl (fun _ => hkx7.cell rfl) ?_
    refine call (f := 102) rfl rfl cb102 (reduce_calls true (p.num.natAbs * q.den - q.num.natAbs * p.den) (p.den * q.den) (Nat.mul_ne_zero p.den_nz q.den_nz) a7 a5 c7 c5 w7 hr7 (hr5.below hB7) (by omega) (by omega)) ?_
    rintro v w8 ⟨hres, hB8⟩
    obtain ⟨a8, c8, a9, c9, rfl, hx8, hx9⟩ := hres
    refine ⟨_, rfl, d2 ?_⟩
    have hB8' := bl_tr hB7' hB8 hB7'.size
    have hk48 := hk47.below hB8 hk47.lt
    have hkx8 := hkx7.below hB8 hkx7.lt
    refine d1 rfl rfl (fun _ => hkx8.cell rfl) ?_
    refine st U rfl rfl rfl rfl rfl rfl rfl rfl rfl rfl (hk48) ?_
    intro w9 hk9 hg9 hs9
    refine d2 ?_; refine dend rfl (fun h => by cases h) ?_
    refine dT rfl ?_
    refine retS Tryz.results59 (vs := [_]) ⟨⟨_, rfl, run_load_agg ag_q hk9 rfl⟩, trivial⟩ ⟨_, rfl, ?_, hB8'.grown hg9 hB8'.size (fun k e => by cases e; omega)⟩
    rw [heq]
    exact ⟨a8, c8, a9, c9, rfl, hx8.past hk48 ni0 hg9, hx9.past hk48 ni0 hg9⟩
  | true =>
   refine eqlB (c := true) U rfl rfl rfl rfl rfl rfl ?_
   refine dT rfl ?_
   have heq : p + q = mkq true (p.num.natAbs * q.den + q.num.natAbs * p.den) (p.den * q.den) := by
    rw [← mkq_add_same _ _ _ _ _ p.den_nz q.den_nz, hp, hq2]
   have hla := lim_len_add (p.num.natAbs * q.den) (q.num.natAbs * p.den)
   refine dwn 7 (fun W => W.cell? ⟨b2, 0, none⟩ = some (.bool true)) hmo ?_
   intro wD hhD hgD
   have hkD := heap_bk hhD hk2
   have hBDs : Below w5.heap.size w5 wD := (Below.refl _ _).grown hgD (Nat.le_refl _) (fun k e => by cases e)
   have hBD := bl_tr hB5' hBDs hB5'.size
   have hr3 := hr3.below hBDs
   have hr4 := hr4.below hBDs
   have hr5 := hr5.below hBDs
   have hk4 := hk4.below hBDs hk4.lt
   refine dqS [0,1,2,3,5] [(1, .bool true)] rfl rfl (hkD.cell rfl) ?_
   refine d1 rfl rfl (fun _ => hkD.cell rfl) ?_
   refine call (f := 61) rfl rfl cb61 (plus_calls _ _ a3 a4 c3 c4 wD hr3 hr4 (by omega) (by omega)) ?_
   rintro v w7 ⟨a7, c7, rfl, ho7, hB7⟩
   refine ⟨_, rfl, d2 ?_⟩
   have hr7 := ownI_rd ho7
   have hB7' := bl_tr hBD hB7 hBD.size
   have hk47 := hk4.below hB7 hk4.lt
   have hkx7 := hkD.below hB7 hkD.lt
   refine d1 rfl rfl (fun _ => hkx7.cell rfl) ?_
   refine call (f := 102) rfl rfl cb102 (reduce_calls true (p.num.natAbs * q.den + q.num.natAbs * p.den) (p.den * q.den) (Nat.mul_ne_zero p.den_nz q.den_nz) a7 a5 c7 c5 w7 hr7 (hr5.below hB7) (by omega) (by omega)) ?_
   rintro v w8 ⟨hres, hB8⟩
   obtain ⟨a8, c8, a9, c9, rfl, hx8, hx9⟩ := hres
   refine ⟨_, rfl, d2 ?_⟩
   have hB8' := bl_tr hB7' hB8 hB7'.size
   have hk48 := hk47.below hB8 hk47.lt
   have hkx8 := hkx7.below hB8 hkx7.lt
   refine d1 rfl rfl (fun _ => hkx8.cell rfl) ?_
   refine st U rfl rfl rfl rfl rfl rfl rfl rfl rfl rfl (hk48) ?_
   intro w9 hk9 hg9 hs9
   refine d2 ?_; refine dend rfl (fun h => by cases h) ?_
   refine dT rfl ?_
   refine retS Tryz.results59 (vs := [_]) ⟨⟨_, rfl, run_load_agg ag_q hk9 rfl⟩, trivial⟩ ⟨_, rfl, ?_, hB8'.grown hg9 hB8'.size (fun k e => by cases e; omega)⟩
   rw [heq]
   exact ⟨a8, c8, a9, c9, rfl, hx8.past hk48 ni0 hg9, hx9.past hk48 ni0 hg9⟩
end
section
set_option maxHeartbeats 1000000
open Go Go.Proofs Go.RowKit Go.Lib

theorem ineg_nil : ineg [] = false ∧ irest [] = [] := ⟨rfl, rfl⟩
theorem ineg_cons (c : UInt8) (t : List UInt8) : ineg (c :: t) = decide (c = 45) ∧ irest (c :: t) = if c = 45 then t else c :: t := by
 have h : ineg (c :: t) = decide (c = 45) := by
  unfold ineg hasPrefix
  simp only [List.isPrefixOf, Bool.and_true]
  by_cases hc : c = 45
  ·subst hc; rfl
  ·rw [decide_eq_false hc, beq_eq_false_iff_ne]; exact fun h => hc h.symm
 refine ⟨h, ?_⟩
 unfold irest trimPrefix
 unfold ineg at h
 rw [h]
 simp

theorem rinteger_calls (x : List UInt8) (hx : x.length ≤ 1099511627776) (w : World) :
  Calls Tryz.prog 137 #[.string ⟨⟨x⟩⟩] w (Ret fun v w' => (∃ b, v = .tuple ⟨[.bool (ineg x), .string ⟨⟨irest x⟩⟩, .bool b]⟩ ∧ (b = true ↔ IOk x)) ∧ w = w') := by
 cases x with
 | nil =>
  obtain ⟨hng, hrs⟩ := ineg_nil
  have hio : IOk [] ↔ Form [] ∧ ¬(false = true ∧ ([] : List UInt8) = [48]) := by unfold IOk; rw [hng, hrs]
  refine enter Tryz.func137 rfl Tryz.ntmps137 (Nat.le_of_ble_eq_true rfl) ?_
  refine dT rfl ?_
  refine cF rfl rfl rfl ((by decide)) ?_; refine dT rfl ?_
  refine call (f := 138) rfl rfl cb138 (rdigits_calls [] (by first | exact Nat.zero_le _ | exact hx | (simp at hx; omega)) w) ?_
  rintro v w1 ⟨⟨bb, rfl, hb⟩, rfl⟩
  refine ⟨_, rfl, ?_⟩
  cases bb with
  | false =>
   refine dT rfl ?_
   exact ret Tryz.results137 rfl ⟨_, rfl, ⟨false, by rw [hng, hrs]; rfl, by rw [hio]; simp at hb; simp [hb]⟩, rfl⟩
  | true =>
   have hf := hb.1 rfl
   refine dT rfl ?_
   exact ret Tryz.results137 rfl ⟨_, rfl, ⟨true, by rw [hng, hrs]; rfl, by rw [hio]; simp [hf]⟩, rfl⟩
 | cons c t =>
  obtain ⟨hng, hrs⟩ := ineg_cons c t
  by_cases hc : c = 45
  ·subst hc
   rw [if_pos rfl] at hrs
   rw [decide_eq_true rfl] at hng
   have hio : IOk (45 :: t) ↔ Form t ∧ ¬(true = true ∧ t = [48]) := by unfold IOk; rw [hng, hrs]
   refine enter Tryz.func137 rfl Tryz.ntmps137 (Nat.le_of_ble_eq_true rfl) ?_
   refine dT rfl ?_
   refine cT rfl rfl rfl (by simp only [List.length_cons]; omega) ?_
   refine dr U 600 rfl (by simp only [AllP, InR, List.nil_append, List.cons_append, and_true, List.length_cons, List.length_nil, List.length_append]; omega) ?_
   refine cT rfl rfl rfl rfl ?_
   refine dr U 600 rfl (by simp only [AllP, InR, List.nil_append, List.cons_append, and_true, List.length_cons, List.length_nil, List.length_append]; omega) ?_
   refine call (f := 138) rfl rfl cb138 (rdigits_calls t (by first | exact Nat.zero_le _ | exact hx | (simp at hx; omega)) w) ?_
   rintro v w1 ⟨⟨bb, rfl, hb⟩, rfl⟩
   refine ⟨_, rfl, ?_⟩
   cases bb with
   | false =>
    refine dT rfl ?_
    exact ret Tryz.results137 rfl ⟨_, rfl, ⟨false, by rw [hng, hrs]; rfl, by rw [hio]; simp at hb; simp [hb]⟩, rfl⟩
   | true =>
    have hf := hb.1 rfl
    refine dT rfl ?_
    refine cS rfl rfl rfl rfl (fun hq => ?_) (fun hq => ?_)
    ·refine dT rfl ?_
     exact ret Tryz.results137 rfl ⟨_, rfl, ⟨false, by rw [hng, hrs]; rfl, by rw [hio]; exact ⟨fun h => (by cases h), fun h => absurd ⟨rfl, hq⟩ h.2⟩⟩, rfl⟩
    ·refine dT rfl ?_
     exact ret Tryz.results137 rfl ⟨_, rfl, ⟨true, by rw [hng, hrs]; rfl, by rw [hio]; exact ⟨fun _ => ⟨hf, fun h => hq h.2⟩, fun _ => rfl⟩⟩, rfl⟩
  ·rw [if_neg hc] at hrs
   rw [decide_eq_false hc] at hng
   have hio : IOk (c :: t) ↔ Form (c :: t) ∧ ¬(false = true ∧ c :: t = [48]) := by unfold IOk; rw [hng, hrs]
   refine enter Tryz.func137 rfl Tryz.ntmps137 (Nat.le_of_ble_eq_true rfl) ?_
   refine dT rfl ?_
   refine cT rfl rfl rfl (by simp only [List.length_cons]; omega) ?_
   refine dr U 600 rfl (by simp only [AllP, InR, List.nil_append, List.cons_append, and_true, List.length_cons, List.length_nil, List.length_append]; omega) ?_
   refine cF rfl rfl rfl ((fun h => hc (UInt8.toNat_inj.1 (show c.toNat = 45 from Int.ofNat.inj h)))) ?_; refine dT rfl ?_
   refine call (f := 138) rfl rfl cb138 (rdigits_calls (c :: t) (by first | exact Nat.zero_le _ | exact hx | (simp at hx; omega)) w) ?_
   rintro v w1 ⟨⟨bb, rfl, hb⟩, rfl⟩
   refine ⟨_, rfl, ?_⟩
   cases bb with
   | false =>
    refine dT rfl ?_
    exact ret Tryz.results137 rfl ⟨_, rfl, ⟨false, by rw [hng, hrs]; rfl, by rw [hio]; simp at hb; simp [hb]⟩, rfl⟩
   | true =>
    have hf := hb.1 rfl
    refine dT rfl ?_
    exact ret Tryz.results137 rfl ⟨_, rfl, ⟨true, by rw [hng, hrs]; rfl, by rw [hio]; simp [hf]⟩, rfl⟩
end
end Go.Proofs.YtejlpdbiacmfcaaGreatDoor
