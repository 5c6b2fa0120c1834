/-
  Walk of the reference's step, one digit of a long division.
  Conditions: as the theorem says (a divisor of at least two limbs, the highest not 0; the number is below the divisor times the base).
-/
import Derived.Test.YtejlpdbiacmfcaaGreatDoorYRB
set_option linter.unusedSimpArgs false
set_option linter.unusedVariables false
set_option maxHeartbeats 2000000
namespace Go.Proofs.YtejlpdbiacmfcaaGreatDoor
open Go Go.Proofs Go.RowKit Go.Lib

theorem getIA {xs : List Nat} {post : List Value} {j : Nat} (h : j < xs.length) : (xs.map i64n ++ post)[j]? = some (i64n (xs.getD j 0)) := by
 rw [List.getElem?_append_left (by simpa using h)]; exact getI h
theorem bk_viewI {w : World} {g t : Nat} {pre post : List Value} {us : List Nat} (h : Bk w g t (pre ++ us.map i64n ++ post)) : Sl w (some ⟨g, pre.length, none⟩) (us.map i64n ++ post) := by
 have := h.sl pre.length
 rwa [List.append_assoc, List.drop_left' rfl] at this
theorem set_viewI (pre post : List Value) (us : List Nat) (i z : Nat) (hi : i < us.length) : (pre ++ us.map i64n ++ post).set (pre.length + i) (i64n z) = pre ++ (us.set i z).map i64n ++ post := by
 rw [List.append_assoc, List.set_append_right _ _ (by omega), List.append_assoc]
 rw [show pre.length + i - pre.length = i by omega, List.set_append_left _ _ (by simpa using hi), set_i64n]

theorem rsub_step {cs us vs : List Nat} {i g bo : Nat} (hv : i < vs.length) (hi : i < cs.length) (hl : cs.length = us.length) (h : val (cs.take i) + g * val (vs.take i) = val (us.take i) + bo * pw i) (z bo' : Nat)
  (hz : z + g * vs.getD i 0 + bo = us.getD i 0 + bo' * 1000000000) : val ((cs.set i z).take (i + 1)) + g * val (vs.take (i + 1)) = val (us.take (i + 1)) + bo' * pw (i + 1) := by
 rw [set_take_succ _ _ _ hi, val_snoc, val_take_succ vs i hv, val_take_succ us i (by omega), pw_succ]
 have hlen : (cs.take i).length = i := by simp; omega
 rw [hlen]
 generalize us.getD i 0 = x at *
 generalize vs.getD i 0 = y at *
 have e2 : pw i * z + pw i * (g * y) + pw i * bo = pw i * x + bo' * (1000000000 * pw i) := by
  have h1 : bo' * (1000000000 * pw i) = pw i * (bo' * 1000000000) := by rw [← Nat.mul_assoc, Nat.mul_comm]
  rw [h1, ← Nat.mul_add, ← Nat.mul_add, ← Nat.mul_add, hz]
 have e3 : g * (val (vs.take i) + pw i * y) = g * val (vs.take i) + pw i * (g * y) := by rw [Nat.mul_add, Nat.mul_left_comm]
 rw [Nat.mul_comm bo] at h
 omega

def vw (ds : List Nat) (post : List Value) (n : Nat) (v : Value) : List Value := (ds.map i64n ++ post).set n v
theorem vw_get {ds : List Nat} {post : List Value} {n : Nat} {v : Value} {i : Nat} (hi : i < ds.length) (hne : i ≠ n) : (vw ds post n v)[i]? = some (i64n (ds.getD i 0)) := by
 unfold vw
 rw [List.getElem?_set_ne (fun e => hne e.symm)]; exact getIA hi
theorem vw_top {ds : List Nat} {post : List Value} {n : Nat} {v : Value} (hn : n < ds.length) : (vw ds post n v)[n]? = some v := by
 unfold vw
 rw [List.getElem?_set_self (by simp; omega)]
theorem vw_set {pre post : List Value} {ds : List Nat} {n : Nat} {v : Value} {i z : Nat} (hi : i < ds.length) (hne : i ≠ n) : (pre ++ vw ds post n v).set (pre.length + i) (i64n z) = pre ++ vw (ds.set i z) post n v := by
 unfold vw
 rw [List.set_append_right _ _ (by omega), show pre.length + i - pre.length = i by omega, List.set_comm _ _ (fun e => hne e.symm), List.set_append_left _ _ (by simpa using hi), set_i64n]
theorem vw_set_top {pre post : List Value} {ds : List Nat} {n : Nat} {v u : Value} : (pre ++ vw ds post n v).set (pre.length + n) u = pre ++ vw ds post n u := by
 unfold vw
 rw [List.set_append_right _ _ (by omega), show pre.length + n - pre.length = n by omega, List.set_set]
theorem vw_nat {ds : List Nat} {post : List Value} {n z : Nat} (hn : n < ds.length) : vw ds post n (i64n z) = (ds.set n z).map i64n ++ post := by
 unfold vw
 rw [List.set_append_left _ _ (by simpa using hn), set_i64n]
theorem vw_begin {pre post : List Value} {ds : List Nat} {n : Nat} {v : Value} (hn : n < ds.length) : (pre ++ ds.map i64n ++ post).set (pre.length + n) v = pre ++ vw ds post n v := by
 unfold vw
 rw [List.append_assoc, List.set_append_right _ _ (by omega), show pre.length + n - pre.length = n by omega]
theorem vw_len {ds : List Nat} {post : List Value} {n : Nat} {v : Value} : (vw ds post n v).length = ds.length + post.length := by unfold vw; simp
theorem bk_vw {w : World} {g t : Nat} {pre xs : List Value} (h : Bk w g t (pre ++ xs)) : Sl w (some ⟨g, pre.length, none⟩) xs := by
 have := h.sl pre.length
 rwa [List.drop_left' rfl] at this



theorem step_calls (g m c cv : Nat) (av : Option Addr) (us vs : List Nat) (pre post : List Value) (w : World)
  (hB : Bk w g 3 (pre ++ us.map i64n ++ post)) (hV : Sl w av (vs.map i64n)) (hav : ab av ≠ some g)
  (hul : us.length = m + 3) (hvl : vs.length = m + 2) (hum : Lm us) (hvm : Lm vs) (htop : 0 < vs.getD (m + 1) 0) (hUV : val us < val vs * 1000000000) (hm : m ≤ 1099511627776) :
  Calls Tryz.prog 169 #[.slice (some ⟨g, pre.length, none⟩) (m + 3) c, .slice av (m + 2) cv] w
   (Ret fun v w' => v = i64n (val us / val vs) ∧ ∃ us', us'.length = m + 3 ∧ Lm us' ∧ val us' = val us % val vs ∧ Bk w' g 3 (pre ++ us'.map i64n ++ post) ∧ w.grownBy w' (some g)) := by
 have hSu := bk_viewI hB
 obtain ⟨gv, ov, rfl, _⟩ := hV 0 _ (getI (by omega))
 have hgv : gv ≠ g := by intro e; exact hav (by rw [e]; rfl)
 have hb1 := hvm.getD (m + 1)
 have hb2 := hvm.getD m
 have hu0 := hum.getD (m + 2)
 have hu1 := hum.getD (m + 1)
 have hu2 := hum.getD m
 have hcu0 : ∀ w' : World, w'.heap = w.heap → w'.cell? ((⟨g, pre.length, none⟩ : Addr).add (((m + 2 : Nat) : Int).toNat * 1)) = some (i64n (us.getD (m + 2) 0)) := fun w' h => cell_heap h (slAt hSu (m + 2) (by omega) (getIA (by omega)))
 have hcu1 : ∀ w' : World, w'.heap = w.heap → w'.cell? ((⟨g, pre.length, none⟩ : Addr).add ((((m + 2 : Nat) : Int) - 1).toNat * 1)) = some (i64n (us.getD (m + 1) 0)) := fun w' h => cell_heap h (slAt hSu (m + 1) (by omega) (getIA (by omega)))
 have hcu2 : ∀ w' : World, w'.heap = w.heap → w'.cell? ((⟨g, pre.length, none⟩ : Addr).add ((((m + 2 : Nat) : Int) - 2).toNat * 1)) = some (i64n (us.getD m 0)) := fun w' h => cell_heap h (slAt hSu m (by omega) (getIA (by omega)))
 have hcv1 : ∀ w' : World, w'.heap = w.heap → w'.cell? ((⟨gv, ov, none⟩ : Addr).add ((((m + 2 : Nat) : Int) - 1).toNat * 1)) = some (i64n (vs.getD (m + 1) 0)) := fun w' h => cell_heap h (slAt hV (m + 1) (by omega) (getI (by omega)))
 have hcv2 : ∀ w' : World, w'.heap = w.heap → w'.cell? ((⟨gv, ov, none⟩ : Addr).add ((((m + 2 : Nat) : Int) - 2).toNat * 1)) = some (i64n (vs.getD m 0)) := fun w' h => cell_heap h (slAt hV m (by omega) (getI (by omega)))
 have hVe := val_two hvl
 have hVl : val (vs.take m) < pw m := by have := val_lt (hvm.take m); simpa [hvl] using this
 have hUe := val_three hul
 have hUl : val (us.take m) < pw m := by have := val_lt (hum.take m); simpa [hul] using this
 have hT := est_T hVe hVl hb2 hUe hUV
 have hinit := est_init hVe hUe hUl hu2 htop
 have hV0 : 0 < val vs := by
  rw [hVe]
  have : 0 < (vs.getD (m + 1) 0 * 1000000000 + vs.getD m 0) * pw m := Nat.mul_pos (by omega) (pw_pos m)
  omega
 have hmore := fun gq r h1 h2 => @est_more (pw m) (vs.getD (m + 1) 0) (vs.getD m 0) (val (vs.take m)) (us.getD m 0) _ (val (us.take m)) (val us) (val vs) gq r hVe hUe hUl hV0 hUV h1 h2
 have hdone := fun gq r h1 h2 => @est_done (pw m) (vs.getD (m + 1) 0) (vs.getD m 0) (val (vs.take m)) (us.getD m 0) _ (val (us.take m)) (val us) (val vs) gq r hVe hVl hb2 hUe hUV htop h1 h2
 generalize hu0e : us.getD (m + 2) 0 = u0 at *
 generalize hu1e : us.getD (m + 1) 0 = u1 at *
 generalize hu2e : us.getD m 0 = u2 at *
 generalize hb1e : vs.getD (m + 1) 0 = b1 at *
 generalize hb2e : vs.getD m 0 = b2 at *
 refine enter Tryz.func169 rfl Tryz.ntmps169 (Nat.le_of_ble_eq_true rfl) ?_
 refine dT rfl ?_
 refine dwn 11 (fun w' => w'.heap = w.heap) hmo ?_
 intro w1 hh1 hg1
 have hc1 := hcu0 w rfl
 have hc2 := hcu1 w rfl
 refine dqS [0,1,2,3,4,5,6,7,8,9,10] [(3, i64n u0), (9, i64n u1)] rfl rfl hh1 ?_
 refine d1 rfl rfl (fun _ => hh1) ?_
 refine dT rfl ?_
 refine d3 ?_; refine dend rfl (fun h => by cases h) ?_
 refine dT rfl ?_
 refine dwn 15 (fun w' => w'.heap = w.heap) hmo ?_
 intro w2 hh2 hg2
 have hh2 := hh2.trans hh1
 have hc3 := hcv1 w rfl
 have hTb : u0 * 1000000000 + u1 ≤ 1000000000000000000 := by omega
 have hN : ((u0 : Int) * 1000000000 + u1) = ((u0 * 1000000000 + u1 : Nat) : Int) := by omega
 have hQ : ((u0 : Int) * 1000000000 + u1) / b1 = (((u0 * 1000000000 + u1) / b1 : Nat) : Int) := by rw [hN]; rfl
 have hR : ((u0 : Int) * 1000000000 + u1) % b1 = (((u0 * 1000000000 + u1) % b1 : Nat) : Int) := by rw [hN]; rfl
 have hrlt : (u0 * 1000000000 + u1) % b1 < b1 := Nat.mod_lt _ htop
 have hqr := Nat.div_add_mod (u0 * 1000000000 + u1) b1
 have hqle := Nat.div_le_self (u0 * 1000000000 + u1) b1
 generalize hqq : (u0 * 1000000000 + u1) / b1 = q0 at *
 generalize hrr : (u0 * 1000000000 + u1) % b1 = r0 at *
 refine dqS [0,1,2,3,4,5,6,7,8,9,10,11,12,13,14] [(5, i64n b1), (12, i64n b1)] rfl rfl hh2 ?_
 refine d1 rfl rfl (fun _ => hh2) ?_
 refine dT rfl ?_
 refine d3 ?_; refine dend rfl (fun h => by cases h) ?_
 refine dT rfl ?_
 refine loopR (fun l w' mu => ∃ gq r, l = [(0, .slice (some ⟨g, pre.length, none⟩) (m + 3) c), (1, .slice (some ⟨gv, ov, none⟩) (m + 2) cv), (5, .int .i64 ((m + 2 : Nat) : Int)), (7, .int .i64 (gq : Nat)), (8, .int .i64 (r : Nat))] ∧
  gq * b1 + r = u0 * 1000000000 + u1 ∧ val us / val vs ≤ gq ∧ r < 2000000000 ∧ gq ≤ u0 * 1000000000 + u1 ∧ w'.heap = w.heap ∧ w.grownBy w' none ∧ gq = mu)
  ⟨q0, r0, rfl, by rw [Nat.mul_comm]; exact hqr, hinit, by omega, hqle, hh2, gb_trans hg1 hg2, rfl⟩ ⟨rfl, rfl, rfl, iv hQ, iv hR, trivial⟩ ?_
 rintro l w3 mu ⟨gq, r, rfl, hgr, hge, hr2, hgle, hh3, hg3, rfl⟩
 refine dT rfl ?_
 refine dwn 23 (fun w' => w'.heap = w.heap) hmo ?_
 intro w4 hh4 hg4
 have hh4 := hh4.trans hh3
 have hg4 := gb_trans hg3 hg4
 refine dqS [0] [] rfl rfl hh4 ?_
 refine d1 rfl rfl (fun _ => hh4) ?_
 refine cS rfl rfl rfl rfl (fun hq => ?_) (fun hq => ?_)
 ·refine d2 ?_
  refine dqS [2,3] [] rfl rfl hh4 ?_
  refine d1 rfl rfl (fun _ => hh4) ?_
  have hrB : r < 1000000000 := by omega
  refine cS rfl rfl rfl rfl (fun hq => ?_) (fun hq => ?_)
  ·have hlt := hmore gq r hgr (.inl (by omega))
   refine d2 ?_
   refine dqS [5,6,7,8,9,10,11,12,13,14,15,16,17,18,19,20,21,22] [] rfl rfl hh4 ?_
   refine d1 rfl rfl (fun _ => hh4) ?_
   refine dT rfl ?_
   refine d3 ?_; refine dend rfl (fun h => by cases h) ?_
   refine dT rfl ?_
   refine dwn 10 (fun w' => w'.heap = w.heap) hmo ?_
   intro w5 hh5 hg5
   have hh5 := hh5.trans hh4
   have hpos := Nat.lt_of_le_of_lt (Nat.zero_le _) hlt
   obtain ⟨gq, rfl⟩ : ∃ k, gq = k + 1 := ⟨gq - 1, by omega⟩
   have hc3 := hcv1 w rfl
   refine dqS [0,1,2,3,4,5,6,7,8,9] [(7, i64n b1)] rfl rfl hh5 ?_
   refine d1 rfl rfl (fun _ => hh5) ?_
   refine dT rfl ?_
   refine d3 ?_; refine dend rfl (fun h => by cases h) ?_
   refine dT rfl ?_
   refine rend _ gq ⟨gq, r + b1, rfl, by rw [Nat.add_mul] at hgr; omega, by omega, by omega, by omega, hh5, gb_trans hg4 hg5, rfl⟩ (by omega) ⟨rfl, rfl, rfl, iv (by omega), iv (by omega), trivial⟩
  ·have hgB : gq < 1000000000 := by omega
   have hgb : gq * b2 ≤ 999999998000000001 := Nat.le_trans (Nat.mul_le_mul (show gq ≤ 999999999 by omega) (show b2 ≤ 999999999 by omega)) (by decide)
   have hgbi : (gq : Int) * (b2 : Int) = ((gq * b2 : Nat) : Int) := (Int.natCast_mul _ _).symm
   have hc4 := hcu2 w rfl
   have hc5 := hcv2 w rfl
   refine d2 ?_
   refine dqS [5,6,7,8,9,10,11,12,13,14,15,16,17,18,19,20] [(11, i64n b2), (19, i64n u2)] rfl rfl hh4 ?_
   refine d1 rfl rfl (fun _ => hh4) ?_
   refine cS rfl rfl rfl rfl (fun hq => ?_) (fun hq => ?_)
   ·have hq' : r * 1000000000 + u2 < gq * b2 := lt_nat hq
    have hlt := hmore gq r hgr (.inr hq')
    clear hq hgbi hgb
    refine d2 ?_
    refine dqS [22] [] rfl rfl hh4 ?_
    refine d1 rfl rfl (fun _ => hh4) ?_
    refine dT rfl ?_
    refine d3 ?_; refine dend rfl (fun h => by cases h) ?_
    refine dT rfl ?_
    refine dwn 10 (fun w' => w'.heap = w.heap) hmo ?_
    intro w5 hh5 hg5
    have hh5 := hh5.trans hh4
    have hpos := Nat.lt_of_le_of_lt (Nat.zero_le _) hlt
    obtain ⟨gq, rfl⟩ : ∃ k, gq = k + 1 := ⟨gq - 1, by omega⟩
    have hc3 := hcv1 w rfl
    refine dqS [0,1,2,3,4,5,6,7,8,9] [(7, i64n b1)] rfl rfl hh5 ?_
    refine d1 rfl rfl (fun _ => hh5) ?_
    refine dT rfl ?_
    refine d3 ?_; refine dend rfl (fun h => by cases h) ?_
    refine dT rfl ?_
    refine rend _ gq ⟨gq, r + b1, rfl, by rw [Nat.add_mul] at hgr; omega, by omega, by omega, by omega, hh5, gb_trans hg4 hg5, rfl⟩ (by omega) ⟨rfl, rfl, rfl, iv (by omega), iv (by omega), trivial⟩
   ·have hx := hdone gq r hgr (.inr ⟨hgB, le_nat hq⟩)
    clear hq hgbi hgb
    refine d2 ?_
    refine dqS [22] [] rfl rfl hh4 ?_
    refine d1 rfl rfl (fun _ => hh4) ?_
    refine dT rfl ?_
    refine d3 ?_; refine dend rfl (fun h => by cases h) ?_
    obtain ⟨hglt, hgle1⟩ := hx
    refine dT rfl ?_
    refine loopR (fun l w' mu => ∃ i cs bo, l = [(0, .slice (some ⟨g, pre.length, none⟩) (m + 3) c), (1, .slice (some ⟨gv, ov, none⟩) (m + 2) cv), (5, .int .i64 ((m + 2 : Nat) : Int)), (7, .int .i64 (gq : Nat)), (9, .int .i64 (bo : Nat)), (10, .int .i64 (i : Nat))] ∧
     i ≤ m + 2 ∧ cs.length = m + 3 ∧ Lm cs ∧ bo ≤ 1000000000 ∧ cs.drop i = us.drop i ∧ val (cs.take i) + gq * val (vs.take i) = val (us.take i) + bo * pw i ∧ Bk w' g 3 (pre ++ cs.map i64n ++ post) ∧ w.grownBy w' (some g) ∧ mu = m + 2 - i)
     ⟨0, us, 0, rfl, by omega, hul, hum, by omega, rfl, by simp [val], heap_bk hh4 hB, gb_none _ hg4, rfl⟩ ⟨rfl, rfl, rfl, rfl, rfl, rfl, trivial⟩ ?_
    clear hh4 hg4 hc1 hc2
    rintro l w5 mu ⟨i, cs, bo, rfl, hi, hcl, hcm, hbo, hd, hrel, hB5, hg5, rfl⟩
    refine dT rfl ?_
    refine cS rfl rfl rfl rfl (fun hq => ?_) (fun hq => ?_)
    ·have hi' : i < m + 2 := by omega
     have hs := fun z bo' hz => @rsub_step cs us vs i gq bo (by omega) (by omega) (by omega) hrel z bo' hz
     have hy1 := hvm.getD i
     have hx1 := hum.getD i
     have hV5 := hV.keep hg5 (fun k hk e => hav (by rw [hk]; exact e.symm))
     have hcx := slAt (bk_viewI hB5) i (i := (i : Int)) (by omega) (show _ = some (i64n (us.getD i 0)) by rw [getIA (by omega), getD_of_drop hd])
     have hcy := slAt hV5 i (i := (i : Int)) (by omega) (getI (by omega))
     generalize hye : vs.getD i 0 = y at *
     generalize hxe : us.getD i 0 = x at *
     have hgy : gq * y ≤ 999999998000000001 := Nat.le_trans (Nat.mul_le_mul (show gq ≤ 999999999 by omega) (show y ≤ 999999999 by omega)) (by decide)
     have hpi : (gq : Int) * (y : Int) = ((gq * y : Nat) : Int) := (Int.natCast_mul _ _).symm
     generalize hp0 : gq * y = p0 at *
     refine dT rfl ?_
     refine dwn 13 (fun w' => w'.heap = w5.heap) hmo ?_
     intro w6 hh6 hg6
     refine dq U [0,1,2,3,4,5,6,7,8,9,10,11,12] [(3, i64n x), (10, i64n y)] (by kernel_rfl) rfl rfl hh6 ?_ ?_
     ·simp only [AllP, InR, List.nil_append, List.cons_append, hpi]
      (repeat' apply And.intro)
      all_goals first | exact True.intro | omega | (intro w_ hw_; refine ldC U rfl hw_ ?_; assumption)
     refine d1 rfl rfl (fun _ => hh6) ?_
     refine dr U 1 rfl trivial ?_
     refine d2 ?_; refine dend rfl (fun h => by cases h) ?_
     generalize ht : (x : Int) - (bo : Int) - (gq : Int) * (y : Int) = t
     rw [hpi] at ht
     have htr := tmod_range t 1000000000 (by omega)
     have hte := tm_emod t
     first | (refine dr U 2 rfl trivial ?_; refine rem1 rfl rfl (by decide) rfl rfl ?_) | (refine dr U 3 rfl trivial ?_; refine rem1 rfl rfl (by decide) rfl rfl ?_) | (refine dr U 4 rfl trivial ?_; refine rem1 rfl rfl (by decide) rfl rfl ?_) | (refine dr U 5 rfl trivial ?_; refine rem1 rfl rfl (by decide) rfl rfl ?_) | (refine dr U 6 rfl trivial ?_; refine rem1 rfl rfl (by decide) rfl rfl ?_) | (refine dr U 7 rfl trivial ?_; refine rem1 rfl rfl (by decide) rfl rfl ?_) | (refine dr U 8 rfl trivial ?_; refine rem1 rfl rfl (by decide) rfl rfl ?_) | (refine dr U 9 rfl trivial ?_; refine rem1 rfl rfl (by decide) rfl rfl ?_) | (refine dr U 10 rfl trivial ?_; refine rem1 rfl rfl (by decide) rfl rfl ?_) | (refine dr U 11 rfl trivial ?_; refine rem1 rfl rfl (by decide) rfl rfl ?_) | (refine dr U 12 rfl trivial ?_; refine rem1 rfl rfl (by decide) rfl rfl ?_) | (refine dr U 13 rfl trivial ?_; refine rem1 rfl rfl (by decide) rfl rfl ?_) | (refine dr U 14 rfl trivial ?_; refine rem1 rfl rfl (by decide) rfl rfl ?_) | (refine dr U 15 rfl trivial ?_; refine rem1 rfl rfl (by decide) rfl rfl ?_) | (refine dr U 16 rfl trivial ?_; refine rem1 rfl rfl (by decide) rfl rfl ?_) | (refine dr U 17 rfl trivial ?_; refine rem1 rfl rfl (by decide) rfl rfl ?_) | (refine dr U 18 rfl trivial ?_; refine rem1 rfl rfl (by decide) rfl rfl ?_) | (refine dr U 19 rfl trivial ?_; refine rem1 rfl rfl (by decide) rfl rfl ?_) | (refine dr U 20 rfl trivial ?_; refine rem1 rfl rfl (by decide) rfl rfl ?_) | (refine dr U 21 rfl trivial ?_; refine rem1 rfl rfl (by decide) rfl rfl ?_) | (refine dr U 22 rfl trivial ?_; refine rem1 rfl rfl (by decide) rfl rfl ?_) | (refine dr U 23 rfl trivial ?_; refine rem1 rfl rfl (by decide) rfl rfl ?_)
     generalize t.tmod 1000000000 = tm at *
     obtain ⟨z, hz⟩ : ∃ z : Nat, (tm + 1000000000) % 1000000000 = (z : Int) := ⟨((tm + 1000000000) % 1000000000).toNat, by omega⟩
     have hzB : z < 1000000000 := by omega
     obtain ⟨bo', hb'⟩ : ∃ b : Nat, ((z : Int) - t) / 1000000000 = (b : Int) := ⟨(((z : Int) - t) / 1000000000).toNat, by omega⟩
     have hzt : z + p0 + bo = x + bo' * 1000000000 := by omega
     have hbB : bo' ≤ 1000000000 := by omega
     have hB6 := heap_bk hh6 hB5
     refine dS rfl ?_
     refine ix U (v := (i64n z)) rfl rfl rfl rfl rfl rfl rfl (fun _ => rfl) (fun _ => iv hz) (fun _ => rfl) rfl rfl i rfl (by omega) (by simp; omega) hB6 ?_
     intro p2 w7 hB7 hg7 hs7
     rw [set_viewI _ _ _ _ _ (by omega)] at hB7
     refine dS rfl ?_
     refine rend _ _ ⟨i + 1, cs.set i z, bo', rfl, by omega, by simp [hcl], hcm.set _ hzB, hbB, by rw [set_drop_succ]; exact drop_succ_of_drop hd, hs z bo' hzt, hB7, gb_trans (gb_trans hg5 (gb_none _ hg6)) hg7, rfl⟩ (by omega)
      ⟨rfl, rfl, rfl, rfl, iv (by rw [hz]; exact hb'), iv (by omega), trivial⟩
    ·obtain rfl : i = m + 2 := by omega
     rw [take_all (show vs.length ≤ m + 2 by omega)] at hrel
     have hgetn : (cs.map i64n ++ post)[m + 2]? = some (i64n u0) := by rw [getIA (by omega), getD_of_drop hd, hu0e]
     have hul' := val_last (n := m + 2) hul
     rw [hu0e] at hul'
     refine dS rfl ?_
     refine il U rfl rfl rfl rfl rfl rfl rfl (fun _ => rfl) rfl (m + 2) (by omega) (by omega) (bk_viewI hB5) hgetn ?_
     refine dS rfl ?_
     refine ix U (v := (.int .i64 ((u0 : Int) - (bo : Int)))) rfl rfl rfl rfl rfl rfl rfl (fun _ => rfl) (fun _ => rfl) (fun _ => rfl) rfl rfl (m + 2) rfl (by omega) (by simp; omega) hB5 ?_
     intro p2 w7 hB7 hg7 hs7
     rw [vw_begin (by omega)] at hB7
     have hg7 := gb_trans hg5 hg7
     refine dT rfl ?_
     refine loopR (fun l w' mu => (∃ gq' us', l = [(0, .slice (some ⟨g, pre.length, none⟩) (m + 3) c), (1, .slice (some ⟨gv, ov, none⟩) (m + 2) cv), (5, .int .i64 ((m + 2 : Nat) : Int)), (7, .int .i64 (gq' : Nat))] ∧ gq' = val us / val vs ∧ us'.length = m + 3 ∧ Lm us' ∧ val us' = val us % val vs ∧ Bk w' g 3 (pre ++ us'.map i64n ++ post) ∧ w.grownBy w' (some g) ∧ mu = 0) ∨
       (u0 < bo ∧ l = [(0, .slice (some ⟨g, pre.length, none⟩) (m + 3) c), (1, .slice (some ⟨gv, ov, none⟩) (m + 2) cv), (5, .int .i64 ((m + 2 : Nat) : Int)), (7, .int .i64 (gq : Nat))] ∧ Bk w' g 3 (pre ++ vw cs post (m + 2) (.int .i64 ((u0 : Int) - (bo : Int)))) ∧ w.grownBy w' (some g) ∧ mu = 1))
      (l0 := [(0, .slice (some ⟨g, pre.length, none⟩) (m + 3) c), (1, .slice (some ⟨gv, ov, none⟩) (m + 2) cv), (5, .int .i64 ((m + 2 : Nat) : Int)), (7, .int .i64 (gq : Nat))]) (m0 := if u0 < bo then 1 else 0) ?_ ⟨rfl, rfl, rfl, rfl, trivial⟩ ?_
     ·by_cases hub : u0 < bo
      ·rw [if_pos hub]
       exact .inr ⟨hub, rfl, hB7, hg7, rfl⟩
      ·rw [if_neg hub]
       obtain ⟨hres1, hres2⟩ := est_fit hul' hrel (by omega) hV0 hge
       rw [show (Value.int .i64 ((u0 : Int) - (bo : Int))) = i64n (u0 - bo) by unfold i64n; congr 1; omega, vw_nat (by omega), ← List.append_assoc] at hB7
       refine .inl ⟨gq, cs.set (m + 2) (u0 - bo), rfl, hres1, by simp [hcl], hcm.set _ (by omega), ?_, hB7, hg7, rfl⟩
       rw [← hres2, val_last (n := m + 2) (by simp [hcl])]
       simp [List.take_set_of_le, List.getD, show m + 2 < cs.length by omega]
     clear hB7 hg7 hB5 hg5
     rintro l w8 mu (⟨gq', us', rfl, hgq', hul2, hum2, huv2, hB8, hg8, hmu⟩ | ⟨hub, rfl, hB8, hg8, hmu⟩)
     ·have hgt : (us'.map i64n ++ post)[m + 2]? = some (i64n (us'.getD (m + 2) 0)) := getIA (by omega)
      refine dS rfl ?_
      refine il U rfl rfl rfl rfl rfl rfl rfl (fun _ => rfl) rfl (m + 2) (by omega) (by omega) (bk_viewI hB8) hgt ?_
      refine cF rfl rfl rfl (by show ¬ ((us'.getD (m + 2) 0 : Nat) : Int) < 0; omega) ?_
      refine dT rfl ?_
      exact ret Tryz.results169 rfl ⟨_, rfl, by rw [← hgq']; rfl, us', hul2, hum2, huv2, hB8, hg8⟩
     ·have hcn : val (cs.take (m + 2)) < pw (m + 2) := by have := val_lt (hcm.take (m + 2)); simpa [hcl] using this
      have hvn : val vs < pw (m + 2) := by have := val_lt hvm; rwa [hvl] at this
      have hover := fun ds cy2 h1 h2 => @est_over us cs ds (m + 2) gq (val vs) bo u0 cy2 hul' hrel hub hV0 hge hgle1 hcn h1 hvn h2
      refine dS rfl ?_
      refine il U rfl rfl rfl rfl rfl rfl rfl (fun _ => rfl) rfl (m + 2) (by omega) (by omega) (bk_vw hB8) (vw_top (by omega)) ?_
      refine cT rfl rfl rfl (by omega) ?_
      refine dT rfl ?_
      refine loopR (fun l w' mu => ∃ i ds k, l = [(0, .slice (some ⟨g, pre.length, none⟩) (m + 3) c), (1, .slice (some ⟨gv, ov, none⟩) (m + 2) cv), (5, .int .i64 ((m + 2 : Nat) : Int)), (7, .int .i64 (gq : Nat)), (13, .int .i64 (k : Nat)), (14, .int .i64 (i : Nat))] ∧
       i ≤ m + 2 ∧ ds.length = m + 3 ∧ Lm ds ∧ k ≤ 1 ∧ ds.drop i = cs.drop i ∧ val (ds.take i) + k * pw i = val (cs.take i) + val (vs.take i) ∧ Bk w' g 3 (pre ++ vw ds post (m + 2) (.int .i64 ((u0 : Int) - (bo : Int)))) ∧ w.grownBy w' (some g) ∧ mu = m + 2 - i)
       ⟨0, cs, 0, rfl, by omega, hcl, hcm, by omega, rfl, by simp [val], hB8, hg8, rfl⟩ ⟨rfl, rfl, rfl, rfl, rfl, rfl, trivial⟩ ?_
      clear hB8 hg8
      rintro l w6 mu2 ⟨i, ds, k, rfl, hi, hdl, hdm, hk, hdd, hrel2, hB6, hg6, rfl⟩
      refine dT rfl ?_
      refine cS rfl rfl rfl rfl (fun hq => ?_) (fun hq => ?_)
      ·have hi' : i < m + 2 := by omega
       have hs := @addb_step ds cs vs i k (by omega) (by omega) (by omega) hdd hrel2
       have hy1 := hvm.getD i
       have hx1 := hcm.getD i
       have hV6 := hV.keep hg6 (fun k hk e => hav (by rw [hk]; exact e.symm))
       have hgx := slAt (bk_vw hB6) i (i := (i : Int)) (by omega) (show _ = some (i64n (cs.getD i 0)) by rw [vw_get (by omega) (by omega), getD_of_drop hdd])
       have hgy := slAt hV6 i (i := (i : Int)) (by omega) (getI (by omega))
       generalize hye : vs.getD i 0 = y at *
       generalize hxe : cs.getD i 0 = x at *
       refine dT rfl ?_
       refine dwn 11 (fun w' => w'.heap = w6.heap) hmo ?_
       intro w7 hh7 hg7
       refine dqS [0,1,2,3,4,5,6,7,8,9,10] [(3, i64n x), (7, i64n y)] rfl rfl hh7 ?_
       refine d1 rfl rfl (fun _ => hh7) ?_
       refine dT rfl ?_
       refine d3 ?_; refine dend rfl (fun h => by cases h) ?_
       refine dS rfl ?_
       have hB7 := heap_bk hh7 hB6
       refine ix U (v := (i64n ((x + y + k) % 1000000000))) rfl rfl rfl rfl rfl rfl rfl (fun _ => rfl) (fun _ => iv (by omega)) (fun _ => rfl) rfl rfl i rfl (by omega) (by simp [vw_len]; omega) hB7 ?_
       intro p2 w8 hB8 hg8 hs8
       rw [vw_set (by omega) (by omega)] at hB8
       refine dS rfl ?_
       refine rend _ _ ⟨i + 1, ds.set i ((x + y + k) % 1000000000), (x + y + k) / 1000000000, rfl, by omega, by simp [hdl], hdm.set _ (by omega), by omega, by rw [set_drop_succ]; exact drop_succ_of_drop hdd, hs, hB8, gb_trans (gb_trans hg6 (gb_none _ hg7)) hg8, rfl⟩ (by omega)
        ⟨rfl, rfl, rfl, rfl, iv (by omega), iv (by omega), trivial⟩
      ·obtain rfl : i = m + 2 := by omega
       rw [take_all (show vs.length ≤ m + 2 by omega)] at hrel2
       have hdn : val (ds.take (m + 2)) < pw (m + 2) := by have := val_lt (hdm.take (m + 2)); simpa [hdl] using this
       obtain ⟨hres1, hpos, hres2, htop2⟩ := hover ds k hdn hrel2
       refine dS rfl ?_
       refine il U rfl rfl rfl rfl rfl rfl rfl (fun _ => rfl) rfl (m + 2) (by omega) (by omega) (bk_vw hB6) (vw_top (by omega)) ?_
       refine dS rfl ?_
       refine ix U (v := (i64n 0)) rfl rfl rfl rfl rfl rfl rfl (fun _ => rfl) (fun _ => iv (by omega)) (fun _ => rfl) rfl rfl (m + 2) rfl (by omega) (by simp [vw_len]; omega) hB6 ?_
       intro p2 w8 hB8 hg8 hs8
       rw [vw_set_top, vw_nat (by omega), ← List.append_assoc] at hB8
       refine dS rfl ?_
       refine rend [(0, .slice (some ⟨g, pre.length, none⟩) (m + 3) c), (1, .slice (some ⟨gv, ov, none⟩) (m + 2) cv), (5, .int .i64 ((m + 2 : Nat) : Int)), (7, .int .i64 ((gq - 1 : Nat) : Int))] 0 (.inl ⟨gq - 1, ds.set (m + 2) 0, rfl, hres1, by simp [hdl], hdm.set _ (by omega), ?_, hB8, gb_trans hg6 hg8, rfl⟩) (by omega) ⟨rfl, rfl, rfl, iv (by omega), trivial⟩
       rw [← hres2, val_last (n := m + 2) (by simp [hdl])]
       simp [List.take_set_of_le, List.getD, show m + 2 < ds.length by omega]
 ·have hx := hdone gq r hgr (.inl (by omega))
  refine d2 ?_
  refine dqS [2,3,4,5,6,7,8,9,10,11,12,13,14,15,16,17,18,19,20,21,22] [] rfl rfl hh4 ?_
  refine d1 rfl rfl (fun _ => hh4) ?_
  refine dT rfl ?_
  refine d3 ?_; refine dend rfl (fun h => by cases h) ?_
  obtain ⟨hglt, hgle1⟩ := hx
  refine dT rfl ?_
  refine loopR (fun l w' mu => ∃ i cs bo, l = [(0, .slice (some ⟨g, pre.length, none⟩) (m + 3) c), (1, .slice (some ⟨gv, ov, none⟩) (m + 2) cv), (5, .int .i64 ((m + 2 : Nat) : Int)), (7, .int .i64 (gq : Nat)), (9, .int .i64 (bo : Nat)), (10, .int .i64 (i : Nat))] ∧
   i ≤ m + 2 ∧ cs.length = m + 3 ∧ Lm cs ∧ bo ≤ 1000000000 ∧ cs.drop i = us.drop i ∧ val (cs.take i) + gq * val (vs.take i) = val (us.take i) + bo * pw i ∧ Bk w' g 3 (pre ++ cs.map i64n ++ post) ∧ w.grownBy w' (some g) ∧ mu = m + 2 - i)
   ⟨0, us, 0, rfl, by omega, hul, hum, by omega, rfl, by simp [val], heap_bk hh4 hB, gb_none _ hg4, rfl⟩ ⟨rfl, rfl, rfl, rfl, rfl, rfl, trivial⟩ ?_
  clear hh4 hg4 hc1 hc2
  rintro l w5 mu ⟨i, cs, bo, rfl, hi, hcl, hcm, hbo, hd, hrel, hB5, hg5, rfl⟩
  refine dT rfl ?_
  refine cS rfl rfl rfl rfl (fun hq => ?_) (fun hq => ?_)
  ·have hi' : i < m + 2 := by omega
   have hs := fun z bo' hz => @rsub_step cs us vs i gq bo (by omega) (by omega) (by omega) hrel z bo' hz
   have hy1 := hvm.getD i
   have hx1 := hum.getD i
   have hV5 := hV.keep hg5 (fun k hk e => hav (by rw [hk]; exact e.symm))
   have hcx := slAt (bk_viewI hB5) i (i := (i : Int)) (by omega) (show _ = some (i64n (us.getD i 0)) by rw [getIA (by omega), getD_of_drop hd])
   have hcy := slAt hV5 i (i := (i : Int)) (by omega) (getI (by omega))
   generalize hye : vs.getD i 0 = y at *
   generalize hxe : us.getD i 0 = x at *
   have hgy : gq * y ≤ 999999998000000001 := Nat.le_trans (Nat.mul_le_mul (show gq ≤ 999999999 by omega) (show y ≤ 999999999 by omega)) (by decide)
   have hpi : (gq : Int) * (y : Int) = ((gq * y : Nat) : Int) := (Int.natCast_mul _ _).symm
   generalize hp0 : gq * y = p0 at *
   refine dT rfl ?_
   refine dwn 13 (fun w' => w'.heap = w5.heap) hmo ?_
   intro w6 hh6 hg6
   refine dq U [0,1,2,3,4,5,6,7,8,9,10,11,12] [(3, i64n x), (10, i64n y)] (by kernel_rfl) rfl rfl hh6 ?_ ?_
   ·simp only [AllP, InR, List.nil_append, List.cons_append, hpi]
    (repeat' apply And.intro)
    all_goals first | exact True.intro | omega | (intro w_ hw_; refine ldC U rfl hw_ ?_; assumption)
   refine d1 rfl rfl (fun _ => hh6) ?_
   refine dr U 1 rfl trivial ?_
   refine d2 ?_; refine dend rfl (fun h => by cases h) ?_
   generalize ht : (x : Int) - (bo : Int) - (gq : Int) * (y : Int) = t
   rw [hpi] at ht
   have htr := tmod_range t 1000000000 (by omega)
   have hte := tm_emod t
   first | (refine dr U 2 rfl trivial ?_; refine rem1 rfl rfl (by decide) rfl rfl ?_) | (refine dr U 3 rfl trivial ?_; refine rem1 rfl rfl (by decide) rfl rfl ?_) | (refine dr U 4 rfl trivial ?_; refine rem1 rfl rfl (by decide) rfl rfl ?_) | (refine dr U 5 rfl trivial ?_; refine rem1 rfl rfl (by decide) rfl rfl ?_) | (refine dr U 6 rfl trivial ?_; refine rem1 rfl rfl (by decide) rfl rfl ?_) | (refine dr U 7 rfl trivial ?_; refine rem1 rfl rfl (by decide) rfl rfl ?_) | (refine dr U 8 rfl trivial ?_; refine rem1 rfl rfl (by decide) rfl rfl ?_) | (refine dr U 9 rfl trivial ?_; refine rem1 rfl rfl (by decide) rfl rfl ?_) | (refine dr U 10 rfl trivial ?_; refine rem1 rfl rfl (by decide) rfl rfl ?_) | (refine dr U 11 rfl trivial ?_; refine rem1 rfl rfl (by decide) rfl rfl ?_) | (refine dr U 12 rfl trivial ?_; refine rem1 rfl rfl (by decide) rfl rfl ?_) | (refine dr U 13 rfl trivial ?_; refine rem1 rfl rfl (by decide) rfl rfl ?_) | (refine dr U 14 rfl trivial ?_; refine rem1 rfl rfl (by decide) rfl rfl ?_) | (refine dr U 15 rfl trivial ?_; refine rem1 rfl rfl (by decide) rfl rfl ?_) | (refine dr U 16 rfl trivial ?_; refine rem1 rfl rfl (by decide) rfl rfl ?_) | (refine dr U 17 rfl trivial ?_; refine rem1 rfl rfl (by decide) rfl rfl ?_) | (refine dr U 18 rfl trivial ?_; refine rem1 rfl rfl (by decide) rfl rfl ?_) | (refine dr U 19 rfl trivial ?_; refine rem1 rfl rfl (by decide) rfl rfl ?_) | (refine dr U 20 rfl trivial ?_; refine rem1 rfl rfl (by decide) rfl rfl ?_) | (refine dr U 21 rfl trivial ?_; refine rem1 rfl rfl (by decide) rfl rfl ?_) | (refine dr U 22 rfl trivial ?_; refine rem1 rfl rfl (by decide) rfl rfl ?_) | (refine dr U 23 rfl trivial ?_; refine rem1 rfl rfl (by decide) rfl rfl ?_)
   generalize t.tmod 1000000000 = tm at *
   obtain ⟨z, hz⟩ : ∃ z : Nat, (tm + 1000000000) % 1000000000 = (z : Int) := ⟨((tm + 1000000000) % 1000000000).toNat, by omega⟩
   have hzB : z < 1000000000 := by omega
   obtain ⟨bo', hb'⟩ : ∃ b : Nat, ((z : Int) - t) / 1000000000 = (b : Int) := ⟨(((z : Int) - t) / 1000000000).toNat, by omega⟩
   have hzt : z + p0 + bo = x + bo' * 1000000000 := by omega
   have hbB : bo' ≤ 1000000000 := by omega
   have hB6 := heap_bk hh6 hB5
   refine dS rfl ?_
   refine ix U (v := (i64n z)) rfl rfl rfl rfl rfl rfl rfl (fun _ => rfl) (fun _ => iv hz) (fun _ => rfl) rfl rfl i rfl (by omega) (by simp; omega) hB6 ?_
   intro p2 w7 hB7 hg7 hs7
   rw [set_viewI _ _ _ _ _ (by omega)] at hB7
   refine dS rfl ?_
   refine rend _ _ ⟨i + 1, cs.set i z, bo', rfl, by omega, by simp [hcl], hcm.set _ hzB, hbB, by rw [set_drop_succ]; exact drop_succ_of_drop hd, hs z bo' hzt, hB7, gb_trans (gb_trans hg5 (gb_none _ hg6)) hg7, rfl⟩ (by omega)
    ⟨rfl, rfl, rfl, rfl, iv (by rw [hz]; exact hb'), iv (by omega), trivial⟩
  ·obtain rfl : i = m + 2 := by omega
   rw [take_all (show vs.length ≤ m + 2 by omega)] at hrel
   have hgetn : (cs.map i64n ++ post)[m + 2]? = some (i64n u0) := by rw [getIA (by omega), getD_of_drop hd, hu0e]
   have hul' := val_last (n := m + 2) hul
   rw [hu0e] at hul'
   refine dS rfl ?_
   refine il U rfl rfl rfl rfl rfl rfl rfl (fun _ => rfl) rfl (m + 2) (by omega) (by omega) (bk_viewI hB5) hgetn ?_
   refine dS rfl ?_
   refine ix U (v := (.int .i64 ((u0 : Int) - (bo : Int)))) rfl rfl rfl rfl rfl rfl rfl (fun _ => rfl) (fun _ => rfl) (fun _ => rfl) rfl rfl (m + 2) rfl (by omega) (by simp; omega) hB5 ?_
   intro p2 w7 hB7 hg7 hs7
   rw [vw_begin (by omega)] at hB7
   have hg7 := gb_trans hg5 hg7
   refine dT rfl ?_
   refine loopR (fun l w' mu => (∃ gq' us', l = [(0, .slice (some ⟨g, pre.length, none⟩) (m + 3) c), (1, .slice (some ⟨gv, ov, none⟩) (m + 2) cv), (5, .int .i64 ((m + 2 : Nat) : Int)), (7, .int .i64 (gq' : Nat))] ∧ gq' = val us / val vs ∧ us'.length = m + 3 ∧ Lm us' ∧ val us' = val us % val vs ∧ Bk w' g 3 (pre ++ us'.map i64n ++ post) ∧ w.grownBy w' (some g) ∧ mu = 0) ∨
     (u0 < bo ∧ l = [(0, .slice (some ⟨g, pre.length, none⟩) (m + 3) c), (1, .slice (some ⟨gv, ov, none⟩) (m + 2) cv), (5, .int .i64 ((m + 2 : Nat) : Int)), (7, .int .i64 (gq : Nat))] ∧ Bk w' g 3 (pre ++ vw cs post (m + 2) (.int .i64 ((u0 : Int) - (bo : Int)))) ∧ w.grownBy w' (some g) ∧ mu = 1))
    (l0 := [(0, .slice (some ⟨g, pre.length, none⟩) (m + 3) c), (1, .slice (some ⟨gv, ov, none⟩) (m + 2) cv), (5, .int .i64 ((m + 2 : Nat) : Int)), (7, .int .i64 (gq : Nat))]) (m0 := if u0 < bo then 1 else 0) ?_ ⟨rfl, rfl, rfl, rfl, trivial⟩ ?_
   ·by_cases hub : u0 < bo
    ·rw [if_pos hub]
     exact .inr ⟨hub, rfl, hB7, hg7, rfl⟩
    ·rw [if_neg hub]
     obtain ⟨hres1, hres2⟩ := est_fit hul' hrel (by omega) hV0 hge
     rw [show (Value.int .i64 ((u0 : Int) - (bo : Int))) = i64n (u0 - bo) by unfold i64n; congr 1; omega, vw_nat (by omega), ← List.append_assoc] at hB7
     refine .inl ⟨gq, cs.set (m + 2) (u0 - bo), rfl, hres1, by simp [hcl], hcm.set _ (by omega), ?_, hB7, hg7, rfl⟩
     rw [← hres2, val_last (n := m + 2) (by simp [hcl])]
     simp [List.take_set_of_le, List.getD, show m + 2 < cs.length by omega]
   clear hB7 hg7 hB5 hg5
   rintro l w8 mu (⟨gq', us', rfl, hgq', hul2, hum2, huv2, hB8, hg8, hmu⟩ | ⟨hub, rfl, hB8, hg8, hmu⟩)
   ·have hgt : (us'.map i64n ++ post)[m + 2]? = some (i64n (us'.getD (m + 2) 0)) := getIA (by omega)
    refine dS rfl ?_
    refine il U rfl rfl rfl rfl rfl rfl rfl (fun _ => rfl) rfl (m + 2) (by omega) (by omega) (bk_viewI hB8) hgt ?_
    refine cF rfl rfl rfl (by show ¬ ((us'.getD (m + 2) 0 : Nat) : Int) < 0; omega) ?_
    refine dT rfl ?_
    exact ret Tryz.results169 rfl ⟨_, rfl, by rw [← hgq']; rfl, us', hul2, hum2, huv2, hB8, hg8⟩
   ·have hcn : val (cs.take (m + 2)) < pw (m + 2) := by have := val_lt (hcm.take (m + 2)); simpa [hcl] using this
    have hvn : val vs < pw (m + 2) := by have := val_lt hvm; rwa [hvl] at this
    have hover := fun ds cy2 h1 h2 => @est_over us cs ds (m + 2) gq (val vs) bo u0 cy2 hul' hrel hub hV0 hge hgle1 hcn h1 hvn h2
    refine dS rfl ?_
    refine il U rfl rfl rfl rfl rfl rfl rfl (fun _ => rfl) rfl (m + 2) (by omega) (by omega) (bk_vw hB8) (vw_top (by omega)) ?_
    refine cT rfl rfl rfl (by omega) ?_
    refine dT rfl ?_
    refine loopR (fun l w' mu => ∃ i ds k, l = [(0, .slice (some ⟨g, pre.length, none⟩) (m + 3) c), (1, .slice (some ⟨gv, ov, none⟩) (m + 2) cv), (5, .int .i64 ((m + 2 : Nat) : Int)), (7, .int .i64 (gq : Nat)), (13, .int .i64 (k : Nat)), (14, .int .i64 (i : Nat))] ∧
     i ≤ m + 2 ∧ ds.length = m + 3 ∧ Lm ds ∧ k ≤ 1 ∧ ds.drop i = cs.drop i ∧ val (ds.take i) + k * pw i = val (cs.take i) + val (vs.take i) ∧ Bk w' g 3 (pre ++ vw ds post (m + 2) (.int .i64 ((u0 : Int) - (bo : Int)))) ∧ w.grownBy w' (some g) ∧ mu = m + 2 - i)
     ⟨0, cs, 0, rfl, by omega, hcl, hcm, by omega, rfl, by simp [val], hB8, hg8, rfl⟩ ⟨rfl, rfl, rfl, rfl, rfl, rfl, trivial⟩ ?_
    clear hB8 hg8
    rintro l w6 mu2 ⟨i, ds, k, rfl, hi, hdl, hdm, hk, hdd, hrel2, hB6, hg6, rfl⟩
    refine dT rfl ?_
    refine cS rfl rfl rfl rfl (fun hq => ?_) (fun hq => ?_)
    ·have hi' : i < m + 2 := by omega
     have hs := @addb_step ds cs vs i k (by omega) (by omega) (by omega) hdd hrel2
     have hy1 := hvm.getD i
     have hx1 := hcm.getD i
     have hV6 := hV.keep hg6 (fun k hk e => hav (by rw [hk]; exact e.symm))
     have hgx := slAt (bk_vw hB6) i (i := (i : Int)) (by omega) (show _ = some (i64n (cs.getD i 0)) by rw [vw_get (by omega) (by omega), getD_of_drop hdd])
     have hgy := slAt hV6 i (i := (i : Int)) (by omega) (getI (by omega))
     generalize hye : vs.getD i 0 = y at *
     generalize hxe : cs.getD i 0 = x at *
     refine dT rfl ?_
     refine dwn 11 (fun w' => w'.heap = w6.heap) hmo ?_
     intro w7 hh7 hg7
     refine dqS [0,1,2,3,4,5,6,7,8,9,10] [(3, i64n x), (7, i64n y)] rfl rfl hh7 ?_
     refine d1 rfl rfl (fun _ => hh7) ?_
     refine dT rfl ?_
     refine d3 ?_; refine dend rfl (fun h => by cases h) ?_
     refine dS rfl ?_
     have hB7 := heap_bk hh7 hB6
     refine ix U (v := (i64n ((x + y + k) % 1000000000))) rfl rfl rfl rfl rfl rfl rfl (fun _ => rfl) (fun _ => iv (by omega)) (fun _ => rfl) rfl rfl i rfl (by omega) (by simp [vw_len]; omega) hB7 ?_
     intro p2 w8 hB8 hg8 hs8
     rw [vw_set (by omega) (by omega)] at hB8
     refine dS rfl ?_
     refine rend _ _ ⟨i + 1, ds.set i ((x + y + k) % 1000000000), (x + y + k) / 1000000000, rfl, by omega, by simp [hdl], hdm.set _ (by omega), by omega, by rw [set_drop_succ]; exact drop_succ_of_drop hdd, hs, hB8, gb_trans (gb_trans hg6 (gb_none _ hg7)) hg8, rfl⟩ (by omega)
      ⟨rfl, rfl, rfl, rfl, iv (by omega), iv (by omega), trivial⟩
    ·obtain rfl : i = m + 2 := by omega
     rw [take_all (show vs.length ≤ m + 2 by omega)] at hrel2
     have hdn : val (ds.take (m + 2)) < pw (m + 2) := by have := val_lt (hdm.take (m + 2)); simpa [hdl] using this
     obtain ⟨hres1, hpos, hres2, htop2⟩ := hover ds k hdn hrel2
     refine dS rfl ?_
     refine il U rfl rfl rfl rfl rfl rfl rfl (fun _ => rfl) rfl (m + 2) (by omega) (by omega) (bk_vw hB6) (vw_top (by omega)) ?_
     refine dS rfl ?_
     refine ix U (v := (i64n 0)) rfl rfl rfl rfl rfl rfl rfl (fun _ => rfl) (fun _ => iv (by omega)) (fun _ => rfl) rfl rfl (m + 2) rfl (by omega) (by simp [vw_len]; omega) hB6 ?_
     intro p2 w8 hB8 hg8 hs8
     rw [vw_set_top, vw_nat (by omega), ← List.append_assoc] at hB8
     refine dS rfl ?_
     refine rend [(0, .slice (some ⟨g, pre.length, none⟩) (m + 3) c), (1, .slice (some ⟨gv, ov, none⟩) (m + 2) cv), (5, .int .i64 ((m + 2 : Nat) : Int)), (7, .int .i64 ((gq - 1 : Nat) : Int))] 0 (.inl ⟨gq - 1, ds.set (m + 2) 0, rfl, hres1, by simp [hdl], hdm.set _ (by omega), ?_, hB8, gb_trans hg6 hg8, rfl⟩) (by omega) ⟨rfl, rfl, rfl, iv (by omega), trivial⟩
     rw [← hres2, val_last (n := m + 2) (by simp [hdl])]
     simp [List.take_set_of_le, List.getD, show m + 2 < ds.length by omega]
end Go.Proofs.YtejlpdbiacmfcaaGreatDoor
