/-
  Walk of package limbs: estimate, one digit of a long division.
  Conditions: as the theorem says (a divisor of at least two limbs, the highest not 0; the number is below the divisor times the base).
-/
import Derived.Test.YtejlpdbiacmfcaaGreatDoorYSto
import Derived.Test.YtejlpdbiacmfcaaGreatDoorYNumC
set_option linter.unusedSimpArgs false
set_option linter.unusedVariables false
set_option maxHeartbeats 1000000
namespace Go.Proofs.YtejlpdbiacmfcaaGreatDoor
open Go Go.Proofs Go.RowKit

theorem gb_trans {w w1 w2 : World} {row : Option Nat} (h : w.grownBy w1 row) (h' : w1.grownBy w2 row) : w.grownBy w2 row :=
 ⟨h'.os.trans h.os, h'.tape.trans h.tape, h'.output.trans h.output, Nat.le_trans h.size h'.size, fun k hk hne => (h'.block k (Nat.lt_of_lt_of_le hk h.size) hne).trans (h.block k hk hne)⟩
theorem gb_none {w w1 : World} (row : Option Nat) (h : w.grownBy w1 none) : w.grownBy w1 row := ⟨h.os, h.tape, h.output, h.size, fun k hk _ => h.block k hk (by simp)⟩

theorem slAt {w : World} {g off : Nat} {vs : List Value} {v : Value} (h : Sl w (some ⟨g, off, none⟩) vs) (k : Nat) {i : Int} (hi : i.toNat = k) (hk : vs[k]? = some v) : w.cell? ((⟨g, off, none⟩ : Addr).add (i.toNat * 1)) = some v := by
 obtain ⟨g', o', e, hc⟩ := h k v hk
 cases e
 rw [Nat.mul_one, add_plain, hi]; exact hc
theorem getUA {xs : List Nat} {post : List Value} {j : Nat} (h : j < xs.length) : (xs.map u64 ++ post)[j]? = some (u64 (xs.getD j 0)) := by
 rw [List.getElem?_append_left (by simpa using h)]; exact getU h
theorem bk_view {w : World} {g t : Nat} {pre post : List Value} {us : List Nat} (h : Bk w g t (pre ++ us.map u64 ++ post)) : Sl w (some ⟨g, pre.length, none⟩) (us.map u64 ++ post) := by
 have := h.sl pre.length
 rwa [List.append_assoc, List.drop_left' rfl] at this
theorem set_view (pre post : List Value) (us : List Nat) (i z : Nat) (hi : i < us.length) : (pre ++ us.map u64 ++ post).set (pre.length + i) (u64 z) = pre ++ (us.set i z).map u64 ++ post := by
 rw [List.append_assoc, List.set_append_right _ _ (by omega), List.append_assoc]
 rw [show pre.length + i - pre.length = i by omega, List.set_append_left _ _ (by simpa using hi), set_u64]

theorem val_two {xs : List Nat} {m : Nat} (h : xs.length = m + 2) : val xs = (xs.getD (m + 1) 0 * 1000000000 + xs.getD m 0) * pw m + val (xs.take m) := by
 rw [val_take_drop xs m (by omega), List.drop_eq_getElem_cons (by omega), List.drop_eq_getElem_cons (by omega), List.drop_of_length_le (by omega)]
 simp only [val_cons, val_nil, List.getD, h, List.getElem?_eq_getElem (show m < xs.length by omega), List.getElem?_eq_getElem (show m + 1 < xs.length by omega), Option.getD_some]
 rw [show ∀ a b : Nat, b + 1000000000 * (a + 1000000000 * 0) = a * 1000000000 + b from fun a b => by omega, Nat.mul_comm (pw m)]
 omega

theorem val_three {xs : List Nat} {m : Nat} (h : xs.length = m + 3) : val xs = ((xs.getD (m + 2) 0 * 1000000000 + xs.getD (m + 1) 0) * 1000000000 + xs.getD m 0) * pw m + val (xs.take m) := by
 rw [val_take_drop xs m (by omega), List.drop_eq_getElem_cons (by omega), List.drop_eq_getElem_cons (by omega), List.drop_eq_getElem_cons (by omega), List.drop_of_length_le (by omega)]
 simp only [val_cons, val_nil, List.getD, h, List.getElem?_eq_getElem (show m < xs.length by omega), List.getElem?_eq_getElem (show m + 1 < xs.length by omega), List.getElem?_eq_getElem (show m + 2 < xs.length by omega), Option.getD_some, Nat.add_assoc, Nat.reduceAdd]
 rw [show ∀ c a b : Nat, b + 1000000000 * (a + 1000000000 * (c + 1000000000 * 0)) = (c * 1000000000 + a) * 1000000000 + b from fun c a b => by omega, Nat.mul_comm (pw m)]
 omega

theorem lt_nat {r u g b : Nat} (h : (r : Int) * 1000000000 + u < (g : Int) * b) : r * 1000000000 + u < g * b := by
 rw [← Int.natCast_mul] at h
 generalize g * b = x at *
 omega
theorem le_nat {r u g b : Nat} (h : ¬ (r : Int) * 1000000000 + u < (g : Int) * b) : g * b ≤ r * 1000000000 + u := by
 rw [← Int.natCast_mul] at h
 generalize g * b = x at *
 omega

theorem val_last {xs : List Nat} {n : Nat} (h : xs.length = n + 1) : val xs = val (xs.take n) + pw n * xs.getD n 0 := by
 have := val_take_succ xs n (by omega)
 rwa [take_all (by omega)] at this



theorem estimate_calls (g m c cv : Nat) (av : Option Addr) (us vs : List Nat) (pre post : List Value) (w : World)
  (hB : Bk w g 79 (pre ++ us.map u64 ++ post)) (hV : Sl w av (vs.map u64)) (hav : ab av ≠ some g)
  (hul : us.length = m + 3) (hvl : vs.length = m + 2) (hum : Lm us) (hvm : Lm vs) (htop : 0 < vs.getD (m + 1) 0) (hUV : val us < val vs * 1000000000) (hm : m ≤ 1099511627776) :
  Calls Tryz.prog 159 #[.slice (some ⟨g, pre.length, none⟩) (m + 3) c, .slice av (m + 2) cv] w
   (Ret fun v w' => v = u64 (val us / val vs) ∧ ∃ us', us'.length = m + 3 ∧ Lm us' ∧ val us' = val us % val vs ∧ Bk w' g 79 (pre ++ us'.map u64 ++ post) ∧ w.grownBy w' (some g)) := by
 have hSu := bk_view hB
 obtain ⟨gv, ov, rfl, _⟩ := hV 0 _ (getU (by omega))
 have hgv : gv ≠ g := by intro e; exact hav (by rw [e]; rfl)
 have hb1 := hvm.getD (m + 1)
 have hb2 := hvm.getD m
 have hu0 := hum.getD (m + 2)
 have hu1 := hum.getD (m + 1)
 have hu2 := hum.getD m
 have hcu0 : ∀ w' : World, w'.heap = w.heap → w'.cell? ((⟨g, pre.length, none⟩ : Addr).add (((m + 2 : Nat) : Int).toNat * 1)) = some (u64 (us.getD (m + 2) 0)) := fun w' h => cell_heap h (slAt hSu (m + 2) (by omega) (getUA (by omega)))
 have hcu1 : ∀ w' : World, w'.heap = w.heap → w'.cell? ((⟨g, pre.length, none⟩ : Addr).add ((((m + 2 : Nat) : Int) - 1).toNat * 1)) = some (u64 (us.getD (m + 1) 0)) := fun w' h => cell_heap h (slAt hSu (m + 1) (by omega) (getUA (by omega)))
 have hcu2 : ∀ w' : World, w'.heap = w.heap → w'.cell? ((⟨g, pre.length, none⟩ : Addr).add ((((m + 2 : Nat) : Int) - 2).toNat * 1)) = some (u64 (us.getD m 0)) := fun w' h => cell_heap h (slAt hSu m (by omega) (getUA (by omega)))
 have hcv1 : ∀ w' : World, w'.heap = w.heap → w'.cell? ((⟨gv, ov, none⟩ : Addr).add ((((m + 2 : Nat) : Int) - 1).toNat * 1)) = some (u64 (vs.getD (m + 1) 0)) := fun w' h => cell_heap h (slAt hV (m + 1) (by omega) (getU (by omega)))
 have hcv2 : ∀ w' : World, w'.heap = w.heap → w'.cell? ((⟨gv, ov, none⟩ : Addr).add ((((m + 2 : Nat) : Int) - 2).toNat * 1)) = some (u64 (vs.getD m 0)) := fun w' h => cell_heap h (slAt hV m (by omega) (getU (by omega)))
 have hVe := val_two hvl
 have hVl : val (vs.take m) < pw m := by have := val_lt (hvm.take m); simpa [hvl] using this
 have hUe := val_three hul
 have hUl : val (us.take m) < pw m := by have := val_lt (hum.take m); simpa [hul] using this
 have hT := est_T hVe hVl hb2 hUe hUV
 have hinit := est_init hVe hUe hUl hu2 htop
 have hV0 : 0 < val vs := by
  rw [hVe]
  have : 0 < (vs.getD (m + 1) 0 * 1000000000 + vs.getD m 0) * pw m := Nat.mul_pos (by omega) (pw_pos m)
  omega
 have hmore := fun gq r h1 h2 => @est_more (pw m) (vs.getD (m + 1) 0) (vs.getD m 0) (val (vs.take m)) (us.getD m 0) _ (val (us.take m)) (val us) (val vs) gq r hVe hUe hUl hV0 hUV h1 h2
 have hdone := fun gq r h1 h2 => @est_done (pw m) (vs.getD (m + 1) 0) (vs.getD m 0) (val (vs.take m)) (us.getD m 0) _ (val (us.take m)) (val us) (val vs) gq r hVe hVl hb2 hUe hUV htop h1 h2
 generalize hu0e : us.getD (m + 2) 0 = u0 at *
 generalize hu1e : us.getD (m + 1) 0 = u1 at *
 generalize hu2e : us.getD m 0 = u2 at *
 generalize hb1e : vs.getD (m + 1) 0 = b1 at *
 generalize hb2e : vs.getD m 0 = b2 at *
 refine enter Tryz.func159 rfl Tryz.ntmps159 (Nat.le_of_ble_eq_true rfl) ?_
 refine dT rfl ?_
 refine dwn 11 (fun w' => w'.heap = w.heap) hmo ?_
 intro w1 hh1 hg1
 have hc1 := hcu0 w rfl
 have hc2 := hcu1 w rfl
 refine dqS [0,1,2,3,4,5,6,7,8,9,10] [(3, u64 u0), (9, u64 u1)] rfl rfl hh1 ?_
 refine d1 rfl rfl (fun _ => hh1) ?_
 refine dT rfl ?_
 refine d3 ?_; refine dend rfl (fun h => by cases h) ?_
 refine dT rfl ?_
 refine dwn 15 (fun w' => w'.heap = w.heap) hmo ?_
 intro w2 hh2 hg2
 have hh2 := hh2.trans hh1
 have hc3 := hcv1 w rfl
 have hTb : u0 * 1000000000 + u1 ≤ 1000000000000000000 := by omega
 have hN : ((u0 : Int) * 1000000000 + u1) = ((u0 * 1000000000 + u1 : Nat) : Int) := by omega
 have hQ : ((u0 : Int) * 1000000000 + u1) / b1 = (((u0 * 1000000000 + u1) / b1 : Nat) : Int) := by rw [hN]; rfl
 have hR : ((u0 : Int) * 1000000000 + u1) % b1 = (((u0 * 1000000000 + u1) % b1 : Nat) : Int) := by rw [hN]; rfl
 have hrlt : (u0 * 1000000000 + u1) % b1 < b1 := Nat.mod_lt _ htop
 have hqr := Nat.div_add_mod (u0 * 1000000000 + u1) b1
 have hqle := Nat.div_le_self (u0 * 1000000000 + u1) b1
 generalize hqq : (u0 * 1000000000 + u1) / b1 = q0 at *
 generalize hrr : (u0 * 1000000000 + u1) % b1 = r0 at *
 refine dqS [0,1,2,3,4,5,6,7,8,9,10,11,12,13,14] [(5, u64 b1), (12, u64 b1)] rfl rfl hh2 ?_
 refine d1 rfl rfl (fun _ => hh2) ?_
 refine dT rfl ?_
 refine d3 ?_; refine dend rfl (fun h => by cases h) ?_
 refine dT rfl ?_
 refine loopR (fun l w' mu => ∃ gq r, l = [(0, .slice (some ⟨g, pre.length, none⟩) (m + 3) c), (1, .slice (some ⟨gv, ov, none⟩) (m + 2) cv), (5, .int .i64 ((m + 2 : Nat) : Int)), (7, .int .u64 (gq : Nat)), (8, .int .u64 (r : Nat))] ∧
  gq * b1 + r = u0 * 1000000000 + u1 ∧ val us / val vs ≤ gq ∧ r < 2000000000 ∧ gq ≤ u0 * 1000000000 + u1 ∧ w'.heap = w.heap ∧ w.grownBy w' none ∧ gq = mu)
  ⟨q0, r0, rfl, by rw [Nat.mul_comm]; exact hqr, hinit, by omega, hqle, hh2, gb_trans hg1 hg2, rfl⟩ ⟨rfl, rfl, rfl, iv hQ, iv hR, trivial⟩ ?_
 rintro l w3 mu ⟨gq, r, rfl, hgr, hge, hr2, hgle, hh3, hg3, rfl⟩
 refine dT rfl ?_
 refine dwn 23 (fun w' => w'.heap = w.heap) hmo ?_
 intro w4 hh4 hg4
 have hh4 := hh4.trans hh3
 have hg4 := gb_trans hg3 hg4
 refine dqS [0] [] rfl rfl hh4 ?_
 refine d1 rfl rfl (fun _ => hh4) ?_
 refine cS rfl rfl rfl rfl (fun hq => ?_) (fun hq => ?_)
 ·refine d2 ?_
  refine dqS [2,3] [] rfl rfl hh4 ?_
  refine d1 rfl rfl (fun _ => hh4) ?_
  have hrB : r < 1000000000 := by omega
  refine cS rfl rfl rfl rfl (fun hq => ?_) (fun hq => ?_)
  ·have hlt := hmore gq r hgr (.inl (by omega))
   refine d2 ?_
   refine dqS [5,6,7,8,9,10,11,12,13,14,15,16,17,18,19,20,21,22] [] rfl rfl hh4 ?_
   refine d1 rfl rfl (fun _ => hh4) ?_
   refine dT rfl ?_
   refine d3 ?_; refine dend rfl (fun h => by cases h) ?_
   refine dT rfl ?_
   refine dwn 10 (fun w' => w'.heap = w.heap) hmo ?_
   intro w5 hh5 hg5
   have hh5 := hh5.trans hh4
   have hpos := Nat.lt_of_le_of_lt (Nat.zero_le _) hlt
   obtain ⟨gq, rfl⟩ : ∃ k, gq = k + 1 := ⟨gq - 1, by omega⟩
   have hc3 := hcv1 w rfl
   refine dqS [0,1,2,3,4,5,6,7,8,9] [(7, u64 b1)] rfl rfl hh5 ?_
   refine d1 rfl rfl (fun _ => hh5) ?_
   refine dT rfl ?_
   refine d3 ?_; refine dend rfl (fun h => by cases h) ?_
   refine dT rfl ?_
   refine rend _ gq ⟨gq, r + b1, rfl, by rw [Nat.add_mul] at hgr; omega, by omega, by omega, by omega, hh5, gb_trans hg4 hg5, rfl⟩ (by omega) ⟨rfl, rfl, rfl, iv (by omega), iv (by omega), trivial⟩
  ·have hgB : gq < 1000000000 := by omega
   have hgb : gq * b2 ≤ 999999998000000001 := Nat.le_trans (Nat.mul_le_mul (show gq ≤ 999999999 by omega) (show b2 ≤ 999999999 by omega)) (by decide)
   have hgbi : (gq : Int) * (b2 : Int) = ((gq * b2 : Nat) : Int) := (Int.natCast_mul _ _).symm
   have hc4 := hcu2 w rfl
   have hc5 := hcv2 w rfl
   refine d2 ?_
   refine dqS [5,6,7,8,9,10,11,12,13,14,15,16,17,18,19,20] [(11, u64 b2), (19, u64 u2)] rfl rfl hh4 ?_
   refine d1 rfl rfl (fun _ => hh4) ?_
   refine cS rfl rfl rfl rfl (fun hq => ?_) (fun hq => ?_)
   ·have hq' : r * 1000000000 + u2 < gq * b2 := lt_nat hq
    have hlt := hmore gq r hgr (.inr hq')
    clear hq hgbi hgb
    refine d2 ?_
    refine dqS [22] [] rfl rfl hh4 ?_
    refine d1 rfl rfl (fun _ => hh4) ?_
    refine dT rfl ?_
    refine d3 ?_; refine dend rfl (fun h => by cases h) ?_
    refine dT rfl ?_
    refine dwn 10 (fun w' => w'.heap = w.heap) hmo ?_
    intro w5 hh5 hg5
    have hh5 := hh5.trans hh4
    have hpos := Nat.lt_of_le_of_lt (Nat.zero_le _) hlt
    obtain ⟨gq, rfl⟩ : ∃ k, gq = k + 1 := ⟨gq - 1, by omega⟩
    have hc3 := hcv1 w rfl
    refine dqS [0,1,2,3,4,5,6,7,8,9] [(7, u64 b1)] rfl rfl hh5 ?_
    refine d1 rfl rfl (fun _ => hh5) ?_
    refine dT rfl ?_
    refine d3 ?_; refine dend rfl (fun h => by cases h) ?_
    refine dT rfl ?_
    refine rend _ gq ⟨gq, r + b1, rfl, by rw [Nat.add_mul] at hgr; omega, by omega, by omega, by omega, hh5, gb_trans hg4 hg5, rfl⟩ (by omega) ⟨rfl, rfl, rfl, iv (by omega), iv (by omega), trivial⟩
   ·have hx := hdone gq r hgr (.inr ⟨hgB, le_nat hq⟩)
    clear hq hgbi hgb
    refine d2 ?_
    refine dqS [22] [] rfl rfl hh4 ?_
    refine d1 rfl rfl (fun _ => hh4) ?_
    refine dT rfl ?_
    refine d3 ?_; refine dend rfl (fun h => by cases h) ?_
    obtain ⟨hglt, hgle1⟩ := hx
    refine dT rfl ?_
    refine loopR (fun l w' mu => ∃ i cs cy bo, l = [(0, .slice (some ⟨g, pre.length, none⟩) (m + 3) c), (1, .slice (some ⟨gv, ov, none⟩) (m + 2) cv), (5, .int .i64 ((m + 2 : Nat) : Int)), (7, .int .u64 (gq : Nat)), (78, .int .i64 ((m + 2 : Nat) : Int)), (79, .int .i64 (i : Nat)), (9, .int .u64 (cy : Nat)), (10, .int .u64 (bo : Nat))] ∧
     i ≤ m + 2 ∧ cs.length = m + 3 ∧ Lm cs ∧ cy < 1000000000 ∧ bo ≤ 1 ∧ cs.drop i = us.drop i ∧ val (cs.take i) + gq * val (vs.take i) = val (us.take i) + (cy + bo) * pw i ∧ Bk w' g 79 (pre ++ cs.map u64 ++ post) ∧ w.grownBy w' (some g) ∧ mu = m + 2 - i)
     ⟨0, us, 0, 0, rfl, by omega, hul, hum, by omega, by omega, rfl, by simp [val], heap_bk hh4 hB, gb_none _ hg4, rfl⟩ ⟨rfl, rfl, rfl, rfl, rfl, rfl, rfl, rfl, trivial⟩ ?_
    clear hh4 hg4 hc1 hc2
    rintro l w5 mu ⟨i, cs, cy, bo, rfl, hi, hcl, hcm, hcy, hbo, hd, hrel, hB5, hg5, rfl⟩
    refine dT rfl ?_
    refine cS rfl rfl rfl rfl (fun hq => ?_) (fun hq => ?_)
    ·refine dS rfl ?_
     have hi' : i < m + 2 := by omega
     have hs := fun z bo' hz => @msub_step cs us vs i gq cy bo (by omega) (by omega) (by omega) hd hrel z bo' hz
     have hy1 := hvm.getD i
     have hx1 := hum.getD i
     have hV5 := hV.keep hg5 (fun k hk e => hav (by rw [hk]; exact e.symm))
     have hget : (cs.map u64 ++ post)[i]? = some (u64 (us.getD i 0)) := by rw [getUA (by omega), getD_of_drop hd]
     refine il U rfl rfl rfl rfl rfl rfl rfl (fun _ => rfl) rfl i (by omega) (by omega) hV5 (getU (by omega)) ?_
     generalize hye : vs.getD i 0 = y at *
     generalize hxe : us.getD i 0 = x at *
     have hgy : gq * y ≤ 999999998000000001 := Nat.le_trans (Nat.mul_le_mul (show gq ≤ 999999999 by omega) (show y ≤ 999999999 by omega)) (by decide)
     have hpi : (gq : Int) * (y : Int) = ((gq * y : Nat) : Int) := (Int.natCast_mul _ _).symm
     generalize hp0 : gq * y = p0 at *
     refine dS rfl ?_
     refine il U rfl rfl rfl rfl rfl rfl rfl (fun _ => rfl) rfl i (by omega) (by omega) (bk_view hB5) hget ?_
     refine dS rfl ?_
     refine cS rfl rfl rfl rfl (fun hq => ?_) (fun hq => ?_)
     ·refine dS rfl ?_
      refine il U rfl rfl rfl rfl rfl rfl rfl (fun _ => rfl) rfl i (by omega) (by omega) (bk_view hB5) hget ?_
      refine dS rfl ?_
      refine ix U (v := (u64 (x + 1000000000))) rfl rfl rfl rfl rfl rfl rfl (fun _ => rfl) (fun _ => iv (by omega)) (fun _ => rfl) rfl rfl i rfl (by omega) (by simp; omega) hB5 ?_
      intro p1 w6 hB6 hg6 hs6
      rw [set_view _ _ _ _ _ (by omega)] at hB6
      refine dS rfl ?_
      refine il U rfl rfl rfl rfl rfl rfl rfl (fun _ => rfl) rfl i (by omega) (by omega) (bk_view hB6) (show _ = some (u64 (x + 1000000000)) by rw [getUA (by simp; omega)]; simp [List.getD, show i < cs.length by omega]) ?_
      refine dS rfl ?_
      refine ix U (v := (u64 (x + 1000000000 - ((p0 + cy) % 1000000000 + bo)))) rfl rfl rfl rfl rfl rfl rfl (fun _ => rfl) (fun _ => iv (by omega)) (fun _ => rfl) rfl rfl i rfl (by omega) (by simp; omega) hB6 ?_
      intro p2 w7 hB7 hg7 hs7
      rw [set_view _ _ _ _ _ (by simp; omega), List.set_set] at hB7
      refine dS rfl ?_
      refine rend _ _ ⟨i + 1, cs.set i (x + 1000000000 - ((p0 + cy) % 1000000000 + bo)), (p0 + cy) / 1000000000, 1, rfl, by omega, by simp [hcl], hcm.set _ (by omega), by omega, by omega, by rw [set_drop_succ]; exact drop_succ_of_drop hd, hs _ 1 (by omega), hB7, gb_trans (gb_trans hg5 hg6) hg7, rfl⟩ (by omega)
       ⟨rfl, rfl, rfl, rfl, rfl, iv (by omega), iv (by omega), rfl, trivial⟩
     ·refine dS rfl ?_
      refine il U rfl rfl rfl rfl rfl rfl rfl (fun _ => rfl) rfl i (by omega) (by omega) (bk_view hB5) hget ?_
      refine dS rfl ?_
      refine ix U (v := (u64 (x - ((p0 + cy) % 1000000000 + bo)))) rfl rfl rfl rfl rfl rfl rfl (fun _ => rfl) (fun _ => iv (by omega)) (fun _ => rfl) rfl rfl i rfl (by omega) (by simp; omega) hB5 ?_
      intro p2 w7 hB7 hg7 hs7
      rw [set_view _ _ _ _ _ (by omega)] at hB7
      refine dS rfl ?_
      refine rend _ _ ⟨i + 1, cs.set i (x - ((p0 + cy) % 1000000000 + bo)), (p0 + cy) / 1000000000, 0, rfl, by omega, by simp [hcl], hcm.set _ (by omega), by omega, by omega, by rw [set_drop_succ]; exact drop_succ_of_drop hd, hs _ 0 (by omega), hB7, gb_trans hg5 hg7, rfl⟩ (by omega)
       ⟨rfl, rfl, rfl, rfl, rfl, iv (by omega), iv (by omega), rfl, trivial⟩
    ·obtain rfl : i = m + 2 := by omega
     rw [take_all (show vs.length ≤ m + 2 by omega)] at hrel
     have hgetn : (cs.map u64 ++ post)[m + 2]? = some (u64 u0) := by rw [getUA (by omega), getD_of_drop hd, hu0e]
     have hul' := val_last (n := m + 2) hul
     rw [hu0e] at hul'
     refine dS rfl ?_
     refine il U rfl rfl rfl rfl rfl rfl rfl (fun _ => rfl) rfl (m + 2) (by omega) (by omega) (bk_view hB5) hgetn ?_
     refine dS rfl ?_
     refine cS rfl rfl rfl rfl (fun hq => ?_) (fun hq => ?_)
     ·obtain ⟨hres1, hres2⟩ := est_fit hul' hrel (by omega) hV0 hge
      refine dS rfl ?_
      refine il U rfl rfl rfl rfl rfl rfl rfl (fun _ => rfl) rfl (m + 2) (by omega) (by omega) (bk_view hB5) hgetn ?_
      refine dS rfl ?_
      refine ix U (v := (u64 (u0 - (cy + bo)))) rfl rfl rfl rfl rfl rfl rfl (fun _ => rfl) (fun _ => iv (by omega)) (fun _ => rfl) rfl rfl (m + 2) rfl (by omega) (by simp; omega) hB5 ?_
      intro p2 w7 hB7 hg7 hs7
      rw [set_view _ _ _ _ _ (by omega)] at hB7
      refine dS rfl ?_
      refine ret Tryz.results159 rfl ⟨_, rfl, by rw [← hres1]; rfl, cs.set (m + 2) (u0 - (cy + bo)), by simp [hcl], hcm.set _ (by omega), ?_, hB7, gb_trans hg5 hg7⟩
      rw [← hres2, val_last (n := m + 2) (by simp [hcl])]
      simp [List.take_set_of_le, List.getD, show m + 2 < cs.length by omega]
     ·refine dS rfl ?_
      have hcn : val (cs.take (m + 2)) < pw (m + 2) := by have := val_lt (hcm.take (m + 2)); simpa [hcl] using this
      have hvn : val vs < pw (m + 2) := by have := val_lt hvm; rwa [hvl] at this
      have hover := fun ds cy2 h1 h2 => @est_over us cs ds (m + 2) gq (val vs) (cy + bo) u0 cy2 hul' hrel (by omega) hV0 hge hgle1 hcn h1 hvn h2
      refine loopR (fun l w' mu => ∃ i ds k, l = [(0, .slice (some ⟨g, pre.length, none⟩) (m + 3) c), (1, .slice (some ⟨gv, ov, none⟩) (m + 2) cv), (5, .int .i64 ((m + 2 : Nat) : Int)), (7, .int .u64 (gq : Nat)), (136, .int .i64 ((m + 2 : Nat) : Int)), (137, .int .i64 (i : Nat)), (9, .int .u64 (k : Nat))] ∧
       i ≤ m + 2 ∧ ds.length = m + 3 ∧ Lm ds ∧ k ≤ 1 ∧ ds.drop i = cs.drop i ∧ val (ds.take i) + k * pw i = val (cs.take i) + val (vs.take i) ∧ Bk w' g 79 (pre ++ ds.map u64 ++ post) ∧ w.grownBy w' (some g) ∧ mu = m + 2 - i)
       ⟨0, cs, 0, rfl, by omega, hcl, hcm, by omega, rfl, by simp [val], hB5, hg5, rfl⟩ ⟨rfl, rfl, rfl, rfl, rfl, rfl, rfl, trivial⟩ ?_
      rintro l w6 mu ⟨i, ds, k, rfl, hi, hdl, hdm, hk, hdd, hrel2, hB6, hg6, rfl⟩
      refine dT rfl ?_
      refine cS rfl rfl rfl rfl (fun hq => ?_) (fun hq => ?_)
      ·refine dS rfl ?_
       have hs := @addb_step ds cs vs i k (by omega) (by omega) (by omega) hdd hrel2
       have hy1 := hvm.getD i
       have hx1 := hcm.getD i
       have hV6 := hV.keep hg6 (fun k hk e => hav (by rw [hk]; exact e.symm))
       have hgx := slAt (bk_view hB6) i (i := (i : Int)) (by omega) (show _ = some (u64 (cs.getD i 0)) by rw [getUA (by omega), getD_of_drop hdd])
       have hgy := slAt hV6 i (i := (i : Int)) (by omega) (getU (by omega))
       generalize hye : vs.getD i 0 = y at *
       generalize hxe : cs.getD i 0 = x at *
       refine dwn 11 (fun w' => w'.heap = w6.heap) hmo ?_
       intro w7 hh7 hg7
       refine dqS [0,1,2,3,4,5,6,7,8,9,10] [(3, u64 x), (7, u64 y)] rfl rfl hh7 ?_
       refine d1 rfl rfl (fun _ => hh7) ?_
       refine dT rfl ?_
       refine d3 ?_; refine dend rfl (fun h => by cases h) ?_
       refine dS rfl ?_
       have hB7 := heap_bk hh7 hB6
       refine ix U (v := (u64 ((x + y + k) % 1000000000))) rfl rfl rfl rfl rfl rfl rfl (fun _ => rfl) (fun _ => iv (by omega)) (fun _ => rfl) rfl rfl i rfl (by omega) (by simp; omega) hB7 ?_
       intro p2 w8 hB8 hg8 hs8
       rw [set_view _ _ _ _ _ (by omega)] at hB8
       refine dS rfl ?_
       refine rend _ _ ⟨i + 1, ds.set i ((x + y + k) % 1000000000), (x + y + k) / 1000000000, rfl, by omega, by simp [hdl], hdm.set _ (by omega), by omega, by rw [set_drop_succ]; exact drop_succ_of_drop hdd, hs, hB8, gb_trans (gb_trans hg6 (gb_none _ hg7)) hg8, rfl⟩ (by omega)
        ⟨rfl, rfl, rfl, rfl, rfl, iv (by omega), iv (by omega), trivial⟩
      ·obtain rfl : i = m + 2 := by omega
       rw [take_all (show vs.length ≤ m + 2 by omega)] at hrel2
       have hdn : val (ds.take (m + 2)) < pw (m + 2) := by have := val_lt (hdm.take (m + 2)); simpa [hdl] using this
       obtain ⟨hres1, hpos, hres2, _⟩ := hover ds k hdn hrel2
       refine dS rfl ?_
       refine ix U (v := (u64 0)) rfl rfl rfl rfl rfl rfl rfl (fun _ => rfl) (fun _ => iv rfl) (fun _ => rfl) rfl rfl (m + 2) rfl (by omega) (by simp; omega) hB6 ?_
       intro p2 w8 hB8 hg8 hs8
       rw [set_view _ _ _ _ _ (by omega)] at hB8
       refine dS rfl ?_
       refine ret Tryz.results159 rfl ⟨_, rfl, ?_, ds.set (m + 2) 0, by simp [hdl], hdm.set _ (by omega), ?_, hB8, gb_trans hg6 hg8⟩
       ·rw [← hres1]; show Value.int _ _ = Value.int _ _; congr 1; omega
       ·rw [← hres2, val_last (n := m + 2) (by simp [hdl])]
        simp [List.take_set_of_le, List.getD, show m + 2 < ds.length by omega]
 ·have hx := hdone gq r hgr (.inl (by omega))
  refine d2 ?_
  refine dqS [2,3,4,5,6,7,8,9,10,11,12,13,14,15,16,17,18,19,20,21,22] [] rfl rfl hh4 ?_
  refine d1 rfl rfl (fun _ => hh4) ?_
  refine dT rfl ?_
  refine d3 ?_; refine dend rfl (fun h => by cases h) ?_
  obtain ⟨hglt, hgle1⟩ := hx
  refine dT rfl ?_
  refine loopR (fun l w' mu => ∃ i cs cy bo, l = [(0, .slice (some ⟨g, pre.length, none⟩) (m + 3) c), (1, .slice (some ⟨gv, ov, none⟩) (m + 2) cv), (5, .int .i64 ((m + 2 : Nat) : Int)), (7, .int .u64 (gq : Nat)), (78, .int .i64 ((m + 2 : Nat) : Int)), (79, .int .i64 (i : Nat)), (9, .int .u64 (cy : Nat)), (10, .int .u64 (bo : Nat))] ∧
   i ≤ m + 2 ∧ cs.length = m + 3 ∧ Lm cs ∧ cy < 1000000000 ∧ bo ≤ 1 ∧ cs.drop i = us.drop i ∧ val (cs.take i) + gq * val (vs.take i) = val (us.take i) + (cy + bo) * pw i ∧ Bk w' g 79 (pre ++ cs.map u64 ++ post) ∧ w.grownBy w' (some g) ∧ mu = m + 2 - i)
   ⟨0, us, 0, 0, rfl, by omega, hul, hum, by omega, by omega, rfl, by simp [val], heap_bk hh4 hB, gb_none _ hg4, rfl⟩ ⟨rfl, rfl, rfl, rfl, rfl, rfl, rfl, rfl, trivial⟩ ?_
  clear hh4 hg4 hc1 hc2
  rintro l w5 mu ⟨i, cs, cy, bo, rfl, hi, hcl, hcm, hcy, hbo, hd, hrel, hB5, hg5, rfl⟩
  refine dT rfl ?_
  refine cS rfl rfl rfl rfl (fun hq => ?_) (fun hq => ?_)
  ·refine dS rfl ?_
   have hi' : i < m + 2 := by omega
   have hs := fun z bo' hz => @msub_step cs us vs i gq cy bo (by omega) (by omega) (by omega) hd hrel z bo' hz
   have hy1 := hvm.getD i
   have hx1 := hum.getD i
   have hV5 := hV.keep hg5 (fun k hk e => hav (by rw [hk]; exact e.symm))
   have hget : (cs.map u64 ++ post)[i]? = some (u64 (us.getD i 0)) := by rw [getUA (by omega), getD_of_drop hd]
   refine il U rfl rfl rfl rfl rfl rfl rfl (fun _ => rfl) rfl i (by omega) (by omega) hV5 (getU (by omega)) ?_
   generalize hye : vs.getD i 0 = y at *
   generalize hxe : us.getD i 0 = x at *
   have hgy : gq * y ≤ 999999998000000001 := Nat.le_trans (Nat.mul_le_mul (show gq ≤ 999999999 by omega) (show y ≤ 999999999 by omega)) (by decide)
   have hpi : (gq : Int) * (y : Int) = ((gq * y : Nat) : Int) := (Int.natCast_mul _ _).symm
   generalize hp0 : gq * y = p0 at *
   refine dS rfl ?_
   refine il U rfl rfl rfl rfl rfl rfl rfl (fun _ => rfl) rfl i (by omega) (by omega) (bk_view hB5) hget ?_
   refine dS rfl ?_
   refine cS rfl rfl rfl rfl (fun hq => ?_) (fun hq => ?_)
   ·refine dS rfl ?_
    refine il U rfl rfl rfl rfl rfl rfl rfl (fun _ => rfl) rfl i (by omega) (by omega) (bk_view hB5) hget ?_
    refine dS rfl ?_
    refine ix U (v := (u64 (x + 1000000000))) rfl rfl rfl rfl rfl rfl rfl (fun _ => rfl) (fun _ => iv (by omega)) (fun _ => rfl) rfl rfl i rfl (by omega) (by simp; omega) hB5 ?_
    intro p1 w6 hB6 hg6 hs6
    rw [set_view _ _ _ _ _ (by omega)] at hB6
    refine dS rfl ?_
    refine il U rfl rfl rfl rfl rfl rfl rfl (fun _ => rfl) rfl i (by omega) (by omega) (bk_view hB6) (show _ = some (u64 (x + 1000000000)) by rw [getUA (by simp; omega)]; simp [List.getD, show i < cs.length by omega]) ?_
    refine dS rfl ?_
    refine ix U (v := (u64 (x + 1000000000 - ((p0 + cy) % 1000000000 + bo)))) rfl rfl rfl rfl rfl rfl rfl (fun _ => rfl) (fun _ => iv (by omega)) (fun _ => rfl) rfl rfl i rfl (by omega) (by simp; omega) hB6 ?_
    intro p2 w7 hB7 hg7 hs7
    rw [set_view _ _ _ _ _ (by simp; omega), List.set_set] at hB7
    refine dS rfl ?_
    refine rend _ _ ⟨i + 1, cs.set i (x + 1000000000 - ((p0 + cy) % 1000000000 + bo)), (p0 + cy) / 1000000000, 1, rfl, by omega, by simp [hcl], hcm.set _ (by omega), by omega, by omega, by rw [set_drop_succ]; exact drop_succ_of_drop hd, hs _ 1 (by omega), hB7, gb_trans (gb_trans hg5 hg6) hg7, rfl⟩ (by omega)
     ⟨rfl, rfl, rfl, rfl, rfl, iv (by omega), iv (by omega), rfl, trivial⟩
   ·refine dS rfl ?_
    refine il U rfl rfl rfl rfl rfl rfl rfl (fun _ => rfl) rfl i (by omega) (by omega) (bk_view hB5) hget ?_
    refine dS rfl ?_
    refine ix U (v := (u64 (x - ((p0 + cy) % 1000000000 + bo)))) rfl rfl rfl rfl rfl rfl rfl (fun _ => rfl) (fun _ => iv (by omega)) (fun _ => rfl) rfl rfl i rfl (by omega) (by simp; omega) hB5 ?_
    intro p2 w7 hB7 hg7 hs7
    rw [set_view _ _ _ _ _ (by omega)] at hB7
    refine dS rfl ?_
    refine rend _ _ ⟨i + 1, cs.set i (x - ((p0 + cy) % 1000000000 + bo)), (p0 + cy) / 1000000000, 0, rfl, by omega, by simp [hcl], hcm.set _ (by omega), by omega, by omega, by rw [set_drop_succ]; exact drop_succ_of_drop hd, hs _ 0 (by omega), hB7, gb_trans hg5 hg7, rfl⟩ (by omega)
     ⟨rfl, rfl, rfl, rfl, rfl, iv (by omega), iv (by omega), rfl, trivial⟩
  ·obtain rfl : i = m + 2 := by omega
   rw [take_all (show vs.length ≤ m + 2 by omega)] at hrel
   have hgetn : (cs.map u64 ++ post)[m + 2]? = some (u64 u0) := by rw [getUA (by omega), getD_of_drop hd, hu0e]
   have hul' := val_last (n := m + 2) hul
   rw [hu0e] at hul'
   refine dS rfl ?_
   refine il U rfl rfl rfl rfl rfl rfl rfl (fun _ => rfl) rfl (m + 2) (by omega) (by omega) (bk_view hB5) hgetn ?_
   refine dS rfl ?_
   refine cS rfl rfl rfl rfl (fun hq => ?_) (fun hq => ?_)
   ·obtain ⟨hres1, hres2⟩ := est_fit hul' hrel (by omega) hV0 hge
    refine dS rfl ?_
    refine il U rfl rfl rfl rfl rfl rfl rfl (fun _ => rfl) rfl (m + 2) (by omega) (by omega) (bk_view hB5) hgetn ?_
    refine dS rfl ?_
    refine ix U (v := (u64 (u0 - (cy + bo)))) rfl rfl rfl rfl rfl rfl rfl (fun _ => rfl) (fun _ => iv (by omega)) (fun _ => rfl) rfl rfl (m + 2) rfl (by omega) (by simp; omega) hB5 ?_
    intro p2 w7 hB7 hg7 hs7
    rw [set_view _ _ _ _ _ (by omega)] at hB7
    refine dS rfl ?_
    refine ret Tryz.results159 rfl ⟨_, rfl, by rw [← hres1]; rfl, cs.set (m + 2) (u0 - (cy + bo)), by simp [hcl], hcm.set _ (by omega), ?_, hB7, gb_trans hg5 hg7⟩
    rw [← hres2, val_last (n := m + 2) (by simp [hcl])]
    simp [List.take_set_of_le, List.getD, show m + 2 < cs.length by omega]
   ·refine dS rfl ?_
    have hcn : val (cs.take (m + 2)) < pw (m + 2) := by have := val_lt (hcm.take (m + 2)); simpa [hcl] using this
    have hvn : val vs < pw (m + 2) := by have := val_lt hvm; rwa [hvl] at this
    have hover := fun ds cy2 h1 h2 => @est_over us cs ds (m + 2) gq (val vs) (cy + bo) u0 cy2 hul' hrel (by omega) hV0 hge hgle1 hcn h1 hvn h2
    refine loopR (fun l w' mu => ∃ i ds k, l = [(0, .slice (some ⟨g, pre.length, none⟩) (m + 3) c), (1, .slice (some ⟨gv, ov, none⟩) (m + 2) cv), (5, .int .i64 ((m + 2 : Nat) : Int)), (7, .int .u64 (gq : Nat)), (136, .int .i64 ((m + 2 : Nat) : Int)), (137, .int .i64 (i : Nat)), (9, .int .u64 (k : Nat))] ∧
     i ≤ m + 2 ∧ ds.length = m + 3 ∧ Lm ds ∧ k ≤ 1 ∧ ds.drop i = cs.drop i ∧ val (ds.take i) + k * pw i = val (cs.take i) + val (vs.take i) ∧ Bk w' g 79 (pre ++ ds.map u64 ++ post) ∧ w.grownBy w' (some g) ∧ mu = m + 2 - i)
     ⟨0, cs, 0, rfl, by omega, hcl, hcm, by omega, rfl, by simp [val], hB5, hg5, rfl⟩ ⟨rfl, rfl, rfl, rfl, rfl, rfl, rfl, trivial⟩ ?_
    rintro l w6 mu ⟨i, ds, k, rfl, hi, hdl, hdm, hk, hdd, hrel2, hB6, hg6, rfl⟩
    refine dT rfl ?_
    refine cS rfl rfl rfl rfl (fun hq => ?_) (fun hq => ?_)
    ·refine dS rfl ?_
     have hs := @addb_step ds cs vs i k (by omega) (by omega) (by omega) hdd hrel2
     have hy1 := hvm.getD i
     have hx1 := hcm.getD i
     have hV6 := hV.keep hg6 (fun k hk e => hav (by rw [hk]; exact e.symm))
     have hgx := slAt (bk_view hB6) i (i := (i : Int)) (by omega) (show _ = some (u64 (cs.getD i 0)) by rw [getUA (by omega), getD_of_drop hdd])
     have hgy := slAt hV6 i (i := (i : Int)) (by omega) (getU (by omega))
     generalize hye : vs.getD i 0 = y at *
     generalize hxe : cs.getD i 0 = x at *
     refine dwn 11 (fun w' => w'.heap = w6.heap) hmo ?_
     intro w7 hh7 hg7
     refine dqS [0,1,2,3,4,5,6,7,8,9,10] [(3, u64 x), (7, u64 y)] rfl rfl hh7 ?_
     refine d1 rfl rfl (fun _ => hh7) ?_
     refine dT rfl ?_
     refine d3 ?_; refine dend rfl (fun h => by cases h) ?_
     refine dS rfl ?_
     have hB7 := heap_bk hh7 hB6
     refine ix U (v := (u64 ((x + y + k) % 1000000000))) rfl rfl rfl rfl rfl rfl rfl (fun _ => rfl) (fun _ => iv (by omega)) (fun _ => rfl) rfl rfl i rfl (by omega) (by simp; omega) hB7 ?_
     intro p2 w8 hB8 hg8 hs8
     rw [set_view _ _ _ _ _ (by omega)] at hB8
     refine dS rfl ?_
     refine rend _ _ ⟨i + 1, ds.set i ((x + y + k) % 1000000000), (x + y + k) / 1000000000, rfl, by omega, by simp [hdl], hdm.set _ (by omega), by omega, by rw [set_drop_succ]; exact drop_succ_of_drop hdd, hs, hB8, gb_trans (gb_trans hg6 (gb_none _ hg7)) hg8, rfl⟩ (by omega)
      ⟨rfl, rfl, rfl, rfl, rfl, iv (by omega), iv (by omega), trivial⟩
    ·obtain rfl : i = m + 2 := by omega
     rw [take_all (show vs.length ≤ m + 2 by omega)] at hrel2
     have hdn : val (ds.take (m + 2)) < pw (m + 2) := by have := val_lt (hdm.take (m + 2)); simpa [hdl] using this
     obtain ⟨hres1, hpos, hres2, _⟩ := hover ds k hdn hrel2
     refine dS rfl ?_
     refine ix U (v := (u64 0)) rfl rfl rfl rfl rfl rfl rfl (fun _ => rfl) (fun _ => iv rfl) (fun _ => rfl) rfl rfl (m + 2) rfl (by omega) (by simp; omega) hB6 ?_
     intro p2 w8 hB8 hg8 hs8
     rw [set_view _ _ _ _ _ (by omega)] at hB8
     refine dS rfl ?_
     refine ret Tryz.results159 rfl ⟨_, rfl, ?_, ds.set (m + 2) 0, by simp [hdl], hdm.set _ (by omega), ?_, hB8, gb_trans hg6 hg8⟩
     ·rw [← hres1]; show Value.int _ _ = Value.int _ _; congr 1; omega
     ·rw [← hres2, val_last (n := m + 2) (by simp [hdl])]
      simp [List.take_set_of_le, List.getD, show m + 2 < ds.length by omega]
end Go.Proofs.YtejlpdbiacmfcaaGreatDoor
