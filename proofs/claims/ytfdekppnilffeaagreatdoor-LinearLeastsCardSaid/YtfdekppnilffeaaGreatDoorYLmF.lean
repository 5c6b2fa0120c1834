/-
  Walk of package limbs: estimate, one digit of a long division.
  Conditions: as the theorem says (a divisor of at least two limbs, the highest not 0; the number is below the divisor times the base).

  Walk of package limbs: DivMod.
  Conditions: fewer than 2^36 limbs; the divisor is not 0.
-/
import Derived.Test.YtfdekppnilffeaaGreatDoorYNum
import Derived.Test.YtfdekppnilffeaaGreatDoorYBack
section
set_option linter.unusedSimpArgs false
set_option linter.unusedVariables false
set_option maxHeartbeats 1000000
namespace Go.Proofs.YtfdekppnilffeaaGreatDoor
open Go Go.Proofs Go.RowKit

theorem gb_trans {w w1 w2 : World} {row : Option Nat} (h : w.grownBy w1 row) (h' : w1.grownBy w2 row) : w.grownBy w2 row :=
  ⟨h'.os.trans h.os, h'.tape.trans h.tape, h'.output.trans h.output, Nat.le_trans h.size h'.size, fun k hk hne => (h'.block k (Nat.lt_of_lt_of_le hk h.size) hne).trans (h.block k hk hne)⟩
theorem gb_none {w w1 : World} (row : Option Nat) (h : w.grownBy w1 none) : w.grownBy w1 row := ⟨h.os, h.tape, h.output, h.size, fun k hk _ => h.block k hk (by simp)⟩

theorem slAt {w : World} {g off : Nat} {vs : List Value} {v : Value} (h : Sl w (some ⟨g, off, none⟩) vs) (k : Nat) {i : Int} (hi : i.toNat = k) (hk : vs[k]? = some v) : w.cell? ((⟨g, off, none⟩ : Addr).add (i.toNat * 1)) = some v := by
  obtain ⟨g', o', e, hc⟩ := h k v hk
  cases e
  rw [Nat.mul_one, add_plain, hi]; exact hc
theorem getUA {xs : List Nat} {post : List Value} {j : Nat} (h : j < xs.length) : (xs.map u64 ++ post)[j]? = some (u64 (xs.getD j 0)) := by
  rw [List.getElem?_append_left (by simpa using h)]; exact getU h
theorem bk_view {w : World} {g t : Nat} {pre post : List Value} {us : List Nat} (h : Bk w g t (pre ++ us.map u64 ++ post)) : Sl w (some ⟨g, pre.length, none⟩) (us.map u64 ++ post) := by
  have := h.sl pre.length
  rwa [List.append_assoc, List.drop_left' rfl] at this
theorem set_view (pre post : List Value) (us : List Nat) (i z : Nat) (hi : i < us.length) : (pre ++ us.map u64 ++ post).set (pre.length + i) (u64 z) = pre ++ (us.set i z).map u64 ++ post := by
  rw [List.append_assoc, List.set_append_right _ _ (by omega), List.append_assoc]
  rw [show pre.length + i - pre.length = i by omega, List.set_append_left _ _ (by simpa using hi), set_u64]

/-- How a number above two limbs falls apart. -/
theorem val_two {xs : List Nat} {m : Nat} (h : xs.length = m + 2) : val xs = (xs.getD (m + 1) 0 * 1000000000 + xs.getD m 0) * pw m + val (xs.take m) := by
  rw [val_take_drop xs m (by omega), List.drop_eq_getElem_cons (by omega), List.drop_eq_getElem_cons (by omega), List.drop_of_length_le (by omega)]
  simp only [val_cons, val_nil, List.getD, h, List.getElem?_eq_getElem (show m < xs.length by omega), List.getElem?_eq_getElem (show m + 1 < xs.length by omega), Option.getD_some]
  rw [show ∀ a b : Nat, b + 1000000000 * (a + 1000000000 * 0) = a * 1000000000 + b from fun a b => by omega, Nat.mul_comm (pw m)]
  omega

theorem val_three {xs : List Nat} {m : Nat} (h : xs.length = m + 3) : val xs = ((xs.getD (m + 2) 0 * 1000000000 + xs.getD (m + 1) 0) * 1000000000 + xs.getD m 0) * pw m + val (xs.take m) := by
  rw [val_take_drop xs m (by omega), List.drop_eq_getElem_cons (by omega), List.drop_eq_getElem_cons (by omega), List.drop_eq_getElem_cons (by omega), List.drop_of_length_le (by omega)]
  simp only [val_cons, val_nil, List.getD, h, List.getElem?_eq_getElem (show m < xs.length by omega), List.getElem?_eq_getElem (show m + 1 < xs.length by omega), List.getElem?_eq_getElem (show m + 2 < xs.length by omega), Option.getD_some, Nat.add_assoc, Nat.reduceAdd]
  rw [show ∀ c a b : Nat, b + 1000000000 * (a + 1000000000 * (c + 1000000000 * 0)) = (c * 1000000000 + a) * 1000000000 + b from fun c a b => by omega, Nat.mul_comm (pw m)]
  omega

theorem lt_nat {r u g b : Nat} (h : (r : Int) * 1000000000 + u < (g : Int) * b) : r * 1000000000 + u < g * b := by
  rw [← Int.natCast_mul] at h
  generalize g * b = x at *
  omega
theorem le_nat {r u g b : Nat} (h : ¬ (r : Int) * 1000000000 + u < (g : Int) * b) : g * b ≤ r * 1000000000 + u := by
  rw [← Int.natCast_mul] at h
  generalize g * b = x at *
  omega

theorem val_last {xs : List Nat} {n : Nat} (h : xs.length = n + 1) : val xs = val (xs.take n) + pw n * xs.getD n 0 := by
  have := val_take_succ xs n (by omega)
  rwa [take_all (by omega)] at this



theorem estimate_calls (g m c cv : Nat) (av : Option Addr) (us vs : List Nat) (pre post : List Value) (w : World)
    (hB : Bk w g 142 (pre ++ us.map u64 ++ post)) (hV : Sl w av (vs.map u64)) (hav : ab av ≠ some g)
    (hul : us.length = m + 3) (hvl : vs.length = m + 2) (hum : Lm us) (hvm : Lm vs) (htop : 0 < vs.getD (m + 1) 0) (hUV : val us < val vs * 1000000000) (hm : m ≤ 1099511627776) :
    Calls Tryz.prog 148 #[.slice (some ⟨g, pre.length, none⟩) (m + 3) c, .slice av (m + 2) cv] w
      (Ret fun v w' => v = u64 (val us / val vs) ∧ ∃ us', us'.length = m + 3 ∧ Lm us' ∧ val us' = val us % val vs ∧ Bk w' g 142 (pre ++ us'.map u64 ++ post) ∧ w.grownBy w' (some g)) := by
  have hSu := bk_view hB
  obtain ⟨gv, ov, rfl, _⟩ := hV 0 _ (getU (by omega))
  have hgv : gv ≠ g := by intro e; exact hav (by rw [e]; rfl)
  have hb1 := hvm.getD (m + 1)
  have hb2 := hvm.getD m
  have hu0 := hum.getD (m + 2)
  have hu1 := hum.getD (m + 1)
  have hu2 := hum.getD m
  have hcu0 : ∀ w' : World, w'.heap = w.heap → w'.cell? ((⟨g, pre.length, none⟩ : Addr).add (((m + 2 : Nat) : Int).toNat * 1)) = some (u64 (us.getD (m + 2) 0)) := fun w' h => cell_heap h (slAt hSu (m + 2) (by omega) (getUA (by omega)))
  have hcu1 : ∀ w' : World, w'.heap = w.heap → w'.cell? ((⟨g, pre.length, none⟩ : Addr).add ((((m + 2 : Nat) : Int) - 1).toNat * 1)) = some (u64 (us.getD (m + 1) 0)) := fun w' h => cell_heap h (slAt hSu (m + 1) (by omega) (getUA (by omega)))
  have hcu2 : ∀ w' : World, w'.heap = w.heap → w'.cell? ((⟨g, pre.length, none⟩ : Addr).add ((((m + 2 : Nat) : Int) - 2).toNat * 1)) = some (u64 (us.getD m 0)) := fun w' h => cell_heap h (slAt hSu m (by omega) (getUA (by omega)))
  have hcv1 : ∀ w' : World, w'.heap = w.heap → w'.cell? ((⟨gv, ov, none⟩ : Addr).add ((((m + 2 : Nat) : Int) - 1).toNat * 1)) = some (u64 (vs.getD (m + 1) 0)) := fun w' h => cell_heap h (slAt hV (m + 1) (by omega) (getU (by omega)))
  have hcv2 : ∀ w' : World, w'.heap = w.heap → w'.cell? ((⟨gv, ov, none⟩ : Addr).add ((((m + 2 : Nat) : Int) - 2).toNat * 1)) = some (u64 (vs.getD m 0)) := fun w' h => cell_heap h (slAt hV m (by omega) (getU (by omega)))
  have hVe := val_two hvl
  have hVl : val (vs.take m) < pw m := by have := val_lt (hvm.take m); simpa [hvl] using this
  have hUe := val_three hul
  have hUl : val (us.take m) < pw m := by have := val_lt (hum.take m); simpa [hul] using this
  have hT := est_T hVe hVl hb2 hUe hUV
  have hinit := est_init hVe hUe hUl hu2 htop
  have hV0 : 0 < val vs := by
    rw [hVe]
    have : 0 < (vs.getD (m + 1) 0 * 1000000000 + vs.getD m 0) * pw m := Nat.mul_pos (by omega) (pw_pos m)
    omega
  have hmore := fun gq r h1 h2 => @est_more (pw m) (vs.getD (m + 1) 0) (vs.getD m 0) (val (vs.take m)) (us.getD m 0) _ (val (us.take m)) (val us) (val vs) gq r hVe hUe hUl hV0 hUV h1 h2
  have hdone := fun gq r h1 h2 => @est_done (pw m) (vs.getD (m + 1) 0) (vs.getD m 0) (val (vs.take m)) (us.getD m 0) _ (val (us.take m)) (val us) (val vs) gq r hVe hVl hb2 hUe hUV htop h1 h2
  generalize hu0e : us.getD (m + 2) 0 = u0 at *
  generalize hu1e : us.getD (m + 1) 0 = u1 at *
  generalize hu2e : us.getD m 0 = u2 at *
  generalize hb1e : vs.getD (m + 1) 0 = b1 at *
  generalize hb2e : vs.getD m 0 = b2 at *
  refine enter Tryz.func148 rfl Tryz.ntmps148 (Nat.le_of_ble_eq_true rfl) ?_
  refine dr U 600 rfl trivial ?_
  refine dwn 11 (fun w' => w'.heap = w.heap) hmo ?_
  intro w1 hh1 hg1
  have hc1 := hcu0 w rfl
  have hc2 := hcu1 w rfl
  refine dq U [0,1,2,3,4,5,6,7,8,9,10] [(3, u64 u0), (9, u64 u1)] (by kernel_rfl) rfl rfl hh1 (by simp only [AllP, InR, List.nil_append, List.cons_append]; (repeat' apply And.intro); all_goals first | exact True.intro | omega | (simp only [List.length_cons, List.length_nil]; omega) | (intro w_ hw_; refine ldC U rfl hw_ ?_; first | assumption | (simp [add_plain]; assumption)) | (intro w_ hw_; refine run_load_cell U rfl ?_; first | exact hw_ | exact hw_.1 | exact hw_.2 | exact hw_.2.1 | exact hw_.2.2 | exact hw_.2.2.1 | exact hw_.2.2.2 | (simp [add_plain]; first | exact hw_.1 | exact hw_.2.1 | exact hw_.2.2))) ?_
  refine d1 rfl rfl (fun _ => hh1) ?_
  refine dr U 600 rfl trivial ?_
  refine d3 ?_; refine dend rfl (fun h => by cases h) ?_
  refine dr U 600 rfl trivial ?_
  refine dwn 15 (fun w' => w'.heap = w.heap) hmo ?_
  intro w2 hh2 hg2
  have hh2 := hh2.trans hh1
  have hc3 := hcv1 w rfl
  have hTb : u0 * 1000000000 + u1 ≤ 1000000000000000000 := by omega
  have hN : ((u0 : Int) * 1000000000 + u1) = ((u0 * 1000000000 + u1 : Nat) : Int) := by omega
  have hQ : ((u0 : Int) * 1000000000 + u1) / b1 = (((u0 * 1000000000 + u1) / b1 : Nat) : Int) := by rw [hN]; rfl
  have hR : ((u0 : Int) * 1000000000 + u1) % b1 = (((u0 * 1000000000 + u1) % b1 : Nat) : Int) := by rw [hN]; rfl
  have hrlt : (u0 * 1000000000 + u1) % b1 < b1 := Nat.mod_lt _ htop
  have hqr := Nat.div_add_mod (u0 * 1000000000 + u1) b1
  have hqle := Nat.div_le_self (u0 * 1000000000 + u1) b1
  generalize hqq : (u0 * 1000000000 + u1) / b1 = q0 at *
  generalize hrr : (u0 * 1000000000 + u1) % b1 = r0 at *
  refine dq U [0,1,2,3,4,5,6,7,8,9,10,11,12,13,14] [(5, u64 b1), (12, u64 b1)] (by kernel_rfl) rfl rfl hh2 (by simp only [AllP, InR, List.nil_append, List.cons_append]; (repeat' apply And.intro); all_goals first | exact True.intro | omega | (simp only [List.length_cons, List.length_nil]; omega) | (intro w_ hw_; refine ldC U rfl hw_ ?_; first | assumption | (simp [add_plain]; assumption)) | (intro w_ hw_; refine run_load_cell U rfl ?_; first | exact hw_ | exact hw_.1 | exact hw_.2 | exact hw_.2.1 | exact hw_.2.2 | exact hw_.2.2.1 | exact hw_.2.2.2 | (simp [add_plain]; first | exact hw_.1 | exact hw_.2.1 | exact hw_.2.2))) ?_
  refine d1 rfl rfl (fun _ => hh2) ?_
  refine dr U 600 rfl trivial ?_
  refine d3 ?_; refine dend rfl (fun h => by cases h) ?_
  refine dr U 600 rfl trivial ?_
  refine loopR (fun l w' mu => ∃ gq r, l = [(0, .slice (some ⟨g, pre.length, none⟩) (m + 3) c), (1, .slice (some ⟨gv, ov, none⟩) (m + 2) cv), (5, .int .i64 ((m + 2 : Nat) : Int)), (7, .int .u64 (gq : Nat)), (8, .int .u64 (r : Nat))] ∧
    gq * b1 + r = u0 * 1000000000 + u1 ∧ val us / val vs ≤ gq ∧ r < 2000000000 ∧ gq ≤ u0 * 1000000000 + u1 ∧ w'.heap = w.heap ∧ w.grownBy w' none ∧ gq = mu)
    ⟨q0, r0, rfl, by rw [Nat.mul_comm]; exact hqr, hinit, by omega, hqle, hh2, gb_trans hg1 hg2, rfl⟩ ⟨rfl, rfl, rfl, iv hQ, iv hR, trivial⟩ ?_
  rintro l w3 mu ⟨gq, r, rfl, hgr, hge, hr2, hgle, hh3, hg3, rfl⟩
  refine dr U 600 rfl trivial ?_
  refine dwn 23 (fun w' => w'.heap = w.heap) hmo ?_
  intro w4 hh4 hg4
  have hh4 := hh4.trans hh3
  have hg4 := gb_trans hg3 hg4
  refine dq U [0] [] (by kernel_rfl) rfl rfl hh4 (by simp only [AllP, InR, List.nil_append, List.cons_append]; (repeat' apply And.intro); all_goals first | exact True.intro | omega | (simp only [List.length_cons, List.length_nil]; omega) | (intro w_ hw_; refine ldC U rfl hw_ ?_; first | assumption | (simp [add_plain]; assumption)) | (intro w_ hw_; refine run_load_cell U rfl ?_; first | exact hw_ | exact hw_.1 | exact hw_.2 | exact hw_.2.1 | exact hw_.2.2 | exact hw_.2.2.1 | exact hw_.2.2.2 | (simp [add_plain]; first | exact hw_.1 | exact hw_.2.1 | exact hw_.2.2))) ?_
  refine d1 rfl rfl (fun _ => hh4) ?_
  refine cS rfl rfl rfl rfl (fun hq => ?_) (fun hq => ?_)
  · refine d2 ?_
    refine dq U [2,3] [] (by kernel_rfl) rfl rfl hh4 (by simp only [AllP, InR, List.nil_append, List.cons_append]; (repeat' apply And.intro); all_goals first | exact True.intro | omega | (simp only [List.length_cons, List.length_nil]; omega) | (intro w_ hw_; refine ldC U rfl hw_ ?_; first | assumption | (simp [add_plain]; assumption)) | (intro w_ hw_; refine run_load_cell U rfl ?_; first | exact hw_ | exact hw_.1 | exact hw_.2 | exact hw_.2.1 | exact hw_.2.2 | exact hw_.2.2.1 | exact hw_.2.2.2 | (simp [add_plain]; first | exact hw_.1 | exact hw_.2.1 | exact hw_.2.2))) ?_
    refine d1 rfl rfl (fun _ => hh4) ?_
    have hrB : r < 1000000000 := by omega
    refine cS rfl rfl rfl rfl (fun hq => ?_) (fun hq => ?_)
    · have hlt := hmore gq r hgr (.inl (by omega))
      refine d2 ?_
      refine dq U [5,6,7,8,9,10,11,12,13,14,15,16,17,18,19,20,21,22] [] (by kernel_rfl) rfl rfl hh4 (by simp only [AllP, InR, List.nil_append, List.cons_append]; (repeat' apply And.intro); all_goals first | exact True.intro | omega | (simp only [List.length_cons, List.length_nil]; omega) | (intro w_ hw_; refine ldC U rfl hw_ ?_; first | assumption | (simp [add_plain]; assumption)) | (intro w_ hw_; refine run_load_cell U rfl ?_; first | exact hw_ | exact hw_.1 | exact hw_.2 | exact hw_.2.1 | exact hw_.2.2 | exact hw_.2.2.1 | exact hw_.2.2.2 | (simp [add_plain]; first | exact hw_.1 | exact hw_.2.1 | exact hw_.2.2))) ?_
      refine d1 rfl rfl (fun _ => hh4) ?_
      refine dr U 600 rfl trivial ?_
      refine d3 ?_; refine dend rfl (fun h => by cases h) ?_
      refine dr U 600 rfl trivial ?_
      refine dwn 10 (fun w' => w'.heap = w.heap) hmo ?_
      intro w5 hh5 hg5
      have hh5 := hh5.trans hh4
      have hpos := Nat.lt_of_le_of_lt (Nat.zero_le _) hlt
      obtain ⟨gq, rfl⟩ : ∃ k, gq = k + 1 := ⟨gq - 1, by omega⟩
      have hc3 := hcv1 w rfl
      refine dq U [0,1,2,3,4,5,6,7,8,9] [(7, u64 b1)] (by kernel_rfl) rfl rfl hh5 (by simp only [AllP, InR, List.nil_append, List.cons_append]; (repeat' apply And.intro); all_goals first | exact True.intro | omega | (simp only [List.length_cons, List.length_nil]; omega) | (intro w_ hw_; refine ldC U rfl hw_ ?_; first | assumption | (simp [add_plain]; assumption)) | (intro w_ hw_; refine run_load_cell U rfl ?_; first | exact hw_ | exact hw_.1 | exact hw_.2 | exact hw_.2.1 | exact hw_.2.2 | exact hw_.2.2.1 | exact hw_.2.2.2 | (simp [add_plain]; first | exact hw_.1 | exact hw_.2.1 | exact hw_.2.2))) ?_
      refine d1 rfl rfl (fun _ => hh5) ?_
      refine dr U 600 rfl trivial ?_
      refine d3 ?_; refine dend rfl (fun h => by cases h) ?_
      refine dr U 600 rfl trivial ?_
      refine rend _ gq ⟨gq, r + b1, rfl, by rw [Nat.add_mul] at hgr; omega, by omega, by omega, by omega, hh5, gb_trans hg4 hg5, rfl⟩ (by omega) ⟨rfl, rfl, rfl, iv (by omega), iv (by omega), trivial⟩
    · have hgB : gq < 1000000000 := by omega
      have hgb : gq * b2 ≤ 999999998000000001 := Nat.le_trans (Nat.mul_le_mul (show gq ≤ 999999999 by omega) (show b2 ≤ 999999999 by omega)) (by decide)
      have hgbi : (gq : Int) * (b2 : Int) = ((gq * b2 : Nat) : Int) := (Int.natCast_mul _ _).symm
      have hc4 := hcu2 w rfl
      have hc5 := hcv2 w rfl
      refine d2 ?_
      refine dq U [5,6,7,8,9,10,11,12,13,14,15,16,17,18,19,20] [(11, u64 b2), (19, u64 u2)] (by kernel_rfl) rfl rfl hh4 (by simp only [AllP, InR, List.nil_append, List.cons_append]; (repeat' apply And.intro); all_goals first | exact True.intro | omega | (simp only [List.length_cons, List.length_nil]; omega) | (intro w_ hw_; refine ldC U rfl hw_ ?_; first | assumption | (simp [add_plain]; assumption)) | (intro w_ hw_; refine run_load_cell U rfl ?_; first | exact hw_ | exact hw_.1 | exact hw_.2 | exact hw_.2.1 | exact hw_.2.2 | exact hw_.2.2.1 | exact hw_.2.2.2 | (simp [add_plain]; first | exact hw_.1 | exact hw_.2.1 | exact hw_.2.2))) ?_
      refine d1 rfl rfl (fun _ => hh4) ?_
      refine cS rfl rfl rfl rfl (fun hq => ?_) (fun hq => ?_)
      · have hq' : r * 1000000000 + u2 < gq * b2 := lt_nat hq
        have hlt := hmore gq r hgr (.inr hq')
        clear hq hgbi hgb
        refine d2 ?_
        refine dq U [22] [] (by kernel_rfl) rfl rfl hh4 (by simp only [AllP, InR, List.nil_append, List.cons_append]; (repeat' apply And.intro); all_goals first | exact True.intro | omega | (simp only [List.length_cons, List.length_nil]; omega) | (intro w_ hw_; refine ldC U rfl hw_ ?_; first | assumption | (simp [add_plain]; assumption)) | (intro w_ hw_; refine run_load_cell U rfl ?_; first | exact hw_ | exact hw_.1 | exact hw_.2 | exact hw_.2.1 | exact hw_.2.2 | exact hw_.2.2.1 | exact hw_.2.2.2 | (simp [add_plain]; first | exact hw_.1 | exact hw_.2.1 | exact hw_.2.2))) ?_
        refine d1 rfl rfl (fun _ => hh4) ?_
        refine dr U 600 rfl trivial ?_
        refine d3 ?_; refine dend rfl (fun h => by cases h) ?_
        refine dr U 600 rfl trivial ?_
        refine dwn 10 (fun w' => w'.heap = w.heap) hmo ?_
        intro w5 hh5 hg5
        have hh5 := hh5.trans hh4
        have hpos := Nat.lt_of_le_of_lt (Nat.zero_le _) hlt
        obtain ⟨gq, rfl⟩ : ∃ k, gq = k + 1 := ⟨gq - 1, by omega⟩
        have hc3 := hcv1 w rfl
        refine dq U [0,1,2,3,4,5,6,7,8,9] [(7, u64 b1)] (by kernel_rfl) rfl rfl hh5 (by simp only [AllP, InR, List.nil_append, List.cons_append]; (repeat' apply And.intro); all_goals first | exact True.intro | omega | (simp only [List.length_cons, List.length_nil]; omega) | (intro w_ hw_; refine ldC U rfl hw_ ?_; first | assumption | (simp [add_plain]; assumption)) | (intro w_ hw_; refine run_load_cell U rfl ?_; first | exact hw_ | exact hw_.1 | exact hw_.2 | exact hw_.2.1 | exact hw_.2.2 | exact hw_.2.2.1 | exact hw_.2.2.2 | (simp [add_plain]; first | exact hw_.1 | exact hw_.2.1 | exact hw_.2.2))) ?_
        refine d1 rfl rfl (fun _ => hh5) ?_
        refine dr U 600 rfl trivial ?_
        refine d3 ?_; refine dend rfl (fun h => by cases h) ?_
        refine dr U 600 rfl trivial ?_
        refine rend _ gq ⟨gq, r + b1, rfl, by rw [Nat.add_mul] at hgr; omega, by omega, by omega, by omega, hh5, gb_trans hg4 hg5, rfl⟩ (by omega) ⟨rfl, rfl, rfl, iv (by omega), iv (by omega), trivial⟩
      · have hx := hdone gq r hgr (.inr ⟨hgB, le_nat hq⟩)
        clear hq hgbi hgb
        refine d2 ?_
        refine dq U [22] [] (by kernel_rfl) rfl rfl hh4 (by simp only [AllP, InR, List.nil_append, List.cons_append]; (repeat' apply And.intro); all_goals first | exact True.intro | omega | (simp only [List.length_cons, List.length_nil]; omega) | (intro w_ hw_; refine ldC U rfl hw_ ?_; first | assumption | (simp [add_plain]; assumption)) | (intro w_ hw_; refine run_load_cell U rfl ?_; first | exact hw_ | exact hw_.1 | exact hw_.2 | exact hw_.2.1 | exact hw_.2.2 | exact hw_.2.2.1 | exact hw_.2.2.2 | (simp [add_plain]; first | exact hw_.1 | exact hw_.2.1 | exact hw_.2.2))) ?_
        refine d1 rfl rfl (fun _ => hh4) ?_
        refine dr U 600 rfl trivial ?_
        refine d3 ?_; refine dend rfl (fun h => by cases h) ?_
        obtain ⟨hglt, hgle1⟩ := hx
        refine dr U 600 rfl trivial ?_
        refine loopR (fun l w' mu => ∃ i cs cy bo, l = [(0, .slice (some ⟨g, pre.length, none⟩) (m + 3) c), (1, .slice (some ⟨gv, ov, none⟩) (m + 2) cv), (5, .int .i64 ((m + 2 : Nat) : Int)), (7, .int .u64 (gq : Nat)), (78, .int .i64 ((m + 2 : Nat) : Int)), (79, .int .i64 (i : Nat)), (9, .int .u64 (cy : Nat)), (10, .int .u64 (bo : Nat))] ∧
          i ≤ m + 2 ∧ cs.length = m + 3 ∧ Lm cs ∧ cy < 1000000000 ∧ bo ≤ 1 ∧ cs.drop i = us.drop i ∧ val (cs.take i) + gq * val (vs.take i) = val (us.take i) + (cy + bo) * pw i ∧ Bk w' g 142 (pre ++ cs.map u64 ++ post) ∧ w.grownBy w' (some g) ∧ mu = m + 2 - i)
          ⟨0, us, 0, 0, rfl, by omega, hul, hum, by omega, by omega, rfl, by simp [val], heap_bk hh4 hB, gb_none _ hg4, rfl⟩ ⟨rfl, rfl, rfl, rfl, rfl, rfl, rfl, rfl, trivial⟩ ?_
        clear hh4 hg4 hc1 hc2
        rintro l w5 mu ⟨i, cs, cy, bo, rfl, hi, hcl, hcm, hcy, hbo, hd, hrel, hB5, hg5, rfl⟩
        refine dr U 600 rfl trivial ?_
        refine cS rfl rfl rfl rfl (fun hq => ?_) (fun hq => ?_)
        · refine dr U 600 rfl (by first | exact True.intro | (simp only [AllP, InR, List.nil_append, List.cons_append, and_true]; omega)) ?_
          have hi' : i < m + 2 := by omega
          have hs := fun z bo' hz => @msub_step cs us vs i gq cy bo (by omega) (by omega) (by omega) hd hrel z bo' hz
          have hy1 := hvm.getD i
          have hx1 := hum.getD i
          have hV5 := hV.keep hg5 (fun k hk e => hav (by rw [hk]; exact e.symm))
          have hget : (cs.map u64 ++ post)[i]? = some (u64 (us.getD i 0)) := by rw [getUA (by omega), getD_of_drop hd]
          refine il U rfl rfl rfl rfl rfl rfl rfl (fun _ => rfl) rfl i (by omega) (by omega) hV5 (getU (by omega)) ?_
          generalize hye : vs.getD i 0 = y at *
          generalize hxe : us.getD i 0 = x at *
          have hgy : gq * y ≤ 999999998000000001 := Nat.le_trans (Nat.mul_le_mul (show gq ≤ 999999999 by omega) (show y ≤ 999999999 by omega)) (by decide)
          have hpi : (gq : Int) * (y : Int) = ((gq * y : Nat) : Int) := (Int.natCast_mul _ _).symm
          generalize hp0 : gq * y = p0 at *
          refine dr U 600 rfl (by first | exact True.intro | (simp only [AllP, InR, List.nil_append, List.cons_append, and_true]; omega)) ?_
          refine il U rfl rfl rfl rfl rfl rfl rfl (fun _ => rfl) rfl i (by omega) (by omega) (bk_view hB5) hget ?_
          refine dr U 600 rfl (by first | exact True.intro | (simp only [AllP, InR, List.nil_append, List.cons_append, and_true]; omega)) ?_
          refine cS rfl rfl rfl rfl (fun hq => ?_) (fun hq => ?_)
          · refine dr U 600 rfl (by first | exact True.intro | (simp only [AllP, InR, List.nil_append, List.cons_append, and_true]; omega)) ?_
            refine il U rfl rfl rfl rfl rfl rfl rfl (fun _ => rfl) rfl i (by omega) (by omega) (bk_view hB5) hget ?_
            refine dr U 600 rfl (by first | exact True.intro | (simp only [AllP, InR, List.nil_append, List.cons_append, and_true]; omega)) ?_
            refine ix U (v := (u64 (x + 1000000000))) rfl rfl rfl rfl rfl rfl rfl (fun _ => rfl) (fun _ => iv (by omega)) (fun _ => rfl) rfl rfl i rfl (by omega) (by simp; omega) hB5 ?_
            intro p1 w6 hB6 hg6 hs6
            rw [set_view _ _ _ _ _ (by omega)] at hB6
            refine dr U 600 rfl (by first | exact True.intro | (simp only [AllP, InR, List.nil_append, List.cons_append, and_true]; omega)) ?_
            refine il U rfl rfl rfl rfl rfl rfl rfl (fun _ => rfl) rfl i (by omega) (by omega) (bk_view hB6) (show _ = some (u64 (x + 1000000000)) by rw [getUA (by simp; omega)]; simp [List.getD, show i < cs.length by omega]) ?_
            refine dr U 600 rfl (by first | exact True.intro | (simp only [AllP, InR, List.nil_append, List.cons_append, and_true]; omega)) ?_
            refine ix U (v := (u64 (x + 1000000000 - ((p0 + cy) % 1000000000 + bo)))) rfl rfl rfl rfl rfl rfl rfl (fun _ => rfl) (fun _ => iv (by omega)) (fun _ => rfl) rfl rfl i rfl (by omega) (by simp; omega) hB6 ?_
            intro p2 w7 hB7 hg7 hs7
            rw [set_view _ _ _ _ _ (by simp; omega), List.set_set] at hB7
            refine dr U 600 rfl (by first | exact True.intro | (simp only [AllP, InR, List.nil_append, List.cons_append, and_true]; omega)) ?_
            refine rend _ _ ⟨i + 1, cs.set i (x + 1000000000 - ((p0 + cy) % 1000000000 + bo)), (p0 + cy) / 1000000000, 1, rfl, by omega, by simp [hcl], hcm.set _ (by omega), by omega, by omega, by rw [set_drop_succ]; exact drop_succ_of_drop hd, hs _ 1 (by omega), hB7, gb_trans (gb_trans hg5 hg6) hg7, rfl⟩ (by omega)
              ⟨rfl, rfl, rfl, rfl, rfl, iv (by omega), iv (by omega), rfl, trivial⟩
          · refine dr U 600 rfl (by first | exact True.intro | (simp only [AllP, InR, List.nil_append, List.cons_append, and_true]; omega)) ?_
            refine il U rfl rfl rfl rfl rfl rfl rfl (fun _ => rfl) rfl i (by omega) (by omega) (bk_view hB5) hget ?_
            refine dr U 600 rfl (by first | exact True.intro | (simp only [AllP, InR, List.nil_append, List.cons_append, and_true]; omega)) ?_
            refine ix U (v := (u64 (x - ((p0 + cy) % 1000000000 + bo)))) rfl rfl rfl rfl rfl rfl rfl (fun _ => rfl) (fun _ => iv (by omega)) (fun _ => rfl) rfl rfl i rfl (by omega) (by simp; omega) hB5 ?_
            intro p2 w7 hB7 hg7 hs7
            rw [set_view _ _ _ _ _ (by omega)] at hB7
            refine dr U 600 rfl (by first | exact True.intro | (simp only [AllP, InR, List.nil_append, List.cons_append, and_true]; omega)) ?_
            refine rend _ _ ⟨i + 1, cs.set i (x - ((p0 + cy) % 1000000000 + bo)), (p0 + cy) / 1000000000, 0, rfl, by omega, by simp [hcl], hcm.set _ (by omega), by omega, by omega, by rw [set_drop_succ]; exact drop_succ_of_drop hd, hs _ 0 (by omega), hB7, gb_trans hg5 hg7, rfl⟩ (by omega)
              ⟨rfl, rfl, rfl, rfl, rfl, iv (by omega), iv (by omega), rfl, trivial⟩
        · obtain rfl : i = m + 2 := by omega
          rw [take_all (show vs.length ≤ m + 2 by omega)] at hrel
          have hgetn : (cs.map u64 ++ post)[m + 2]? = some (u64 u0) := by rw [getUA (by omega), getD_of_drop hd, hu0e]
          have hul' := val_last (n := m + 2) hul
          rw [hu0e] at hul'
          refine dr U 600 rfl (by first | exact True.intro | (simp only [AllP, InR, List.nil_append, List.cons_append, and_true]; omega)) ?_
          refine il U rfl rfl rfl rfl rfl rfl rfl (fun _ => rfl) rfl (m + 2) (by omega) (by omega) (bk_view hB5) hgetn ?_
          refine dr U 600 rfl (by first | exact True.intro | (simp only [AllP, InR, List.nil_append, List.cons_append, and_true]; omega)) ?_
          refine cS rfl rfl rfl rfl (fun hq => ?_) (fun hq => ?_)
          · obtain ⟨hres1, hres2⟩ := est_fit hul' hrel (by omega) hV0 hge
            refine dr U 600 rfl (by first | exact True.intro | (simp only [AllP, InR, List.nil_append, List.cons_append, and_true]; omega)) ?_
            refine il U rfl rfl rfl rfl rfl rfl rfl (fun _ => rfl) rfl (m + 2) (by omega) (by omega) (bk_view hB5) hgetn ?_
            refine dr U 600 rfl (by first | exact True.intro | (simp only [AllP, InR, List.nil_append, List.cons_append, and_true]; omega)) ?_
            refine ix U (v := (u64 (u0 - (cy + bo)))) rfl rfl rfl rfl rfl rfl rfl (fun _ => rfl) (fun _ => iv (by omega)) (fun _ => rfl) rfl rfl (m + 2) rfl (by omega) (by simp; omega) hB5 ?_
            intro p2 w7 hB7 hg7 hs7
            rw [set_view _ _ _ _ _ (by omega)] at hB7
            refine dr U 600 rfl (by first | exact True.intro | (simp only [AllP, InR, List.nil_append, List.cons_append, and_true]; omega)) ?_
            refine ret Tryz.results148 rfl ⟨_, rfl, by rw [← hres1]; rfl, cs.set (m + 2) (u0 - (cy + bo)), by simp [hcl], hcm.set _ (by omega), ?_, hB7, gb_trans hg5 hg7⟩
            rw [← hres2, val_last (n := m + 2) (by simp [hcl])]
            simp [List.take_set_of_le, List.getD, show m + 2 < cs.length by omega]
          · refine dr U 600 rfl (by first | exact True.intro | (simp only [AllP, InR, List.nil_append, List.cons_append, and_true]; omega)) ?_
            have hcn : val (cs.take (m + 2)) < pw (m + 2) := by have := val_lt (hcm.take (m + 2)); simpa [hcl] using this
            have hvn : val vs < pw (m + 2) := by have := val_lt hvm; rwa [hvl] at this
            have hover := fun ds cy2 h1 h2 => @est_over us cs ds (m + 2) gq (val vs) (cy + bo) u0 cy2 hul' hrel (by omega) hV0 hge hgle1 hcn h1 hvn h2
            refine loopR (fun l w' mu => ∃ i ds k, l = [(0, .slice (some ⟨g, pre.length, none⟩) (m + 3) c), (1, .slice (some ⟨gv, ov, none⟩) (m + 2) cv), (5, .int .i64 ((m + 2 : Nat) : Int)), (7, .int .u64 (gq : Nat)), (136, .int .i64 ((m + 2 : Nat) : Int)), (137, .int .i64 (i : Nat)), (9, .int .u64 (k : Nat))] ∧
              i ≤ m + 2 ∧ ds.length = m + 3 ∧ Lm ds ∧ k ≤ 1 ∧ ds.drop i = cs.drop i ∧ val (ds.take i) + k * pw i = val (cs.take i) + val (vs.take i) ∧ Bk w' g 142 (pre ++ ds.map u64 ++ post) ∧ w.grownBy w' (some g) ∧ mu = m + 2 - i)
              ⟨0, cs, 0, rfl, by omega, hcl, hcm, by omega, rfl, by simp [val], hB5, hg5, rfl⟩ ⟨rfl, rfl, rfl, rfl, rfl, rfl, rfl, trivial⟩ ?_
            rintro l w6 mu ⟨i, ds, k, rfl, hi, hdl, hdm, hk, hdd, hrel2, hB6, hg6, rfl⟩
            refine dr U 600 rfl trivial ?_
            refine cS rfl rfl rfl rfl (fun hq => ?_) (fun hq => ?_)
            · refine dr U 600 rfl (by first | exact True.intro | (simp only [AllP, InR, List.nil_append, List.cons_append, and_true]; omega)) ?_
              have hs := @addb_step ds cs vs i k (by omega) (by omega) (by omega) hdd hrel2
              have hy1 := hvm.getD i
              have hx1 := hcm.getD i
              have hV6 := hV.keep hg6 (fun k hk e => hav (by rw [hk]; exact e.symm))
              have hgx := slAt (bk_view hB6) i (i := (i : Int)) (by omega) (show _ = some (u64 (cs.getD i 0)) by rw [getUA (by omega), getD_of_drop hdd])
              have hgy := slAt hV6 i (i := (i : Int)) (by omega) (getU (by omega))
              generalize hye : vs.getD i 0 = y at *
              generalize hxe : cs.getD i 0 = x at *
              refine dwn 11 (fun w' => w'.heap = w6.heap) hmo ?_
              intro w7 hh7 hg7
              refine dq U [0,1,2,3,4,5,6,7,8,9,10] [(3, u64 x), (7, u64 y)] (by kernel_rfl) rfl rfl hh7 (by simp only [AllP, InR, List.nil_append, List.cons_append]; (repeat' apply And.intro); all_goals first | exact True.intro | omega | (simp only [List.length_cons, List.length_nil]; omega) | (intro w_ hw_; refine ldC U rfl hw_ ?_; first | assumption | (simp [add_plain]; assumption)) | (intro w_ hw_; refine run_load_cell U rfl ?_; first | exact hw_ | exact hw_.1 | exact hw_.2 | exact hw_.2.1 | exact hw_.2.2 | exact hw_.2.2.1 | exact hw_.2.2.2 | (simp [add_plain]; first | exact hw_.1 | exact hw_.2.1 | exact hw_.2.2))) ?_
              refine d1 rfl rfl (fun _ => hh7) ?_
              refine dr U 600 rfl trivial ?_
              refine d3 ?_; refine dend rfl (fun h => by cases h) ?_
              refine dr U 600 rfl (by first | exact True.intro | (simp only [AllP, InR, List.nil_append, List.cons_append, and_true]; omega)) ?_
              have hB7 := heap_bk hh7 hB6
              refine ix U (v := (u64 ((x + y + k) % 1000000000))) rfl rfl rfl rfl rfl rfl rfl (fun _ => rfl) (fun _ => iv (by omega)) (fun _ => rfl) rfl rfl i rfl (by omega) (by simp; omega) hB7 ?_
              intro p2 w8 hB8 hg8 hs8
              rw [set_view _ _ _ _ _ (by omega)] at hB8
              refine dr U 600 rfl (by first | exact True.intro | (simp only [AllP, InR, List.nil_append, List.cons_append, and_true]; omega)) ?_
              refine rend _ _ ⟨i + 1, ds.set i ((x + y + k) % 1000000000), (x + y + k) / 1000000000, rfl, by omega, by simp [hdl], hdm.set _ (by omega), by omega, by rw [set_drop_succ]; exact drop_succ_of_drop hdd, hs, hB8, gb_trans (gb_trans hg6 (gb_none _ hg7)) hg8, rfl⟩ (by omega)
                ⟨rfl, rfl, rfl, rfl, rfl, iv (by omega), iv (by omega), trivial⟩
            · obtain rfl : i = m + 2 := by omega
              rw [take_all (show vs.length ≤ m + 2 by omega)] at hrel2
              have hdn : val (ds.take (m + 2)) < pw (m + 2) := by have := val_lt (hdm.take (m + 2)); simpa [hdl] using this
              obtain ⟨hres1, hpos, hres2, _⟩ := hover ds k hdn hrel2
              refine dr U 600 rfl (by first | exact True.intro | (simp only [AllP, InR, List.nil_append, List.cons_append, and_true]; omega)) ?_
              refine ix U (v := (u64 0)) rfl rfl rfl rfl rfl rfl rfl (fun _ => rfl) (fun _ => iv rfl) (fun _ => rfl) rfl rfl (m + 2) rfl (by omega) (by simp; omega) hB6 ?_
              intro p2 w8 hB8 hg8 hs8
              rw [set_view _ _ _ _ _ (by omega)] at hB8
              refine dr U 600 rfl (by first | exact True.intro | (simp only [AllP, InR, List.nil_append, List.cons_append, and_true]; omega)) ?_
              refine ret Tryz.results148 rfl ⟨_, rfl, ?_, ds.set (m + 2) 0, by simp [hdl], hdm.set _ (by omega), ?_, hB8, gb_trans hg6 hg8⟩
              · rw [← hres1]; show Value.int _ _ = Value.int _ _; congr 1; omega
              · rw [← hres2, val_last (n := m + 2) (by simp [hdl])]
                simp [List.take_set_of_le, List.getD, show m + 2 < ds.length by omega]
  · have hx := hdone gq r hgr (.inl (by omega))
    refine d2 ?_
    refine dq U [2,3,4,5,6,7,8,9,10,11,12,13,14,15,16,17,18,19,20,21,22] [] (by kernel_rfl) rfl rfl hh4 (by simp only [AllP, InR, List.nil_append, List.cons_append]; (repeat' apply And.intro); all_goals first | exact True.intro | omega | (simp only [List.length_cons, List.length_nil]; omega) | (intro w_ hw_; refine ldC U rfl hw_ ?_; first | assumption | (simp [add_plain]; assumption)) | (intro w_ hw_; refine run_load_cell U rfl ?_; first | exact hw_ | exact hw_.1 | exact hw_.2 | exact hw_.2.1 | exact hw_.2.2 | exact hw_.2.2.1 | exact hw_.2.2.2 | (simp [add_plain]; first | exact hw_.1 | exact hw_.2.1 | exact hw_.2.2))) ?_
    refine d1 rfl rfl (fun _ => hh4) ?_
    refine dr U 600 rfl trivial ?_
    refine d3 ?_; refine dend rfl (fun h => by cases h) ?_
    obtain ⟨hglt, hgle1⟩ := hx
    refine dr U 600 rfl trivial ?_
    refine loopR (fun l w' mu => ∃ i cs cy bo, l = [(0, .slice (some ⟨g, pre.length, none⟩) (m + 3) c), (1, .slice (some ⟨gv, ov, none⟩) (m + 2) cv), (5, .int .i64 ((m + 2 : Nat) : Int)), (7, .int .u64 (gq : Nat)), (78, .int .i64 ((m + 2 : Nat) : Int)), (79, .int .i64 (i : Nat)), (9, .int .u64 (cy : Nat)), (10, .int .u64 (bo : Nat))] ∧
      i ≤ m + 2 ∧ cs.length = m + 3 ∧ Lm cs ∧ cy < 1000000000 ∧ bo ≤ 1 ∧ cs.drop i = us.drop i ∧ val (cs.take i) + gq * val (vs.take i) = val (us.take i) + (cy + bo) * pw i ∧ Bk w' g 142 (pre ++ cs.map u64 ++ post) ∧ w.grownBy w' (some g) ∧ mu = m + 2 - i)
      ⟨0, us, 0, 0, rfl, by omega, hul, hum, by omega, by omega, rfl, by simp [val], heap_bk hh4 hB, gb_none _ hg4, rfl⟩ ⟨rfl, rfl, rfl, rfl, rfl, rfl, rfl, rfl, trivial⟩ ?_
    clear hh4 hg4 hc1 hc2
    rintro l w5 mu ⟨i, cs, cy, bo, rfl, hi, hcl, hcm, hcy, hbo, hd, hrel, hB5, hg5, rfl⟩
    refine dr U 600 rfl trivial ?_
    refine cS rfl rfl rfl rfl (fun hq => ?_) (fun hq => ?_)
    · refine dr U 600 rfl (by first | exact True.intro | (simp only [AllP, InR, List.nil_append, List.cons_append, and_true]; omega)) ?_
      have hi' : i < m + 2 := by omega
      have hs := fun z bo' hz => @msub_step cs us vs i gq cy bo (by omega) (by omega) (by omega) hd hrel z bo' hz
      have hy1 := hvm.getD i
      have hx1 := hum.getD i
      have hV5 := hV.keep hg5 (fun k hk e => hav (by rw [hk]; exact e.symm))
      have hget : (cs.map u64 ++ post)[i]? = some (u64 (us.getD i 0)) := by rw [getUA (by omega), getD_of_drop hd]
      refine il U rfl rfl rfl rfl rfl rfl rfl (fun _ => rfl) rfl i (by omega) (by omega) hV5 (getU (by omega)) ?_
      generalize hye : vs.getD i 0 = y at *
      generalize hxe : us.getD i 0 = x at *
      have hgy : gq * y ≤ 999999998000000001 := Nat.le_trans (Nat.mul_le_mul (show gq ≤ 999999999 by omega) (show y ≤ 999999999 by omega)) (by decide)
      have hpi : (gq : Int) * (y : Int) = ((gq * y : Nat) : Int) := (Int.natCast_mul _ _).symm
      generalize hp0 : gq * y = p0 at *
      refine dr U 600 rfl (by first | exact True.intro | (simp only [AllP, InR, List.nil_append, List.cons_append, and_true]; omega)) ?_
      refine il U rfl rfl rfl rfl rfl rfl rfl (fun _ => rfl) rfl i (by omega) (by omega) (bk_view hB5) hget ?_
      refine dr U 600 rfl (by first | exact True.intro | (simp only [AllP, InR, List.nil_append, List.cons_append, and_true]; omega)) ?_
      refine cS rfl rfl rfl rfl (fun hq => ?_) (fun hq => ?_)
      · refine dr U 600 rfl (by first | exact True.intro | (simp only [AllP, InR, List.nil_append, List.cons_append, and_true]; omega)) ?_
        refine il U rfl rfl rfl rfl rfl rfl rfl (fun _ => rfl) rfl i (by omega) (by omega) (bk_view hB5) hget ?_
        refine dr U 600 rfl (by first | exact True.intro | (simp only [AllP, InR, List.nil_append, List.cons_append, and_true]; omega)) ?_
        refine ix U (v := (u64 (x + 1000000000))) rfl rfl rfl rfl rfl rfl rfl (fun _ => rfl) (fun _ => iv (by omega)) (fun _ => rfl) rfl rfl i rfl (by omega) (by simp; omega) hB5 ?_
        intro p1 w6 hB6 hg6 hs6
        rw [set_view _ _ _ _ _ (by omega)] at hB6
        refine dr U 600 rfl (by first | exact True.intro | (simp only [AllP, InR, List.nil_append, List.cons_append, and_true]; omega)) ?_
        refine il U rfl rfl rfl rfl rfl rfl rfl (fun _ => rfl) rfl i (by omega) (by omega) (bk_view hB6) (show _ = some (u64 (x + 1000000000)) by rw [getUA (by simp; omega)]; simp [List.getD, show i < cs.length by omega]) ?_
        refine dr U 600 rfl (by first | exact True.intro | (simp only [AllP, InR, List.nil_append, List.cons_append, and_true]; omega)) ?_
        refine ix U (v := (u64 (x + 1000000000 - ((p0 + cy) % 1000000000 + bo)))) rfl rfl rfl rfl rfl rfl rfl (fun _ => rfl) (fun _ => iv (by omega)) (fun _ => rfl) rfl rfl i rfl (by omega) (by simp; omega) hB6 ?_
        intro p2 w7 hB7 hg7 hs7
        rw [set_view _ _ _ _ _ (by simp; omega), List.set_set] at hB7
        refine dr U 600 rfl (by first | exact True.intro | (simp only [AllP, InR, List.nil_append, List.cons_append, and_true]; omega)) ?_
        refine rend _ _ ⟨i + 1, cs.set i (x + 1000000000 - ((p0 + cy) % 1000000000 + bo)), (p0 + cy) / 1000000000, 1, rfl, by omega, by simp [hcl], hcm.set _ (by omega), by omega, by omega, by rw [set_drop_succ]; exact drop_succ_of_drop hd, hs _ 1 (by omega), hB7, gb_trans (gb_trans hg5 hg6) hg7, rfl⟩ (by omega)
          ⟨rfl, rfl, rfl, rfl, rfl, iv (by omega), iv (by omega), rfl, trivial⟩
      · refine dr U 600 rfl (by first | exact True.intro | (simp only [AllP, InR, List.nil_append, List.cons_append, and_true]; omega)) ?_
        refine il U rfl rfl rfl rfl rfl rfl rfl (fun _ => rfl) rfl i (by omega) (by omega) (bk_view hB5) hget ?_
        refine dr U 600 rfl (by first | exact True.intro | (simp only [AllP, InR, List.nil_append, List.cons_append, and_true]; omega)) ?_
        refine ix U (v := (u64 (x - ((p0 + cy) % 1000000000 + bo)))) rfl rfl rfl rfl rfl rfl rfl (fun _ => rfl) (fun _ => iv (by omega)) (fun _ => rfl) rfl rfl i rfl (by omega) (by simp; omega) hB5 ?_
        intro p2 w7 hB7 hg7 hs7
        rw [set_view _ _ _ _ _ (by omega)] at hB7
        refine dr U 600 rfl (by first | exact True.intro | (simp only [AllP, InR, List.nil_append, List.cons_append, and_true]; omega)) ?_
        refine rend _ _ ⟨i + 1, cs.set i (x - ((p0 + cy) % 1000000000 + bo)), (p0 + cy) / 1000000000, 0, rfl, by omega, by simp [hcl], hcm.set _ (by omega), by omega, by omega, by rw [set_drop_succ]; exact drop_succ_of_drop hd, hs _ 0 (by omega), hB7, gb_trans hg5 hg7, rfl⟩ (by omega)
          ⟨rfl, rfl, rfl, rfl, rfl, iv (by omega), iv (by omega), rfl, trivial⟩
    · obtain rfl : i = m + 2 := by omega
      rw [take_all (show vs.length ≤ m + 2 by omega)] at hrel
      have hgetn : (cs.map u64 ++ post)[m + 2]? = some (u64 u0) := by rw [getUA (by omega), getD_of_drop hd, hu0e]
      have hul' := val_last (n := m + 2) hul
      rw [hu0e] at hul'
      refine dr U 600 rfl (by first | exact True.intro | (simp only [AllP, InR, List.nil_append, List.cons_append, and_true]; omega)) ?_
      refine il U rfl rfl rfl rfl rfl rfl rfl (fun _ => rfl) rfl (m + 2) (by omega) (by omega) (bk_view hB5) hgetn ?_
      refine dr U 600 rfl (by first | exact True.intro | (simp only [AllP, InR, List.nil_append, List.cons_append, and_true]; omega)) ?_
      refine cS rfl rfl rfl rfl (fun hq => ?_) (fun hq => ?_)
      · obtain ⟨hres1, hres2⟩ := est_fit hul' hrel (by omega) hV0 hge
        refine dr U 600 rfl (by first | exact True.intro | (simp only [AllP, InR, List.nil_append, List.cons_append, and_true]; omega)) ?_
        refine il U rfl rfl rfl rfl rfl rfl rfl (fun _ => rfl) rfl (m + 2) (by omega) (by omega) (bk_view hB5) hgetn ?_
        refine dr U 600 rfl (by first | exact True.intro | (simp only [AllP, InR, List.nil_append, List.cons_append, and_true]; omega)) ?_
        refine ix U (v := (u64 (u0 - (cy + bo)))) rfl rfl rfl rfl rfl rfl rfl (fun _ => rfl) (fun _ => iv (by omega)) (fun _ => rfl) rfl rfl (m + 2) rfl (by omega) (by simp; omega) hB5 ?_
        intro p2 w7 hB7 hg7 hs7
        rw [set_view _ _ _ _ _ (by omega)] at hB7
        refine dr U 600 rfl (by first | exact True.intro | (simp only [AllP, InR, List.nil_append, List.cons_append, and_true]; omega)) ?_
        refine ret Tryz.results148 rfl ⟨_, rfl, by rw [← hres1]; rfl, cs.set (m + 2) (u0 - (cy + bo)), by simp [hcl], hcm.set _ (by omega), ?_, hB7, gb_trans hg5 hg7⟩
        rw [← hres2, val_last (n := m + 2) (by simp [hcl])]
        simp [List.take_set_of_le, List.getD, show m + 2 < cs.length by omega]
      · refine dr U 600 rfl (by first | exact True.intro | (simp only [AllP, InR, List.nil_append, List.cons_append, and_true]; omega)) ?_
        have hcn : val (cs.take (m + 2)) < pw (m + 2) := by have := val_lt (hcm.take (m + 2)); simpa [hcl] using this
        have hvn : val vs < pw (m + 2) := by have := val_lt hvm; rwa [hvl] at this
        have hover := fun ds cy2 h1 h2 => @est_over us cs ds (m + 2) gq (val vs) (cy + bo) u0 cy2 hul' hrel (by omega) hV0 hge hgle1 hcn h1 hvn h2
        refine loopR (fun l w' mu => ∃ i ds k, l = [(0, .slice (some ⟨g, pre.length, none⟩) (m + 3) c), (1, .slice (some ⟨gv, ov, none⟩) (m + 2) cv), (5, .int .i64 ((m + 2 : Nat) : Int)), (7, .int .u64 (gq : Nat)), (136, .int .i64 ((m + 2 : Nat) : Int)), (137, .int .i64 (i : Nat)), (9, .int .u64 (k : Nat))] ∧
          i ≤ m + 2 ∧ ds.length = m + 3 ∧ Lm ds ∧ k ≤ 1 ∧ ds.drop i = cs.drop i ∧ val (ds.take i) + k * pw i = val (cs.take i) + val (vs.take i) ∧ Bk w' g 142 (pre ++ ds.map u64 ++ post) ∧ w.grownBy w' (some g) ∧ mu = m + 2 - i)
          ⟨0, cs, 0, rfl, by omega, hcl, hcm, by omega, rfl, by simp [val], hB5, hg5, rfl⟩ ⟨rfl, rfl, rfl, rfl, rfl, rfl, rfl, trivial⟩ ?_
        rintro l w6 mu ⟨i, ds, k, rfl, hi, hdl, hdm, hk, hdd, hrel2, hB6, hg6, rfl⟩
        refine dr U 600 rfl trivial ?_
        refine cS rfl rfl rfl rfl (fun hq => ?_) (fun hq => ?_)
        · refine dr U 600 rfl (by first | exact True.intro | (simp only [AllP, InR, List.nil_append, List.cons_append, and_true]; omega)) ?_
          have hs := @addb_step ds cs vs i k (by omega) (by omega) (by omega) hdd hrel2
          have hy1 := hvm.getD i
          have hx1 := hcm.getD i
          have hV6 := hV.keep hg6 (fun k hk e => hav (by rw [hk]; exact e.symm))
          have hgx := slAt (bk_view hB6) i (i := (i : Int)) (by omega) (show _ = some (u64 (cs.getD i 0)) by rw [getUA (by omega), getD_of_drop hdd])
          have hgy := slAt hV6 i (i := (i : Int)) (by omega) (getU (by omega))
          generalize hye : vs.getD i 0 = y at *
          generalize hxe : cs.getD i 0 = x at *
          refine dwn 11 (fun w' => w'.heap = w6.heap) hmo ?_
          intro w7 hh7 hg7
          refine dq U [0,1,2,3,4,5,6,7,8,9,10] [(3, u64 x), (7, u64 y)] (by kernel_rfl) rfl rfl hh7 (by simp only [AllP, InR, List.nil_append, List.cons_append]; (repeat' apply And.intro); all_goals first | exact True.intro | omega | (simp only [List.length_cons, List.length_nil]; omega) | (intro w_ hw_; refine ldC U rfl hw_ ?_; first | assumption | (simp [add_plain]; assumption)) | (intro w_ hw_; refine run_load_cell U rfl ?_; first | exact hw_ | exact hw_.1 | exact hw_.2 | exact hw_.2.1 | exact hw_.2.2 | exact hw_.2.2.1 | exact hw_.2.2.2 | (simp [add_plain]; first | exact hw_.1 | exact hw_.2.1 | exact hw_.2.2))) ?_
          refine d1 rfl rfl (fun _ => hh7) ?_
          refine dr U 600 rfl trivial ?_
          refine d3 ?_; refine dend rfl (fun h => by cases h) ?_
          refine dr U 600 rfl (by first | exact True.intro | (simp only [AllP, InR, List.nil_append, List.cons_append, and_true]; omega)) ?_
          have hB7 := heap_bk hh7 hB6
          refine ix U (v := (u64 ((x + y + k) % 1000000000))) rfl rfl rfl rfl rfl rfl rfl (fun _ => rfl) (fun _ => iv (by omega)) (fun _ => rfl) rfl rfl i rfl (by omega) (by simp; omega) hB7 ?_
          intro p2 w8 hB8 hg8 hs8
          rw [set_view _ _ _ _ _ (by omega)] at hB8
          refine dr U 600 rfl (by first | exact True.intro | (simp only [AllP, InR, List.nil_append, List.cons_append, and_true]; omega)) ?_
          refine rend _ _ ⟨i + 1, ds.set i ((x + y + k) % 1000000000), (x + y + k) / 1000000000, rfl, by omega, by simp [hdl], hdm.set _ (by omega), by omega, by rw [set_drop_succ]; exact drop_succ_of_drop hdd, hs, hB8, gb_trans (gb_trans hg6 (gb_none _ hg7)) hg8, rfl⟩ (by omega)
            ⟨rfl, rfl, rfl, rfl, rfl, iv (by omega), iv (by omega), trivial⟩
        · obtain rfl : i = m + 2 := by omega
          rw [take_all (show vs.length ≤ m + 2 by omega)] at hrel2
          have hdn : val (ds.take (m + 2)) < pw (m + 2) := by have := val_lt (hdm.take (m + 2)); simpa [hdl] using this
          obtain ⟨hres1, hpos, hres2, _⟩ := hover ds k hdn hrel2
          refine dr U 600 rfl (by first | exact True.intro | (simp only [AllP, InR, List.nil_append, List.cons_append, and_true]; omega)) ?_
          refine ix U (v := (u64 0)) rfl rfl rfl rfl rfl rfl rfl (fun _ => rfl) (fun _ => iv rfl) (fun _ => rfl) rfl rfl (m + 2) rfl (by omega) (by simp; omega) hB6 ?_
          intro p2 w8 hB8 hg8 hs8
          rw [set_view _ _ _ _ _ (by omega)] at hB8
          refine dr U 600 rfl (by first | exact True.intro | (simp only [AllP, InR, List.nil_append, List.cons_append, and_true]; omega)) ?_
          refine ret Tryz.results148 rfl ⟨_, rfl, ?_, ds.set (m + 2) 0, by simp [hdl], hdm.set _ (by omega), ?_, hB8, gb_trans hg6 hg8⟩
          · rw [← hres1]; show Value.int _ _ = Value.int _ _; congr 1; omega
          · rw [← hres2, val_last (n := m + 2) (by simp [hdl])]
            simp [List.take_set_of_le, List.getD, show m + 2 < ds.length by omega]
end Go.Proofs.YtfdekppnilffeaaGreatDoor
end
section
set_option linter.unusedSimpArgs false
set_option linter.unusedVariables false
set_option maxHeartbeats 1000000
namespace Go.Proofs.YtfdekppnilffeaaGreatDoor
open Go Go.Proofs Go.RowKit

/-- A result that reads as these limbs. -/
def Red (w : World) (v : Value) (zs : List Nat) : Prop := ∃ a c, v = .slice a zs.length c ∧ Rd w a c zs
theorem Own.red {w w' : World} {v : Value} {zs : List Nat} (h : Own w w' v zs) : Red w' v zs := by
  obtain ⟨a, c, rfl, ho, _⟩ := h
  exact ⟨a, c, rfl, own_rd ho⟩
theorem Red.below {w w' : World} {v : Value} {zs : List Nat} (h : Red w v zs) (hb : Below w.heap.size w w') : Red w' v zs := by
  obtain ⟨a, c, rfl, hr⟩ := h
  exact ⟨a, c, rfl, hr.below hb⟩
theorem Rd.nil (w : World) : Rd w none 0 [] := ⟨Sl.nil _ _, Nat.le_refl _, fun g h => by cases h⟩
theorem Bk.below {w w' : World} {B b t : Nat} {cs : List Value} (h : Bk w b t cs) (hb : Below B w w') (hlt : b < B) : Bk w' b t cs := by
  unfold Bk at *; rw [hb.block b hlt]; exact h
theorem bl_tr {B B' : Nat} {w w1 w2 : World} (h : Below B w w1) (h' : Below B' w1 w2) (hle : B ≤ B') : Below B w w2 :=
  h.trans (h'.mono hle)

theorem cmpN_neg {p q : Nat} : cmpN p q < 0 ↔ p < q := by
  unfold cmpN
  split
  · omega
  · split <;> omega

theorem divmod_calls (p q : Nat) (hq0 : 0 < q) (a b : Option Addr) (c d : Nat) (w : World) (ha : Rd w a c (lim p)) (hb : Rd w b d (lim q)) (hpl : (lim p).length ≤ 68719476736) (hql : (lim q).length ≤ 68719476736) :
    Calls Tryz.prog 133 #[.slice a (lim p).length c, .slice b (lim q).length d] w (Ret fun v w' => ∃ v1 v2, v = .tuple ⟨[v1, v2]⟩ ∧ Red w' v1 (lim (p / q)) ∧ Red w' v2 (lim (p % q)) ∧ Below w.heap.size w w') := by
  refine enterM Tryz.func133 rfl Tryz.ntmps133 (Nat.le_of_ble_eq_true rfl) ?_
  refine dr U 600 rfl trivial ?_
  refine call (f := 114) rfl rfl cb114 (cmp_calls p q a b c d w ha hb (by omega) (by omega)) ?_
  rintro v w1 ⟨rfl, hB1⟩
  refine ⟨_, rfl, ?_⟩
  have ha1 := ha.below hB1
  have hb1 := hb.below hB1
  refine dr U 600 rfl trivial ?_
  refine cS rfl rfl rfl rfl (fun hq => ?_) (fun hq => ?_)
  · have hlt := cmpN_neg.1 hq
    refine dr U 600 rfl trivial ?_
    refine retM0 U Tryz.results133 (vs := [_, _]) ⟨rfl, rfl, trivial⟩ ⟨_, rfl, _, _, rfl, ?_, ?_, hB1⟩
    · rw [Nat.div_eq_of_lt hlt, lim_zero]; exact ⟨none, 0, rfl, Rd.nil _⟩
    · rw [Nat.mod_eq_of_lt hlt]; exact ⟨a, c, rfl, ha1⟩
  · have hqp : q ≤ p := by
      rcases Nat.lt_or_ge p q with h | h
      · exact absurd (cmpN_neg.2 h) hq
      · exact h
    have hqn : lim q ≠ [] := fun e => by rw [lim_eq_nil] at e; omega
    have hqlen := List.length_pos_iff.2 hqn
    clear hq
    refine dr U 600 rfl trivial ?_
    refine cS rfl rfl rfl rfl (fun hq => ?_) (fun hq => ?_)
    · have hl1 : (lim q).length = 1 := by omega
      have hqB : q < 1000000000 := by have := lim_len_lt q; rw [hl1] at this; exact this
      have hq1 := lim_small (by omega) hqB
      refine dr U 600 rfl (by first | exact True.intro | (simp only [AllP, InR, List.nil_append, List.cons_append, and_true]; omega)) ?_
      refine il U rfl rfl rfl rfl rfl rfl rfl (fun _ => rfl) rfl 0 (by omega) (by omega) hb1.1 (show _ = some (u64 q) by rw [hq1]; rfl) ?_
      refine dr U 600 rfl trivial ?_
      refine call (f := 147) rfl rfl cb147 (small_calls p q hq0 hqB a c w1 ha1 (by omega)) ?_
      rintro v w2 ⟨v1, rfl, hown⟩
      have hr := hown.red
      obtain ⟨_, _, _, _, hB2⟩ := hown
      refine ⟨_, rfl, ?_⟩
      refine dr U 600 rfl trivial ?_
      refine call (f := 120) rfl rfl cb120 (of_calls (p % q) (by have := Nat.mod_lt p hq0; omega) w2) ?_
      rintro v w3 hown3
      have hr3 := hown3.red
      obtain ⟨_, _, _, _, hB3⟩ := hown3
      refine ⟨_, rfl, ?_⟩
      refine dr U 600 rfl trivial ?_
      exact retM0 U Tryz.results133 (vs := [_, _]) ⟨rfl, rfl, trivial⟩ ⟨_, rfl, _, _, rfl, hr.below hB3, hr3, bl_tr (bl_tr hB1 hB2 hB1.size) hB3 (by have := hB1.size; have := hB2.size; omega)⟩
    · have hl2 : 2 ≤ (lim q).length := by omega
      have hbt := lim_top (n := q) (by omega)
      have hbl := (lim_Lm q).getD ((lim q).length - 1)
      have hsp := scale_pos hbl
      refine dr U 600 rfl (by first | exact True.intro | (simp only [AllP, InR, List.nil_append, List.cons_append, and_true]; omega)) ?_
      refine il U rfl rfl rfl rfl rfl rfl rfl (fun _ => rfl) rfl ((lim q).length - 1) (by omega) (by omega) hb1.1 (getU (by omega)) ?_
      generalize hbe : (lim q).getD ((lim q).length - 1) 0 = bt at *
      have hQ : (1000000000 : Int) / ((bt : Int) + 1) = ((1000000000 / (bt + 1) : Nat) : Int) := by
        rw [show ((bt : Int) + 1) = ((bt + 1 : Nat) : Int) by omega]; rfl
      have hslt := hsp.2 hbt
      have hspos := hsp.1
      generalize hse : 1000000000 / (bt + 1) = s at *
      refine dr U 600 rfl (by first | exact True.intro | (simp only [AllP, InR, List.nil_append, List.cons_append, and_true]; omega)) ?_
      refine bs1 U (v := u64 s) (iv hQ) rfl rfl rfl rfl rfl rfl ?_
      intro w2 hks hs2 hg2
      have hls : lim s = [s] := lim_small (by omega) hslt
      have hB2 := hB1.grown hg2 hB1.size (fun k e => by cases e)
      have hrs : Rd w2 (some ⟨w1.heap.size, 0, none⟩) 1 (lim s) := by
        rw [hls]
        exact ⟨by have := hks.sl 0; simpa [u64] using this, by simp, fun g hg => by simp [ab] at hg; subst hg; exact hks.tg⟩
      refine dr U 600 rfl trivial ?_
      have hm1 := mul_calls p s a (some ⟨w1.heap.size, 0, none⟩) c 1 w2 (ha.below hB2) hrs (by omega) (by rw [hls]; simp)
      rw [show (lim s).length = 1 by rw [hls]; rfl] at hm1
      refine call (f := 113) rfl rfl cb113 hm1 ?_
      rintro v w3 ⟨au0, cu0, rfl, hou, hB3⟩
      refine ⟨_, rfl, ?_⟩
      have hLl := lim_len_mul p s
      rw [show (lim s).length = 1 by rw [hls]; rfl] at hLl
      refine ap U (v := (u64 0)) rfl rfl rfl rfl rfl rfl (fun _ => rfl) rfl (fun _ => rfl) rfl rfl rfl hou hB3.size (by omega) (by decide) ?_
      intro au cu w4 hou4 hg4
      have hB3' := bl_tr hB2 hB3 hB2.size
      have hB4 := hB3'.grown hg4 hB3'.size (fun k e => by have := (own_block hou k e).1; have := hB2.size; omega)
      have hks3 := hks.below hB3 (by omega)
      have hks4 := hks3.keep hg4 (fun e => by have := (own_block hou _ e).1; omega)
      have hrs4 : Rd w4 (some ⟨w1.heap.size, 0, none⟩) 1 (lim s) := by
        rw [hls]
        exact ⟨by have := hks4.sl 0; simpa [u64] using this, by simp, fun g hg => by simp [ab] at hg; subst hg; exact hks4.tg⟩
      refine dr U 600 rfl trivial ?_
      have hm2 := mul_calls q s b (some ⟨w1.heap.size, 0, none⟩) d 1 w4 (hb.below hB4) hrs4 (by omega) (by rw [hls]; simp)
      rw [show (lim s).length = 1 by rw [hls]; rfl] at hm2
      refine call (f := 113) rfl rfl cb113 hm2 ?_
      rintro v w5 ⟨av, cv, rfl, hov, hB5⟩
      refine ⟨_, rfl, ?_⟩
      have hB5' := bl_tr hB4 hB5 hB4.size
      have hks5 := hks4.below hB5 (by have := hks4.lt; omega)
      have hLv := lim_len_mul q s
      rw [show (lim s).length = 1 by rw [hls]; rfl] at hLv
      -- the numbers
      have hps : q * s ≤ p * s := Nat.mul_le_mul_right _ hqp
      have hnL := lim_len_mono hps
      have hqs : q ≤ q * s := Nat.le_mul_of_pos_right _ hspos
      have hn2 := lim_len_mono hqs
      have hLp : (lim p).length ≤ (lim (p * s)).length := lim_len_mono (Nat.le_mul_of_pos_right _ hspos)
      have hvt := lim_top (n := q * s) (by omega)
      have hvm := lim_Lm (q * s)
      have hvv := val_lim (q * s)
      have hvb := lim_len_lt (q * s)
      have hvb2 := fun k => @lim_len_ge (q * s) k
      have hum0 : Lm (lim (p * s) ++ [0]) := (lim_Lm (p * s)).snoc (by omega)
      have huv0 : val (lim (p * s) ++ [0]) = p * s := by rw [val_snoc, val_lim]; omega
      have hul0 : (lim (p * s) ++ [0]).length = (lim (p * s)).length + 1 := by simp
      have hou4' : w4.ownsRow w2.heap.size 142 1 (.slice au ((lim (p * s)).length + 1) cu) ((lim (p * s)).length + 1) ((lim (p * s) ++ [0]).map u64) := by simpa using hou4
      have hu0top : ∀ k, (lim (q * s)).length = k + 1 → k + 1 ≤ (lim (p * s)).length → val ((lim (p * s) ++ [0]).drop ((lim (p * s)).length - k)) < pw k := fun k h1 h2 => by
        rw [List.drop_append_of_le_length (by omega), val_snoc]
        have := val_lt ((lim_Lm (p * s)).drop ((lim (p * s)).length - k))
        simp only [List.length_drop] at this
        rw [show (lim (p * s)).length - ((lim (p * s)).length - k) = k by omega] at this
        omega
      generalize hn : (lim (q * s)).length = n at *
      generalize hLL : (lim (p * s)).length = L0 at *
      generalize hvse : lim (q * s) = vs at *
      generalize hu0e : lim (p * s) ++ [0] = u0 at *
      obtain ⟨m, rfl⟩ : ∃ m, n = m + 2 := ⟨n - 2, by omega⟩
      obtain ⟨gu, cur, rfl, hgub, hgk, hcur, hcl, hcle⟩ := own_bk hou4' (by omega)
      have hgu4 := hgk.lt
      have hgk5 := hgk.below hB5 hgu4
      have hSv := own_sl hov
      have hvlo := own_block hov
      refine al U rfl rfl rfl rfl ?_
      intro b9 w6 hb9 hs6 hk9 hg6
      refine al U rfl rfl rfl rfl ?_
      intro b10 w7 hb10 hs7 hk10 hg7
      have hk9 := hk9.keep hg7 (by simp)
      refine st U rfl rfl rfl rfl rfl rfl rfl rfl rfl rfl (hk9) ?_
      intro w8 hk9 hg8 hs8
      have hk10 := hk10.keep hg8 (by simp; omega)
      refine st U rfl rfl rfl rfl rfl rfl rfl rfl rfl rfl (hk10) ?_
      intro w9 hk10 hg9 hs9
      have hk9 := hk9.keep hg9 (by simp; omega)
      have hB4s := hB4.size
      have hB5s := hB5.size
      have hB9 : Below w5.heap.size w5 w9 := ((((Below.refl _ w5).grown hg6 (Nat.le_refl _) (fun k e => by cases e)).grown hg7 (by omega) (fun k e => by cases e)).grown hg8 (by omega) (fun k e => by cases e; omega)).grown hg9 (by omega) (fun k e => by cases e; omega)
      have hgk9 := hgk5.below hB9 (by omega)
      have hks9 := hks5.below hB9 hks5.lt
      have hSv9 := hSv.below hB9 (fun g hg => (hvlo g hg).2)
      have hB9' := bl_tr hB5' hB9 hB5'.size
      have hcurl : cur = u0.map u64 ++ cur.drop (L0 + 1) := by rw [← hcur, List.take_append_drop]
      generalize htl : cur.drop (L0 + 1) = tl at *
      subst hcurl
      refine dr U 600 rfl trivial ?_
      refine loopR (fun l w' mu => l = [(0, .slice a (lim p).length c), (8, .slice (some ⟨w1.heap.size, 0, none⟩) 1 1), (9, .pointer (some ⟨b9, 0, none⟩)), (10, .pointer (some ⟨b10, 0, none⟩))] ∧ w9 = w') (m0 := 0) ⟨rfl, rfl⟩ ⟨rfl, rfl, rfl, rfl, trivial⟩ ?_
      rintro l w' mu ⟨rfl, rfl⟩
      refine dr U 600 rfl trivial ?_
      refine ld U rfl rfl rfl rfl ((hk9).cell rfl) ?_
      refine dr U 600 rfl trivial ?_
      refine cF rfl rfl rfl (by omega) ?_
      refine dr U 600 rfl trivial ?_
      refine ld U rfl rfl rfl rfl ((hk10).cell rfl) ?_
      refine dr U 600 rfl trivial ?_
      refine al U rfl rfl rfl rfl ?_
      intro b11 w10 hb11 hs10 hk11 hg10
      refine st U rfl rfl rfl rfl rfl rfl rfl rfl rfl rfl (hk11) ?_
      intro w11 hk11 hg11 hs11
      have hk9 := (hk9.keep hg10 (by simp)).keep hg11 (by simp; omega)
      have hk10 := (hk10.keep hg10 (by simp)).keep hg11 (by simp; omega)
      refine dr U 600 rfl trivial ?_
      refine ld U rfl rfl rfl rfl ((hk9).cell rfl) ?_
      refine dr U 600 rfl trivial ?_
      refine ld U rfl rfl rfl rfl ((hk11).cell rfl) ?_
      refine dr U 600 rfl (by first | exact True.intro | (simp only [AllP, InR, List.nil_append, List.cons_append, and_true]; omega)) ?_
      refine mkn U rfl rfl rfl rfl rfl rfl rfl (L0 + 1 - (m + 2)) (by omega) (by omega) (by omega) (by omega) w11.heap.size (Nat.le_refl _) ?_
      intro aq w12 hoq hg12
      rw [rep_u64] at hoq
      have hs12 := hg12.size
      have hqb := own_block hoq
      refine al U rfl rfl rfl rfl ?_
      intro b12 w13 hb12 hs13 hk12 hg13
      have hoq := own_keep hoq hg13 (by simp)
      refine st U rfl rfl rfl rfl rfl rfl rfl rfl rfl rfl (hk12) ?_
      intro w14 hk12 hg14 hs14
      have hoq := own_keep hoq hg14 (fun g hg => by have := hqb g hg; simp; omega)
      have hk9 := ((hk9.keep hg12 (by simp)).keep hg13 (by simp)).keep hg14 (by simp; omega)
      have hk10 := ((hk10.keep hg12 (by simp)).keep hg13 (by simp)).keep hg14 (by simp; omega)
      have hk11 := ((hk11.keep hg12 (by simp)).keep hg13 (by simp)).keep hg14 (by simp; omega)
      have hB14 : Below w9.heap.size w9 w14 := ((((Below.refl _ w9).grown hg10 (Nat.le_refl _) (fun k e => by cases e)).grown hg11 (by omega) (fun k e => by cases e; omega)).grown hg12 (by omega) (fun k e => by cases e)).grown hg13 (by omega) (fun k e => by cases e) |>.grown hg14 (by omega) (fun k e => by cases e; omega)
      have hB9s := hB9.size
      have hgk14 := hgk9.below hB14 (by omega)
      have hks14 := hks9.below hB14 (by have := hks5.lt; omega)
      have hSv14 := hSv9.below hB14 (fun g hg => by have := (hvlo g hg).2; omega)
      have hB14' := bl_tr hB9' hB14 hB9'.size
      refine dr U 600 rfl trivial ?_
      refine ld U rfl rfl rfl rfl ((hk12).cell rfl) ?_
      refine dr U 600 rfl trivial ?_
      refine call (f := 131) rfl rfl cb131 (back_calls _ _ _ w14) ?_
      rintro v w15 ⟨rfl, hs15, hk15, hg15⟩
      refine ⟨_, rfl, ?_⟩
      refine dr U 600 rfl trivial ?_
      have hoq := own_keep hoq hg15 (by simp)
      have hk9 := hk9.keep hg15 (by simp)
      have hk10 := hk10.keep hg15 (by simp)
      have hk11 := hk11.keep hg15 (by simp)
      have hk12 := hk12.keep hg15 (by simp)
      have hgk15 := hgk14.keep hg15 (by simp)
      have hks15 := hks14.keep hg15 (by simp)
      have hSv15 := hSv14.keep hg15 (by simp)
      have hB15 := hB14'.grown hg15 hB14'.size (fun k e => by cases e)
      have hvg : ∀ g, ab av = some g → g ≠ gu ∧ g < b9 := fun g hg => by have := hvlo g hg; omega
      have hV0 : 0 < q * s := by omega
      have hVn : q * s ≤ pw (m + 2) := Nat.le_of_lt hvb
      have hVlo : pw (m + 1) ≤ q * s := hvb2 (m + 1) rfl
      have hqvs : val vs = q * s := hvv
      clear hgk hgk5 hgk9 hgk14 hks hks3 hks4 hks5 hks9 hks14 hSv hSv9 hSv14 hou hou4 hou4' hm1 hm2 hrs hrs4 hov
      refine rng rfl cb146 rfl (back_seq aq (L0 + 1 - (m + 2)) (L0 + 1 - (m + 2)) w14.heap.size (fun _ _ => True) (fun w => Bk w w14.heap.size 103 [.slice aq (L0 + 1 - (m + 2)) (L0 + 1 - (m + 2))] ∧ ∃ vs, Sl w aq vs ∧ vs.length = L0 + 1 - (m + 2)) (by omega) (fun w h => by
          obtain ⟨h1, vs, h2, h3⟩ := h
          exact ⟨h1, vs, h2, h3, fun _ _ _ => trivial⟩))
        (fun k vs h => by obtain ⟨v, rfl, _⟩ := h; rfl)
        (fun j W => ∃ rs zs qd, j ≤ L0 + 1 - (m + 2) ∧ rs.length = m + 2 ∧ zs.length = j ∧ Lm rs ∧ val rs < q * s ∧ qd.length = j ∧ Lm qd ∧ val (u0.drop (L0 + 1 - (m + 2) - j)) = val qd * (q * s) + val rs ∧
          Bk W gu 142 ((u0.take (L0 + 1 - (m + 2) - j) ++ rs ++ zs).map u64 ++ tl) ∧ W.ownsRow w11.heap.size 142 1 (.slice aq (L0 + 1 - (m + 2)) (L0 + 1 - (m + 2))) (L0 + 1 - (m + 2)) ((List.replicate (L0 + 1 - (m + 2) - j) 0 ++ qd).map u64) ∧
          Bk W b9 103 [.slice (some ⟨gu, 0, none⟩) (L0 + 1) cu] ∧ Bk W b10 103 [.slice av (m + 2) cv] ∧ Bk W b11 3 [.int .i64 ((m + 2 : Nat) : Int)] ∧ Bk W b12 103 [.slice aq (L0 + 1 - (m + 2)) (L0 + 1 - (m + 2))] ∧
          Bk W w1.heap.size 142 [u64 s] ∧ Sl W av (vs.map u64) ∧ Below w.heap.size w W)
        (fun cd W => False)
        (fun j => OwnB.ex fun rs => OwnB.ex fun zs => OwnB.ex fun qd => (OwnB.pure _ _).and ((OwnB.pure _ _).and ((OwnB.pure _ _).and ((OwnB.pure _ _).and ((OwnB.pure _ _).and ((OwnB.pure _ _).and ((OwnB.pure _ _).and ((OwnB.pure _ _).and ((OwnB.bk _ _ _ _).and ((OwnB.own _ _ _ _ _ _ _ _).and
          ((OwnB.bk _ _ _ _).and ((OwnB.bk _ _ _ _).and ((OwnB.bk _ _ _ _).and ((OwnB.bk _ _ _ _).and ((OwnB.bk _ _ _ _).and ((OwnB.sl _ _ _).and (OwnB.below _ hB15.size (Nat.le_refl _))))))))))))))))))
        (fun cd => OwnB.pure _ _)
        ((OwnB.bk _ _ _ _).and (OwnB.ex fun vs => (OwnB.sl _ _ _).and (OwnB.pure _ _))) ⟨u0.drop (L0 + 1 - (m + 2)), [], [], by omega, ?_, rfl, hum0.drop _, ?_, rfl, Lm.nil, ?_, ?_, ?_, hk9, hk10, hk11, hk12, hks15, hSv15, hB15⟩ ⟨hk15, _, own_sl hoq, ?_⟩
        (fun vs => [(13, vs.headD undef), (9, .pointer (some ⟨b9, 0, none⟩)), (10, .pointer (some ⟨b10, 0, none⟩)), (11, .pointer (some ⟨b11, 0, none⟩)), (12, .pointer (some ⟨b12, 0, none⟩))]) ?_ ?_ ?_ (fun _ _ _ _ h => h.elim)
      · simp [hul0]; omega
      · have := hu0top (m + 1) rfl (by omega)
        rw [show L0 - (m + 1) = L0 + 1 - (m + 2) by omega] at this
        omega
      · simp [val]
      · simpa using hgk15
      · simpa using hoq
      · simp
      · rintro L j vs W ⟨v, rfl, _⟩
        refine dr U 600 rfl trivial ?_
        exact asg ⟨rfl, rfl, rfl, rfl, rfl, trivial⟩
      · rintro L j args W hj ⟨v, rfl, _⟩ ⟨rs, zs, qd, hj2, hrl, hzl, hrm, hrv, hql, hqm, hrel, hgk, hoq, hk9, hk10, hk11, hk12, hks, hSv, hB⟩ ⟨hk15, _, _, _⟩ hsz
        have hi : L0 + 1 - (m + 2) - 1 - j < L0 + 1 - (m + 2) := by omega
        have hi2 : L0 + 1 - (m + 2) - 1 - j < u0.length := by omega
        have hji : L0 + 1 - (m + 2) - (j + 1) = L0 + 1 - (m + 2) - 1 - j := by omega
        rw [show L0 + 1 - (m + 2) - j = L0 + 1 - (m + 2) - 1 - j + 1 by omega] at hrel hgk hoq
        generalize hii : L0 + 1 - (m + 2) - 1 - j = i at *
        have hx1 := hum0.getD i
        have htk := take_snoc u0 i hi2
        have hstep := dm_step hi2 rfl hrel
        generalize hxe : u0.getD i 0 = x at *
        have hlt := dm_lt hx1 hrv
        have hqlt := Nat.div_lt_of_lt_mul hlt
        have hrlt := Nat.mod_lt (val (x :: rs)) hV0
        have hgk' : Bk W gu 142 ((u0.take i).map u64 ++ (x :: rs).map u64 ++ (zs.map u64 ++ tl)) := by
          rw [htk] at hgk; simpa using hgk
        have hpl : ((u0.take i).map u64).length = i := by simp; omega
        obtain ⟨gq, curq, rfl, hgqb, hgqk, _, _, _⟩ := own_bk hoq (by omega)
        have hgq12 := hqb gq rfl
        have hq9 := hk9.cell (off := 0) rfl
        have hq10 := hk10.cell (off := 0) rfl
        have hq11 := hk11.cell (off := 0) rfl
        have hq12 := hk12.cell (off := 0) rfl
        refine dr U 600 rfl trivial ?_
        refine dwn 12 (fun w' => w'.cell? ⟨b12, 0, none⟩ = some (.slice (some ⟨gq, 0, none⟩) (L0 + 1 - (m + 2)) (L0 + 1 - (m + 2))) ∧ w'.cell? ⟨b9, 0, none⟩ = some (.slice (some ⟨gu, 0, none⟩) (L0 + 1) cu) ∧ w'.cell? ⟨b11, 0, none⟩ = some (.int .i64 ((m + 2 : Nat) : Int)) ∧ w'.cell? ⟨b10, 0, none⟩ = some (.slice av (m + 2) cv)) hmo ?_
        intro w16 hh hg16
        have hC : w16.cell? ⟨b12, 0, none⟩ = some (.slice (some ⟨gq, 0, none⟩) (L0 + 1 - (m + 2)) (L0 + 1 - (m + 2))) ∧ w16.cell? ⟨b9, 0, none⟩ = some (.slice (some ⟨gu, 0, none⟩) (L0 + 1) cu) ∧ w16.cell? ⟨b11, 0, none⟩ = some (.int .i64 ((m + 2 : Nat) : Int)) ∧ w16.cell? ⟨b10, 0, none⟩ = some (.slice av (m + 2) cv) :=
          ⟨cell_heap hh hq12, cell_heap hh hq9, cell_heap hh hq11, cell_heap hh hq10⟩
        refine dq U [0,1,2,3,4,5,6,7,8,9] [(0, .slice (some ⟨gq, 0, none⟩) (L0 + 1 - (m + 2)) (L0 + 1 - (m + 2))), (2, .slice (some ⟨gu, 0, none⟩) (L0 + 1) cu), (5, .int .i64 ((m + 2 : Nat) : Int)), (9, .slice av (m + 2) cv)] (by kernel_rfl) rfl rfl hC (by simp only [AllP, InR, List.nil_append, List.cons_append]; (repeat' apply And.intro); all_goals first | exact True.intro | omega | (simp only [List.length_cons, List.length_nil]; omega) | (intro w_ hw_; refine ldC U rfl hw_ ?_; first | assumption | (simp [add_plain]; assumption)) | (intro w_ hw_; refine run_load_cell U rfl ?_; first | exact hw_ | exact hw_.1 | exact hw_.2 | exact hw_.2.1 | exact hw_.2.2 | exact hw_.2.2.1 | exact hw_.2.2.2 | (simp [add_plain]; first | exact hw_.1 | exact hw_.2.1 | exact hw_.2.2))) ?_
        refine d1 rfl rfl (fun _ => hC) ?_
        have hest := estimate_calls gu m (cu - i) cv av (x :: rs) vs ((u0.take i).map u64) (zs.map u64 ++ tl) w16 (heap_bk hh hgk') (heap_sl hh hSv) (fun e => (hvg gu e).1 rfl) (by simp [hrl]) hn (Lm.cons hx1 hrm) hvm (by simpa using hvt) (by rw [hqvs]; exact hlt) (by omega)
        rw [hpl] at hest
        have hcast : ∀ R, Calls Tryz.prog 148 #[.slice (some ⟨gu, i, none⟩) (m + 3) (cu - i), .slice av (m + 2) cv] w16 R → Calls Tryz.prog 148 #[.slice (sadd (some ⟨gu, 0, none⟩) cu ((i : Int)).toNat 1) (((i : Int) + ((m + 2 : Nat) : Int) + 1).toNat - ((i : Int)).toNat) (cu - ((i : Int)).toNat), .slice av (m + 2) cv] w16 R := fun R h => by
          rw [show sadd (some ⟨gu, 0, none⟩) cu ((i : Int)).toNat 1 = some ⟨gu, i, none⟩ from by
              unfold sadd; rw [if_neg (by omega)]; simp [add_plain],
            show ((i : Int) + ((m + 2 : Nat) : Int) + 1).toNat - ((i : Int)).toNat = m + 3 from by omega, show cu - ((i : Int)).toNat = cu - i from by omega]
          exact h
        refine call (f := 148) rfl rfl cb148 (hcast _ hest) ?_
        rintro v w17 ⟨rfl, us', hul', hum', huv', hgk17, hg17⟩
        rw [hqvs] at huv'
        refine ⟨_, rfl, d2 ?_⟩
        have hg16b := fun row => gb_none row hg16
        have keepW : ∀ {b t cs}, Bk W b t cs → b ≠ gu → Bk w17 b t cs := fun h hne => (heap_bk hh h).keep hg17 (by simpa using fun e => hne e.symm)
        have hk9n := keepW hk9 (by omega)
        have hk10n := keepW hk10 (by omega)
        have hk11n := keepW hk11 (by omega)
        have hk12n := keepW hk12 (by omega)
        have hksn := keepW hks (by omega)
        have hk15n := keepW hk15 (by omega)
        have hSvn := (heap_sl hh hSv).keep hg17 (fun g hg => by have := (hvg g hg).1; simpa using fun e => this e.symm)
        have hoq17 := own_keep (own_keep hoq hg16 (by simp)) hg17 (fun g hg => by simp [ab] at hg; simp; omega)
        refine dq U [11] [] (by kernel_rfl) rfl rfl ⟨hk12n.cell rfl, hk9n.cell rfl, hk11n.cell rfl, hk10n.cell rfl⟩ (by simp only [AllP, InR, List.nil_append, List.cons_append]; (repeat' apply And.intro); all_goals first | exact True.intro | omega | (simp only [List.length_cons, List.length_nil]; omega) | (intro w_ hw_; refine ldC U rfl hw_ ?_; first | assumption | (simp [add_plain]; assumption)) | (intro w_ hw_; refine run_load_cell U rfl ?_; first | exact hw_ | exact hw_.1 | exact hw_.2 | exact hw_.2.1 | exact hw_.2.2 | exact hw_.2.2.1 | exact hw_.2.2.2 | (simp [add_plain]; first | exact hw_.1 | exact hw_.2.1 | exact hw_.2.2))) ?_
        refine d1 rfl rfl (fun _ => ⟨hk12n.cell rfl, hk9n.cell rfl, hk11n.cell rfl, hk10n.cell rfl⟩) ?_
        refine so U (v := (u64 (val (x :: rs) / val vs))) rfl rfl rfl rfl rfl rfl rfl i (by simp [add_plain]) hi hoq17 ?_
        intro w18 hoq18 hg18 hs18
        refine d2 ?_; refine dend rfl (fun h => by cases h) ?_
        refine dr U 600 rfl trivial ?_
        obtain ⟨hlast, hlv⟩ := last0 hul' (by rw [huv']; exact hrlt) hVn
        have hKO : KeepsOthers W w18 := ko_grown (ko_grown (ko_grown (KeepsOthers.refl W) hg16 (fun k e => by cases e)) hg17 (fun k e => by cases e; exact ⟨_, _, _, heap_bk hh hgk'⟩)) hg18 (fun k e => by cases e; exact own_cells hoq17 _ rfl)
        have hz16 : w16.heap.size = W.heap.size := by rw [hh]
        have hz17 := hg17.size
        have hBs := hB.size
        have hB1s := hB1.size
        have hB18 := ((hB.grown hg16 hB.size (fun k e => by cases e)).grown hg17 (by omega) (fun k e => by cases e; omega)).grown hg18 (by omega) (fun k e => by cases e; omega)
        have keepQ : ∀ {b t cs}, Bk w17 b t cs → b ≠ gq → Bk w18 b t cs := fun h hne => h.keep hg18 (by simpa using fun e => hne e.symm)
        rw [set_u64, small_set, hqvs] at hoq18
        rw [hji]
        refine rnd ⟨hKO, ⟨us'.take (m + 2), 0 :: zs, val (x :: rs) / (q * s) :: qd, by omega, by simp [hul'], by simp [hzl], hum'.take _, by rw [hlv, huv']; exact hrlt, by simp [hql], Lm.cons hqlt hqm, by rw [hlv, huv']; exact hstep, ?_, hoq18,
          keepQ hk9n (by omega), keepQ hk10n (by omega), keepQ hk11n (by omega), keepQ hk12n (by omega), keepQ hksn (by omega), hSvn.keep hg18 (fun g hg => by have := (hvg g hg).2; simp; omega), hB18⟩, keepQ hk15n (by omega), _, own_sl hoq18, ?_⟩
        · have h1 := keepQ hgk17 (by omega)
          rw [hlast] at h1
          simpa using h1
        · have := own_len hoq18
          exact this
      · rintro D W hD ⟨rs, zs, qd, hj2, hrl, hzl, hrm, hrv, hql, hqm, hrel, hgk, hoq, hk9, hk10, hk11, hk12, hks, hSv, hB⟩ hK
        rw [Nat.sub_self] at hrel hgk hoq
        simp only [List.replicate_zero, List.nil_append] at hoq
        rw [List.drop_zero] at hrel
        rw [huv0] at hrel
        have hdiv : p / q = val qd ∧ s * (p % q) = val rs := by
          have h1 : p * s / (q * s) = val qd := by
            rw [hrel, Nat.mul_comm (val qd), Nat.mul_add_div hV0, Nat.div_eq_of_lt hrv]; rfl
          have h2 : p * s % (q * s) = val rs := by
            rw [hrel, Nat.mul_comm (val qd), Nat.mul_add_mod, Nat.mod_eq_of_lt hrv]
          rw [Nat.mul_div_mul_right _ _ hspos] at h1
          rw [Nat.mul_mod_mul_right, Nat.mul_comm] at h2
          exact ⟨h1, h2⟩
        have hq9 := hk9.cell (off := 0) rfl
        have hq11 := hk11.cell (off := 0) rfl
        have hqs := hks.cell (off := 0) rfl
        have hgk' : Bk W gu 142 ([] ++ rs.map u64 ++ (zs.map u64 ++ tl)) := by simpa using hgk
        have hSr : Sl W (some ⟨gu, 0, none⟩) (rs.map u64) := by
          have := (bk_view hgk').take (m + 2)
          rwa [List.take_left' (by simpa using hrl)] at this
        refine dr U 600 rfl trivial ?_
        refine dwn 12 (fun w' => w'.cell? ⟨b9, 0, none⟩ = some (.slice (some ⟨gu, 0, none⟩) (L0 + 1) cu) ∧ w'.cell? ⟨b11, 0, none⟩ = some (.int .i64 ((m + 2 : Nat) : Int)) ∧ w'.cell? ⟨w1.heap.size, 0, none⟩ = some (u64 s)) hmo ?_
        intro w16 hh hg16
        have hC : w16.cell? ⟨b9, 0, none⟩ = some (.slice (some ⟨gu, 0, none⟩) (L0 + 1) cu) ∧ w16.cell? ⟨b11, 0, none⟩ = some (.int .i64 ((m + 2 : Nat) : Int)) ∧ w16.cell? ⟨w1.heap.size, 0, none⟩ = some (u64 s) :=
          ⟨cell_heap hh hq9, cell_heap hh hq11, cell_heap hh hqs⟩
        refine dq U [0,1,2,4,5,6] [(0, .slice (some ⟨gu, 0, none⟩) (L0 + 1) cu), (1, .int .i64 ((m + 2 : Nat) : Int)), (6, u64 s)] (by kernel_rfl) rfl rfl hC (by simp only [AllP, InR, List.nil_append, List.cons_append]; (repeat' apply And.intro); all_goals first | exact True.intro | omega | (simp only [List.length_cons, List.length_nil]; omega) | (intro w_ hw_; refine ldC U rfl hw_ ?_; first | assumption | (simp [add_plain]; assumption)) | (intro w_ hw_; refine run_load_cell U rfl ?_; first | exact hw_ | exact hw_.1 | exact hw_.2 | exact hw_.2.1 | exact hw_.2.2 | exact hw_.2.2.1 | exact hw_.2.2.2 | (simp [add_plain]; first | exact hw_.1 | exact hw_.2.1 | exact hw_.2.2))) ?_
        refine d1 rfl rfl (fun _ => hC) ?_
        have hRr : Rd w16 (some ⟨gu, 0, none⟩) cu rs := ⟨heap_sl hh hSr, by omega, fun g hg => by simp [ab] at hg; subst hg; exact hgk.tg.heap hh⟩
        have htrim := trim_calls rs (some ⟨gu, 0, none⟩) cu w16 hRr (by omega)
        rw [hrl, trimN_eq hrm, ← hdiv.2] at htrim
        refine call (f := 134) rfl rfl cb134 htrim ?_
        rintro v w17 ⟨rfl, rfl⟩
        refine ⟨_, rfl, d2 ?_⟩
        refine d1 rfl rfl (fun _ => hC) ?_
        have hpre : ∃ t, rs = lim (s * (p % q)) ++ t := by rw [hdiv.2, ← trimN_eq hrm]; exact trimN_prefix rs
        have hRt : Rd w16 (some ⟨gu, 0, none⟩) cu (lim (s * (p % q))) := by
          obtain ⟨t, ht⟩ := hpre
          refine ⟨?_, by have := congrArg List.length ht; simp at this; omega, hRr.2.2⟩
          have := hRr.1.take (lim (s * (p % q))).length
          rwa [ht, List.map_append, List.take_left' (by simp)] at this
        have hltl : (lim (s * (p % q))).length ≤ m + 2 := by
          obtain ⟨t, ht⟩ := hpre
          have := congrArg List.length ht; simp at this; omega
        refine call (f := 147) rfl rfl cb147 (small_calls (s * (p % q)) s hspos hslt (some ⟨gu, 0, none⟩) cu w16 hRt (by omega)) ?_
        rintro v w17 ⟨v1, rfl, hown⟩
        rw [Nat.mul_div_cancel_left _ hspos] at hown
        have hr17 := hown.red
        obtain ⟨_, _, _, _, hB17⟩ := hown
        refine ⟨_, rfl, d2 ?_⟩
        have hlt16 : ∀ {b t cs}, Bk W b t cs → b < w16.heap.size := fun h => by rw [hh]; exact h.lt
        have hk12n := (heap_bk hh hk12).below hB17 (hlt16 hk12)
        have hC17 : w17.cell? ⟨b9, 0, none⟩ = some (.slice (some ⟨gu, 0, none⟩) (L0 + 1) cu) ∧ w17.cell? ⟨b11, 0, none⟩ = some (.int .i64 ((m + 2 : Nat) : Int)) ∧ w17.cell? ⟨w1.heap.size, 0, none⟩ = some (u64 s) :=
          ⟨((heap_bk hh hk9).below hB17 (hlt16 hk9)).cell rfl, ((heap_bk hh hk11).below hB17 (hlt16 hk11)).cell rfl, ((heap_bk hh hks).below hB17 (hlt16 hks)).cell rfl⟩
        refine dq U [8,9,10,11] [] (by kernel_rfl) rfl rfl hC17 (by simp only [AllP, InR, List.nil_append, List.cons_append]; (repeat' apply And.intro); all_goals first | exact True.intro | omega | (simp only [List.length_cons, List.length_nil]; omega) | (intro w_ hw_; refine ldC U rfl hw_ ?_; first | assumption | (simp [add_plain]; assumption)) | (intro w_ hw_; refine run_load_cell U rfl ?_; first | exact hw_ | exact hw_.1 | exact hw_.2 | exact hw_.2.1 | exact hw_.2.2 | exact hw_.2.2.1 | exact hw_.2.2.2 | (simp [add_plain]; first | exact hw_.1 | exact hw_.2.1 | exact hw_.2.2))) ?_
        refine d1 rfl rfl (fun _ => hC17) ?_
        refine dr U 600 rfl trivial ?_
        refine d3 ?_; refine dend rfl (fun h => by cases h) ?_
        refine dr U 600 rfl trivial ?_
        refine ld U rfl rfl rfl rfl ((hk12n).cell rfl) ?_
        refine dr U 600 rfl trivial ?_
        have hoq16 := own_keep hoq hg16 (by simp)
        have hRq : Rd w17 aq (L0 + 1 - (m + 2)) qd := (own_rd hoq16).below hB17
        have htq := trim_calls qd aq (L0 + 1 - (m + 2)) w17 hRq (by omega)
        rw [hql, trimN_eq hqm, ← hdiv.1] at htq
        refine call (f := 134) rfl rfl cb134 htq ?_
        rintro v w18 ⟨rfl, rfl⟩
        refine ⟨_, rfl, ?_⟩
        refine dr U 600 rfl trivial ?_
        have hK16 : w16.heap[D]? = some (.deferred (some [])) := by rw [hh]; exact hK
        have hK17 : w17.heap[D]? = some (.deferred (some [])) := by rw [hB17.block D (Array.getElem?_eq_some_iff.1 hK16).1]; exact hK16
        have hgp := grownBy_putObj' w17 D (.deferred none)
        have hB16 := hB.grown hg16 hB.size (fun k e => by cases e)
        have hB18 := (bl_tr hB16 hB17 hB16.size).grown hgp (bl_tr hB16 hB17 hB16.size).size (fun k e => by cases e; have := hB15.size; omega)
        have hRdP : ∀ {a c zs}, Rd w17 a c zs → Rd (w17.putObj D (.deferred none)) a c zs := fun h => ⟨(OwnB.sl 0 _ _) w17 _ (some D) h.1 hgp (fun r e => by cases e; exact ⟨Nat.zero_le _, _, hK17, rfl⟩), h.2.1, fun g hg => (h.2.2 g hg).grown hgp (by intro e; cases e; obtain ⟨c, z, h⟩ := h.2.2 _ hg; rw [hK17] at h; cases h)⟩
        refine retM1 U Tryz.results133 (vs := [_, _]) hK17 ⟨rfl, rfl, trivial⟩ ⟨_, rfl, _, _, rfl, ?_, ?_, hB18⟩
        · have hpq : ∃ t, qd = lim (p / q) ++ t := by rw [hdiv.1, ← trimN_eq hqm]; exact trimN_prefix qd
          obtain ⟨t, ht⟩ := hpq
          refine ⟨_, _, rfl, hRdP ⟨?_, by have := congrArg List.length ht; simp at this; omega, hRq.2.2⟩⟩
          have := hRq.1.take (lim (p / q)).length
          rwa [ht, List.map_append, List.take_left' (by simp)] at this
        · obtain ⟨a2, c2, rfl, hr2⟩ := hr17
          exact ⟨_, _, rfl, hRdP hr2⟩
end Go.Proofs.YtfdekppnilffeaaGreatDoor
end
