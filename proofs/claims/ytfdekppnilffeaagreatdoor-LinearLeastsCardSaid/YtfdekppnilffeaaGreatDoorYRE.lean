/-
  Walk of the reference's step, one digit of a long division.
  Conditions: as the theorem says (a divisor of at least two limbs, the highest not 0; the number is below the divisor times the base).

  Walks of the reference's limbs: Divide, Common.
  Conditions: fewer than 2^36 limbs; the divisor is not 0.
-/
import Derived.Test.YtfdekppnilffeaaGreatDoorYEng
import Derived.Test.YtfdekppnilffeaaGreatDoorYRA
section
set_option linter.unusedSimpArgs false
set_option linter.unusedVariables false
set_option maxHeartbeats 2000000
namespace Go.Proofs.YtfdekppnilffeaaGreatDoor
open Go Go.Proofs Go.RowKit Go.Lib

theorem getIA {xs : List Nat} {post : List Value} {j : Nat} (h : j < xs.length) : (xs.map i64n ++ post)[j]? = some (i64n (xs.getD j 0)) := by
  rw [List.getElem?_append_left (by simpa using h)]; exact getI h
theorem bk_viewI {w : World} {g t : Nat} {pre post : List Value} {us : List Nat} (h : Bk w g t (pre ++ us.map i64n ++ post)) : Sl w (some ⟨g, pre.length, none⟩) (us.map i64n ++ post) := by
  have := h.sl pre.length
  rwa [List.append_assoc, List.drop_left' rfl] at this
theorem set_viewI (pre post : List Value) (us : List Nat) (i z : Nat) (hi : i < us.length) : (pre ++ us.map i64n ++ post).set (pre.length + i) (i64n z) = pre ++ (us.set i z).map i64n ++ post := by
  rw [List.append_assoc, List.set_append_right _ _ (by omega), List.append_assoc]
  rw [show pre.length + i - pre.length = i by omega, List.set_append_left _ _ (by simpa using hi), set_i64n]

theorem rsub_step {cs us vs : List Nat} {i g bo : Nat} (hv : i < vs.length) (hi : i < cs.length) (hl : cs.length = us.length) (h : val (cs.take i) + g * val (vs.take i) = val (us.take i) + bo * pw i) (z bo' : Nat)
    (hz : z + g * vs.getD i 0 + bo = us.getD i 0 + bo' * 1000000000) : val ((cs.set i z).take (i + 1)) + g * val (vs.take (i + 1)) = val (us.take (i + 1)) + bo' * pw (i + 1) := by
  rw [set_take_succ _ _ _ hi, val_snoc, val_take_succ vs i hv, val_take_succ us i (by omega), pw_succ]
  have hlen : (cs.take i).length = i := by simp; omega
  rw [hlen]
  generalize us.getD i 0 = x at *
  generalize vs.getD i 0 = y at *
  have e2 : pw i * z + pw i * (g * y) + pw i * bo = pw i * x + bo' * (1000000000 * pw i) := by
    have h1 : bo' * (1000000000 * pw i) = pw i * (bo' * 1000000000) := by rw [← Nat.mul_assoc, Nat.mul_comm]
    rw [h1, ← Nat.mul_add, ← Nat.mul_add, ← Nat.mul_add, hz]
  have e3 : g * (val (vs.take i) + pw i * y) = g * val (vs.take i) + pw i * (g * y) := by rw [Nat.mul_add, Nat.mul_left_comm]
  rw [Nat.mul_comm bo] at h
  omega

/-- A number with its highest limb replaced. -/
def vw (ds : List Nat) (post : List Value) (n : Nat) (v : Value) : List Value := (ds.map i64n ++ post).set n v
theorem vw_get {ds : List Nat} {post : List Value} {n : Nat} {v : Value} {i : Nat} (hi : i < ds.length) (hne : i ≠ n) : (vw ds post n v)[i]? = some (i64n (ds.getD i 0)) := by
  unfold vw
  rw [List.getElem?_set_ne (fun e => hne e.symm)]; exact getIA hi
theorem vw_top {ds : List Nat} {post : List Value} {n : Nat} {v : Value} (hn : n < ds.length) : (vw ds post n v)[n]? = some v := by
  unfold vw
  rw [List.getElem?_set_self (by simp; omega)]
theorem vw_set {pre post : List Value} {ds : List Nat} {n : Nat} {v : Value} {i z : Nat} (hi : i < ds.length) (hne : i ≠ n) : (pre ++ vw ds post n v).set (pre.length + i) (i64n z) = pre ++ vw (ds.set i z) post n v := by
  unfold vw
  rw [List.set_append_right _ _ (by omega), show pre.length + i - pre.length = i by omega, List.set_comm _ _ (fun e => hne e.symm), List.set_append_left _ _ (by simpa using hi), set_i64n]
theorem vw_set_top {pre post : List Value} {ds : List Nat} {n : Nat} {v u : Value} : (pre ++ vw ds post n v).set (pre.length + n) u = pre ++ vw ds post n u := by
  unfold vw
  rw [List.set_append_right _ _ (by omega), show pre.length + n - pre.length = n by omega, List.set_set]
theorem vw_nat {ds : List Nat} {post : List Value} {n z : Nat} (hn : n < ds.length) : vw ds post n (i64n z) = (ds.set n z).map i64n ++ post := by
  unfold vw
  rw [List.set_append_left _ _ (by simpa using hn), set_i64n]
theorem vw_begin {pre post : List Value} {ds : List Nat} {n : Nat} {v : Value} (hn : n < ds.length) : (pre ++ ds.map i64n ++ post).set (pre.length + n) v = pre ++ vw ds post n v := by
  unfold vw
  rw [List.append_assoc, List.set_append_right _ _ (by omega), show pre.length + n - pre.length = n by omega]
theorem vw_len {ds : List Nat} {post : List Value} {n : Nat} {v : Value} : (vw ds post n v).length = ds.length + post.length := by unfold vw; simp
theorem bk_vw {w : World} {g t : Nat} {pre xs : List Value} (h : Bk w g t (pre ++ xs)) : Sl w (some ⟨g, pre.length, none⟩) xs := by
  have := h.sl pre.length
  rwa [List.drop_left' rfl] at this



theorem step_calls (g m c cv : Nat) (av : Option Addr) (us vs : List Nat) (pre post : List Value) (w : World)
    (hB : Bk w g 3 (pre ++ us.map i64n ++ post)) (hV : Sl w av (vs.map i64n)) (hav : ab av ≠ some g)
    (hul : us.length = m + 3) (hvl : vs.length = m + 2) (hum : Lm us) (hvm : Lm vs) (htop : 0 < vs.getD (m + 1) 0) (hUV : val us < val vs * 1000000000) (hm : m ≤ 1099511627776) :
    Calls Tryz.prog 139 #[.slice (some ⟨g, pre.length, none⟩) (m + 3) c, .slice av (m + 2) cv] w
      (Ret fun v w' => v = i64n (val us / val vs) ∧ ∃ us', us'.length = m + 3 ∧ Lm us' ∧ val us' = val us % val vs ∧ Bk w' g 3 (pre ++ us'.map i64n ++ post) ∧ w.grownBy w' (some g)) := by
  have hSu := bk_viewI hB
  obtain ⟨gv, ov, rfl, _⟩ := hV 0 _ (getI (by omega))
  have hgv : gv ≠ g := by intro e; exact hav (by rw [e]; rfl)
  have hb1 := hvm.getD (m + 1)
  have hb2 := hvm.getD m
  have hu0 := hum.getD (m + 2)
  have hu1 := hum.getD (m + 1)
  have hu2 := hum.getD m
  have hcu0 : ∀ w' : World, w'.heap = w.heap → w'.cell? ((⟨g, pre.length, none⟩ : Addr).add (((m + 2 : Nat) : Int).toNat * 1)) = some (i64n (us.getD (m + 2) 0)) := fun w' h => cell_heap h (slAt hSu (m + 2) (by omega) (getIA (by omega)))
  have hcu1 : ∀ w' : World, w'.heap = w.heap → w'.cell? ((⟨g, pre.length, none⟩ : Addr).add ((((m + 2 : Nat) : Int) - 1).toNat * 1)) = some (i64n (us.getD (m + 1) 0)) := fun w' h => cell_heap h (slAt hSu (m + 1) (by omega) (getIA (by omega)))
  have hcu2 : ∀ w' : World, w'.heap = w.heap → w'.cell? ((⟨g, pre.length, none⟩ : Addr).add ((((m + 2 : Nat) : Int) - 2).toNat * 1)) = some (i64n (us.getD m 0)) := fun w' h => cell_heap h (slAt hSu m (by omega) (getIA (by omega)))
  have hcv1 : ∀ w' : World, w'.heap = w.heap → w'.cell? ((⟨gv, ov, none⟩ : Addr).add ((((m + 2 : Nat) : Int) - 1).toNat * 1)) = some (i64n (vs.getD (m + 1) 0)) := fun w' h => cell_heap h (slAt hV (m + 1) (by omega) (getI (by omega)))
  have hcv2 : ∀ w' : World, w'.heap = w.heap → w'.cell? ((⟨gv, ov, none⟩ : Addr).add ((((m + 2 : Nat) : Int) - 2).toNat * 1)) = some (i64n (vs.getD m 0)) := fun w' h => cell_heap h (slAt hV m (by omega) (getI (by omega)))
  have hVe := val_two hvl
  have hVl : val (vs.take m) < pw m := by have := val_lt (hvm.take m); simpa [hvl] using this
  have hUe := val_three hul
  have hUl : val (us.take m) < pw m := by have := val_lt (hum.take m); simpa [hul] using this
  have hT := est_T hVe hVl hb2 hUe hUV
  have hinit := est_init hVe hUe hUl hu2 htop
  have hV0 : 0 < val vs := by
    rw [hVe]
    have : 0 < (vs.getD (m + 1) 0 * 1000000000 + vs.getD m 0) * pw m := Nat.mul_pos (by omega) (pw_pos m)
    omega
  have hmore := fun gq r h1 h2 => @est_more (pw m) (vs.getD (m + 1) 0) (vs.getD m 0) (val (vs.take m)) (us.getD m 0) _ (val (us.take m)) (val us) (val vs) gq r hVe hUe hUl hV0 hUV h1 h2
  have hdone := fun gq r h1 h2 => @est_done (pw m) (vs.getD (m + 1) 0) (vs.getD m 0) (val (vs.take m)) (us.getD m 0) _ (val (us.take m)) (val us) (val vs) gq r hVe hVl hb2 hUe hUV htop h1 h2
  generalize hu0e : us.getD (m + 2) 0 = u0 at *
  generalize hu1e : us.getD (m + 1) 0 = u1 at *
  generalize hu2e : us.getD m 0 = u2 at *
  generalize hb1e : vs.getD (m + 1) 0 = b1 at *
  generalize hb2e : vs.getD m 0 = b2 at *
  refine enter Tryz.func139 rfl Tryz.ntmps139 (Nat.le_of_ble_eq_true rfl) ?_
  refine dr U 600 rfl trivial ?_
  refine dwn 11 (fun w' => w'.heap = w.heap) hmo ?_
  intro w1 hh1 hg1
  have hc1 := hcu0 w rfl
  have hc2 := hcu1 w rfl
  refine dq U [0,1,2,3,4,5,6,7,8,9,10] [(3, i64n u0), (9, i64n u1)] (by kernel_rfl) rfl rfl hh1 (by simp only [AllP, InR, List.nil_append, List.cons_append]; (repeat' apply And.intro); all_goals first | exact True.intro | omega | (simp only [List.length_cons, List.length_nil]; omega) | (intro w_ hw_; refine ldC U rfl hw_ ?_; first | assumption | (simp [add_plain]; assumption)) | (intro w_ hw_; refine run_load_cell U rfl ?_; first | exact hw_ | exact hw_.1 | exact hw_.2 | exact hw_.2.1 | exact hw_.2.2 | exact hw_.2.2.1 | exact hw_.2.2.2 | (simp [add_plain]; first | exact hw_.1 | exact hw_.2.1 | exact hw_.2.2))) ?_
  refine d1 rfl rfl (fun _ => hh1) ?_
  refine dr U 600 rfl trivial ?_
  refine d3 ?_; refine dend rfl (fun h => by cases h) ?_
  refine dr U 600 rfl trivial ?_
  refine dwn 15 (fun w' => w'.heap = w.heap) hmo ?_
  intro w2 hh2 hg2
  have hh2 := hh2.trans hh1
  have hc3 := hcv1 w rfl
  have hTb : u0 * 1000000000 + u1 ≤ 1000000000000000000 := by omega
  have hN : ((u0 : Int) * 1000000000 + u1) = ((u0 * 1000000000 + u1 : Nat) : Int) := by omega
  have hQ : ((u0 : Int) * 1000000000 + u1) / b1 = (((u0 * 1000000000 + u1) / b1 : Nat) : Int) := by rw [hN]; rfl
  have hR : ((u0 : Int) * 1000000000 + u1) % b1 = (((u0 * 1000000000 + u1) % b1 : Nat) : Int) := by rw [hN]; rfl
  have hrlt : (u0 * 1000000000 + u1) % b1 < b1 := Nat.mod_lt _ htop
  have hqr := Nat.div_add_mod (u0 * 1000000000 + u1) b1
  have hqle := Nat.div_le_self (u0 * 1000000000 + u1) b1
  generalize hqq : (u0 * 1000000000 + u1) / b1 = q0 at *
  generalize hrr : (u0 * 1000000000 + u1) % b1 = r0 at *
  refine dq U [0,1,2,3,4,5,6,7,8,9,10,11,12,13,14] [(5, i64n b1), (12, i64n b1)] (by kernel_rfl) rfl rfl hh2 (by simp only [AllP, InR, List.nil_append, List.cons_append]; (repeat' apply And.intro); all_goals first | exact True.intro | omega | (simp only [List.length_cons, List.length_nil]; omega) | (intro w_ hw_; refine ldC U rfl hw_ ?_; first | assumption | (simp [add_plain]; assumption)) | (intro w_ hw_; refine run_load_cell U rfl ?_; first | exact hw_ | exact hw_.1 | exact hw_.2 | exact hw_.2.1 | exact hw_.2.2 | exact hw_.2.2.1 | exact hw_.2.2.2 | (simp [add_plain]; first | exact hw_.1 | exact hw_.2.1 | exact hw_.2.2))) ?_
  refine d1 rfl rfl (fun _ => hh2) ?_
  refine dr U 600 rfl trivial ?_
  refine d3 ?_; refine dend rfl (fun h => by cases h) ?_
  refine dr U 600 rfl trivial ?_
  refine loopR (fun l w' mu => ∃ gq r, l = [(0, .slice (some ⟨g, pre.length, none⟩) (m + 3) c), (1, .slice (some ⟨gv, ov, none⟩) (m + 2) cv), (5, .int .i64 ((m + 2 : Nat) : Int)), (7, .int .i64 (gq : Nat)), (8, .int .i64 (r : Nat))] ∧
    gq * b1 + r = u0 * 1000000000 + u1 ∧ val us / val vs ≤ gq ∧ r < 2000000000 ∧ gq ≤ u0 * 1000000000 + u1 ∧ w'.heap = w.heap ∧ w.grownBy w' none ∧ gq = mu)
    ⟨q0, r0, rfl, by rw [Nat.mul_comm]; exact hqr, hinit, by omega, hqle, hh2, gb_trans hg1 hg2, rfl⟩ ⟨rfl, rfl, rfl, iv hQ, iv hR, trivial⟩ ?_
  rintro l w3 mu ⟨gq, r, rfl, hgr, hge, hr2, hgle, hh3, hg3, rfl⟩
  refine dr U 600 rfl trivial ?_
  refine dwn 23 (fun w' => w'.heap = w.heap) hmo ?_
  intro w4 hh4 hg4
  have hh4 := hh4.trans hh3
  have hg4 := gb_trans hg3 hg4
  refine dq U [0] [] (by kernel_rfl) rfl rfl hh4 (by simp only [AllP, InR, List.nil_append, List.cons_append]; (repeat' apply And.intro); all_goals first | exact True.intro | omega | (simp only [List.length_cons, List.length_nil]; omega) | (intro w_ hw_; refine ldC U rfl hw_ ?_; first | assumption | (simp [add_plain]; assumption)) | (intro w_ hw_; refine run_load_cell U rfl ?_; first | exact hw_ | exact hw_.1 | exact hw_.2 | exact hw_.2.1 | exact hw_.2.2 | exact hw_.2.2.1 | exact hw_.2.2.2 | (simp [add_plain]; first | exact hw_.1 | exact hw_.2.1 | exact hw_.2.2))) ?_
  refine d1 rfl rfl (fun _ => hh4) ?_
  refine cS rfl rfl rfl rfl (fun hq => ?_) (fun hq => ?_)
  · refine d2 ?_
    refine dq U [2,3] [] (by kernel_rfl) rfl rfl hh4 (by simp only [AllP, InR, List.nil_append, List.cons_append]; (repeat' apply And.intro); all_goals first | exact True.intro | omega | (simp only [List.length_cons, List.length_nil]; omega) | (intro w_ hw_; refine ldC U rfl hw_ ?_; first | assumption | (simp [add_plain]; assumption)) | (intro w_ hw_; refine run_load_cell U rfl ?_; first | exact hw_ | exact hw_.1 | exact hw_.2 | exact hw_.2.1 | exact hw_.2.2 | exact hw_.2.2.1 | exact hw_.2.2.2 | (simp [add_plain]; first | exact hw_.1 | exact hw_.2.1 | exact hw_.2.2))) ?_
    refine d1 rfl rfl (fun _ => hh4) ?_
    have hrB : r < 1000000000 := by omega
    refine cS rfl rfl rfl rfl (fun hq => ?_) (fun hq => ?_)
    · have hlt := hmore gq r hgr (.inl (by omega))
      refine d2 ?_
      refine dq U [5,6,7,8,9,10,11,12,13,14,15,16,17,18,19,20,21,22] [] (by kernel_rfl) rfl rfl hh4 (by simp only [AllP, InR, List.nil_append, List.cons_append]; (repeat' apply And.intro); all_goals first | exact True.intro | omega | (simp only [List.length_cons, List.length_nil]; omega) | (intro w_ hw_; refine ldC U rfl hw_ ?_; first | assumption | (simp [add_plain]; assumption)) | (intro w_ hw_; refine run_load_cell U rfl ?_; first | exact hw_ | exact hw_.1 | exact hw_.2 | exact hw_.2.1 | exact hw_.2.2 | exact hw_.2.2.1 | exact hw_.2.2.2 | (simp [add_plain]; first | exact hw_.1 | exact hw_.2.1 | exact hw_.2.2))) ?_
      refine d1 rfl rfl (fun _ => hh4) ?_
      refine dr U 600 rfl trivial ?_
      refine d3 ?_; refine dend rfl (fun h => by cases h) ?_
      refine dr U 600 rfl trivial ?_
      refine dwn 10 (fun w' => w'.heap = w.heap) hmo ?_
      intro w5 hh5 hg5
      have hh5 := hh5.trans hh4
      have hpos := Nat.lt_of_le_of_lt (Nat.zero_le _) hlt
      obtain ⟨gq, rfl⟩ : ∃ k, gq = k + 1 := ⟨gq - 1, by omega⟩
      have hc3 := hcv1 w rfl
      refine dq U [0,1,2,3,4,5,6,7,8,9] [(7, i64n b1)] (by kernel_rfl) rfl rfl hh5 (by simp only [AllP, InR, List.nil_append, List.cons_append]; (repeat' apply And.intro); all_goals first | exact True.intro | omega | (simp only [List.length_cons, List.length_nil]; omega) | (intro w_ hw_; refine ldC U rfl hw_ ?_; first | assumption | (simp [add_plain]; assumption)) | (intro w_ hw_; refine run_load_cell U rfl ?_; first | exact hw_ | exact hw_.1 | exact hw_.2 | exact hw_.2.1 | exact hw_.2.2 | exact hw_.2.2.1 | exact hw_.2.2.2 | (simp [add_plain]; first | exact hw_.1 | exact hw_.2.1 | exact hw_.2.2))) ?_
      refine d1 rfl rfl (fun _ => hh5) ?_
      refine dr U 600 rfl trivial ?_
      refine d3 ?_; refine dend rfl (fun h => by cases h) ?_
      refine dr U 600 rfl trivial ?_
      refine rend _ gq ⟨gq, r + b1, rfl, by rw [Nat.add_mul] at hgr; omega, by omega, by omega, by omega, hh5, gb_trans hg4 hg5, rfl⟩ (by omega) ⟨rfl, rfl, rfl, iv (by omega), iv (by omega), trivial⟩
    · have hgB : gq < 1000000000 := by omega
      have hgb : gq * b2 ≤ 999999998000000001 := Nat.le_trans (Nat.mul_le_mul (show gq ≤ 999999999 by omega) (show b2 ≤ 999999999 by omega)) (by decide)
      have hgbi : (gq : Int) * (b2 : Int) = ((gq * b2 : Nat) : Int) := (Int.natCast_mul _ _).symm
      have hc4 := hcu2 w rfl
      have hc5 := hcv2 w rfl
      refine d2 ?_
      refine dq U [5,6,7,8,9,10,11,12,13,14,15,16,17,18,19,20] [(11, i64n b2), (19, i64n u2)] (by kernel_rfl) rfl rfl hh4 (by simp only [AllP, InR, List.nil_append, List.cons_append]; (repeat' apply And.intro); all_goals first | exact True.intro | omega | (simp only [List.length_cons, List.length_nil]; omega) | (intro w_ hw_; refine ldC U rfl hw_ ?_; first | assumption | (simp [add_plain]; assumption)) | (intro w_ hw_; refine run_load_cell U rfl ?_; first | exact hw_ | exact hw_.1 | exact hw_.2 | exact hw_.2.1 | exact hw_.2.2 | exact hw_.2.2.1 | exact hw_.2.2.2 | (simp [add_plain]; first | exact hw_.1 | exact hw_.2.1 | exact hw_.2.2))) ?_
      refine d1 rfl rfl (fun _ => hh4) ?_
      refine cS rfl rfl rfl rfl (fun hq => ?_) (fun hq => ?_)
      · have hq' : r * 1000000000 + u2 < gq * b2 := lt_nat hq
        have hlt := hmore gq r hgr (.inr hq')
        clear hq hgbi hgb
        refine d2 ?_
        refine dq U [22] [] (by kernel_rfl) rfl rfl hh4 (by simp only [AllP, InR, List.nil_append, List.cons_append]; (repeat' apply And.intro); all_goals first | exact True.intro | omega | (simp only [List.length_cons, List.length_nil]; omega) | (intro w_ hw_; refine ldC U rfl hw_ ?_; first | assumption | (simp [add_plain]; assumption)) | (intro w_ hw_; refine run_load_cell U rfl ?_; first | exact hw_ | exact hw_.1 | exact hw_.2 | exact hw_.2.1 | exact hw_.2.2 | exact hw_.2.2.1 | exact hw_.2.2.2 | (simp [add_plain]; first | exact hw_.1 | exact hw_.2.1 | exact hw_.2.2))) ?_
        refine d1 rfl rfl (fun _ => hh4) ?_
        refine dr U 600 rfl trivial ?_
        refine d3 ?_; refine dend rfl (fun h => by cases h) ?_
        refine dr U 600 rfl trivial ?_
        refine dwn 10 (fun w' => w'.heap = w.heap) hmo ?_
        intro w5 hh5 hg5
        have hh5 := hh5.trans hh4
        have hpos := Nat.lt_of_le_of_lt (Nat.zero_le _) hlt
        obtain ⟨gq, rfl⟩ : ∃ k, gq = k + 1 := ⟨gq - 1, by omega⟩
        have hc3 := hcv1 w rfl
        refine dq U [0,1,2,3,4,5,6,7,8,9] [(7, i64n b1)] (by kernel_rfl) rfl rfl hh5 (by simp only [AllP, InR, List.nil_append, List.cons_append]; (repeat' apply And.intro); all_goals first | exact True.intro | omega | (simp only [List.length_cons, List.length_nil]; omega) | (intro w_ hw_; refine ldC U rfl hw_ ?_; first | assumption | (simp [add_plain]; assumption)) | (intro w_ hw_; refine run_load_cell U rfl ?_; first | exact hw_ | exact hw_.1 | exact hw_.2 | exact hw_.2.1 | exact hw_.2.2 | exact hw_.2.2.1 | exact hw_.2.2.2 | (simp [add_plain]; first | exact hw_.1 | exact hw_.2.1 | exact hw_.2.2))) ?_
        refine d1 rfl rfl (fun _ => hh5) ?_
        refine dr U 600 rfl trivial ?_
        refine d3 ?_; refine dend rfl (fun h => by cases h) ?_
        refine dr U 600 rfl trivial ?_
        refine rend _ gq ⟨gq, r + b1, rfl, by rw [Nat.add_mul] at hgr; omega, by omega, by omega, by omega, hh5, gb_trans hg4 hg5, rfl⟩ (by omega) ⟨rfl, rfl, rfl, iv (by omega), iv (by omega), trivial⟩
      · have hx := hdone gq r hgr (.inr ⟨hgB, le_nat hq⟩)
        clear hq hgbi hgb
        refine d2 ?_
        refine dq U [22] [] (by kernel_rfl) rfl rfl hh4 (by simp only [AllP, InR, List.nil_append, List.cons_append]; (repeat' apply And.intro); all_goals first | exact True.intro | omega | (simp only [List.length_cons, List.length_nil]; omega) | (intro w_ hw_; refine ldC U rfl hw_ ?_; first | assumption | (simp [add_plain]; assumption)) | (intro w_ hw_; refine run_load_cell U rfl ?_; first | exact hw_ | exact hw_.1 | exact hw_.2 | exact hw_.2.1 | exact hw_.2.2 | exact hw_.2.2.1 | exact hw_.2.2.2 | (simp [add_plain]; first | exact hw_.1 | exact hw_.2.1 | exact hw_.2.2))) ?_
        refine d1 rfl rfl (fun _ => hh4) ?_
        refine dr U 600 rfl trivial ?_
        refine d3 ?_; refine dend rfl (fun h => by cases h) ?_
        obtain ⟨hglt, hgle1⟩ := hx
        refine dr U 600 rfl trivial ?_
        refine loopR (fun l w' mu => ∃ i cs bo, l = [(0, .slice (some ⟨g, pre.length, none⟩) (m + 3) c), (1, .slice (some ⟨gv, ov, none⟩) (m + 2) cv), (5, .int .i64 ((m + 2 : Nat) : Int)), (7, .int .i64 (gq : Nat)), (9, .int .i64 (bo : Nat)), (10, .int .i64 (i : Nat))] ∧
          i ≤ m + 2 ∧ cs.length = m + 3 ∧ Lm cs ∧ bo ≤ 1000000000 ∧ cs.drop i = us.drop i ∧ val (cs.take i) + gq * val (vs.take i) = val (us.take i) + bo * pw i ∧ Bk w' g 3 (pre ++ cs.map i64n ++ post) ∧ w.grownBy w' (some g) ∧ mu = m + 2 - i)
          ⟨0, us, 0, rfl, by omega, hul, hum, by omega, rfl, by simp [val], heap_bk hh4 hB, gb_none _ hg4, rfl⟩ ⟨rfl, rfl, rfl, rfl, rfl, rfl, trivial⟩ ?_
        clear hh4 hg4 hc1 hc2
        rintro l w5 mu ⟨i, cs, bo, rfl, hi, hcl, hcm, hbo, hd, hrel, hB5, hg5, rfl⟩
        refine dr U 600 rfl trivial ?_
        refine cS rfl rfl rfl rfl (fun hq => ?_) (fun hq => ?_)
        · have hi' : i < m + 2 := by omega
          have hs := fun z bo' hz => @rsub_step cs us vs i gq bo (by omega) (by omega) (by omega) hrel z bo' hz
          have hy1 := hvm.getD i
          have hx1 := hum.getD i
          have hV5 := hV.keep hg5 (fun k hk e => hav (by rw [hk]; exact e.symm))
          have hcx := slAt (bk_viewI hB5) i (i := (i : Int)) (by omega) (show _ = some (i64n (us.getD i 0)) by rw [getIA (by omega), getD_of_drop hd])
          have hcy := slAt hV5 i (i := (i : Int)) (by omega) (getI (by omega))
          generalize hye : vs.getD i 0 = y at *
          generalize hxe : us.getD i 0 = x at *
          have hgy : gq * y ≤ 999999998000000001 := Nat.le_trans (Nat.mul_le_mul (show gq ≤ 999999999 by omega) (show y ≤ 999999999 by omega)) (by decide)
          have hpi : (gq : Int) * (y : Int) = ((gq * y : Nat) : Int) := (Int.natCast_mul _ _).symm
          generalize hp0 : gq * y = p0 at *
          refine dr U 600 rfl trivial ?_
          refine dwn 13 (fun w' => w'.heap = w5.heap) hmo ?_
          intro w6 hh6 hg6
          refine dq U [0,1,2,3,4,5,6,7,8,9,10,11,12] [(3, i64n x), (10, i64n y)] (by kernel_rfl) rfl rfl hh6 ?_ ?_
          · simp only [AllP, InR, List.nil_append, List.cons_append, hpi]
            (repeat' apply And.intro)
            all_goals first | exact True.intro | omega | (intro w_ hw_; refine ldC U rfl hw_ ?_; assumption)
          refine d1 rfl rfl (fun _ => hh6) ?_
          refine dr U 1 rfl trivial ?_
          refine d2 ?_; refine dend rfl (fun h => by cases h) ?_
          generalize ht : (x : Int) - (bo : Int) - (gq : Int) * (y : Int) = t
          rw [hpi] at ht
          have htr := tmod_range t 1000000000 (by omega)
          have hte := tm_emod t
          first | (refine dr U 2 rfl trivial ?_; refine rem1 rfl rfl (by decide) rfl rfl ?_) | (refine dr U 3 rfl trivial ?_; refine rem1 rfl rfl (by decide) rfl rfl ?_) | (refine dr U 4 rfl trivial ?_; refine rem1 rfl rfl (by decide) rfl rfl ?_) | (refine dr U 5 rfl trivial ?_; refine rem1 rfl rfl (by decide) rfl rfl ?_) | (refine dr U 6 rfl trivial ?_; refine rem1 rfl rfl (by decide) rfl rfl ?_) | (refine dr U 7 rfl trivial ?_; refine rem1 rfl rfl (by decide) rfl rfl ?_) | (refine dr U 8 rfl trivial ?_; refine rem1 rfl rfl (by decide) rfl rfl ?_) | (refine dr U 9 rfl trivial ?_; refine rem1 rfl rfl (by decide) rfl rfl ?_) | (refine dr U 10 rfl trivial ?_; refine rem1 rfl rfl (by decide) rfl rfl ?_) | (refine dr U 11 rfl trivial ?_; refine rem1 rfl rfl (by decide) rfl rfl ?_) | (refine dr U 12 rfl trivial ?_; refine rem1 rfl rfl (by decide) rfl rfl ?_) | (refine dr U 13 rfl trivial ?_; refine rem1 rfl rfl (by decide) rfl rfl ?_) | (refine dr U 14 rfl trivial ?_; refine rem1 rfl rfl (by decide) rfl rfl ?_) | (refine dr U 15 rfl trivial ?_; refine rem1 rfl rfl (by decide) rfl rfl ?_) | (refine dr U 16 rfl trivial ?_; refine rem1 rfl rfl (by decide) rfl rfl ?_) | (refine dr U 17 rfl trivial ?_; refine rem1 rfl rfl (by decide) rfl rfl ?_) | (refine dr U 18 rfl trivial ?_; refine rem1 rfl rfl (by decide) rfl rfl ?_) | (refine dr U 19 rfl trivial ?_; refine rem1 rfl rfl (by decide) rfl rfl ?_) | (refine dr U 20 rfl trivial ?_; refine rem1 rfl rfl (by decide) rfl rfl ?_) | (refine dr U 21 rfl trivial ?_; refine rem1 rfl rfl (by decide) rfl rfl ?_) | (refine dr U 22 rfl trivial ?_; refine rem1 rfl rfl (by decide) rfl rfl ?_) | (refine dr U 23 rfl trivial ?_; refine rem1 rfl rfl (by decide) rfl rfl ?_)
          generalize t.tmod 1000000000 = tm at *
          obtain ⟨z, hz⟩ : ∃ z : Nat, (tm + 1000000000) % 1000000000 = (z : Int) := ⟨((tm + 1000000000) % 1000000000).toNat, by omega⟩
          have hzB : z < 1000000000 := by omega
          obtain ⟨bo', hb'⟩ : ∃ b : Nat, ((z : Int) - t) / 1000000000 = (b : Int) := ⟨(((z : Int) - t) / 1000000000).toNat, by omega⟩
          have hzt : z + p0 + bo = x + bo' * 1000000000 := by omega
          have hbB : bo' ≤ 1000000000 := by omega
          have hB6 := heap_bk hh6 hB5
          refine dr U 600 rfl (by first | exact True.intro | (simp only [AllP, InR, List.nil_append, List.cons_append, and_true]; omega)) ?_
          refine ix U (v := (i64n z)) rfl rfl rfl rfl rfl rfl rfl (fun _ => rfl) (fun _ => iv hz) (fun _ => rfl) rfl rfl i rfl (by omega) (by simp; omega) hB6 ?_
          intro p2 w7 hB7 hg7 hs7
          rw [set_viewI _ _ _ _ _ (by omega)] at hB7
          refine dr U 600 rfl (by first | exact True.intro | (simp only [AllP, InR, List.nil_append, List.cons_append, and_true]; omega)) ?_
          refine rend _ _ ⟨i + 1, cs.set i z, bo', rfl, by omega, by simp [hcl], hcm.set _ hzB, hbB, by rw [set_drop_succ]; exact drop_succ_of_drop hd, hs z bo' hzt, hB7, gb_trans (gb_trans hg5 (gb_none _ hg6)) hg7, rfl⟩ (by omega)
            ⟨rfl, rfl, rfl, rfl, iv (by rw [hz]; exact hb'), iv (by omega), trivial⟩
        · obtain rfl : i = m + 2 := by omega
          rw [take_all (show vs.length ≤ m + 2 by omega)] at hrel
          have hgetn : (cs.map i64n ++ post)[m + 2]? = some (i64n u0) := by rw [getIA (by omega), getD_of_drop hd, hu0e]
          have hul' := val_last (n := m + 2) hul
          rw [hu0e] at hul'
          refine dr U 600 rfl (by first | exact True.intro | (simp only [AllP, InR, List.nil_append, List.cons_append, and_true]; omega)) ?_
          refine il U rfl rfl rfl rfl rfl rfl rfl (fun _ => rfl) rfl (m + 2) (by omega) (by omega) (bk_viewI hB5) hgetn ?_
          refine dr U 600 rfl (by first | exact True.intro | (simp only [AllP, InR, List.nil_append, List.cons_append, and_true]; omega)) ?_
          refine ix U (v := (.int .i64 ((u0 : Int) - (bo : Int)))) rfl rfl rfl rfl rfl rfl rfl (fun _ => rfl) (fun _ => rfl) (fun _ => rfl) rfl rfl (m + 2) rfl (by omega) (by simp; omega) hB5 ?_
          intro p2 w7 hB7 hg7 hs7
          rw [vw_begin (by omega)] at hB7
          have hg7 := gb_trans hg5 hg7
          refine dr U 600 rfl trivial ?_
          refine loopR (fun l w' mu => (∃ gq' us', l = [(0, .slice (some ⟨g, pre.length, none⟩) (m + 3) c), (1, .slice (some ⟨gv, ov, none⟩) (m + 2) cv), (5, .int .i64 ((m + 2 : Nat) : Int)), (7, .int .i64 (gq' : Nat))] ∧ gq' = val us / val vs ∧ us'.length = m + 3 ∧ Lm us' ∧ val us' = val us % val vs ∧ Bk w' g 3 (pre ++ us'.map i64n ++ post) ∧ w.grownBy w' (some g) ∧ mu = 0) ∨
              (u0 < bo ∧ l = [(0, .slice (some ⟨g, pre.length, none⟩) (m + 3) c), (1, .slice (some ⟨gv, ov, none⟩) (m + 2) cv), (5, .int .i64 ((m + 2 : Nat) : Int)), (7, .int .i64 (gq : Nat))] ∧ Bk w' g 3 (pre ++ vw cs post (m + 2) (.int .i64 ((u0 : Int) - (bo : Int)))) ∧ w.grownBy w' (some g) ∧ mu = 1))
            (l0 := [(0, .slice (some ⟨g, pre.length, none⟩) (m + 3) c), (1, .slice (some ⟨gv, ov, none⟩) (m + 2) cv), (5, .int .i64 ((m + 2 : Nat) : Int)), (7, .int .i64 (gq : Nat))]) (m0 := if u0 < bo then 1 else 0) ?_ ⟨rfl, rfl, rfl, rfl, trivial⟩ ?_
          · by_cases hub : u0 < bo
            · rw [if_pos hub]
              exact .inr ⟨hub, rfl, hB7, hg7, rfl⟩
            · rw [if_neg hub]
              obtain ⟨hres1, hres2⟩ := est_fit hul' hrel (by omega) hV0 hge
              rw [show (Value.int .i64 ((u0 : Int) - (bo : Int))) = i64n (u0 - bo) by unfold i64n; congr 1; omega, vw_nat (by omega), ← List.append_assoc] at hB7
              refine .inl ⟨gq, cs.set (m + 2) (u0 - bo), rfl, hres1, by simp [hcl], hcm.set _ (by omega), ?_, hB7, hg7, rfl⟩
              rw [← hres2, val_last (n := m + 2) (by simp [hcl])]
              simp [List.take_set_of_le, List.getD, show m + 2 < cs.length by omega]
          clear hB7 hg7 hB5 hg5
          rintro l w8 mu (⟨gq', us', rfl, hgq', hul2, hum2, huv2, hB8, hg8, hmu⟩ | ⟨hub, rfl, hB8, hg8, hmu⟩)
          · have hgt : (us'.map i64n ++ post)[m + 2]? = some (i64n (us'.getD (m + 2) 0)) := getIA (by omega)
            refine dr U 600 rfl (by first | exact True.intro | (simp only [AllP, InR, List.nil_append, List.cons_append, and_true]; omega)) ?_
            refine il U rfl rfl rfl rfl rfl rfl rfl (fun _ => rfl) rfl (m + 2) (by omega) (by omega) (bk_viewI hB8) hgt ?_
            refine cF rfl rfl rfl (by show ¬ ((us'.getD (m + 2) 0 : Nat) : Int) < 0; omega) ?_
            refine dr U 600 rfl trivial ?_
            exact ret Tryz.results139 rfl ⟨_, rfl, by rw [← hgq']; rfl, us', hul2, hum2, huv2, hB8, hg8⟩
          · have hcn : val (cs.take (m + 2)) < pw (m + 2) := by have := val_lt (hcm.take (m + 2)); simpa [hcl] using this
            have hvn : val vs < pw (m + 2) := by have := val_lt hvm; rwa [hvl] at this
            have hover := fun ds cy2 h1 h2 => @est_over us cs ds (m + 2) gq (val vs) bo u0 cy2 hul' hrel hub hV0 hge hgle1 hcn h1 hvn h2
            refine dr U 600 rfl (by first | exact True.intro | (simp only [AllP, InR, List.nil_append, List.cons_append, and_true]; omega)) ?_
            refine il U rfl rfl rfl rfl rfl rfl rfl (fun _ => rfl) rfl (m + 2) (by omega) (by omega) (bk_vw hB8) (vw_top (by omega)) ?_
            refine cT rfl rfl rfl (by omega) ?_
            refine dr U 600 rfl trivial ?_
            refine loopR (fun l w' mu => ∃ i ds k, l = [(0, .slice (some ⟨g, pre.length, none⟩) (m + 3) c), (1, .slice (some ⟨gv, ov, none⟩) (m + 2) cv), (5, .int .i64 ((m + 2 : Nat) : Int)), (7, .int .i64 (gq : Nat)), (13, .int .i64 (k : Nat)), (14, .int .i64 (i : Nat))] ∧
              i ≤ m + 2 ∧ ds.length = m + 3 ∧ Lm ds ∧ k ≤ 1 ∧ ds.drop i = cs.drop i ∧ val (ds.take i) + k * pw i = val (cs.take i) + val (vs.take i) ∧ Bk w' g 3 (pre ++ vw ds post (m + 2) (.int .i64 ((u0 : Int) - (bo : Int)))) ∧ w.grownBy w' (some g) ∧ mu = m + 2 - i)
              ⟨0, cs, 0, rfl, by omega, hcl, hcm, by omega, rfl, by simp [val], hB8, hg8, rfl⟩ ⟨rfl, rfl, rfl, rfl, rfl, rfl, trivial⟩ ?_
            clear hB8 hg8
            rintro l w6 mu2 ⟨i, ds, k, rfl, hi, hdl, hdm, hk, hdd, hrel2, hB6, hg6, rfl⟩
            refine dr U 600 rfl trivial ?_
            refine cS rfl rfl rfl rfl (fun hq => ?_) (fun hq => ?_)
            · have hi' : i < m + 2 := by omega
              have hs := @addb_step ds cs vs i k (by omega) (by omega) (by omega) hdd hrel2
              have hy1 := hvm.getD i
              have hx1 := hcm.getD i
              have hV6 := hV.keep hg6 (fun k hk e => hav (by rw [hk]; exact e.symm))
              have hgx := slAt (bk_vw hB6) i (i := (i : Int)) (by omega) (show _ = some (i64n (cs.getD i 0)) by rw [vw_get (by omega) (by omega), getD_of_drop hdd])
              have hgy := slAt hV6 i (i := (i : Int)) (by omega) (getI (by omega))
              generalize hye : vs.getD i 0 = y at *
              generalize hxe : cs.getD i 0 = x at *
              refine dr U 600 rfl trivial ?_
              refine dwn 11 (fun w' => w'.heap = w6.heap) hmo ?_
              intro w7 hh7 hg7
              refine dq U [0,1,2,3,4,5,6,7,8,9,10] [(3, i64n x), (7, i64n y)] (by kernel_rfl) rfl rfl hh7 (by simp only [AllP, InR, List.nil_append, List.cons_append]; (repeat' apply And.intro); all_goals first | exact True.intro | omega | (simp only [List.length_cons, List.length_nil]; omega) | (intro w_ hw_; refine ldC U rfl hw_ ?_; first | assumption | (simp [add_plain]; assumption)) | (intro w_ hw_; refine run_load_cell U rfl ?_; first | exact hw_ | exact hw_.1 | exact hw_.2 | exact hw_.2.1 | exact hw_.2.2 | exact hw_.2.2.1 | exact hw_.2.2.2 | (simp [add_plain]; first | exact hw_.1 | exact hw_.2.1 | exact hw_.2.2))) ?_
              refine d1 rfl rfl (fun _ => hh7) ?_
              refine dr U 600 rfl trivial ?_
              refine d3 ?_; refine dend rfl (fun h => by cases h) ?_
              refine dr U 600 rfl (by first | exact True.intro | (simp only [AllP, InR, List.nil_append, List.cons_append, and_true]; omega)) ?_
              have hB7 := heap_bk hh7 hB6
              refine ix U (v := (i64n ((x + y + k) % 1000000000))) rfl rfl rfl rfl rfl rfl rfl (fun _ => rfl) (fun _ => iv (by omega)) (fun _ => rfl) rfl rfl i rfl (by omega) (by simp [vw_len]; omega) hB7 ?_
              intro p2 w8 hB8 hg8 hs8
              rw [vw_set (by omega) (by omega)] at hB8
              refine dr U 600 rfl (by first | exact True.intro | (simp only [AllP, InR, List.nil_append, List.cons_append, and_true]; omega)) ?_
              refine rend _ _ ⟨i + 1, ds.set i ((x + y + k) % 1000000000), (x + y + k) / 1000000000, rfl, by omega, by simp [hdl], hdm.set _ (by omega), by omega, by rw [set_drop_succ]; exact drop_succ_of_drop hdd, hs, hB8, gb_trans (gb_trans hg6 (gb_none _ hg7)) hg8, rfl⟩ (by omega)
                ⟨rfl, rfl, rfl, rfl, iv (by omega), iv (by omega), trivial⟩
            · obtain rfl : i = m + 2 := by omega
              rw [take_all (show vs.length ≤ m + 2 by omega)] at hrel2
              have hdn : val (ds.take (m + 2)) < pw (m + 2) := by have := val_lt (hdm.take (m + 2)); simpa [hdl] using this
              obtain ⟨hres1, hpos, hres2, htop2⟩ := hover ds k hdn hrel2
              refine dr U 600 rfl (by first | exact True.intro | (simp only [AllP, InR, List.nil_append, List.cons_append, and_true]; omega)) ?_
              refine il U rfl rfl rfl rfl rfl rfl rfl (fun _ => rfl) rfl (m + 2) (by omega) (by omega) (bk_vw hB6) (vw_top (by omega)) ?_
              refine dr U 600 rfl (by first | exact True.intro | (simp only [AllP, InR, List.nil_append, List.cons_append, and_true]; omega)) ?_
              refine ix U (v := (i64n 0)) rfl rfl rfl rfl rfl rfl rfl (fun _ => rfl) (fun _ => iv (by omega)) (fun _ => rfl) rfl rfl (m + 2) rfl (by omega) (by simp [vw_len]; omega) hB6 ?_
              intro p2 w8 hB8 hg8 hs8
              rw [vw_set_top, vw_nat (by omega), ← List.append_assoc] at hB8
              refine dr U 600 rfl (by first | exact True.intro | (simp only [AllP, InR, List.nil_append, List.cons_append, and_true]; omega)) ?_
              refine rend [(0, .slice (some ⟨g, pre.length, none⟩) (m + 3) c), (1, .slice (some ⟨gv, ov, none⟩) (m + 2) cv), (5, .int .i64 ((m + 2 : Nat) : Int)), (7, .int .i64 ((gq - 1 : Nat) : Int))] 0 (.inl ⟨gq - 1, ds.set (m + 2) 0, rfl, hres1, by simp [hdl], hdm.set _ (by omega), ?_, hB8, gb_trans hg6 hg8, rfl⟩) (by omega) ⟨rfl, rfl, rfl, iv (by omega), trivial⟩
              rw [← hres2, val_last (n := m + 2) (by simp [hdl])]
              simp [List.take_set_of_le, List.getD, show m + 2 < ds.length by omega]
  · have hx := hdone gq r hgr (.inl (by omega))
    refine d2 ?_
    refine dq U [2,3,4,5,6,7,8,9,10,11,12,13,14,15,16,17,18,19,20,21,22] [] (by kernel_rfl) rfl rfl hh4 (by simp only [AllP, InR, List.nil_append, List.cons_append]; (repeat' apply And.intro); all_goals first | exact True.intro | omega | (simp only [List.length_cons, List.length_nil]; omega) | (intro w_ hw_; refine ldC U rfl hw_ ?_; first | assumption | (simp [add_plain]; assumption)) | (intro w_ hw_; refine run_load_cell U rfl ?_; first | exact hw_ | exact hw_.1 | exact hw_.2 | exact hw_.2.1 | exact hw_.2.2 | exact hw_.2.2.1 | exact hw_.2.2.2 | (simp [add_plain]; first | exact hw_.1 | exact hw_.2.1 | exact hw_.2.2))) ?_
    refine d1 rfl rfl (fun _ => hh4) ?_
    refine dr U 600 rfl trivial ?_
    refine d3 ?_; refine dend rfl (fun h => by cases h) ?_
    obtain ⟨hglt, hgle1⟩ := hx
    refine dr U 600 rfl trivial ?_
    refine loopR (fun l w' mu => ∃ i cs bo, l = [(0, .slice (some ⟨g, pre.length, none⟩) (m + 3) c), (1, .slice (some ⟨gv, ov, none⟩) (m + 2) cv), (5, .int .i64 ((m + 2 : Nat) : Int)), (7, .int .i64 (gq : Nat)), (9, .int .i64 (bo : Nat)), (10, .int .i64 (i : Nat))] ∧
      i ≤ m + 2 ∧ cs.length = m + 3 ∧ Lm cs ∧ bo ≤ 1000000000 ∧ cs.drop i = us.drop i ∧ val (cs.take i) + gq * val (vs.take i) = val (us.take i) + bo * pw i ∧ Bk w' g 3 (pre ++ cs.map i64n ++ post) ∧ w.grownBy w' (some g) ∧ mu = m + 2 - i)
      ⟨0, us, 0, rfl, by omega, hul, hum, by omega, rfl, by simp [val], heap_bk hh4 hB, gb_none _ hg4, rfl⟩ ⟨rfl, rfl, rfl, rfl, rfl, rfl, trivial⟩ ?_
    clear hh4 hg4 hc1 hc2
    rintro l w5 mu ⟨i, cs, bo, rfl, hi, hcl, hcm, hbo, hd, hrel, hB5, hg5, rfl⟩
    refine dr U 600 rfl trivial ?_
    refine cS rfl rfl rfl rfl (fun hq => ?_) (fun hq => ?_)
    · have hi' : i < m + 2 := by omega
      have hs := fun z bo' hz => @rsub_step cs us vs i gq bo (by omega) (by omega) (by omega) hrel z bo' hz
      have hy1 := hvm.getD i
      have hx1 := hum.getD i
      have hV5 := hV.keep hg5 (fun k hk e => hav (by rw [hk]; exact e.symm))
      have hcx := slAt (bk_viewI hB5) i (i := (i : Int)) (by omega) (show _ = some (i64n (us.getD i 0)) by rw [getIA (by omega), getD_of_drop hd])
      have hcy := slAt hV5 i (i := (i : Int)) (by omega) (getI (by omega))
      generalize hye : vs.getD i 0 = y at *
      generalize hxe : us.getD i 0 = x at *
      have hgy : gq * y ≤ 999999998000000001 := Nat.le_trans (Nat.mul_le_mul (show gq ≤ 999999999 by omega) (show y ≤ 999999999 by omega)) (by decide)
      have hpi : (gq : Int) * (y : Int) = ((gq * y : Nat) : Int) := (Int.natCast_mul _ _).symm
      generalize hp0 : gq * y = p0 at *
      refine dr U 600 rfl trivial ?_
      refine dwn 13 (fun w' => w'.heap = w5.heap) hmo ?_
      intro w6 hh6 hg6
      refine dq U [0,1,2,3,4,5,6,7,8,9,10,11,12] [(3, i64n x), (10, i64n y)] (by kernel_rfl) rfl rfl hh6 ?_ ?_
      · simp only [AllP, InR, List.nil_append, List.cons_append, hpi]
        (repeat' apply And.intro)
        all_goals first | exact True.intro | omega | (intro w_ hw_; refine ldC U rfl hw_ ?_; assumption)
      refine d1 rfl rfl (fun _ => hh6) ?_
      refine dr U 1 rfl trivial ?_
      refine d2 ?_; refine dend rfl (fun h => by cases h) ?_
      generalize ht : (x : Int) - (bo : Int) - (gq : Int) * (y : Int) = t
      rw [hpi] at ht
      have htr := tmod_range t 1000000000 (by omega)
      have hte := tm_emod t
      first | (refine dr U 2 rfl trivial ?_; refine rem1 rfl rfl (by decide) rfl rfl ?_) | (refine dr U 3 rfl trivial ?_; refine rem1 rfl rfl (by decide) rfl rfl ?_) | (refine dr U 4 rfl trivial ?_; refine rem1 rfl rfl (by decide) rfl rfl ?_) | (refine dr U 5 rfl trivial ?_; refine rem1 rfl rfl (by decide) rfl rfl ?_) | (refine dr U 6 rfl trivial ?_; refine rem1 rfl rfl (by decide) rfl rfl ?_) | (refine dr U 7 rfl trivial ?_; refine rem1 rfl rfl (by decide) rfl rfl ?_) | (refine dr U 8 rfl trivial ?_; refine rem1 rfl rfl (by decide) rfl rfl ?_) | (refine dr U 9 rfl trivial ?_; refine rem1 rfl rfl (by decide) rfl rfl ?_) | (refine dr U 10 rfl trivial ?_; refine rem1 rfl rfl (by decide) rfl rfl ?_) | (refine dr U 11 rfl trivial ?_; refine rem1 rfl rfl (by decide) rfl rfl ?_) | (refine dr U 12 rfl trivial ?_; refine rem1 rfl rfl (by decide) rfl rfl ?_) | (refine dr U 13 rfl trivial ?_; refine rem1 rfl rfl (by decide) rfl rfl ?_) | (refine dr U 14 rfl trivial ?_; refine rem1 rfl rfl (by decide) rfl rfl ?_) | (refine dr U 15 rfl trivial ?_; refine rem1 rfl rfl (by decide) rfl rfl ?_) | (refine dr U 16 rfl trivial ?_; refine rem1 rfl rfl (by decide) rfl rfl ?_) | (refine dr U 17 rfl trivial ?_; refine rem1 rfl rfl (by decide) rfl rfl ?_) | (refine dr U 18 rfl trivial ?_; refine rem1 rfl rfl (by decide) rfl rfl ?_) | (refine dr U 19 rfl trivial ?_; refine rem1 rfl rfl (by decide) rfl rfl ?_) | (refine dr U 20 rfl trivial ?_; refine rem1 rfl rfl (by decide) rfl rfl ?_) | (refine dr U 21 rfl trivial ?_; refine rem1 rfl rfl (by decide) rfl rfl ?_) | (refine dr U 22 rfl trivial ?_; refine rem1 rfl rfl (by decide) rfl rfl ?_) | (refine dr U 23 rfl trivial ?_; refine rem1 rfl rfl (by decide) rfl rfl ?_)
      generalize t.tmod 1000000000 = tm at *
      obtain ⟨z, hz⟩ : ∃ z : Nat, (tm + 1000000000) % 1000000000 = (z : Int) := ⟨((tm + 1000000000) % 1000000000).toNat, by omega⟩
      have hzB : z < 1000000000 := by omega
      obtain ⟨bo', hb'⟩ : ∃ b : Nat, ((z : Int) - t) / 1000000000 = (b : Int) := ⟨(((z : Int) - t) / 1000000000).toNat, by omega⟩
      have hzt : z + p0 + bo = x + bo' * 1000000000 := by omega
      have hbB : bo' ≤ 1000000000 := by omega
      have hB6 := heap_bk hh6 hB5
      refine dr U 600 rfl (by first | exact True.intro | (simp only [AllP, InR, List.nil_append, List.cons_append, and_true]; omega)) ?_
      refine ix U (v := (i64n z)) rfl rfl rfl rfl rfl rfl rfl (fun _ => rfl) (fun _ => iv hz) (fun _ => rfl) rfl rfl i rfl (by omega) (by simp; omega) hB6 ?_
      intro p2 w7 hB7 hg7 hs7
      rw [set_viewI _ _ _ _ _ (by omega)] at hB7
      refine dr U 600 rfl (by first | exact True.intro | (simp only [AllP, InR, List.nil_append, List.cons_append, and_true]; omega)) ?_
      refine rend _ _ ⟨i + 1, cs.set i z, bo', rfl, by omega, by simp [hcl], hcm.set _ hzB, hbB, by rw [set_drop_succ]; exact drop_succ_of_drop hd, hs z bo' hzt, hB7, gb_trans (gb_trans hg5 (gb_none _ hg6)) hg7, rfl⟩ (by omega)
        ⟨rfl, rfl, rfl, rfl, iv (by rw [hz]; exact hb'), iv (by omega), trivial⟩
    · obtain rfl : i = m + 2 := by omega
      rw [take_all (show vs.length ≤ m + 2 by omega)] at hrel
      have hgetn : (cs.map i64n ++ post)[m + 2]? = some (i64n u0) := by rw [getIA (by omega), getD_of_drop hd, hu0e]
      have hul' := val_last (n := m + 2) hul
      rw [hu0e] at hul'
      refine dr U 600 rfl (by first | exact True.intro | (simp only [AllP, InR, List.nil_append, List.cons_append, and_true]; omega)) ?_
      refine il U rfl rfl rfl rfl rfl rfl rfl (fun _ => rfl) rfl (m + 2) (by omega) (by omega) (bk_viewI hB5) hgetn ?_
      refine dr U 600 rfl (by first | exact True.intro | (simp only [AllP, InR, List.nil_append, List.cons_append, and_true]; omega)) ?_
      refine ix U (v := (.int .i64 ((u0 : Int) - (bo : Int)))) rfl rfl rfl rfl rfl rfl rfl (fun _ => rfl) (fun _ => rfl) (fun _ => rfl) rfl rfl (m + 2) rfl (by omega) (by simp; omega) hB5 ?_
      intro p2 w7 hB7 hg7 hs7
      rw [vw_begin (by omega)] at hB7
      have hg7 := gb_trans hg5 hg7
      refine dr U 600 rfl trivial ?_
      refine loopR (fun l w' mu => (∃ gq' us', l = [(0, .slice (some ⟨g, pre.length, none⟩) (m + 3) c), (1, .slice (some ⟨gv, ov, none⟩) (m + 2) cv), (5, .int .i64 ((m + 2 : Nat) : Int)), (7, .int .i64 (gq' : Nat))] ∧ gq' = val us / val vs ∧ us'.length = m + 3 ∧ Lm us' ∧ val us' = val us % val vs ∧ Bk w' g 3 (pre ++ us'.map i64n ++ post) ∧ w.grownBy w' (some g) ∧ mu = 0) ∨
          (u0 < bo ∧ l = [(0, .slice (some ⟨g, pre.length, none⟩) (m + 3) c), (1, .slice (some ⟨gv, ov, none⟩) (m + 2) cv), (5, .int .i64 ((m + 2 : Nat) : Int)), (7, .int .i64 (gq : Nat))] ∧ Bk w' g 3 (pre ++ vw cs post (m + 2) (.int .i64 ((u0 : Int) - (bo : Int)))) ∧ w.grownBy w' (some g) ∧ mu = 1))
        (l0 := [(0, .slice (some ⟨g, pre.length, none⟩) (m + 3) c), (1, .slice (some ⟨gv, ov, none⟩) (m + 2) cv), (5, .int .i64 ((m + 2 : Nat) : Int)), (7, .int .i64 (gq : Nat))]) (m0 := if u0 < bo then 1 else 0) ?_ ⟨rfl, rfl, rfl, rfl, trivial⟩ ?_
      · by_cases hub : u0 < bo
        · rw [if_pos hub]
          exact .inr ⟨hub, rfl, hB7, hg7, rfl⟩
        · rw [if_neg hub]
          obtain ⟨hres1, hres2⟩ := est_fit hul' hrel (by omega) hV0 hge
          rw [show (Value.int .i64 ((u0 : Int) - (bo : Int))) = i64n (u0 - bo) by unfold i64n; congr 1; omega, vw_nat (by omega), ← List.append_assoc] at hB7
          refine .inl ⟨gq, cs.set (m + 2) (u0 - bo), rfl, hres1, by simp [hcl], hcm.set _ (by omega), ?_, hB7, hg7, rfl⟩
          rw [← hres2, val_last (n := m + 2) (by simp [hcl])]
          simp [List.take_set_of_le, List.getD, show m + 2 < cs.length by omega]
      clear hB7 hg7 hB5 hg5
      rintro l w8 mu (⟨gq', us', rfl, hgq', hul2, hum2, huv2, hB8, hg8, hmu⟩ | ⟨hub, rfl, hB8, hg8, hmu⟩)
      · have hgt : (us'.map i64n ++ post)[m + 2]? = some (i64n (us'.getD (m + 2) 0)) := getIA (by omega)
        refine dr U 600 rfl (by first | exact True.intro | (simp only [AllP, InR, List.nil_append, List.cons_append, and_true]; omega)) ?_
        refine il U rfl rfl rfl rfl rfl rfl rfl (fun _ => rfl) rfl (m + 2) (by omega) (by omega) (bk_viewI hB8) hgt ?_
        refine cF rfl rfl rfl (by show ¬ ((us'.getD (m + 2) 0 : Nat) : Int) < 0; omega) ?_
        refine dr U 600 rfl trivial ?_
        exact ret Tryz.results139 rfl ⟨_, rfl, by rw [← hgq']; rfl, us', hul2, hum2, huv2, hB8, hg8⟩
      · have hcn : val (cs.take (m + 2)) < pw (m + 2) := by have := val_lt (hcm.take (m + 2)); simpa [hcl] using this
        have hvn : val vs < pw (m + 2) := by have := val_lt hvm; rwa [hvl] at this
        have hover := fun ds cy2 h1 h2 => @est_over us cs ds (m + 2) gq (val vs) bo u0 cy2 hul' hrel hub hV0 hge hgle1 hcn h1 hvn h2
        refine dr U 600 rfl (by first | exact True.intro | (simp only [AllP, InR, List.nil_append, List.cons_append, and_true]; omega)) ?_
        refine il U rfl rfl rfl rfl rfl rfl rfl (fun _ => rfl) rfl (m + 2) (by omega) (by omega) (bk_vw hB8) (vw_top (by omega)) ?_
        refine cT rfl rfl rfl (by omega) ?_
        refine dr U 600 rfl trivial ?_
        refine loopR (fun l w' mu => ∃ i ds k, l = [(0, .slice (some ⟨g, pre.length, none⟩) (m + 3) c), (1, .slice (some ⟨gv, ov, none⟩) (m + 2) cv), (5, .int .i64 ((m + 2 : Nat) : Int)), (7, .int .i64 (gq : Nat)), (13, .int .i64 (k : Nat)), (14, .int .i64 (i : Nat))] ∧
          i ≤ m + 2 ∧ ds.length = m + 3 ∧ Lm ds ∧ k ≤ 1 ∧ ds.drop i = cs.drop i ∧ val (ds.take i) + k * pw i = val (cs.take i) + val (vs.take i) ∧ Bk w' g 3 (pre ++ vw ds post (m + 2) (.int .i64 ((u0 : Int) - (bo : Int)))) ∧ w.grownBy w' (some g) ∧ mu = m + 2 - i)
          ⟨0, cs, 0, rfl, by omega, hcl, hcm, by omega, rfl, by simp [val], hB8, hg8, rfl⟩ ⟨rfl, rfl, rfl, rfl, rfl, rfl, trivial⟩ ?_
        clear hB8 hg8
        rintro l w6 mu2 ⟨i, ds, k, rfl, hi, hdl, hdm, hk, hdd, hrel2, hB6, hg6, rfl⟩
        refine dr U 600 rfl trivial ?_
        refine cS rfl rfl rfl rfl (fun hq => ?_) (fun hq => ?_)
        · have hi' : i < m + 2 := by omega
          have hs := @addb_step ds cs vs i k (by omega) (by omega) (by omega) hdd hrel2
          have hy1 := hvm.getD i
          have hx1 := hcm.getD i
          have hV6 := hV.keep hg6 (fun k hk e => hav (by rw [hk]; exact e.symm))
          have hgx := slAt (bk_vw hB6) i (i := (i : Int)) (by omega) (show _ = some (i64n (cs.getD i 0)) by rw [vw_get (by omega) (by omega), getD_of_drop hdd])
          have hgy := slAt hV6 i (i := (i : Int)) (by omega) (getI (by omega))
          generalize hye : vs.getD i 0 = y at *
          generalize hxe : cs.getD i 0 = x at *
          refine dr U 600 rfl trivial ?_
          refine dwn 11 (fun w' => w'.heap = w6.heap) hmo ?_
          intro w7 hh7 hg7
          refine dq U [0,1,2,3,4,5,6,7,8,9,10] [(3, i64n x), (7, i64n y)] (by kernel_rfl) rfl rfl hh7 (by simp only [AllP, InR, List.nil_append, List.cons_append]; (repeat' apply And.intro); all_goals first | exact True.intro | omega | (simp only [List.length_cons, List.length_nil]; omega) | (intro w_ hw_; refine ldC U rfl hw_ ?_; first | assumption | (simp [add_plain]; assumption)) | (intro w_ hw_; refine run_load_cell U rfl ?_; first | exact hw_ | exact hw_.1 | exact hw_.2 | exact hw_.2.1 | exact hw_.2.2 | exact hw_.2.2.1 | exact hw_.2.2.2 | (simp [add_plain]; first | exact hw_.1 | exact hw_.2.1 | exact hw_.2.2))) ?_
          refine d1 rfl rfl (fun _ => hh7) ?_
          refine dr U 600 rfl trivial ?_
          refine d3 ?_; refine dend rfl (fun h => by cases h) ?_
          refine dr U 600 rfl (by first | exact True.intro | (simp only [AllP, InR, List.nil_append, List.cons_append, and_true]; omega)) ?_
          have hB7 := heap_bk hh7 hB6
          refine ix U (v := (i64n ((x + y + k) % 1000000000))) rfl rfl rfl rfl rfl rfl rfl (fun _ => rfl) (fun _ => iv (by omega)) (fun _ => rfl) rfl rfl i rfl (by omega) (by simp [vw_len]; omega) hB7 ?_
          intro p2 w8 hB8 hg8 hs8
          rw [vw_set (by omega) (by omega)] at hB8
          refine dr U 600 rfl (by first | exact True.intro | (simp only [AllP, InR, List.nil_append, List.cons_append, and_true]; omega)) ?_
          refine rend _ _ ⟨i + 1, ds.set i ((x + y + k) % 1000000000), (x + y + k) / 1000000000, rfl, by omega, by simp [hdl], hdm.set _ (by omega), by omega, by rw [set_drop_succ]; exact drop_succ_of_drop hdd, hs, hB8, gb_trans (gb_trans hg6 (gb_none _ hg7)) hg8, rfl⟩ (by omega)
            ⟨rfl, rfl, rfl, rfl, iv (by omega), iv (by omega), trivial⟩
        · obtain rfl : i = m + 2 := by omega
          rw [take_all (show vs.length ≤ m + 2 by omega)] at hrel2
          have hdn : val (ds.take (m + 2)) < pw (m + 2) := by have := val_lt (hdm.take (m + 2)); simpa [hdl] using this
          obtain ⟨hres1, hpos, hres2, htop2⟩ := hover ds k hdn hrel2
          refine dr U 600 rfl (by first | exact True.intro | (simp only [AllP, InR, List.nil_append, List.cons_append, and_true]; omega)) ?_
          refine il U rfl rfl rfl rfl rfl rfl rfl (fun _ => rfl) rfl (m + 2) (by omega) (by omega) (bk_vw hB6) (vw_top (by omega)) ?_
          refine dr U 600 rfl (by first | exact True.intro | (simp only [AllP, InR, List.nil_append, List.cons_append, and_true]; omega)) ?_
          refine ix U (v := (i64n 0)) rfl rfl rfl rfl rfl rfl rfl (fun _ => rfl) (fun _ => iv (by omega)) (fun _ => rfl) rfl rfl (m + 2) rfl (by omega) (by simp [vw_len]; omega) hB6 ?_
          intro p2 w8 hB8 hg8 hs8
          rw [vw_set_top, vw_nat (by omega), ← List.append_assoc] at hB8
          refine dr U 600 rfl (by first | exact True.intro | (simp only [AllP, InR, List.nil_append, List.cons_append, and_true]; omega)) ?_
          refine rend [(0, .slice (some ⟨g, pre.length, none⟩) (m + 3) c), (1, .slice (some ⟨gv, ov, none⟩) (m + 2) cv), (5, .int .i64 ((m + 2 : Nat) : Int)), (7, .int .i64 ((gq - 1 : Nat) : Int))] 0 (.inl ⟨gq - 1, ds.set (m + 2) 0, rfl, hres1, by simp [hdl], hdm.set _ (by omega), ?_, hB8, gb_trans hg6 hg8, rfl⟩) (by omega) ⟨rfl, rfl, rfl, iv (by omega), trivial⟩
          rw [← hres2, val_last (n := m + 2) (by simp [hdl])]
          simp [List.take_set_of_le, List.getD, show m + 2 < ds.length by omega]
end Go.Proofs.YtfdekppnilffeaaGreatDoor
end
section
set_option linter.unusedSimpArgs false
set_option linter.unusedVariables false
set_option maxHeartbeats 2000000
namespace Go.Proofs.YtfdekppnilffeaaGreatDoor
open Go Go.Proofs Go.RowKit Go.Lib

/-- A result that reads as these limbs. -/
def RedI (w : World) (v : Value) (zs : List Nat) : Prop := ∃ a c, v = .slice a zs.length c ∧ RdI w a c zs
theorem OwnI.red {w w' : World} {v : Value} {zs : List Nat} (h : OwnI w w' v zs) : RedI w' v zs := by
  obtain ⟨a, c, rfl, ho, _⟩ := h
  exact ⟨a, c, rfl, ownI_rd ho⟩
theorem RedI.below {w w' : World} {v : Value} {zs : List Nat} (h : RedI w v zs) (hb : Below w.heap.size w w') : RedI w' v zs := by
  obtain ⟨a, c, rfl, hr⟩ := h
  exact ⟨a, c, rfl, hr.below hb⟩
theorem RdI.nil (w : World) : RdI w none 0 [] := ⟨Sl.nil _ _, Nat.le_refl _, fun g h => by cases h⟩

theorem rtrim_red (zs : List Nat) (hz : Lm zs) (m : Nat) (hm : zs.length = m) (a : Option Addr) (c : Nat) (w : World) (h : RdI w a c zs) (hl : m ≤ 1099511627776) :
    Calls Tryz.prog 117 #[.slice a m c] w (Ret fun v w' => v = .slice a (lim (val zs)).length c ∧ w = w' ∧ RdI w a c (lim (val zs)) ∧ (lim (val zs)).length ≤ m) := by
  subst hm
  refine (rtrim_calls zs a c w h hl).mono ?_
  rintro e w' ⟨v, rfl, rfl, rfl⟩
  obtain ⟨t, ht⟩ := trimN_prefix zs
  rw [trimN_eq hz] at ht ⊢
  have hlen := congrArg List.length ht
  simp at hlen
  refine ⟨_, rfl, rfl, rfl, ⟨?_, by have := h.2.1; omega, h.2.2⟩, by omega⟩
  have h1 := h.1.take (lim (val zs)).length
  have h2 : ∀ N, zs = N ++ t → zs.take N.length = N := fun N h => by rw [h, List.take_left' rfl]
  rwa [← List.map_take, h2 _ ht] at h1

theorem div_top {us : List Nat} {p d L n k : Nat} (hv : val us = p * d) (hp : p < pw L) (hd : 0 < d) (hk : k ≤ us.length) (hL : L = n + k) : val (us.drop k) < d * pw n := by
  have h1 := val_take_drop us k hk
  have h2 : p * d < pw L * d := Nat.mul_lt_mul_of_pos_right hp hd
  rw [hL, pw_add] at h2
  have h3 : pw k * val (us.drop k) < pw k * (d * pw n) := by
    have : pw k * (d * pw n) = pw n * pw k * d := by
      rw [Nat.mul_comm d, ← Nat.mul_assoc, Nat.mul_comm (pw k)]
    omega
  exact Nat.lt_of_mul_lt_mul_left h3

theorem div_len {q d bt k : Nat} (hq : (lim q).length = k + 1) (hbt : (lim q).getD k 0 = bt) (hd : (bt + 1) * d ≤ 1000000000) (hd0 : 0 < d) : (lim (q * d)).length = k + 1 := by
  have h1 := val_take_succ (lim q) k (by omega)
  rw [take_all (by omega), val_lim, hbt] at h1
  have h2 := val_lt ((lim_Lm q).take k)
  simp only [List.length_take] at h2
  rw [Nat.min_eq_left (by omega)] at h2
  have h3 : q < (bt + 1) * pw k := by rw [Nat.add_mul, Nat.mul_comm bt]; omega
  have h4 : q * d < (bt + 1) * pw k * d := Nat.mul_lt_mul_of_pos_right h3 hd0
  have h5 : (bt + 1) * pw k * d ≤ pw (k + 1) := by
    rw [pw_succ, Nat.mul_right_comm]
    exact Nat.mul_le_mul_right _ hd
  have h6 := lim_len_le (Nat.lt_of_lt_of_le h4 h5)
  have h7 := lim_len_mono (Nat.le_mul_of_pos_right q hd0)
  omega

theorem divide_calls (p q : Nat) (hq0 : 0 < q) (a b : Option Addr) (c d : Nat) (w : World) (ha : RdI w a c (lim p)) (hb : RdI w b d (lim q)) (hpl : (lim p).length ≤ 68719476736) (hql : (lim q).length ≤ 68719476736) :
    Calls Tryz.prog 118 #[.slice a (lim p).length c, .slice b (lim q).length d] w (Ret fun v w' => ∃ v1 v2, v = .tuple ⟨[v1, v2]⟩ ∧ RedI w' v1 (lim (p / q)) ∧ RedI w' v2 (lim (p % q)) ∧ Below w.heap.size w w') := by
  refine enter Tryz.func118 rfl Tryz.ntmps118 (Nat.le_of_ble_eq_true rfl) ?_
  refine dr U 600 rfl trivial ?_
  refine call (f := 88) rfl rfl cb88 (order_calls p q a b c d w ha hb (by omega) (by omega)) ?_
  rintro v w1 ⟨rfl, hB1⟩
  refine ⟨_, rfl, ?_⟩
  have ha1 := ha.below hB1
  have hb1 := hb.below hB1
  refine dr U 600 rfl trivial ?_
  refine cS rfl rfl rfl rfl (fun hq => ?_) (fun hq => ?_)
  · have hlt := cmpN_neg.1 hq
    refine dr U 600 rfl trivial ?_
    refine ret Tryz.results118 rfl ⟨_, rfl, _, _, rfl, ?_, ?_, hB1⟩
    · rw [Nat.div_eq_of_lt hlt, lim_zero]; exact ⟨none, 0, rfl, RdI.nil _⟩
    · rw [Nat.mod_eq_of_lt hlt]; exact ⟨a, c, rfl, ha1⟩
  · have hqp : q ≤ p := by
      rcases Nat.lt_or_ge p q with h | h
      · exact absurd (cmpN_neg.2 h) hq
      · exact h
    have hqn : lim q ≠ [] := fun e => by rw [lim_eq_nil] at e; omega
    have hqlen := List.length_pos_iff.2 hqn
    clear hq
    refine dr U 600 rfl trivial ?_
    refine cS rfl rfl rfl rfl (fun hq => ?_) (fun hq => ?_)
    · have hl1 : (lim q).length = 1 := by omega
      have hqB : q < 1000000000 := by have := lim_len_lt q; rw [hl1] at this; exact this
      have hq1 := lim_small (by omega) hqB
      refine dr U 600 rfl (by first | exact True.intro | (simp only [AllP, InR, List.nil_append, List.cons_append, and_true]; omega)) ?_
      refine il U rfl rfl rfl rfl rfl rfl rfl (fun _ => rfl) rfl 0 (by omega) (by omega) hb1.1 (show _ = some (i64n q) by rw [hq1]; rfl) ?_
      refine dr U 600 rfl trivial ?_
      refine call (f := 137) rfl rfl cb137 (short_calls p q hq0 hqB a c w1 ha1 (by omega)) ?_
      rintro v w2 ⟨v1, rfl, hown⟩
      have hr := hown.red
      obtain ⟨_, _, _, _, hB2⟩ := hown
      refine ⟨_, rfl, ?_⟩
      refine dr U 600 rfl trivial ?_
      refine bs1 U (v := i64n (p % q)) rfl rfl rfl rfl rfl rfl rfl ?_
      intro w3 hk3 hs3 hg3
      have hmB : p % q < 1000000000 := Nat.lt_trans (Nat.mod_lt p hq0) hqB
      have hB3 : Below w2.heap.size w2 w3 := (Below.refl _ _).grown hg3 (Nat.le_refl _) (fun k e => by cases e)
      have hrd : RdI w3 (some ⟨w2.heap.size, 0, none⟩) 1 [p % q] := ⟨by simpa using hk3.sl 0, by simp, fun g hg => by simp [ab] at hg; subst hg; exact hk3.tg⟩
      refine call (f := 117) rfl rfl cb117 (rtrim_red [p % q] (Lm.cons hmB Lm.nil) 1 rfl _ 1 w3 hrd (by omega)) ?_
      rintro v w4 ⟨rfl, rfl, hrd4, _⟩
      refine ⟨_, rfl, ?_⟩
      refine dr U 600 rfl trivial ?_
      refine ret Tryz.results118 rfl ⟨_, rfl, _, _, rfl, hr.below hB3, ⟨some ⟨w2.heap.size, 0, none⟩, 1, ?_, ?_⟩, bl_tr (bl_tr hB1 hB2 hB1.size) hB3 (by have := hB1.size; have := hB2.size; omega)⟩
      · rw [show val [p % q] = p % q by simp [val]]
      · rw [show val [p % q] = p % q by simp [val]] at hrd4; exact hrd4
    · have hl2 : 2 ≤ (lim q).length := by omega
      have hbt := lim_top (n := q) (by omega)
      have hbl := (lim_Lm q).getD ((lim q).length - 1)
      have hsp := scale_pos hbl
      refine dr U 600 rfl (by first | exact True.intro | (simp only [AllP, InR, List.nil_append, List.cons_append, and_true]; omega)) ?_
      refine il U rfl rfl rfl rfl rfl rfl rfl (fun _ => rfl) rfl ((lim q).length - 1) (by omega) (by omega) hb1.1 (getI (by omega)) ?_
      generalize hbe : (lim q).getD ((lim q).length - 1) 0 = bt at *
      have hQ : (1000000000 : Int) / ((bt : Int) + 1) = ((1000000000 / (bt + 1) : Nat) : Int) := by
        rw [show ((bt : Int) + 1) = ((bt + 1 : Nat) : Int) by omega]; rfl
      have hslt := hsp.2 hbt
      have hspos := hsp.1
      have hsB : (bt + 1) * (1000000000 / (bt + 1)) ≤ 1000000000 := Nat.mul_div_le _ _
      generalize hse : 1000000000 / (bt + 1) = s at *
      refine dr U 600 rfl (by first | exact True.intro | (simp only [AllP, InR, List.nil_append, List.cons_append, and_true]; omega)) ?_
      rw [hQ]
      obtain ⟨m, hm⟩ : ∃ m, (lim q).length = m + 2 := ⟨(lim q).length - 2, by omega⟩
      have hn := div_len (d := s) (k := m + 1) hm (by rw [← hbe]; congr 1; omega) hsB hspos
      have hLq := lim_len_mono hqp
      have hpL := lim_len_lt p
      have hV0 : 0 < q * s := Nat.mul_pos hq0 hspos
      have hVlo : s * pw (m + 1) ≤ q * s := by
        rw [Nat.mul_comm]; exact Nat.mul_le_mul_right _ (lim_len_ge hm)
      have hVb := lim_len_lt (q * s)
      have hvt := lim_top (n := q * s) (by omega)
      rw [hn] at hVb hvt
      refine call (f := 138) rfl rfl cb138 (scaled_calls p s hspos hslt a c w1 ha1 (by omega)) ?_
      rintro v w2 ⟨u0, ⟨au, cu, rfl, hou, hB2⟩, hul0, hum0, huv0⟩
      refine ⟨_, rfl, ?_⟩
      have hB2' := bl_tr hB1 hB2 hB1.size
      refine dr U 600 rfl trivial ?_
      refine call (f := 138) rfl rfl cb138 (scaled_calls q s hspos hslt b d w2 (hb.below hB2') (by omega)) ?_
      rintro v w3 ⟨v0, ⟨av, cv, rfl, hov, hB3⟩, hvl0, hvm0, hvv0⟩
      refine ⟨_, rfl, ?_⟩
      have hB3' := bl_tr hB2' hB3 hB2'.size
      refine dr U 600 rfl trivial ?_
      refine call (f := 117) rfl rfl cb117 (rtrim_red v0 hvm0 _ rfl av cv w3 (ownI_rd hov) (by omega)) ?_
      rintro v w4 ⟨rfl, rfl, hrv, _⟩
      refine ⟨_, rfl, ?_⟩
      rw [hvv0] at hrv ⊢
      rw [hn]
      have hvm := lim_Lm (q * s)
      have hvv := val_lim (q * s)
      generalize hvse : lim (q * s) = vs at *
      have hu0l : u0.length = (lim p).length + 1 := hul0
      generalize hLp : (lim p).length = L at *
      rw [hu0l] at hou ⊢
      obtain ⟨gu, cur, rfl, hgub, hgk2, hcur, hcl, hcle⟩ := own_bk hou (by omega)
      have hgu2 := hgk2.lt
      have hgk3 := hgk2.below hB3 hgu2
      have hvb := own_block hov
      have hcurl : cur = u0.map i64n ++ cur.drop (L + 1) := by rw [← hcur, List.take_append_drop]
      generalize htl : cur.drop (L + 1) = tl at *
      subst hcurl
      refine dr U 600 rfl (by first | exact True.intro | (simp only [AllP, InR, List.nil_append, List.cons_append, and_true]; omega)) ?_
      refine mkn U rfl rfl rfl rfl rfl rfl rfl (L + 1 - (m + 2)) (by omega) (by omega) (by omega) (by omega) w3.heap.size (Nat.le_refl _) ?_
      intro aq w5 hoq hg5
      rw [rep_i64n] at hoq
      have hqb := own_block hoq
      have hsz3 := hB3.size
      have hsz2 := hB2.size
      have hsz1 := hB1.size
      have hB5 := hB3'.grown hg5 hB3'.size (fun k e => by cases e)
      have hgk5 := hgk3.keep hg5 (by simp)
      have hSv5 := hrv.1.keep hg5 (by simp)
      have hvne : ∀ g, ab av = some g → g ≠ gu := fun g hg => by have := hvb g hg; omega
      have hrs0 := div_top (n := m + 1) (k := L + 1 - (m + 2)) huv0 hpL hspos (by omega) (by omega)
      clear hou hov hgk2 hgk3
      refine dr U 600 rfl (by first | exact True.intro | (simp only [AllP, InR, List.nil_append, List.cons_append, and_true]; omega)) ?_
      refine loopR (fun l w' mu => ∃ (i : Nat) (rs zs qd : List Nat), l = [(8, .int .i64 (s : Nat)), (9, .slice (some ⟨gu, 0, none⟩) (L + 1) cu), (10, .slice av (m + 2) cv), (11, .int .i64 ((m + 2 : Nat) : Int)), (12, .slice aq (L + 1 - (m + 2)) (L + 1 - (m + 2))), (13, .int .i64 ((i : Int) - 1))] ∧
          i ≤ L + 1 - (m + 2) ∧ rs.length = m + 2 ∧ zs.length + i = L + 1 - (m + 2) ∧ Lm rs ∧ val rs < q * s ∧ qd.length + i = L + 1 - (m + 2) ∧ Lm qd ∧ val (u0.drop i) = val qd * (q * s) + val rs ∧
          Bk w' gu 3 ((u0.take i ++ rs ++ zs).map i64n ++ tl) ∧ w'.ownsRow w3.heap.size 3 1 (.slice aq (L + 1 - (m + 2)) (L + 1 - (m + 2))) (L + 1 - (m + 2)) ((List.replicate i 0 ++ qd).map i64n) ∧ Sl w' av (vs.map i64n) ∧ Below w.heap.size w w' ∧ mu = i)
        (l0 := [(8, .int .i64 (s : Nat)), (9, .slice (some ⟨gu, 0, none⟩) (L + 1) cu), (10, .slice av (m + 2) cv), (11, .int .i64 ((m + 2 : Nat) : Int)), (12, .slice aq (L + 1 - (m + 2)) (L + 1 - (m + 2))), (13, .int .i64 (((L + 1 - (m + 2) : Nat) : Int) - 1))])
        ⟨L + 1 - (m + 2), u0.drop (L + 1 - (m + 2)), [], [], rfl, Nat.le_refl _, by simp; omega, by simp, hum0.drop _, by omega, by simp, Lm.nil, by simp [val], by simpa using hgk5, by simpa using hoq, hSv5, hB5, rfl⟩ ⟨rfl, rfl, rfl, iv (by omega), rfl, iv (by omega), trivial⟩ ?_
      clear hoq hgk5 hSv5 hB5
      rintro l W mu ⟨j, rs, zs, qd, rfl, hj, hrl, hzl, hrm, hrv', hqdl, hqdm, hrel, hgk, hoq, hSv, hB, hmu⟩
      have hBs := hB.size
      refine dr U 600 rfl trivial ?_
      refine cS rfl rfl rfl rfl (fun hq => ?_) (fun hq => ?_)
      · obtain ⟨i, rfl⟩ : ∃ i, j = i + 1 := ⟨j - 1, by omega⟩
        have hi2 : i < u0.length := by omega
        have hx1 := hum0.getD i
        have htk := take_snoc u0 i hi2
        have hstep := dm_step hi2 rfl hrel
        generalize hxe : u0.getD i 0 = x at *
        have hlt := dm_lt hx1 hrv'
        have hqlt := Nat.div_lt_of_lt_mul hlt
        have hrlt := Nat.mod_lt (val (x :: rs)) hV0
        have hgk' : Bk W gu 3 ((u0.take i).map i64n ++ (x :: rs).map i64n ++ (zs.map i64n ++ tl)) := by
          rw [htk] at hgk; simpa using hgk
        have hpl' : ((u0.take i).map i64n).length = i := by simp; omega
        rw [show (((i + 1 : Nat) : Int) - 1) = (i : Int) by omega]
        refine dr U 600 rfl (by first | exact True.intro | (simp only [AllP, InR, List.nil_append, List.cons_append, and_true]; omega)) ?_
        have hest := step_calls gu m (cu - i) cv av (x :: rs) vs ((u0.take i).map i64n) (zs.map i64n ++ tl) W hgk' hSv (fun e => hvne gu e rfl) (by simp [hrl]) hn (Lm.cons hx1 hrm) hvm (by simpa using hvt) (by rw [hvv]; exact hlt) (by omega)
        rw [hpl'] at hest
        have hcast : ∀ R, Calls Tryz.prog 139 #[.slice (some ⟨gu, i, none⟩) (m + 3) (cu - i), .slice av (m + 2) cv] W R → Calls Tryz.prog 139 #[.slice (sadd (some ⟨gu, 0, none⟩) cu ((i : Int)).toNat 1) (((i : Int) + ((m + 2 : Nat) : Int) + 1).toNat - ((i : Int)).toNat) (cu - ((i : Int)).toNat), .slice av (m + 2) cv] W R := fun R h => by
          rw [show sadd (some ⟨gu, 0, none⟩) cu ((i : Int)).toNat 1 = some ⟨gu, i, none⟩ from by
              unfold sadd; rw [if_neg (by omega)]; simp [add_plain],
            show ((i : Int) + ((m + 2 : Nat) : Int) + 1).toNat - ((i : Int)).toNat = m + 3 from by omega, show cu - ((i : Int)).toNat = cu - i from by omega]
          exact h
        refine call (f := 139) rfl rfl cb139 (hcast _ hest) ?_
        rintro v w6 ⟨rfl, us', hul', hum', huv', hgk6, hg6⟩
        rw [hvv] at huv'
        refine ⟨_, rfl, ?_⟩
        have hsz6 := hg6.size
        have hoq6 := own_keep hoq hg6 (fun g hg => by have := (own_block hoq g hg).1; simp; omega)
        have hSv6 := hSv.keep hg6 (fun g hg => by have := hvne g hg; simp; exact fun e => this e.symm)
        refine is U (v := (i64n (val (x :: rs) / val vs))) rfl rfl rfl rfl rfl rfl rfl (fun _ => rfl) (fun _ => rfl) (fun _ => rfl) rfl rfl i rfl (by omega) hoq6 ?_
        intro p0 w7 hoq7 hg7 hs7
        obtain ⟨hlast, hlv⟩ := last0 hul' (by rw [huv']; exact hrlt) (Nat.le_of_lt hVb)
        have hne : ab aq ≠ some gu := fun e => by have := (own_block hoq6 gu e).1; omega
        rw [set_i64n, small_set, hvv] at hoq7
        have hB6 := hB.grown hg6 hB.size (fun k e => by cases e; omega)
        have hB7 := hB6.grown hg7 hB6.size (fun k e => by have := (own_block hoq6 k e).1; omega)
        refine dr U 600 rfl (by first | exact True.intro | (simp only [AllP, InR, List.nil_append, List.cons_append, and_true]; omega)) ?_
        refine rend _ i ⟨i, us'.take (m + 2), 0 :: zs, val (x :: rs) / (q * s) :: qd, rfl, by omega, by simp [hul'], by simp; omega, hum'.take _, by rw [hlv, huv']; exact hrlt, by simp; omega, Lm.cons hqlt hqdm, by rw [hlv, huv']; exact hstep, ?_, hoq7, hSv6.keep hg7 (fun g hg e => ?_), hB7, rfl⟩ (by omega) ⟨rfl, rfl, rfl, rfl, rfl, rfl, trivial⟩
        · have h1 := hgk6.keep hg7 hne
          rw [hlast] at h1
          simpa using h1
        · have := (own_block hoq6 g e).1
          have := (hvb g hg).2
          omega
      · obtain rfl : j = 0 := by omega
        simp only [List.replicate_zero, List.nil_append] at hoq
        rw [List.drop_zero] at hrel
        rw [huv0] at hrel
        have hdiv : p / q = val qd ∧ s * (p % q) = val rs := by
          have h1 : p * s / (q * s) = val qd := by
            rw [hrel, Nat.mul_comm (val qd), Nat.mul_add_div hV0, Nat.div_eq_of_lt hrv']; rfl
          have h2 : p * s % (q * s) = val rs := by
            rw [hrel, Nat.mul_comm (val qd), Nat.mul_add_mod, Nat.mod_eq_of_lt hrv']
          rw [Nat.mul_div_mul_right _ _ hspos] at h1
          rw [Nat.mul_mod_mul_right, Nat.mul_comm] at h2
          exact ⟨h1, h2⟩
        have hgk' : Bk W gu 3 ([] ++ rs.map i64n ++ (zs.map i64n ++ tl)) := by simpa using hgk
        have hSr : Sl W (some ⟨gu, 0, none⟩) (rs.map i64n) := by
          have := (bk_viewI hgk').take (m + 2)
          rwa [List.take_left' (by simpa using hrl)] at this
        have hRr : RdI W (some ⟨gu, 0, none⟩) cu rs := ⟨hSr, by omega, fun g hg => by simp [ab] at hg; subst hg; exact hgk.tg⟩
        refine dr U 600 rfl (by first | exact True.intro | (simp only [AllP, InR, List.nil_append, List.cons_append, and_true]; omega)) ?_
        refine call (f := 117) rfl rfl cb117 (rtrim_red rs hrm (m + 2) hrl (some ⟨gu, 0, none⟩) cu W hRr (by omega)) ?_
        rintro v w6 ⟨rfl, rfl, hRt, hltl⟩
        refine ⟨_, rfl, ?_⟩
        rw [← hdiv.2] at hRt hltl ⊢
        refine dr U 600 rfl trivial ?_
        refine call (f := 137) rfl rfl cb137 (short_calls (s * (p % q)) s hspos hslt (some ⟨gu, 0, none⟩) cu W hRt (by omega)) ?_
        rintro v w7 ⟨v1, rfl, hown⟩
        rw [Nat.mul_div_cancel_left _ hspos] at hown
        have hr7 := hown.red
        obtain ⟨_, _, _, _, hB7⟩ := hown
        refine ⟨_, rfl, ?_⟩
        refine dr U 600 rfl trivial ?_
        have hRq : RdI w7 aq (L + 1 - (m + 2)) qd := by
          have := ownI_rd (xs := qd) (m := L + 1 - (m + 2)) hoq
          exact this.below hB7
        refine call (f := 117) rfl rfl cb117 (rtrim_red qd hqdm (L + 1 - (m + 2)) (by omega) aq _ w7 hRq (by omega)) ?_
        rintro v w8 ⟨rfl, rfl, hRq2, _⟩
        refine ⟨_, rfl, ?_⟩
        rw [← hdiv.1] at hRq2 ⊢
        refine dr U 600 rfl trivial ?_
        exact ret Tryz.results118 rfl ⟨_, rfl, _, _, rfl, ⟨_, _, rfl, hRq2⟩, hr7, bl_tr hB hB7 hB.size⟩

theorem common_calls (p q : Nat) (a b : Option Addr) (c d : Nat) (w : World) (ha : RdI w a c (lim p)) (hb : RdI w b d (lim q)) (hpl : (lim p).length ≤ 68719476736) (hql : (lim q).length ≤ 68719476736) :
    Calls Tryz.prog 103 #[.slice a (lim p).length c, .slice b (lim q).length d] w (Ret fun v w' => RedI w' v (lim (Nat.gcd p q)) ∧ Below w.heap.size w w') := by
  refine enter Tryz.func103 rfl Tryz.ntmps103 (Nat.le_of_ble_eq_true rfl) ?_
  refine dr U 600 rfl trivial ?_
  refine loopR (fun l w' mu => ∃ m0 a0 c0 b0 d0, l = [(0, .slice a0 (lim m0).length c0), (1, .slice b0 (lim mu).length d0)] ∧ RdI w' a0 c0 (lim m0) ∧ RdI w' b0 d0 (lim mu) ∧ Nat.gcd m0 mu = Nat.gcd p q ∧ (lim m0).length ≤ 68719476736 ∧ (lim mu).length ≤ 68719476736 ∧ Below w.heap.size w w')
    (m0 := q) ⟨p, a, c, b, d, rfl, ha, hb, rfl, hpl, hql, Below.refl _ _⟩ ⟨rfl, rfl, trivial⟩ ?_
  rintro l w1 mu ⟨m0, a0, c0, b0, d0, rfl, ha, hb, hg, hl1, hl2, hB⟩
  refine dr U 600 rfl trivial ?_
  refine cS rfl rfl rfl rfl (fun hq => ?_) (fun hq => ?_)
  · have h0 : 0 < mu := by
      rcases Nat.eq_zero_or_pos mu with h | h
      · rw [h, lim_zero] at hq; simp at hq
      · exact h
    refine dr U 600 rfl trivial ?_
    refine call (f := 118) rfl rfl cb118 (divide_calls m0 mu h0 a0 b0 c0 d0 w1 ha hb hl1 hl2) ?_
    rintro v w2 ⟨v1, v2, rfl, _, ⟨a2, c2, rfl, hr2⟩, hB2⟩
    refine ⟨_, rfl, ?_⟩
    refine dr U 600 rfl trivial ?_
    refine rend _ (m0 % mu) ⟨mu, b0, d0, a2, c2, rfl, hb.below hB2, hr2, ?_, hl2, Nat.le_trans (lim_len_mono (Nat.le_of_lt (Nat.mod_lt _ h0))) hl2, bl_tr hB hB2 hB.size⟩ (Nat.mod_lt _ h0) ⟨rfl, rfl, trivial⟩
    rw [← hg, Nat.gcd_comm m0 mu, Nat.gcd_rec mu m0]; exact Nat.gcd_comm _ _
  · have h0 : mu = 0 := lim_eq_nil.1 (List.length_eq_zero_iff.1 (by omega))
    subst h0
    rw [Nat.gcd_zero_right] at hg
    subst hg
    refine dr U 600 rfl trivial ?_
    exact ret Tryz.results103 rfl ⟨_, rfl, ⟨a0, c0, rfl, ha⟩, hB⟩
end Go.Proofs.YtfdekppnilffeaaGreatDoor
end
