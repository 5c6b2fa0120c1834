/-
  Walk of matrix.reduce: it does what elimination does, in place.
  Conditions: a bound on the sizes of the numbers.
  Walks of matrix.solve and linear.solved.
-/
import Derived.Test.YtejlpdbiacmfcaaGreatDoorYVt
set_option linter.unusedSimpArgs false
set_option linter.unusedVariables false
namespace Go.Proofs.YtejlpdbiacmfcaaGreatDoor
section
set_option maxHeartbeats 4000000
open Go Go.Proofs Go.RowKit Go.Lib

set_option maxRecDepth 100000 in
theorem lreduce_calls (m n cols L : Nat) (f : Nat → Nat → Rat) (hn : 0 < n) (hcols : cols ≤ n) (hm' : m ≤ 1000000) (hn' : n ≤ 1000000) (hL : 3 * L ≤ 1000000)
  (hS : ∀ k, k < cols → ∀ i t, i < m → t < n → Small L ((gj m f k).1 i t)) (go c base : Nat) (A0 : Nat → Option Addr) (C0 : Nat → Nat) (w : World)
  (ho0 : w.ownsRow base 105 1 (.slice (some ⟨go, 0, none⟩) m c) m (rws m n A0 C0)) (hO0 : Own2 w base m A0 (fun _ => n) C0 f) (hbase : base ≤ w.heap.size) :
  Calls Tryz.prog 120 #[.slice (some ⟨go, 0, none⟩) m c, .int .i64 (cols : Nat)] w (Ret fun v w' => v = .int .i64 ((gj m f cols).2 : Nat) ∧ ∃ A C, RdcI w w' base go c m n A C (gj m f cols).1) := by
 have hmc := own_cap3 ho0
 refine enter Tryz.func120 rfl Tryz.ntmps120 (Nat.le_of_ble_eq_true rfl) ?_
 refine dT rfl ?_
 refine scp (fun _ _ _ h => h) ?_
 refine dT rfl ?_
 refine lbl ?_
 refine dT rfl ?_
 refine loopR (fun fr w' mm => ∃ (k : Nat) (g : Mx) (r : Nat) (A : Nat → Option Addr) (C : Nat → Nat), fr = [(0, .slice (some ⟨go, 0, none⟩) m c), (5, .int .i64 (r : Nat)), (16, .int .i64 (cols : Nat)), (17, .int .i64 (k : Nat))] ∧ k ≤ cols ∧ gj m f k = (g, r) ∧ RdcI w w' base go c m n A C g ∧ mm = cols - k)
  ⟨0, f, 0, A0, C0, rfl, by omega, rfl, ⟨ho0, hO0, Below.refl _ _⟩, rfl⟩ ⟨rfl, rfl, rfl, rfl, trivial⟩ ?_
 rintro fr w1 mm ⟨k, g, r, A, C, rfl, hk, hs, hI, rfl⟩
 have hle := gj_le m f k
 rw [hs] at hle
 obtain ⟨hrm, hrk⟩ : r ≤ m ∧ r ≤ k := hle
 refine dT rfl ?_
 refine cS rfl rfl rfl rfl (fun hq => ?_) (fun hq => ?_)
 ·have hkc : k < cols := by omega
  have hkn : k < n := by omega
  have hSg := hS k hkc
  rw [hs] at hSg
  have hSg : ∀ i t, i < m → t < n → Small L (g i t) := hSg
  refine dT rfl ?_
  refine al U rfl rfl rfl rfl ?_
  intro b6 w2 hb6 hs2 hk6 hg2
  refine dT rfl ?_
  refine st U rfl rfl rfl rfl rfl rfl rfl rfl rfl rfl (hk6) ?_
  intro w3 hk6 hg3 hs3
  have hB13 : Below w1.heap.size w1 w3 := ((Below.refl _ _).grown hg2 (Nat.le_refl _) (fun k e => by cases e)).grown hg3 (by omega) (fun k e => by cases e; omega)
  have hI := hI.step hB13 hbase
  refine dT rfl ?_
  refine cS rfl rfl rfl rfl (fun hq1 => ?_) (fun hq1 => ?_)
  ·obtain rfl : r = m := by omega
   have hst := gj_stop (m := r) (k := k) (f := f) (by rw [hs]) (cols - k)
   rw [show k + (cols - k) = cols by omega, hs] at hst
   refine dT rfl ?_
   exact ret Tryz.results120 rfl ⟨_, rfl, by rw [hst]; rfl, A, C, by rw [hst]; exact hI⟩
  have hr : r < m := by omega
  refine dS rfl ?_
  simp only [Int.toNat_natCast]
  have hdr : Sl w3 (sadd (some ⟨go, 0, none⟩) c r 1) (rws (m - r) n (fun j => A (r + j)) (fun j => C (r + j))) := by
   rw [← rws_drop]; exact (own_sl hI.1).drop r c (by rw [rws_length]; exact hmc)
  have hgo := (own_block hI.1 go rfl).2
  refine call (f := 149) rfl rfl cb149 (lindex_calls (m - r) n k (fun j => g (r + j)) hkn (fun j => A (r + j)) (fun j => C (r + j)) _ _ b6 w3 (by omega) hdr (fun q hq => by rw [sadd_ab] at hq; cases hq; exact hgo) (fun i hi => by
   obtain ⟨cs, h1, h2⟩ := hI.2.1.1 (r + i) (by omega)
   exact own_vec h1 h2) hk6) ?_
  rintro v w4 ⟨hv, hB4⟩
  have hI := hI.step hB4 hbase
  have hk6 := hk6.below hB4 hk6.lt
  refine ⟨_, rfl, ?_⟩
  rcases hv with ⟨i, rfl, hi, hne, hz⟩ | ⟨rfl, hz⟩
  ·have hri : r + i < m := by omega
   have hgs := gj_succ_some (i := r + i) hs (by omega) hri hne (fun j h1 h2 => by have := hz (j - r) (by omega); rwa [show r + (j - r) = j by omega] at this)
   refine dT rfl ?_
   refine cF rfl rfl rfl ((by omega)) ?_; refine dT rfl ?_
   refine dwn 17 (fun W => Sl W (some ⟨go, 0, none⟩) (rws m n A C)) hmo ?_
   intro w5 hh5 hg5
   have hB45 : Below w4.heap.size w4 w5 := (Below.refl _ _).grown hg5 (Nat.le_refl _) (fun k e => by cases e)
   have hI := hI.step hB45 hbase
   have hk6 := hk6.below hB45 hk6.lt
   have hl11 : ∀ W, Sl W (some ⟨go, 0, none⟩) (rws m n A C) → (loadVar 105 ((⟨go, 0, none⟩ : Addr).add ((((r : Nat) : Int) + ((i : Nat) : Int)).toNat * 1))).run Tryz.prog W = .ok (.slice (A (r + i)) n (C (r + i))) W := fun W h => run_load_cell U rfl (by
    rw [show (((r : Nat) : Int) + ((i : Nat) : Int)).toNat = r + i by omega]
    simpa [add_plain] using slc2 h (rws_get hri))
   have hl15 : ∀ W, Sl W (some ⟨go, 0, none⟩) (rws m n A C) → (loadVar 105 ((⟨go, 0, none⟩ : Addr).add (((r : Nat) : Int).toNat * 1))).run Tryz.prog W = .ok (.slice (A r) n (C r)) W := fun W h => run_load_cell U rfl (by simpa [add_plain] using slc2 h (rws_get hr))
   refine dq U [0,1,2,3,4,5,6,7,8,9,10,11,12,13,14,15,16] [(11, .slice (A (r + i)) n (C (r + i))), (15, .slice (A r) n (C r))] (by kernel_rfl) rfl rfl (own_sl hI.1) (by simp only [AllP, InR, List.nil_append, List.cons_append]; (repeat' apply And.intro); all_goals first | exact True.intro | omega | (with_reducible exact hl11) | (with_reducible exact hl15)) ?_
   refine d1 rfl rfl (fun _ => own_sl hI.1) ?_
   refine so U (v := (.slice (A (r + i)) n (C (r + i)))) rfl rfl rfl rfl rfl rfl rfl r (by simp [add_plain]) hr hI.1 ?_
   intro w6 ho6 hg6 hs6
   rw [rws_set hr] at ho6
   have hgr6 : ∀ q, some go = some q → Tg w5 105 q := fun q e => by cases e; exact own_tag hI.1 go rfl
   have hO6 := hI.2.1.keep hg6 hgr6 rfl rfl
   have hbg : base ≤ go := (own_block hI.1 go rfl).1
   have hBb := hI.2.2.grown hg6 (Nat.le_trans hbase hI.2.2.size) (fun q e => by cases e; exact hbg)
   have hk6 := hk6.keep hg6 (fun e => hk6.tg.ne (own_tag hI.1 go rfl) rfl (Option.some.inj e).symm)
   refine d2 ?_
   refine d1 rfl rfl (fun h => by cases h) ?_
   refine ia U rfl rfl rfl rfl rfl rfl (r + i) (by omega) hri ?_
   refine d2 ?_
   refine d1 rfl rfl (fun h => by cases h) ?_
   refine so U (v := (.slice (A r) n (C r))) rfl rfl rfl rfl rfl rfl rfl (r + i) (by simp [add_plain]) hri ho6 ?_
   intro w7 ho7 hg7 hs7
   rw [rws_set hri] at ho7
   have hgr7 : ∀ q, some go = some q → Tg w6 105 q := fun q e => by cases e; exact own_tag ho6 go rfl
   have hO7 := (hO6.keep hg7 hgr7 rfl rfl).swap hr hri
   have hk6 := hk6.keep hg7 (fun e => hk6.tg.ne (own_tag ho6 go rfl) rfl (Option.some.inj e).symm)
   have hBb := hBb.grown hg7 (Nat.le_trans hbase hBb.size) (fun q e => by cases e; exact hbg)
   have hI : RdcI w w7 base go c m n (upd (upd A r (A (r + i))) (r + i) (A r)) (upd (upd C r (C (r + i))) (r + i) (C r)) (swp r (r + i) g) := ⟨ho7, hO7, hBb⟩
   generalize upd (upd A r (A (r + i))) (r + i) (A r) = A1 at hI
   generalize upd (upd C r (C (r + i))) (r + i) (C r) = C1 at hI
   refine d2 ?_; refine dend rfl (fun h => by cases h) ?_
   refine dT rfl ?_
   refine il U rfl rfl rfl rfl rfl rfl rfl (fun _ => rfl) rfl r rfl hr (own_sl hI.1) (rws_get hr) ?_
   refine dT rfl ?_
   refine ld U rfl rfl rfl rfl ((hk6).cell rfl) ?_
   obtain ⟨gr, csr, hAr, hor, hEr⟩ := hI.row hn hr
   have hsr : swp r (r + i) g r = g (r + i) := by unfold swp; rw [if_pos rfl]
   rw [hAr]
   refine ig U rfl rfl rfl rfl ag_frac rfl rfl (fun _ => rfl) rfl k rfl hkn (own_sl3 hor) (fun j v hv => el_get hv) (el_length (by rw [hEr.1]; omega)) (by decide) ?_
   have hpv := hEr.2 k hkn
   rw [hsr] at hpv
   refine call (f := 152) rfl rfl cb152 (finv_calls (g (r + i) k) hne _ w7 hpv) ?_
   rintro v w8 ⟨hby, hB8⟩
   obtain ⟨p1, p2, p3, p4, p5, p6, p7, rfl⟩ := hby.shape
   have hI := hI.step hB8 hbase
   have hk6 := hk6.below hB8 hk6.lt
   refine ⟨_, rfl, ?_⟩
   refine al U rfl rfl rfl rfl ?_
   intro b9 w9 hb9 hs9 hk9 hg9
   refine dT rfl ?_
   refine st U rfl rfl rfl rfl rfl rfl rfl rfl rfl rfl (hk9) ?_
   intro w10 hk9 hg10 hs10
   have hB810 : Below w8.heap.size w8 w10 := ((Below.refl _ _).grown hg9 (Nat.le_refl _) (fun k e => by cases e)).grown hg10 (by omega) (fun k e => by cases e; omega)
   have hb9A : ∀ j, j < m → ab (A1 j) ≠ some b9 := fun j hj e => by have := hI.lt j hj b9 e; omega
   have hI := hI.step hB810 hbase
   have hk6 := hk6.below hB810 hk6.lt
   have hby := hby.stay hB810
   have hpS : Small L (g (r + i) k) := hSg (r + i) k hri hkn
   have hS1 : ∀ a, a < m → ∀ t, t < n → Small L (swp r (r + i) g a t) := fun a ha t ht => by
    unfold swp
    split
    ·exact hSg _ t hri ht
    ·split
     ·exact hSg r t hr ht
     ·exact hSg a t ha ht
   have hgn : gnew r (r + i) k g = elm r k (scl r (g (r + i) k)⁻¹ (swp r (r + i) g)) := rfl
   have hpi := small_inv hne hpS
   generalize g (r + i) k = p at *
   generalize swp r (r + i) g = g1 at *
   refine dT rfl ?_
   refine loopR (fun fr w' mm => ∃ (j : Nat), fr = [(0, .slice (some ⟨go, 0, none⟩) m c), (5, .int .i64 (r : Nat)), (16, .int .i64 (cols : Nat)), (17, .int .i64 (k : Nat)), (6, .pointer (some ⟨b6, 0, none⟩)), (8, .slice (some ⟨gr, 0, none⟩) n (C1 r)), (9, .pointer (some ⟨b9, 0, none⟩)), (59, .int .i64 (n : Nat)), (60, .int .i64 (j : Nat))] ∧ j ≤ n ∧
     RdcI w w' base go c m n A1 C1 (upd g1 r (fun t => if t < j then g1 r t * p⁻¹ else g1 r t)) ∧ Bk w' b6 3 [.int .i64 (k : Nat)] ∧ Bk w' b9 76 [.bool p1, .slice p2 p3 p4, .slice p5 p6 p7] ∧ FQ w' (.agg ⟨[.bool p1, .slice p2 p3 p4, .slice p5 p6 p7]⟩) p⁻¹ ∧ mm = n - j)
    ⟨0, rfl, by omega, hI.congr (fun a ha t ht => by
     unfold upd
     split
     ·rename_i h; subst h; dsimp only; rw [if_neg (by omega)]
     ·rfl), hk6, hk9, hby, rfl⟩ ⟨rfl, rfl, rfl, rfl, rfl, rfl, rfl, rfl, rfl, trivial⟩ ?_
   rintro fr w11 mm ⟨j, rfl, hj, hI, hk6, hk9, hby, rfl⟩
   refine dT rfl ?_
   refine cS rfl rfl rfl rfl (fun hq => ?_) (fun hq => ?_)
   ·have hjn : j < n := by omega
    obtain ⟨gr', cs, hAr', hor, hEr⟩ := hI.row hn hr
    obtain rfl : gr = gr' := by rw [hAr] at hAr'; cases hAr'; rfl
    rw [upd_same] at hEr
    refine dT rfl ?_
    refine dwn 9 (fun W => Bk W b9 76 [.bool p1, .slice p2 p3 p4, .slice p5 p6 p7] ∧ Sl W (some ⟨gr, 0, none⟩) cs) hmo ?_
    intro w12 hh12 hg12
    have hB12 : Below w11.heap.size w11 w12 := (Below.refl _ _).grown hg12 (Nat.le_refl _) (fun k e => by cases e)
    have hI := hI.step hB12 hbase
    have hk6 := hk6.below hB12 hk6.lt
    have hk9 := hk9.below hB12 hk9.lt
    have hby := hby.stay hB12
    have hor := own_bw hor hB12
    have hEr := hEr.stay hB12
    have hl5 : ∀ W, (Bk W b9 76 [.bool p1, .slice p2 p3 p4, .slice p5 p6 p7] ∧ Sl W (some ⟨gr, 0, none⟩) cs) → (loadVar 76 ((⟨gr, 0, none⟩ : Addr).add (((j : Nat) : Int).toNat * 3))).run Tryz.prog W = .ok (.agg ⟨el cs j⟩) W := fun W h => elem_load hEr hjn h.2
    have hl6 : ∀ W, (Bk W b9 76 [.bool p1, .slice p2 p3 p4, .slice p5 p6 p7] ∧ Sl W (some ⟨gr, 0, none⟩) cs) → (loadVar 76 ⟨b9, 0, none⟩).run Tryz.prog W = .ok (.agg ⟨[.bool p1, .slice p2 p3 p4, .slice p5 p6 p7]⟩) W := fun W h => run_load_agg ag_frac h.1 rfl
    refine dq U [0,1,2,3,4,5,6] [(5, .agg ⟨el cs j⟩), (6, .agg ⟨[.bool p1, .slice p2 p3 p4, .slice p5 p6 p7]⟩)] (by kernel_rfl) rfl rfl ⟨hk9, own_sl3 hor⟩ (by simp only [AllP, InR, List.nil_append, List.cons_append]; (repeat' apply And.intro); all_goals first | exact True.intro | omega | (with_reducible exact hl5) | (with_reducible exact hl6)) ?_
    refine d1 rfl rfl (fun _ => ⟨hk9, own_sl3 hor⟩) ?_
    have hx : FQ w12 (.agg ⟨el cs j⟩) (g1 r j) := by
     have h := hEr.2 j hjn
     simp only [Nat.lt_irrefl, if_false] at h
     exact h
    refine call (f := 153) rfl rfl cb153 (fmul_calls (g1 r j) p⁻¹ L L (by omega) (by omega) _ _ w12 hx hby (hS1 r hr j hjn) hpi) ?_
    rintro v w13 ⟨hm, hB13⟩
    obtain ⟨u1, u2, u3, u4, u5, u6, u7, rfl⟩ := hm.shape
    have hI := hI.step hB13 hbase
    have hk6 := hk6.below hB13 hk6.lt
    have hk9 := hk9.below hB13 hk9.lt
    have hby := hby.stay hB13
    have hor := own_bw hor hB13
    have hEr := hEr.stay hB13
    refine ⟨_, rfl, d2 ?_⟩
    refine dqS [8] [] rfl rfl ⟨hk9, own_sl3 hor⟩ ?_
    refine d1 rfl rfl (fun _ => ⟨hk9, own_sl3 hor⟩) ?_
    refine so3 U rfl rfl rfl rfl rfl rfl (by intro u hu; simp at hu; rcases hu with rfl | rfl | rfl <;> rfl) j (by simp [add_plain]) hjn hor ?_
    intro w14 ho14 hg14 hs14
    have hI := hI.set hr hjn hAr (by rw [upd_same]; exact hEr) hm rfl ho14 hg14 hbase
    have hk6 := hk6.keep hg14 (fun e => hk6.tg.ne (own_tag hor gr rfl) rfl (Option.some.inj e).symm)
    have hk9 := hk9.keep hg14 (fun e => hb9A r hr (by rw [hAr]; exact e))
    have hby := hby.push hg14 (fun q e => by cases e; exact own_tag hor gr rfl)
    refine d2 ?_; refine dend rfl (fun h => by cases h) ?_
    refine dS rfl ?_
    refine rend _ _ ⟨j + 1, rfl, by omega, hI.congr (fun a ha t ht => ?_), hk6, hk9, hby, rfl⟩ (by omega) ⟨rfl, rfl, rfl, rfl, rfl, rfl, rfl, rfl, iv (by omega), trivial⟩
    by_cases har : a = r
    ·subst har
     rw [upd_same, upd_same, upd_same]
     by_cases htj : t = j
     ·subst htj; rw [upd_same, if_pos (by omega)]
     ·rw [upd_ne _ _ htj]
      by_cases h : t < j
      ·rw [if_pos h, if_pos (by omega)]
      ·rw [if_neg h, if_neg (by omega)]
    ·rw [upd_ne _ _ har, upd_ne _ _ har, upd_ne _ _ har]
   obtain rfl : n = j := by omega
   have hI : RdcI w w11 base go c m n A1 C1 (scl r p⁻¹ g1) := hI.congr (fun a ha t ht => by
    unfold scl
    by_cases har : a = r
    ·subst har; rw [upd_same, if_pos ht, if_pos rfl]
    ·rw [upd_ne _ _ har, if_neg har])
   have hS2 : ∀ a, a < m → ∀ t, t < n → Small (2 * L) (scl r p⁻¹ g1 a t) := fun a ha t ht => by
    unfold scl
    split
    ·exact small_mono (small_mul (hS1 r hr t ht) hpi) (by omega)
    ·exact small_mono (hS1 a ha t ht) (by omega)
   have hS3 : ∀ a, a < m → a ≠ r → ∀ t, t < n → Small L (scl r p⁻¹ g1 a t) := fun a ha hne t ht => by
    unfold scl
    rw [if_neg hne]
    exact hS1 a ha t ht
   generalize scl r p⁻¹ g1 = g2 at *
   refine dT rfl ?_
   refine loopR (fun fr w' mm => ∃ (q : Nat), fr = [(0, .slice (some ⟨go, 0, none⟩) m c), (5, .int .i64 (r : Nat)), (16, .int .i64 (cols : Nat)), (17, .int .i64 (k : Nat)), (6, .pointer (some ⟨b6, 0, none⟩)), (8, .slice (some ⟨gr, 0, none⟩) n (C1 r)), (73, .slice (some ⟨go, 0, none⟩) m c), (74, .int .i64 (m : Nat)), (75, .int .i64 (q : Nat))] ∧ q ≤ m ∧
     RdcI w w' base go c m n A1 C1 (elq r k q g2) ∧ Bk w' b6 3 [.int .i64 (k : Nat)] ∧ mm = m - q)
    ⟨0, rfl, by omega, hI.congr (fun a ha t ht => (elq_zero r k g2 a t).symm), hk6, rfl⟩ ⟨rfl, rfl, rfl, rfl, rfl, rfl, rfl, rfl, rfl, trivial⟩ ?_
   rintro fr w15 mm ⟨q, rfl, hq, hI, hk6, rfl⟩
   refine dT rfl ?_
   refine cS rfl rfl rfl rfl (fun hq => ?_) (fun hq => ?_)
   ·have hqm : q < m := by omega
    refine dT rfl ?_
    refine il U rfl rfl rfl rfl rfl rfl rfl (fun _ => rfl) rfl q rfl hqm (own_sl hI.1) (rws_get hqm) ?_
    refine dT rfl ?_
    refine cS rfl rfl rfl rfl (fun hq2 => ?_) (fun hq2 => ?_)
    ·have hqr : q = r := by omega
     refine dS rfl ?_
     refine rend _ _ ⟨q + 1, rfl, by omega, hI.congr (fun a ha t ht => elq_skip (.inl hqr) a t), hk6, rfl⟩ (by omega) ⟨rfl, rfl, rfl, rfl, rfl, rfl, rfl, rfl, iv (by omega), trivial⟩
    have hqr : q ≠ r := by omega
    obtain ⟨gq, csq, hAq, hoq, hEq⟩ := hI.row hn hqm
    rw [hAq]
    refine dT rfl ?_
    refine ld U rfl rfl rfl rfl ((hk6).cell rfl) ?_
    refine ig U rfl rfl rfl rfl ag_frac rfl rfl (fun _ => rfl) rfl k rfl hkn (own_sl3 hoq) (fun j v hv => el_get hv) (el_length (by rw [hEq.1]; omega)) (by decide) ?_
    have hxq := hEq.2 k hkn
    rw [elq_at] at hxq
    refine call (f := 151) rfl rfl cb151 (fsign_calls (g2 q k) _ w15 hxq) ?_
    rintro v w16 ⟨rfl, hB16⟩
    have hI := hI.step hB16 hbase
    have hk6 := hk6.below hB16 hk6.lt
    refine ⟨_, rfl, ?_⟩
    by_cases hz2 : g2 q k = 0
    ·rw [if_pos hz2]
     refine cT rfl rfl rfl rfl ?_
     refine dS rfl ?_
     refine rend _ _ ⟨q + 1, rfl, by omega, hI.congr (fun a ha t ht => elq_skip (.inr hz2) a t), hk6, rfl⟩ (by omega) ⟨rfl, rfl, rfl, rfl, rfl, rfl, rfl, rfl, iv (by omega), trivial⟩
    refine cF rfl rfl rfl (sign_ne hz2) ?_
    refine dT rfl ?_
    refine ld U rfl rfl rfl rfl ((hk6).cell rfl) ?_
    have hoq := own_bw hoq hB16
    have hEq := hEq.stay hB16
    refine ig U rfl rfl rfl rfl ag_frac rfl rfl (fun _ => rfl) rfl k rfl hkn (own_sl3 hoq) (fun j v hv => el_get hv) (el_length (by rw [hEq.1]; omega)) (by decide) ?_
    refine call (f := 154) rfl rfl cb154 (fneg_calls (g2 q k) _ w16 (hxq.stay hB16)) ?_
    rintro v w17 ⟨hng, hB17⟩
    obtain ⟨n1, n2, n3, n4, n5, n6, n7, rfl⟩ := hng.shape
    have hI := hI.step hB17 hbase
    have hk6 := hk6.below hB17 hk6.lt
    refine ⟨_, rfl, ?_⟩
    refine al U rfl rfl rfl rfl ?_
    intro b13 w18 hb13 hs18 hk13 hg18
    refine dT rfl ?_
    refine st U rfl rfl rfl rfl rfl rfl rfl rfl rfl rfl (hk13) ?_
    intro w19 hk13 hg19 hs19
    have hB19 : Below w17.heap.size w17 w19 := ((Below.refl _ _).grown hg18 (Nat.le_refl _) (fun k e => by cases e)).grown hg19 (by omega) (fun k e => by cases e; omega)
    have hb13A : ∀ j, j < m → ab (A1 j) ≠ some b13 := fun j hj e => by have := hI.lt j hj b13 e; omega
    have hI := hI.step hB19 hbase
    have hk6 := hk6.below hB19 hk6.lt
    have hng := hng.stay hB19
    have hnS := small_neg (hS3 q hqm hqr k hkn)
    refine dT rfl ?_
    refine loopR (fun fr w' mm => ∃ (t : Nat), fr = [(0, .slice (some ⟨go, 0, none⟩) m c), (5, .int .i64 (r : Nat)), (16, .int .i64 (cols : Nat)), (17, .int .i64 (k : Nat)), (6, .pointer (some ⟨b6, 0, none⟩)), (8, .slice (some ⟨gr, 0, none⟩) n (C1 r)), (73, .slice (some ⟨go, 0, none⟩) m c), (74, .int .i64 (m : Nat)), (75, .int .i64 (q : Nat)), (12, .slice (some ⟨gq, 0, none⟩) n (C1 q)), (13, .pointer (some ⟨b13, 0, none⟩)), (96, .slice (some ⟨gr, 0, none⟩) n (C1 r)), (97, .int .i64 (n : Nat)), (98, .int .i64 (t : Nat))] ∧ t ≤ n ∧
      RdcI w w' base go c m n A1 C1 (upd (elq r k q g2) q (ela (g2 q) (g2 r) (-(g2 q k)) t)) ∧ Bk w' b6 3 [.int .i64 (k : Nat)] ∧ Bk w' b13 76 [.bool n1, .slice n2 n3 n4, .slice n5 n6 n7] ∧ FQ w' (.agg ⟨[.bool n1, .slice n2 n3 n4, .slice n5 n6 n7]⟩) (-(g2 q k)) ∧ mm = n - t)
     ⟨0, rfl, by omega, hI.congr (fun a ha t ht => by
      by_cases haq : a = q
      ·subst haq; rw [upd_same, ela_zero, elq_at]
      ·rw [upd_ne _ _ haq]), hk6, hk13, hng, rfl⟩ ⟨rfl, rfl, rfl, rfl, rfl, rfl, rfl, rfl, rfl, rfl, rfl, rfl, rfl, rfl, trivial⟩ ?_
    rintro fr w20 mm ⟨t, rfl, ht, hI, hk6, hk13, hng, rfl⟩
    refine dT rfl ?_
    refine cS rfl rfl rfl rfl (fun hq => ?_) (fun hq => ?_)
    ·have htn : t < n := by omega
     obtain ⟨gr', csr2, hAr', hor, hEr⟩ := hI.row hn hr
     obtain rfl : gr = gr' := by rw [hAr] at hAr'; cases hAr'; rfl
     rw [upd_ne _ _ (Ne.symm hqr)] at hEr
     have hxr := hEr.2 t htn
     rw [elq_piv] at hxr
     refine dT rfl ?_
     refine ig U rfl rfl rfl rfl ag_frac rfl rfl (fun _ => rfl) rfl t rfl htn (own_sl3 hor) (fun j v hv => el_get hv) (el_length (by rw [hEr.1]; omega)) (by decide) ?_
     obtain ⟨x1, x2, x3, x4, x5, x6, x7, hx⟩ := hxr.shape
     simp only [Value.agg.injEq, Array.mk.injEq] at hx
     rw [hx] at hxr ⊢
     refine al U rfl rfl rfl rfl ?_
     intro b15 w21 hb15 hs21 hk15 hg21
     refine dT rfl ?_
     refine st U rfl rfl rfl rfl rfl rfl rfl rfl rfl rfl (hk15) ?_
     intro w22 hk15 hg22 hs22
     have hB22 : Below w20.heap.size w20 w22 := ((Below.refl _ _).grown hg21 (Nat.le_refl _) (fun k e => by cases e)).grown hg22 (by omega) (fun k e => by cases e; omega)
     have hb15A : ∀ j, j < m → ab (A1 j) ≠ some b15 := fun j hj e => by have := hI.lt j hj b15 e; omega
     have hI := hI.step hB22 hbase
     have hk6 := hk6.below hB22 hk6.lt
     have hk13 := hk13.below hB22 hk13.lt
     have hng := hng.stay hB22
     have hxr := hxr.stay hB22
     refine dT rfl ?_
     refine lg rfl ag_frac rfl rfl hk15 rfl ?_
     refine call (f := 151) rfl rfl cb151 (fsign_calls (g2 r t) _ w22 hxr) ?_
     rintro v w23 ⟨rfl, hB23⟩
     have hI := hI.step hB23 hbase
     have hk6 := hk6.below hB23 hk6.lt
     have hk13 := hk13.below hB23 hk13.lt
     have hk15 := hk15.below hB23 hk15.lt
     have hng := hng.stay hB23
     have hxr := hxr.stay hB23
     refine ⟨_, rfl, ?_⟩
     by_cases hz3 : g2 r t = 0
     ·rw [if_pos hz3]
      refine cF rfl rfl rfl (fun h => h rfl) ?_
      refine dS rfl ?_
      refine rend _ _ ⟨t + 1, rfl, by omega, hI.congr (fun a ha t' ht' => ?_), hk6, hk13, hng, rfl⟩ (by omega) ⟨rfl, rfl, rfl, rfl, rfl, rfl, rfl, rfl, rfl, rfl, rfl, rfl, rfl, iv (by omega), trivial⟩
      by_cases haq : a = q
      ·subst haq; rw [upd_same, upd_same]; exact ela_skip hz3 t'
      ·rw [upd_ne _ _ haq, upd_ne _ _ haq]
     refine cT rfl rfl rfl (sign_ne hz3) ?_
     obtain ⟨gq', cs2, hAq', hoq, hEq⟩ := hI.row hn hqm
     obtain rfl : gq = gq' := by rw [hAq] at hAq'; cases hAq'; rfl
     rw [upd_same] at hEq
     refine dT rfl ?_
     refine dwn 11 (fun W => Bk W b15 76 [.bool x1, .slice x2 x3 x4, .slice x5 x6 x7] ∧ Bk W b13 76 [.bool n1, .slice n2 n3 n4, .slice n5 n6 n7] ∧ Sl W (some ⟨gq, 0, none⟩) cs2) hmo ?_
     intro w24 hh24 hg24
     have hB24 : Below w23.heap.size w23 w24 := (Below.refl _ _).grown hg24 (Nat.le_refl _) (fun k e => by cases e)
     have hI := hI.step hB24 hbase
     have hk6 := hk6.below hB24 hk6.lt
     have hk13 := hk13.below hB24 hk13.lt
     have hk15 := hk15.below hB24 hk15.lt
     have hng := hng.stay hB24
     have hxr := hxr.stay hB24
     have hoq := own_bw hoq hB24
     have hEq := hEq.stay hB24
     have hl5 : ∀ W, (Bk W b15 76 [.bool x1, .slice x2 x3 x4, .slice x5 x6 x7] ∧ Bk W b13 76 [.bool n1, .slice n2 n3 n4, .slice n5 n6 n7] ∧ Sl W (some ⟨gq, 0, none⟩) cs2) → (loadVar 76 ((⟨gq, 0, none⟩ : Addr).add (((t : Nat) : Int).toNat * 3))).run Tryz.prog W = .ok (.agg ⟨el cs2 t⟩) W := fun W h => elem_load hEq htn h.2.2
     have hl6 : ∀ W, (Bk W b15 76 [.bool x1, .slice x2 x3 x4, .slice x5 x6 x7] ∧ Bk W b13 76 [.bool n1, .slice n2 n3 n4, .slice n5 n6 n7] ∧ Sl W (some ⟨gq, 0, none⟩) cs2) → (loadVar 76 ⟨b15, 0, none⟩).run Tryz.prog W = .ok (.agg ⟨[.bool x1, .slice x2 x3 x4, .slice x5 x6 x7]⟩) W := fun W h => run_load_agg ag_frac h.1 rfl
     have hl7 : ∀ W, (Bk W b15 76 [.bool x1, .slice x2 x3 x4, .slice x5 x6 x7] ∧ Bk W b13 76 [.bool n1, .slice n2 n3 n4, .slice n5 n6 n7] ∧ Sl W (some ⟨gq, 0, none⟩) cs2) → (loadVar 76 ⟨b13, 0, none⟩).run Tryz.prog W = .ok (.agg ⟨[.bool n1, .slice n2 n3 n4, .slice n5 n6 n7]⟩) W := fun W h => run_load_agg ag_frac h.2.1 rfl
     refine dq U [0,1,2,3,4,5,6,7] [(5, .agg ⟨el cs2 t⟩), (6, .agg ⟨[.bool x1, .slice x2 x3 x4, .slice x5 x6 x7]⟩), (7, .agg ⟨[.bool n1, .slice n2 n3 n4, .slice n5 n6 n7]⟩)] (by kernel_rfl) rfl rfl ⟨hk15, hk13, own_sl3 hoq⟩ (by simp only [AllP, InR, List.nil_append, List.cons_append]; (repeat' apply And.intro); all_goals first | exact True.intro | omega | (with_reducible exact hl5) | (with_reducible exact hl6) | (with_reducible exact hl7)) ?_
     refine d1 rfl rfl (fun _ => ⟨hk15, hk13, own_sl3 hoq⟩) ?_
     have hxq2 := hEq.2 t htn
     rw [ela_at] at hxq2
     have hS2r := hS2 r hr t htn
     refine call (f := 153) rfl rfl cb153 (fmul_calls (g2 r t) (-(g2 q k)) (2 * L) L (by omega) (by omega) _ _ w24 hxr hng hS2r hnS) ?_
     rintro v w25 ⟨hm, hB25⟩
     obtain ⟨u1, u2, u3, u4, u5, u6, u7, rfl⟩ := hm.shape
     have hI := hI.step hB25 hbase
     have hk6 := hk6.below hB25 hk6.lt
     have hk13 := hk13.below hB25 hk13.lt
     have hk15 := hk15.below hB25 hk15.lt
     have hng := hng.stay hB25
     have hoq := own_bw hoq hB25
     have hEq := hEq.stay hB25
     refine ⟨_, rfl, d2 ?_⟩
     refine d1 rfl rfl (fun _ => ⟨hk15, hk13, own_sl3 hoq⟩) ?_
     refine call (f := 53) rfl rfl cb53 (fadd_calls (g2 q t) (g2 r t * -(g2 q k)) (3 * L) hL _ _ w25 (hxq2.stay hB25) hm (small_mono (hS3 q hqm hqr t htn) (by omega)) (small_mono (small_mul hS2r hnS) (by omega))) ?_
     rintro v w26 ⟨hm2, hB26⟩
     obtain ⟨y1, y2, y3, y4, y5, y6, y7, rfl⟩ := hm2.shape
     have hI := hI.step hB26 hbase
     have hk6 := hk6.below hB26 hk6.lt
     have hk13 := hk13.below hB26 hk13.lt
     have hk15 := hk15.below hB26 hk15.lt
     have hng := hng.stay hB26
     have hoq := own_bw hoq hB26
     have hEq := hEq.stay hB26
     refine ⟨_, rfl, d2 ?_⟩
     refine dqS [10] [] rfl rfl ⟨hk15, hk13, own_sl3 hoq⟩ ?_
     refine d1 rfl rfl (fun _ => ⟨hk15, hk13, own_sl3 hoq⟩) ?_
     refine so3 U rfl rfl rfl rfl rfl rfl (by intro u hu; simp at hu; rcases hu with rfl | rfl | rfl <;> rfl) t (by simp [add_plain]) htn hoq ?_
     intro w27 ho27 hg27 hs27
     have hI := hI.set hqm htn hAq (by rw [upd_same]; exact hEq) hm2 rfl ho27 hg27 hbase
     have hk6 := hk6.keep hg27 (fun e => hk6.tg.ne (own_tag hoq gq rfl) rfl (Option.some.inj e).symm)
     have hk13 := hk13.keep hg27 (fun e => hb13A q hqm (by rw [hAq]; exact e))
     have hng := hng.push hg27 (fun q e => by cases e; exact own_tag hoq gq rfl)
     refine d2 ?_; refine dend rfl (fun h => by cases h) ?_
     refine dS rfl ?_
     refine rend _ _ ⟨t + 1, rfl, by omega, hI.congr (fun a ha t' ht' => ?_), hk6, hk13, hng, rfl⟩ (by omega) ⟨rfl, rfl, rfl, rfl, rfl, rfl, rfl, rfl, rfl, rfl, rfl, rfl, rfl, iv (by omega), trivial⟩
     by_cases haq : a = q
     ·subst haq; rw [upd_same, upd_same, upd_same]; exact ela_step _ _ _ _ _
     ·rw [upd_ne _ _ haq, upd_ne _ _ haq, upd_ne _ _ haq]
    ·obtain rfl : n = t := by omega
     refine dS rfl ?_
     refine rend _ _ ⟨q + 1, rfl, by omega, hI.congr (fun a ha t' ht' => elq_step hqr a t' ht'), hk6, rfl⟩ (by omega) ⟨rfl, rfl, rfl, rfl, rfl, rfl, rfl, rfl, iv (by omega), trivial⟩
   ·obtain rfl : m = q := by omega
    refine dS rfl ?_
    refine rend _ _ ⟨k + 1, _, _, _, _, rfl, by omega, hgs, hI.congr (fun a ha t ht => by rw [hgn]; exact elq_all ha t), rfl⟩ (by omega) ⟨rfl, iv (by omega), rfl, iv (by omega), trivial⟩
  ·refine dT rfl ?_
   refine cT rfl rfl rfl (by decide) ?_
   refine dS rfl ?_
   refine rend _ _ ⟨k + 1, g, r, A, C, rfl, by omega, gj_succ_none hs (fun j h1 h2 => by have := hz (j - r) (by omega); rwa [show r + (j - r) = j by omega] at this), hI, rfl⟩ (by omega) ⟨rfl, rfl, rfl, iv (by omega), trivial⟩
 ·obtain rfl : k = cols := by omega
  refine dT rfl ?_
  exact ret Tryz.results120 rfl ⟨_, rfl, by rw [hs]; rfl, A, C, by rw [hs]; exact hI⟩
end
section
set_option maxHeartbeats 2000000
open Go Go.Proofs Go.RowKit Go.Lib

theorem grw_le {L k n : Nat} (h : grw n L ≤ 1000000) (hk : k < n) : 3 * grw (n - 1) L ≤ 1000000 ∧ grw k L ≤ grw (n - 1) L := by
 refine ⟨?_, grw_mono L (by omega)⟩
 obtain ⟨q, rfl⟩ : ∃ q, n = q + 1 := ⟨n - 1, by omega⟩
 rw [grw] at h
 rw [Nat.add_sub_cancel]; omega
theorem aug_small {n p S : Nat} {f b : Mx} (hf : ∀ i t, i < n → t < n → Small S (f i t)) (hb : ∀ i t, i < n → t < p → Small S (b i t)) : ∀ i t, i < n → t < n + p → Small S (aug n f b i t) := fun i t hi ht => by
 unfold aug
 split
 ·exact hf i t hi (by assumption)
 ·exact hb i _ hi (by omega)
theorem Own2.len {w : World} {base n : Nat} {A : Nat → Option Addr} {L L' C : Nat → Nat} {f : Nat → Nat → Rat} (h : Own2 w base n A L C f) (he : ∀ j, j < n → L j = L' j) : Own2 w base n A L' C f :=
 ⟨fun j hj => by rw [← he j hj]; exact h.1 j hj, h.2⟩
theorem el_drop {cs : List Value} (n j : Nat) : el (cs.drop (n * 3)) j = el cs (n + j) := by
 unfold el
 rw [List.drop_drop, Nat.add_mul]
theorem Els.drop {w : World} {cs : List Value} {n p : Nat} {f : Nat → Rat} (h : Els w cs (n + p) f) : Els w (cs.drop (n * 3)) p (fun j => f (n + j)) :=
 ⟨by rw [List.length_drop, h.1, Nat.add_mul]; omega, fun i hi => by rw [el_drop]; exact h.2 (n + i) (by omega)⟩
theorem sadd_some {q c n : Nat} (h : c ≠ n) : sadd (some ⟨q, 0, none⟩) c n 3 = some ⟨q, n * 3, none⟩ := by
 unfold sadd
 rw [if_neg h]
 show some ((⟨q, 0, none⟩ : Addr).add (n * 3)) = _
 rw [add_plain, Nat.zero_add]
theorem sl_drop3 {w : World} {q : Nat} {cs : List Value} (h : Sl w (some ⟨q, 0, none⟩) cs) (n : Nat) : Sl w (some ⟨q, n, none⟩) (cs.drop n) := fun j v hv => by
 rw [List.getElem?_drop] at hv
 obtain ⟨g, o, he, hc⟩ := h _ v hv
 cases he
 exact ⟨q, n, rfl, by rw [← hc, Nat.zero_add]⟩
theorem own_tail {w : World} {base q n p c : Nat} {cs : List Value} {f : Nat → Rat} (h : w.ownsRow base 76 3 (.slice (some ⟨q, 0, none⟩) (n + p) c) (n + p) cs) (he : Els w cs (n + p) f) (hp : 0 < p) : VecF w (sadd (some ⟨q, 0, none⟩) c n 3) p (fun j => f (n + j)) ∧ p ≤ c - n := by
 have hc := own_cap3 h
 rw [sadd_some (by omega)]
 exact ⟨⟨cs.drop (n * 3), he.drop, sl_drop3 (own_sl3 h) _, fun g hg => by cases hg; exact own_tag h q rfl⟩, by omega⟩

theorem lreduce_small (m n cols S : Nat) (f : Nat → Nat → Rat) (hn : 0 < n) (hcols : cols ≤ n) (hc0 : 0 < cols) (hm' : m ≤ 1000000) (hn' : n ≤ 1000000) (hS : ∀ i t, i < m → t < n → Small S (f i t)) (hG : grw cols S ≤ 1000000)
  (go c base : Nat) (A0 : Nat → Option Addr) (C0 : Nat → Nat) (w : World) (ho0 : w.ownsRow base 105 1 (.slice (some ⟨go, 0, none⟩) m c) m (rws m n A0 C0)) (hO0 : Own2 w base m A0 (fun _ => n) C0 f) (hbase : base ≤ w.heap.size) :
  Calls Tryz.prog 120 #[.slice (some ⟨go, 0, none⟩) m c, .int .i64 (cols : Nat)] w (Ret fun v w' => v = .int .i64 ((gj m f cols).2 : Nat) ∧ ∃ A C, RdcI w w' base go c m n A C (gj m f cols).1) :=
 lreduce_calls m n cols (grw (cols - 1) S) f hn hcols hm' hn' (grw_le hG (show 0 < cols by omega)).1 (fun k hk i t hi ht => small_mono (gj_small hS k (by omega) i t hi ht) (grw_le hG hk).2) go c base A0 C0 w ho0 hO0 hbase

theorem lsolve_calls (n p S : Nat) (f b : Mx) (hn : 0 < n) (hp : 0 < p) (hn' : n ≤ 500000) (hp' : p ≤ 500000) (hfS : ∀ i t, i < n → t < n → Small S (f i t)) (hbS : ∀ i t, i < n → t < p → Small S (b i t)) (hG : grw n S ≤ 1000000)
  (a ab_ : Option Addr) (c d : Nat) (w : World) (hf : MatF w a n n f) (hb : MatF w ab_ n p b) :
  Calls Tryz.prog 89 #[.slice a n c, .slice ab_ n d] w (Ret fun v w' => (((gj n f n).2 ≠ n ∧ v = .tuple ⟨[.slice none 0 0, .bool false]⟩) ∨ ((gj n f n).2 = n ∧ ∃ a' c', v = .tuple ⟨[.slice a' n c', .bool true]⟩ ∧ MatF w' a' n p (fun i j => (gj n (aug n f b) n).1 i (n + j)))) ∧ Below w.heap.size w w') := by
 refine enter Tryz.func89 rfl Tryz.ntmps89 (Nat.le_of_ble_eq_true rfl) ?_
 refine dT rfl ?_
 refine call (f := 119) rfl rfl cb119 (lwith_calls n n p f b hn hn hp (by omega) (by omega) (by omega) a ab_ c d w hf hb) ?_
 rintro v w0 ⟨⟨go, co, A0, L0, C0, rfl, hL0, ho0, hO0⟩, hB0⟩
 rw [vws_rws hL0] at ho0
 have hO0 : Own2 w0 w.heap.size n A0 (fun _ => n + p) C0 (aug n f b) := hO0.len hL0
 refine ⟨_, rfl, ?_⟩
 refine dT rfl ?_
 refine call (f := 120) rfl rfl cb120 (lreduce_small n (n + p) n S (aug n f b) (by omega) (by omega) hn (by omega) (by omega) (aug_small hfS hbS) hG go co w.heap.size A0 C0 w0 ho0 hO0 hB0.size) ?_
 rintro v w1 ⟨rfl, A, C, ho1, hO1, hB01⟩
 have hB1 := hB0.trans hB01
 have hle := gj_le n (aug n f b) n
 have hrk := aug_rank n f b
 refine ⟨_, rfl, ?_⟩
 refine dT rfl ?_
 refine cS rfl rfl rfl rfl (fun hq => ?_) (fun hq => ?_)
 ·refine dT rfl ?_
  exact ret Tryz.results89 rfl ⟨_, rfl, .inl ⟨by omega, rfl⟩, hB1⟩
 have hfull : (gj n f n).2 = n := by omega
 refine dT rfl ?_
 refine loopR (fun fr w' mm => ∃ (i : Nat) (A2 : Nat → Option Addr) (L2 C2 : Nat → Nat), fr = [(0, .slice a n c), (6, .slice (some ⟨go, 0, none⟩) n co), (19, .int .i64 (n : Nat)), (20, .int .i64 (i : Nat))] ∧ i ≤ n ∧
   w'.ownsRow w.heap.size 105 1 (.slice (some ⟨go, 0, none⟩) n co) n (vws n A2 L2 C2) ∧ Own2 w' w.heap.size n A (fun _ => n + p) C (gj n (aug n f b) n).1 ∧
   (∀ j, j < n → if j < i then A2 j = sadd (A j) (C j) n 3 ∧ L2 j = p ∧ C2 j = C j - n else A2 j = A j ∧ L2 j = n + p ∧ C2 j = C j) ∧ Below w.heap.size w w' ∧ mm = n - i)
  ⟨0, A, fun _ => n + p, C, rfl, by omega, ho1, hO1, fun j hj => by rw [if_neg (by omega)]; exact ⟨rfl, rfl, rfl⟩, hB1, rfl⟩ ⟨rfl, rfl, rfl, rfl, trivial⟩ ?_
 rintro fr w2 mm ⟨i, A2, L2, C2, rfl, hi, ho, hO, hA, hB, rfl⟩
 refine dT rfl ?_
 refine cS rfl rfl rfl rfl (fun hq => ?_) (fun hq => ?_)
 ·have hin : i < n := by omega
  have hAi := hA i hin
  rw [if_neg (by omega)] at hAi
  obtain ⟨e1, e2, e3⟩ := hAi
  refine dT rfl ?_
  refine il U rfl rfl rfl rfl rfl rfl rfl (fun _ => rfl) rfl i rfl hin (own_sl ho) (vws_get hin) ?_
  rw [e1, e2, e3]
  refine dS rfl ?_
  simp only [Int.toNat_natCast, Nat.add_sub_cancel_left]
  refine ia U rfl rfl rfl rfl rfl rfl i rfl hin ?_
  refine so U (v := (.slice (sadd (A i) (C i) n 3) p (C i - n))) rfl rfl rfl rfl rfl rfl rfl i (by simp [add_plain]) hin ho ?_
  intro w3 ho3 hg3 hs3
  have hB3 := hB.grown hg3 hB.size (fun g e => by cases e; exact (own_block ho go rfl).1)
  have hO3 := hO.keep (t := 105) hg3 (fun g e => by cases e; exact own_tag ho go rfl) rfl rfl
  rw [vws_set hin] at ho3
  refine dS rfl ?_
  refine rend _ _ ⟨i + 1, _, _, _, rfl, by omega, ho3, hO3, fun j hj => ?_, hB3, rfl⟩ (by omega) ⟨rfl, rfl, rfl, iv (by omega), trivial⟩
  by_cases hji : j = i
  ·subst hji
   rw [if_pos (by omega), upd_same, upd_same, upd_same]; exact ⟨rfl, rfl, rfl⟩
  ·rw [upd_ne _ _ hji, upd_ne _ _ hji, upd_ne _ _ hji]
   have := hA j hj
   by_cases h : j < i
   ·rw [if_pos h] at this; rw [if_pos (by omega)]; exact this
   ·rw [if_neg h] at this; rw [if_neg (by omega)]; exact this
 ·obtain rfl : n = i := by omega
  refine dT rfl ?_
  have hA' : ∀ j, j < n → A2 j = sadd (A j) (C j) n 3 ∧ L2 j = p ∧ C2 j = C j - n := fun j hj => by
   have := hA j hj
   rwa [if_pos hj] at this
  rw [vws_rws (fun j hj => (hA' j hj).2.1)] at ho
  refine ret Tryz.results89 rfl ⟨_, rfl, .inr ⟨hfull, some ⟨go, 0, none⟩, co, rfl, A2, C2, own_sl ho, fun j hj => ?_, own_tag ho⟩, hB⟩
  obtain ⟨cs, h1, h2⟩ := hO.1 j hj
  have hq : ∃ q, A j = some ⟨q, 0, none⟩ := by
   rcases h1.2 with ⟨_, e⟩ | ⟨q, cap, cur, e, _⟩
   ·have : n + p = 0 := e
    omega
   ·simp only [Value.slice.injEq] at e; exact ⟨q, e.1⟩
  obtain ⟨q, hq⟩ := hq
  rw [(hA' j hj).1, (hA' j hj).2.2, hq]
  rw [hq] at h1
  exact own_tail h1 h2 hp

theorem lsolved_calls (n : Nat) (f : Mx) (hn : 0 < n) (hn' : n ≤ 1000000) (hfit : ∀ i, i < n → Small 1000000 (f i 0)) (a : Option Addr) (c : Nat) (w : World) (hf : MatF w a n 1 f) (ht : TabOk w) :
  Calls Tryz.prog 88 #[.slice a n c, .bool true] w (Ret fun v w' => (∃ ys e, TxtS n (fun i => f i 0) ys e ∧ VOut ys e v w') ∧ Below w.heap.size w w') := by
 refine enter Tryz.func88 rfl Tryz.ntmps88 (Nat.le_of_ble_eq_true rfl) ?_
 refine dT rfl ?_
 refine call (f := 118) rfl rfl cb118 (lflip_calls n 1 f hn (by omega) hn' (by omega) a c w hf) ?_
 rintro v w1 ⟨⟨a1, c1, rfl, hM⟩, hB1⟩
 obtain ⟨A, C, hSl, hV, hT⟩ := hM
 refine ⟨_, rfl, ?_⟩
 refine il U rfl rfl rfl rfl rfl rfl rfl (fun _ => rfl) rfl 0 rfl (by omega) hSl (rws_get (by omega)) ?_
 refine call (f := 117) rfl rfl cb117 (ltexts_calls n (fun i => f i 0) hfit (A 0) (C 0) w1 (hV 0 (by omega)).1 hn' (ht.below hB1)) ?_
 rintro v w2 ⟨hr, hB2⟩
 obtain ⟨ys, e, h1, h2⟩ := hr.spec
 obtain ⟨a3, c3, rfl, h3⟩ := h2
 refine ⟨_, rfl, ?_⟩
 refine dT rfl ?_
 exact ret Tryz.results88 rfl ⟨_, rfl, ⟨ys, e, h1, a3, c3, rfl, h3⟩, bl_tr hB1 hB2 hB1.size⟩
theorem lsolved_no (w : World) : Calls Tryz.prog 88 #[.slice none 0 0, .bool false] w (Ret fun v w' => VOut [] 17 v w' ∧ Below w.heap.size w w') := by
 refine enter Tryz.func88 rfl Tryz.ntmps88 (Nat.le_of_ble_eq_true rfl) ?_
 refine dT rfl ?_
 exact ret Tryz.results88 rfl ⟨_, rfl, VOut.nil _ _, Below.refl _ _⟩
end
end Go.Proofs.YtejlpdbiacmfcaaGreatDoor
