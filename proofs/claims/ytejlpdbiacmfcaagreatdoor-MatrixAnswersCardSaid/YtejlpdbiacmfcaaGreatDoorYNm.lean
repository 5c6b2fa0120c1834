/-
  Walk of package matrix's Spread.
  Conditions: at most 7 cells, or an invalid number of cells; the library's table of powers of ten is laid.
-/
import Derived.Test.YtejlpdbiacmfcaaGreatDoorYLb
import Derived.Test.YtejlpdbiacmfcaaGreatDoorYNj
set_option linter.unusedSimpArgs false
set_option linter.unusedVariables false
set_option maxHeartbeats 8000000
set_option maxRecDepth 100000
namespace Go.Proofs.YtejlpdbiacmfcaaGreatDoor
open Go Go.Proofs Go.RowKit Go.Lib

theorem rgw_isn (lo hi i : Nat) : Isn 13 (rgw lo hi i) := by
 unfold rgw
 split
 ·exact ⟨1, rfl, by omega⟩
 ·exact ⟨0, rfl, by omega⟩
theorem sysB_of {kind n : Int} {b : Nat → Rat} (hs : strat kind n ≠ []) (hn : n ≤ 7) (hb : ∀ i, i < n.toNat → Isn 13 (b i)) : SysP (strat kind n) n.toNat b := by
 have h1 := (strat_kind hs).1
 exact ⟨by omega, by omega, List.length_pos_iff.2 hs, strat_len7 hn, fun i hi => irow_strat hi, strat_bits kind n, strat_reg hs, fun x hx i hi => small_mono (stsol_bits hs hn hb x hx i hi) (by omega), fun i hi => isn_small (hb i hi) (by omega) (by omega)⟩
theorem sm_small1 {n K : Nat} {f : Nat → Rat} (hf : ∀ i, i < n → Small K (f i)) : ∀ i, i ≤ n → Small (1 + i * (K + 1)) (sm i f)
 | 0, _ => (small_mono small_zero (Nat.le_add_right 1 _) : Small _ 0)
 | i + 1, hi => small_mono (small_add (sm_small1 hf i (by omega)) (hf i (by omega))) (by rw [Nat.succ_mul i]; omega)
theorem mspd_calls (kind z lo hi : Int) (hz : z ≤ 7 ∨ 64 < z) (w : World) (ht : TabOk w) :
  Calls Tryz.prog 14 #[.int .i64 kind, .int .i64 z, .int .i64 lo, .int .i64 hi] w (Ret fun v w' => (∃ t e, SpdS kind z lo hi t e ∧ v = .tuple ⟨[.string ⟨⟨t⟩⟩, .int .i64 e]⟩) ∧ Below w.heap.size w w') := by
 refine enter Tryz.func14 rfl Tryz.ntmps14 (Nat.le_of_ble_eq_true rfl) ?_
 refine dT rfl ?_
 refine call (f := 11) rfl rfl cb11 (mstrat_calls kind z w) ?_
 rintro v w0 ⟨⟨ar, cr, rfl, hO, hnil⟩, hB01⟩
 refine ⟨_, rfl, ?_⟩
 refine dT rfl ?_
 refine eqNil U rfl rfl rfl rfl rfl ?_
 by_cases hst : strat kind z = []
 ·rw [(hnil hst).1]
  refine dT rfl ?_
  exact ret Tryz.results14 rfl ⟨_, rfl, ⟨[], 2, .inl ⟨.inl hst, rfl, rfl⟩, rfl⟩, hB01⟩
 have hn7 : z ≤ 7 := by
  rcases hz with h | h
  ·exact h
  ·exact absurd (strat_out (.inr h)) hst
 have hz1 := (strat_kind hst).1
 obtain ⟨n, rfl⟩ : ∃ n : Nat, z = (n : Int) := ⟨z.toNat, by omega⟩
 have hpos := List.length_pos_iff.2 hst
 have hOs := hO.sz
 have ht0 := ht.below hB01
 obtain ⟨ga, rfl⟩ : ∃ ga, ar = some ga := by
  obtain ⟨A, C, h1, _⟩ := hO
  obtain ⟨go, h⟩ := own_go h1 hpos
  exact ⟨_, h⟩
 refine dT rfl ?_
 refine call (f := 48) rfl rfl cb48 (mranged_calls lo hi (n : Int) w0) ?_
 rintro v _ ⟨rfl, rfl⟩
 refine ⟨_, rfl, ?_⟩
 by_cases hrg : Rgd n (lo, hi)
 case neg =>
  rw [decide_eq_false (show ¬ (0 ≤ lo ∧ lo ≤ hi ∧ hi < (n : Int)) from hrg)]
  refine dT rfl ?_
  exact ret Tryz.results14 rfl ⟨_, rfl, ⟨[], 2, .inl ⟨.inr (by rw [Int.toNat_natCast]; exact hrg), rfl, rfl⟩, rfl⟩, hB01⟩
 rw [decide_eq_true (show (0 ≤ lo ∧ lo ≤ hi ∧ hi < (n : Int)) from hrg)]
 refine dT rfl ?_
 obtain ⟨hrg1, hrg2, hrg3⟩ := id hrg
 obtain ⟨p, rfl⟩ : ∃ p : Nat, lo = (p : Int) := ⟨lo.toNat, by omega⟩
 obtain ⟨q, rfl⟩ : ∃ q : Nat, hi = (q : Int) := ⟨hi.toNat, by omega⟩
 have hpq : p ≤ q := by omega
 have hqn : q < n := by omega
 obtain ⟨r, hr⟩ : ∃ r, r = rgw p q := ⟨_, rfl⟩
 have hr1 : ∀ i, p ≤ i ∧ i ≤ q → r i = 1 := fun i h => by rw [hr]; unfold rgw; rw [if_pos h]
 have hr0 : ∀ i, ¬ (p ≤ i ∧ i ≤ q) → r i = 0 := fun i h => by rw [hr]; unfold rgw; rw [if_neg h]
 have hri : ∀ i, Isn 13 (r i) := fun i => by rw [hr]; exact rgw_isn p q i
 have P := sysB_of (b := r) hst hn7 (fun i _ => hri i)
 have hsb := stsol_bits hst hn7 (b := r) (fun i _ => hri i)
 rw [Int.toNat_natCast] at P hsb
 have hgoal : SpdS kind n p q = fun t e => ((strat kind n = [] ∨ ¬ Rgd n ((p : Int), (q : Int))) ∧ t = [] ∧ e = 2) ∨
  (strat kind n ≠ [] ∧ Rgd n ((p : Int), (q : Int)) ∧ e = 0 ∧ ∃ z : Nat → Rat, (∀ k, k < n → mapp n (nrm (strat kind n)) z k = rgw p q k) ∧ t = qtext (sm n (fun k => rgw p q k * z k))) := by
  funext t e
  unfold SpdS
  simp only [Int.toNat_natCast]
 rw [hgoal]
 generalize strat kind (n : Int) = rows at *
 obtain ⟨Ar, Cr, hSlr, hRr⟩ := hOs
 have hnn := P.hn
 have hll := P.hl
 generalize (some ga : Option Addr) = ar at *
 refine dwn 5 (fun _ => True) hmo ?_
 intro wA hhA hgA
 have hBA : Below w0.heap.size w0 wA := (Below.refl _ _).grown hgA (Nat.le_refl _) (fun k e => by cases e)
 refine dqS [0,2] [] rfl rfl True.intro ?_
 refine d1or (i := 1) (j := 3) rfl rfl rfl (fun _ => True.intro) ?_ ?_
 ·refine mkn U rfl rfl rfl rfl rfl rfl rfl n rfl rfl (by omega) (by omega) w0.heap.size hBA.size ?_
  intro ao wC hoA hgC
  obtain ⟨go, rfl⟩ := own_go hoA P.h0
  have hBC := hBA.grown hgC hBA.size (fun k e => by cases e)
  refine d2 ?_
  refine dqS [4] [] rfl rfl True.intro ?_
  refine d1 rfl rfl (fun _ => True.intro) ?_
  refine mkn U rfl rfl rfl rfl rfl rfl rfl n rfl rfl (by omega) (by omega) w0.heap.size hBC.size ?_
  intro ab_ wS hoB hgS
  obtain ⟨gb, rfl⟩ := own_go hoB P.h0
  have hBS := hBC.grown hgS hBC.size (fun k e => by cases e)
  have hoA := own_keep hoA hgS (fun g e h => by cases h)
  refine d2 ?_
  refine d1 rfl rfl (fun _ => True.intro) ?_
  refine dT rfl ?_
  refine d3 ?_; refine dend rfl (fun h => by cases h) ?_
  rw [vws_start] at hoA
  rw [bls_zero n r] at hoB
  refine dT rfl ?_
  refine loopR (fun fr w' mm => ∃ (i : Nat) (A : Nat → Option Addr) (C : Nat → Nat), fr = [(1, .int .i64 (n : Nat)), (2, .int .i64 (p : Nat)), (3, .int .i64 (q : Nat)), (10, .slice ar rows.length cr), (11, .slice (some ⟨go, 0, none⟩) n n), (12, .slice (some ⟨gb, 0, none⟩) n n), (39, .int .i64 (n : Nat)), (40, .int .i64 (i : Nat))] ∧ i ≤ n ∧ w'.ownsRow w0.heap.size 29 1 (.slice (some ⟨go, 0, none⟩) n n) n (vws n A (lenK n i 0) C) ∧ RowsT w' gb w'.heap.size n i A (nrm rows) ∧ (∀ j, i ≤ j → A j = none ∧ C j = 0) ∧
    w'.ownsRow w0.heap.size 35 1 (.slice (some ⟨gb, 0, none⟩) n n) n (strs (bls n i r)) ∧ Below w0.heap.size w0 w' ∧ mm = n - i)
   ⟨0, fun _ => none, fun _ => 0, rfl, by omega, by rw [vws_len (L' := fun _ => 0) (lenK_zero n)]; exact hoA, RowsT.none _ _ _ _ _ _, fun _ _ => ⟨rfl, rfl⟩, hoB, hBS, rfl⟩ (by repeat' (first | exact True.intro | exact rfl | exact iv (by omega) | refine ⟨?_, ?_⟩)) ?_
  rintro fr w1 mm ⟨i, A, C, rfl, hi, ho, hR1, hnone, hob, hB1, rfl⟩
  have hgb1 := (own_block hob gb rfl).2
  refine dT rfl ?_
  refine cS rfl rfl rfl rfl (fun hqi => ?_) (fun hqi => ?_)
  ·have hin : i < n := by omega
   refine dT rfl ?_
   refine loopR (fun fr w' mm => ∃ (k : Nat) (A : Nat → Option Addr) (C : Nat → Nat), fr = [(1, .int .i64 (n : Nat)), (2, .int .i64 (p : Nat)), (3, .int .i64 (q : Nat)), (10, .slice ar rows.length cr), (11, .slice (some ⟨go, 0, none⟩) n n), (12, .slice (some ⟨gb, 0, none⟩) n n), (39, .int .i64 (n : Nat)), (40, .int .i64 (i : Nat)), (13, .int .i64 (i : Nat)), (43, .int .i64 (n : Nat)), (44, .int .i64 (k : Nat))] ∧ k ≤ n ∧ w'.ownsRow w0.heap.size 29 1 (.slice (some ⟨go, 0, none⟩) n n) n (vws n A (lenK n i k) C) ∧ RowsT w' gb w1.heap.size n i A (nrm rows) ∧ (∀ j, i < j → A j = none ∧ C j = 0) ∧
     w'.ownsRow w1.heap.size 35 1 (.slice (A i) k (C i)) k (strs (txs k (nrm rows i))) ∧ w'.ownsRow w0.heap.size 35 1 (.slice (some ⟨gb, 0, none⟩) n n) n (strs (bls n i r)) ∧ Below w0.heap.size w0 w' ∧ w1.heap.size ≤ w'.heap.size ∧ mm = n - k)
    ⟨0, A, C, rfl, by omega, ho, hR1, fun j hj => hnone j (by omega), by rw [(hnone i (Nat.le_refl _)).1, (hnone i (Nat.le_refl _)).2]; exact ⟨rfl, .inl ⟨rfl, rfl⟩⟩, hob, hB1, Nat.le_refl _, rfl⟩ (by repeat' (first | exact True.intro | exact rfl | exact iv (by omega) | refine ⟨?_, ?_⟩)) ?_
   rintro fr w2 mm ⟨k, A, C, rfl, hk, ho, hR2, hnone2, hrow, hob, hB2, hsz2, rfl⟩
   refine dT rfl ?_
   refine cS rfl rfl rfl rfl (fun hqk => ?_) (fun hqk => ?_)
   ·have hkn : k < n := by omega
    refine dT rfl ?_
    refine loopR (fun fr w' mm => ∃ (j : Nat), fr = [(1, .int .i64 (n : Nat)), (2, .int .i64 (p : Nat)), (3, .int .i64 (q : Nat)), (10, .slice ar rows.length cr), (11, .slice (some ⟨go, 0, none⟩) n n), (12, .slice (some ⟨gb, 0, none⟩) n n), (39, .int .i64 (n : Nat)), (40, .int .i64 (i : Nat)), (13, .int .i64 (i : Nat)), (43, .int .i64 (n : Nat)), (44, .int .i64 (k : Nat)), (14, .int .i64 (k : Nat)), (15, .int .i64 (dotC rows i k j)), (47, .slice ar rows.length cr), (48, .int .i64 (rows.length : Nat)), (49, .int .i64 (j : Nat))] ∧ j ≤ rows.length ∧ Below w2.heap.size w2 w' ∧ mm = rows.length - j)
     ⟨0, rfl, by omega, Below.refl _ _, rfl⟩ (by repeat' (first | exact True.intro | exact rfl | exact iv (by omega) | refine ⟨?_, ?_⟩)) ?_
    rintro fr w3 mm ⟨j, rfl, hj, hB23, rfl⟩
    have hB3 := bl_tr hB2 hB23 hB2.size
    refine dT rfl ?_
    refine cS rfl rfl rfl rfl (fun hqj => ?_) (fun hqj => ?_)
    ·have hjl : j < rows.length := by omega
     have hlj := P.hrow j hjl
     have hRj := (hRr j hjl).stay hB3
     obtain ⟨ga, oa, hga, _⟩ := hRj i _ (ivs_get (by omega))
     have hd0 := dotC_le P.bits i k j
     have hpr := bits_prod P.bits i k j
     refine dT rfl ?_
     refine il U rfl rfl rfl rfl rfl rfl rfl (fun _ => rfl) rfl j rfl hjl (hSlr.stay hB3) (irws_get hjl) ?_
     rw [hga] at hRj ⊢
     refine dT rfl ?_
     refine dwn 11 (fun W => Sl W (some ⟨ga, oa, none⟩) (ivs (irow rows j))) hmo ?_
     intro w4 hh4 hg4
     have hB34 : Below w3.heap.size w3 w4 := (Below.refl _ _).grown hg4 (Nat.le_refl _) (fun k e => by cases e)
     have hRj4 := hRj.stay hB34
     have hl4 : ∀ W, Sl W (some ⟨ga, oa, none⟩) (ivs (irow rows j)) → (loadVar 3 ((⟨ga, oa, none⟩ : Addr).add (((i : Nat) : Int).toNat * 1))).run Tryz.prog W = .ok (.int .i64 ((irow rows j).getD i 0)) W := fun W h => run_load_cell U rfl (by simpa [add_plain] using slc2 h (ivs_get (i := i) (by omega)))
     have hl8 : ∀ W, Sl W (some ⟨ga, oa, none⟩) (ivs (irow rows j)) → (loadVar 3 ((⟨ga, oa, none⟩ : Addr).add (((k : Nat) : Int).toNat * 1))).run Tryz.prog W = .ok (.int .i64 ((irow rows j).getD k 0)) W := fun W h => run_load_cell U rfl (by simpa [add_plain] using slc2 h (ivs_get (i := k) (by omega)))
     refine dq U [0,1,2,3,4,5,6,7,8,9,10] [(4, .int .i64 ((irow rows j).getD i 0)), (8, .int .i64 ((irow rows j).getD k 0))] (by kernel_rfl) rfl rfl hRj4 (by simp only [AllP, InR, List.nil_append, List.cons_append]; (repeat' apply And.intro); all_goals first | exact True.intro | omega | (with_reducible exact hl4) | (with_reducible exact hl8)) ?_
     refine d1 rfl rfl (fun _ => hRj4) ?_
     refine dT rfl ?_
     refine d3 ?_; refine dend rfl (fun h => by cases h) ?_
     refine dS rfl ?_
     exact rend _ _ ⟨j + 1, rfl, by omega, bl_tr hB23 hB34 hB23.size, rfl⟩ (by omega) (by repeat' (first | exact True.intro | exact rfl | exact iv (by omega) | refine ⟨?_, ?_⟩))
    ·obtain rfl : j = rows.length := by omega
     have hlk : lenK n i k i = k := by simp [lenK]
     have hnr := nrm_int rows i k
     have hdl := dotC_le P.bits i k rows.length
     have ho3 := own_bw ho hB23
     have hrow3 := own_bw hrow hB23
     have hob3 := own_bw hob hB23
     have hR3 := hR2.stay hB23
     refine dT rfl ?_
     refine dwn 11 (fun W => Sl W (some ⟨go, 0, none⟩) (vws n A (lenK n i k) C)) hmo ?_
     intro w5 hh5 hg5
     have hB35 : Below w3.heap.size w3 w5 := (Below.refl _ _).grown hg5 (Nat.le_refl _) (fun k e => by cases e)
     have hB5 := bl_tr hB3 hB35 hB3.size
     have ho5 := own_bw ho3 hB35
     have hl5 : ∀ W, Sl W (some ⟨go, 0, none⟩) (vws n A (lenK n i k) C) → (loadVar 29 ((⟨go, 0, none⟩ : Addr).add (((i : Nat) : Int).toNat * 1))).run Tryz.prog W = .ok (.slice (A i) k (C i)) W := fun W h => run_load_cell U rfl (by have := slc2 h (vws_get hin); rw [hlk] at this; simpa [add_plain] using this)
     refine dq U [0,1,2,3,4,5,6] [(5, .slice (A i) k (C i))] (by kernel_rfl) rfl rfl (own_sl ho5) (by simp only [AllP, InR, List.nil_append, List.cons_append]; (repeat' apply And.intro); all_goals first | exact True.intro | omega | (with_reducible exact hl5)) ?_
     refine d1 rfl rfl (fun _ => (own_sl ho5)) ?_
     refine call (f := 43) rfl rfl cb43 (mint_calls (dotC rows i k rows.length) (by omega) (by omega) w5 (ht0.below hB5)) ?_
     rintro v w6 ⟨rfl, hB56⟩
     have ho6 := own_bw ho5 hB56
     refine ⟨_, rfl, d2 ?_⟩
     refine d1 rfl rfl (fun _ => (own_sl ho6)) ?_
     refine bs1 U (v := .string ⟨⟨qtext ((dotC rows i k rows.length : Int) : Rat)⟩⟩) rfl rfl rfl rfl rfl rfl rfl ?_
     intro w7 hk7 hs7 hg7
     have hB67 : Below w6.heap.size w6 w7 := (Below.refl _ _).grown hg7 (Nat.le_refl _) (fun k e => by cases e)
     have hB37 := bl_tr (bl_tr hB35 hB56 hB35.size) hB67 (bl_tr hB35 hB56 hB35.size).size
     have hB7 := bl_tr hB3 hB37 hB3.size
     have ho7 := own_bw ho3 hB37
     have hrow7 := own_bw hrow3 hB37
     have hob7 := own_bw hob3 hB37
     have hR7 := hR3.stay hB37
     have hz7 : w1.heap.size ≤ w7.heap.size := by have := hB23.size; have := hB37.size; omega
     refine d2 ?_
     refine d1 rfl rfl (fun _ => (own_sl ho7)) ?_
     refine aw U rfl rfl rfl rfl rfl rfl rfl rfl rfl hrow7 (hk7.sl 0) rfl (by intro u hu; simp at hu; subst hu; rfl) hz7 (by omega) rfl ?_
     intro a9 c9 w9 ho9 hg9
     rw [← hnr, List.drop_zero, strs_txs_snoc] at ho9
     have hout9 := own_keep ho7 hg9 (fun g hga e => (own_tag ho7 g hga).ne (own_tag hrow7 g e) rfl rfl)
     have hob9 := own_keep hob7 hg9 (fun g hga e => by cases hga; have := (own_block hrow7 gb e).1; omega)
     have hR9 := hR7.grown hg9 (fun g e => .inr (.inl (own_block hrow7 g e).1))
     have hB9 := hB7.grown hg9 hB7.size (fun g e => by have := (own_block hrow7 g e).1; have := hB1.size; omega)
     have hz9 := hg9.size
     refine d2 ?_
     refine dqS [10] [] rfl rfl (own_sl hout9) ?_
     refine d1 rfl rfl (fun _ => (own_sl hout9)) ?_
     refine so U (v := (.slice a9 (k + 1) c9)) rfl rfl rfl rfl rfl rfl rfl i (by simp [add_plain]) hin hout9 ?_
     intro w10 ho10 hg10 hs10
     rw [vws_set hin, vws_len (lenK_upd n i k)] at ho10
     have hrow10 := own_keep ho9 hg10 (fun g hga e => (own_tag ho9 g hga).ne (own_tag hout9 g e) rfl rfl)
     have hob10 := own_keep hob9 hg10 (fun g hga e => (own_tag hob9 g hga).ne (own_tag hout9 g e) rfl rfl)
     have hR10 := hR9.grown hg10 (fun g e => .inr (.inr ⟨_, rfl, own_tag hout9 g e⟩))
     have hB10 := hB9.grown hg10 hB9.size (fun g e => (own_block hout9 g e).1)
     refine d2 ?_; refine dend rfl (fun h => by cases h) ?_
     refine dS rfl ?_
     refine rend _ _ ⟨k + 1, upd A i a9, upd C i c9, rfl, by omega, ho10, hR10.congr (fun j hj => upd_ne _ _ (by omega)), fun j hj => by rw [upd_ne _ _ (by omega), upd_ne _ _ (by omega)]; exact hnone2 j hj, by rw [upd_same, upd_same]; exact hrow10, hob10, hB10, by omega, rfl⟩ (by omega) (by repeat' (first | exact True.intro | exact rfl | exact iv (by omega) | refine ⟨?_, ?_⟩))
   ·obtain rfl : k = n := by omega
    refine dT rfl ?_
    refine is U (v := (.string ⟨⟨[48]⟩⟩)) rfl rfl rfl rfl rfl rfl rfl (fun _ => rfl) (fun _ => rfl) (fun _ => rfl) rfl rfl i rfl hin hob ?_
    intro p w3 hob3 hg3 hs3
    rw [bls_set hin] at hob3
    have ho3 := own_keep ho hg3 (fun g hga e => (own_tag ho g hga).ne (own_tag hob g e) rfl rfl)
    rw [vws_len (lenK_end k i)] at ho3
    have hR3 : RowsT w3 gb w3.heap.size k (i + 1) A (nrm rows) := by
     rw [hs3]
     exact ((hR2.lim hsz2).snoc (own_sl hrow) (fun g hg => ⟨by have := (own_block hrow g hg).1; omega, (own_block hrow g hg).2, own_tag hrow g hg⟩)).grown hg3 (fun g e => by cases e; exact .inl (Nat.le_refl _))
    have hB3 := hB2.grown hg3 hB2.size (fun g e => by cases e; exact (own_block hob gb rfl).1)
    refine dT rfl ?_
    refine cS rfl rfl rfl rfl (fun hqa => ?_) (fun hqa => ?_)
    ·refine dT rfl ?_
     refine cS rfl rfl rfl rfl (fun hqb => ?_) (fun hqb => ?_)
     ·have hri : qtext (r i) = [49] := by rw [hr1 i (by omega)]; exact qtext_one
      refine dT rfl ?_
      refine is U (v := (.string ⟨⟨[49]⟩⟩)) rfl rfl rfl rfl rfl rfl rfl (fun _ => rfl) (fun _ => rfl) (fun _ => rfl) rfl rfl i rfl hin hob3 ?_
      intro p4 w4 hob4 hg4 hs4
      rw [blsP_set hin, ← hri, blsP_end] at hob4
      have ho4 := own_keep ho3 hg4 (fun g hga e => (own_tag ho3 g hga).ne (own_tag hob3 g e) rfl rfl)
      have hR4 : RowsT w4 gb w4.heap.size k (i + 1) A (nrm rows) := by
       rw [hs4]; exact hR3.grown hg4 (fun g e => by cases e; exact .inl (Nat.le_refl _))
      have hB4 := hB3.grown hg4 hB3.size (fun g e => by cases e; exact (own_block hob3 gb rfl).1)
      refine dS rfl ?_
      exact rend _ _ ⟨i + 1, A, C, rfl, by omega, ho4, hR4, fun j hj => hnone2 j (by omega), hob4, hB4, rfl⟩ (by omega) (by repeat' (first | exact True.intro | exact rfl | exact iv (by omega) | refine ⟨?_, ?_⟩))
     ·have hri : qtext (r i) = [48] := by rw [hr0 i (by omega)]; exact qtext_zero
      rw [← hri, blsP_end] at hob3
      refine dS rfl ?_
      exact rend _ _ ⟨i + 1, A, C, rfl, by omega, ho3, hR3, fun j hj => hnone2 j (by omega), hob3, hB3, rfl⟩ (by omega) (by repeat' (first | exact True.intro | exact rfl | exact iv (by omega) | refine ⟨?_, ?_⟩))
    ·have hri : qtext (r i) = [48] := by rw [hr0 i (by omega)]; exact qtext_zero
     rw [← hri, blsP_end] at hob3
     refine dS rfl ?_
     exact rend _ _ ⟨i + 1, A, C, rfl, by omega, ho3, hR3, fun j hj => hnone2 j (by omega), hob3, hB3, rfl⟩ (by omega) (by repeat' (first | exact True.intro | exact rfl | exact iv (by omega) | refine ⟨?_, ?_⟩))
  ·obtain rfl : i = n := by omega
   rw [bls_end] at hob
   have hsm := rowsT_sm (own_sl ho) hR1
   refine dT rfl ?_
   refine call (f := 50) rfl rfl cb50 (pSolveC_calls (nrm rows) r 15 P.h0 (by have := P.hn; omega) (by omega) (fun i _ k _ => P.nrm i k) P.b (grw7 P.hn (by omega)) P.reg P.sol _ _ _ _ w1 hsm (lit_txs (own_sl hob)) (ht0.below hB1)) ?_
   rintro v w2 ⟨hS, hB12⟩
   obtain ⟨x, ax, cx, hx1, hx2, rfl, hx3, hx4⟩ := hS
   have hxs := hsb x hx1
   have hB2 := bl_tr hB1 hB12 hB1.size
   have hSx := hx3.sl.1
   refine ⟨_, rfl, ?_⟩
   refine dT rfl ?_
   refine cF rfl rfl rfl ((fun h => h rfl)) ?_; refine dT rfl ?_
   refine call (f := 52) rfl rfl cb52 (of_calls 0 (by omega) w2) ?_
   rintro v w3 ⟨a3, c3, rfl, hr3, hB23⟩
   refine ⟨_, rfl, ?_⟩
   refine call (f := 51) rfl rfl cb51 (frof_calls 0 a3 c3 w3 (own_rd hr3)) ?_
   rintro v w4 ⟨hv4, hB34⟩
   have hf4 : FQ w4 v 0 := hv4
   obtain ⟨u1, u2, u3, u4, u5, u6, u7, rfl⟩ := hf4.shape
   have hB24 := bl_tr hB23 hB34 hB23.size
   refine ⟨_, rfl, ?_⟩
   refine dT rfl ?_
   refine al U rfl rfl rfl rfl ?_
   intro b20 w5 hb5 hs5 hk5 hg5
   have hB45 : Below w4.heap.size w4 w5 := (Below.refl _ _).grown hg5 (Nat.le_refl _) (fun k e => by cases e)
   refine dT rfl ?_
   refine st U rfl rfl rfl rfl rfl rfl rfl rfl rfl rfl (hk5) ?_
   intro w6 hk6 hg6 hs6
   have hB46 := hB45.grown hg6 hB45.size (fun k e => by cases e; omega)
   have hB26 := bl_tr hB24 hB46 hB24.size
   have hf6 := hf4.stay hB46
   have hlen : (strs (txs i x)).length = i := by rw [strs_len, txs_length]
   have hpart := (hSx.stay hB26).drop p cx (by rw [hlen]; exact hx4)
   have hpg : ∀ k, p + k < i → ((strs (txs i x)).drop p)[k]? = some (.string ⟨⟨qtext (x (p + k))⟩⟩) := fun k hk => by rw [List.getElem?_drop]; exact txs_get hk
   have hsums : ∀ k, p + k ≤ i → Small 4000 (sm k (fun j => x (p + j))) := fun k hk => small_mono (sm_small1 (K := 12) (n := k) (fun j hj => hxs (p + j) (by omega)) k (Nat.le_refl _)) (by omega)
   refine dS rfl ?_
   rw [show ((q : Int) + 1).toNat = q + 1 by omega, Int.toNat_natCast]
   obtain ⟨apx, hapx⟩ : ∃ apx, sadd ax cx p 1 = apx := ⟨_, rfl⟩
   rw [hapx] at hpart ⊢
   have hB6 := bl_tr hB2 hB26 hB2.size
   refine loopR (fun fr w' m2 => ∃ (k : Nat) (u1 : Bool) (u2 u5 : Option Addr) (u3 u4 u6 u7 : Nat), fr = [(20, .pointer (some ⟨b20, 0, none⟩)), (107, .slice apx (q + 1 - p) (cx - p)), (108, .int .i64 ((q + 1 - p : Nat) : Int)), (109, .int .i64 (k : Nat))] ∧ k ≤ q + 1 - p ∧ Bk w' b20 76 [.bool u1, .slice u2 u3 u4, .slice u5 u6 u7] ∧ FQ w' (.agg ⟨[.bool u1, .slice u2 u3 u4, .slice u5 u6 u7]⟩) (sm k (fun j => x (p + j))) ∧
     Below w2.heap.size w2 w' ∧ m2 = q + 1 - p - k)
    ⟨0, u1, u2, u5, u3, u4, u6, u7, rfl, by omega, hk6, hf6, hB26, rfl⟩ (by repeat' (first | exact True.intro | exact rfl | exact iv (by omega) | refine ⟨?_, ?_⟩)) ?_
   rintro fr w7 m2 ⟨k, u1, u2, u5, u3, u4, u6, u7, rfl, hk, hk7, hf7, hB27, rfl⟩
   have hB7 := bl_tr hB2 hB27 hB2.size
   refine dT rfl ?_
   refine cS rfl rfl rfl rfl (fun hqk => ?_) (fun hqk => ?_)
   ·have hkq : k < q + 1 - p := by omega
    have hx7 : Sl w7 apx ((strs (txs i x)).drop p) := by
     have := ((hSx.stay hB27).drop p cx (by rw [hlen]; exact hx4))
     rw [hapx] at this; exact this
    refine dT rfl ?_
    refine il U rfl rfl rfl rfl rfl rfl rfl (fun _ => rfl) rfl k rfl hkq hx7 (hpg k (by omega)) ?_
    refine dT rfl ?_
    refine dwn 4 (fun W => Bk W b20 76 [.bool u1, .slice u2 u3 u4, .slice u5 u6 u7]) hmo ?_
    intro w8 hh8 hg8
    have hB78 : Below w7.heap.size w7 w8 := (Below.refl _ _).grown hg8 (Nat.le_refl _) (fun k e => by cases e)
    have hk8 := hk7.below hB78 hk7.lt
    have hf8 := hf7.stay hB78
    have hl0 : ∀ W, Bk W b20 76 [.bool u1, .slice u2 u3 u4, .slice u5 u6 u7] → (loadVar 76 ⟨b20, 0, none⟩).run Tryz.prog W = .ok (.agg ⟨[.bool u1, .slice u2 u3 u4, .slice u5 u6 u7]⟩) W := fun W h => run_load_agg ag_frac h rfl
    refine dq U [0,1] [(0, .agg ⟨[.bool u1, .slice u2 u3 u4, .slice u5 u6 u7]⟩)] (by kernel_rfl) rfl rfl hk8 (by simp only [AllP, InR, List.nil_append, List.cons_append]; (repeat' apply And.intro); all_goals first | exact True.intro | omega | (with_reducible exact hl0)) ?_
    refine d1 rfl rfl (fun _ => hk8) ?_
    refine call (f := 54) rfl rfl cb54 (must_calls (x (p + k)) (hx2 (p + k) (by omega)) w8) ?_
    rintro v w9 ⟨hf9, hB89⟩
    have hk9 := hk8.below hB89 hk8.lt
    have hB79 := bl_tr hB78 hB89 hB78.size
    refine ⟨_, rfl, d2 ?_⟩
    refine d1 rfl rfl (fun _ => hk9) ?_
    refine call (f := 53) rfl rfl cb53 (fadd_calls (sm k (fun j => x (p + j))) (x (p + k)) 4000 (by omega) _ _ w9 (hf8.stay hB89) hf9 (hsums k (by omega)) (hx2 (p + k) (by omega))) ?_
    rintro v w10 ⟨hf10, hB910⟩
    have hk10 := hk9.below hB910 hk9.lt
    have hB710 := bl_tr hB79 hB910 hB79.size
    obtain ⟨y1, y2, y3, y4, y5, y6, y7, rfl⟩ := hf10.shape
    refine ⟨_, rfl, d2 ?_⟩
    refine d1 rfl rfl (fun _ => hk10) ?_
    refine st U rfl rfl rfl rfl rfl rfl rfl rfl rfl rfl (hk10) ?_
    intro w11 hk11 hg11 hs11
    have hB210 := bl_tr hB27 hB710 hB27.size
    have hB211 := hB210.grown hg11 hB210.size (fun k e => by cases e; have := hB24.size; omega)
    have hf11 := hf10.push hg11 (fun g e => by cases e; exact hk10.tg)
    refine d2 ?_; refine dend rfl (fun h => by cases h) ?_
    refine dS rfl ?_
    exact rend _ _ ⟨k + 1, y1, y2, y5, y3, y4, y6, y7, rfl, by omega, hk11, hf11, hB211, rfl⟩ (by omega) (by repeat' (first | exact True.intro | exact rfl | exact iv (by omega) | refine ⟨?_, ?_⟩))
   ·obtain rfl : k = q + 1 - p := by omega
    have hsk := hsums (q + 1 - p) (by omega)
    refine dT rfl ?_
    refine lg rfl ag_frac rfl rfl hk7 rfl ?_
    refine call (f := 55) rfl rfl cb55 (frnumq_calls (sm (q + 1 - p) (fun j => x (p + j))) _ w7 hf7 (hsk.fits (by omega)) (ht0.below hB7)) ?_
    rintro v w8 ⟨hres, hB8⟩
    obtain rfl := hres.ok hsk
    refine ⟨_, rfl, ?_⟩
    refine dT rfl ?_
    refine ret Tryz.results14 rfl ⟨_, rfl, ⟨_, _, .inr ⟨hst, hrg, rfl, x, ?_, ?_⟩, rfl⟩, bl_tr hB01 (bl_tr hB7 hB8 hB7.size) hB01.size⟩
    ·intro k hk
     rw [← hr]; exact hx1 k hk
    ·rw [rgw_sum (by omega) (by omega), show q + 1 - p = q - p + 1 by omega]
 ·refine mkn U rfl rfl rfl rfl rfl rfl rfl n rfl rfl (by omega) (by omega) w0.heap.size hBA.size ?_
  intro ab_ wC hoB hgC
  obtain ⟨gb, rfl⟩ := own_go hoB P.h0
  have hBC := hBA.grown hgC hBA.size (fun k e => by cases e)
  refine d2 ?_
  refine d1 rfl rfl (fun _ => True.intro) ?_
  refine mkn U rfl rfl rfl rfl rfl rfl rfl n rfl rfl (by omega) (by omega) w0.heap.size hBC.size ?_
  intro ao wS hoA hgS
  obtain ⟨go, rfl⟩ := own_go hoA P.h0
  have hBS := hBC.grown hgS hBC.size (fun k e => by cases e)
  have hoB := own_keep hoB hgS (fun g e h => by cases h)
  refine d2 ?_
  refine dqS [4] [] rfl rfl True.intro ?_
  refine d1 rfl rfl (fun _ => True.intro) ?_
  refine dT rfl ?_
  refine d3 ?_; refine dend rfl (fun h => by cases h) ?_
  rw [vws_start] at hoA
  rw [bls_zero n r] at hoB
  refine dT rfl ?_
  refine loopR (fun fr w' mm => ∃ (i : Nat) (A : Nat → Option Addr) (C : Nat → Nat), fr = [(1, .int .i64 (n : Nat)), (2, .int .i64 (p : Nat)), (3, .int .i64 (q : Nat)), (10, .slice ar rows.length cr), (11, .slice (some ⟨go, 0, none⟩) n n), (12, .slice (some ⟨gb, 0, none⟩) n n), (39, .int .i64 (n : Nat)), (40, .int .i64 (i : Nat))] ∧ i ≤ n ∧ w'.ownsRow w0.heap.size 29 1 (.slice (some ⟨go, 0, none⟩) n n) n (vws n A (lenK n i 0) C) ∧ RowsT w' gb w'.heap.size n i A (nrm rows) ∧ (∀ j, i ≤ j → A j = none ∧ C j = 0) ∧
    w'.ownsRow w0.heap.size 35 1 (.slice (some ⟨gb, 0, none⟩) n n) n (strs (bls n i r)) ∧ Below w0.heap.size w0 w' ∧ mm = n - i)
   ⟨0, fun _ => none, fun _ => 0, rfl, by omega, by rw [vws_len (L' := fun _ => 0) (lenK_zero n)]; exact hoA, RowsT.none _ _ _ _ _ _, fun _ _ => ⟨rfl, rfl⟩, hoB, hBS, rfl⟩ (by repeat' (first | exact True.intro | exact rfl | exact iv (by omega) | refine ⟨?_, ?_⟩)) ?_
  rintro fr w1 mm ⟨i, A, C, rfl, hi, ho, hR1, hnone, hob, hB1, rfl⟩
  have hgb1 := (own_block hob gb rfl).2
  refine dT rfl ?_
  refine cS rfl rfl rfl rfl (fun hqi => ?_) (fun hqi => ?_)
  ·have hin : i < n := by omega
   refine dT rfl ?_
   refine loopR (fun fr w' mm => ∃ (k : Nat) (A : Nat → Option Addr) (C : Nat → Nat), fr = [(1, .int .i64 (n : Nat)), (2, .int .i64 (p : Nat)), (3, .int .i64 (q : Nat)), (10, .slice ar rows.length cr), (11, .slice (some ⟨go, 0, none⟩) n n), (12, .slice (some ⟨gb, 0, none⟩) n n), (39, .int .i64 (n : Nat)), (40, .int .i64 (i : Nat)), (13, .int .i64 (i : Nat)), (43, .int .i64 (n : Nat)), (44, .int .i64 (k : Nat))] ∧ k ≤ n ∧ w'.ownsRow w0.heap.size 29 1 (.slice (some ⟨go, 0, none⟩) n n) n (vws n A (lenK n i k) C) ∧ RowsT w' gb w1.heap.size n i A (nrm rows) ∧ (∀ j, i < j → A j = none ∧ C j = 0) ∧
     w'.ownsRow w1.heap.size 35 1 (.slice (A i) k (C i)) k (strs (txs k (nrm rows i))) ∧ w'.ownsRow w0.heap.size 35 1 (.slice (some ⟨gb, 0, none⟩) n n) n (strs (bls n i r)) ∧ Below w0.heap.size w0 w' ∧ w1.heap.size ≤ w'.heap.size ∧ mm = n - k)
    ⟨0, A, C, rfl, by omega, ho, hR1, fun j hj => hnone j (by omega), by rw [(hnone i (Nat.le_refl _)).1, (hnone i (Nat.le_refl _)).2]; exact ⟨rfl, .inl ⟨rfl, rfl⟩⟩, hob, hB1, Nat.le_refl _, rfl⟩ (by repeat' (first | exact True.intro | exact rfl | exact iv (by omega) | refine ⟨?_, ?_⟩)) ?_
   rintro fr w2 mm ⟨k, A, C, rfl, hk, ho, hR2, hnone2, hrow, hob, hB2, hsz2, rfl⟩
   refine dT rfl ?_
   refine cS rfl rfl rfl rfl (fun hqk => ?_) (fun hqk => ?_)
   ·have hkn : k < n := by omega
    refine dT rfl ?_
    refine loopR (fun fr w' mm => ∃ (j : Nat), fr = [(1, .int .i64 (n : Nat)), (2, .int .i64 (p : Nat)), (3, .int .i64 (q : Nat)), (10, .slice ar rows.length cr), (11, .slice (some ⟨go, 0, none⟩) n n), (12, .slice (some ⟨gb, 0, none⟩) n n), (39, .int .i64 (n : Nat)), (40, .int .i64 (i : Nat)), (13, .int .i64 (i : Nat)), (43, .int .i64 (n : Nat)), (44, .int .i64 (k : Nat)), (14, .int .i64 (k : Nat)), (15, .int .i64 (dotC rows i k j)), (47, .slice ar rows.length cr), (48, .int .i64 (rows.length : Nat)), (49, .int .i64 (j : Nat))] ∧ j ≤ rows.length ∧ Below w2.heap.size w2 w' ∧ mm = rows.length - j)
     ⟨0, rfl, by omega, Below.refl _ _, rfl⟩ (by repeat' (first | exact True.intro | exact rfl | exact iv (by omega) | refine ⟨?_, ?_⟩)) ?_
    rintro fr w3 mm ⟨j, rfl, hj, hB23, rfl⟩
    have hB3 := bl_tr hB2 hB23 hB2.size
    refine dT rfl ?_
    refine cS rfl rfl rfl rfl (fun hqj => ?_) (fun hqj => ?_)
    ·have hjl : j < rows.length := by omega
     have hlj := P.hrow j hjl
     have hRj := (hRr j hjl).stay hB3
     obtain ⟨ga, oa, hga, _⟩ := hRj i _ (ivs_get (by omega))
     have hd0 := dotC_le P.bits i k j
     have hpr := bits_prod P.bits i k j
     refine dT rfl ?_
     refine il U rfl rfl rfl rfl rfl rfl rfl (fun _ => rfl) rfl j rfl hjl (hSlr.stay hB3) (irws_get hjl) ?_
     rw [hga] at hRj ⊢
     refine dT rfl ?_
     refine dwn 11 (fun W => Sl W (some ⟨ga, oa, none⟩) (ivs (irow rows j))) hmo ?_
     intro w4 hh4 hg4
     have hB34 : Below w3.heap.size w3 w4 := (Below.refl _ _).grown hg4 (Nat.le_refl _) (fun k e => by cases e)
     have hRj4 := hRj.stay hB34
     have hl4 : ∀ W, Sl W (some ⟨ga, oa, none⟩) (ivs (irow rows j)) → (loadVar 3 ((⟨ga, oa, none⟩ : Addr).add (((i : Nat) : Int).toNat * 1))).run Tryz.prog W = .ok (.int .i64 ((irow rows j).getD i 0)) W := fun W h => run_load_cell U rfl (by simpa [add_plain] using slc2 h (ivs_get (i := i) (by omega)))
     have hl8 : ∀ W, Sl W (some ⟨ga, oa, none⟩) (ivs (irow rows j)) → (loadVar 3 ((⟨ga, oa, none⟩ : Addr).add (((k : Nat) : Int).toNat * 1))).run Tryz.prog W = .ok (.int .i64 ((irow rows j).getD k 0)) W := fun W h => run_load_cell U rfl (by simpa [add_plain] using slc2 h (ivs_get (i := k) (by omega)))
     refine dq U [0,1,2,3,4,5,6,7,8,9,10] [(4, .int .i64 ((irow rows j).getD i 0)), (8, .int .i64 ((irow rows j).getD k 0))] (by kernel_rfl) rfl rfl hRj4 (by simp only [AllP, InR, List.nil_append, List.cons_append]; (repeat' apply And.intro); all_goals first | exact True.intro | omega | (with_reducible exact hl4) | (with_reducible exact hl8)) ?_
     refine d1 rfl rfl (fun _ => hRj4) ?_
     refine dT rfl ?_
     refine d3 ?_; refine dend rfl (fun h => by cases h) ?_
     refine dS rfl ?_
     exact rend _ _ ⟨j + 1, rfl, by omega, bl_tr hB23 hB34 hB23.size, rfl⟩ (by omega) (by repeat' (first | exact True.intro | exact rfl | exact iv (by omega) | refine ⟨?_, ?_⟩))
    ·obtain rfl : j = rows.length := by omega
     have hlk : lenK n i k i = k := by simp [lenK]
     have hnr := nrm_int rows i k
     have hdl := dotC_le P.bits i k rows.length
     have ho3 := own_bw ho hB23
     have hrow3 := own_bw hrow hB23
     have hob3 := own_bw hob hB23
     have hR3 := hR2.stay hB23
     refine dT rfl ?_
     refine dwn 11 (fun W => Sl W (some ⟨go, 0, none⟩) (vws n A (lenK n i k) C)) hmo ?_
     intro w5 hh5 hg5
     have hB35 : Below w3.heap.size w3 w5 := (Below.refl _ _).grown hg5 (Nat.le_refl _) (fun k e => by cases e)
     have hB5 := bl_tr hB3 hB35 hB3.size
     have ho5 := own_bw ho3 hB35
     have hl5 : ∀ W, Sl W (some ⟨go, 0, none⟩) (vws n A (lenK n i k) C) → (loadVar 29 ((⟨go, 0, none⟩ : Addr).add (((i : Nat) : Int).toNat * 1))).run Tryz.prog W = .ok (.slice (A i) k (C i)) W := fun W h => run_load_cell U rfl (by have := slc2 h (vws_get hin); rw [hlk] at this; simpa [add_plain] using this)
     refine dq U [0,1,2,3,4,5,6] [(5, .slice (A i) k (C i))] (by kernel_rfl) rfl rfl (own_sl ho5) (by simp only [AllP, InR, List.nil_append, List.cons_append]; (repeat' apply And.intro); all_goals first | exact True.intro | omega | (with_reducible exact hl5)) ?_
     refine d1 rfl rfl (fun _ => (own_sl ho5)) ?_
     refine call (f := 43) rfl rfl cb43 (mint_calls (dotC rows i k rows.length) (by omega) (by omega) w5 (ht0.below hB5)) ?_
     rintro v w6 ⟨rfl, hB56⟩
     have ho6 := own_bw ho5 hB56
     refine ⟨_, rfl, d2 ?_⟩
     refine d1 rfl rfl (fun _ => (own_sl ho6)) ?_
     refine bs1 U (v := .string ⟨⟨qtext ((dotC rows i k rows.length : Int) : Rat)⟩⟩) rfl rfl rfl rfl rfl rfl rfl ?_
     intro w7 hk7 hs7 hg7
     have hB67 : Below w6.heap.size w6 w7 := (Below.refl _ _).grown hg7 (Nat.le_refl _) (fun k e => by cases e)
     have hB37 := bl_tr (bl_tr hB35 hB56 hB35.size) hB67 (bl_tr hB35 hB56 hB35.size).size
     have hB7 := bl_tr hB3 hB37 hB3.size
     have ho7 := own_bw ho3 hB37
     have hrow7 := own_bw hrow3 hB37
     have hob7 := own_bw hob3 hB37
     have hR7 := hR3.stay hB37
     have hz7 : w1.heap.size ≤ w7.heap.size := by have := hB23.size; have := hB37.size; omega
     refine d2 ?_
     refine d1 rfl rfl (fun _ => (own_sl ho7)) ?_
     refine aw U rfl rfl rfl rfl rfl rfl rfl rfl rfl hrow7 (hk7.sl 0) rfl (by intro u hu; simp at hu; subst hu; rfl) hz7 (by omega) rfl ?_
     intro a9 c9 w9 ho9 hg9
     rw [← hnr, List.drop_zero, strs_txs_snoc] at ho9
     have hout9 := own_keep ho7 hg9 (fun g hga e => (own_tag ho7 g hga).ne (own_tag hrow7 g e) rfl rfl)
     have hob9 := own_keep hob7 hg9 (fun g hga e => by cases hga; have := (own_block hrow7 gb e).1; omega)
     have hR9 := hR7.grown hg9 (fun g e => .inr (.inl (own_block hrow7 g e).1))
     have hB9 := hB7.grown hg9 hB7.size (fun g e => by have := (own_block hrow7 g e).1; have := hB1.size; omega)
     have hz9 := hg9.size
     refine d2 ?_
     refine dqS [10] [] rfl rfl (own_sl hout9) ?_
     refine d1 rfl rfl (fun _ => (own_sl hout9)) ?_
     refine so U (v := (.slice a9 (k + 1) c9)) rfl rfl rfl rfl rfl rfl rfl i (by simp [add_plain]) hin hout9 ?_
     intro w10 ho10 hg10 hs10
     rw [vws_set hin, vws_len (lenK_upd n i k)] at ho10
     have hrow10 := own_keep ho9 hg10 (fun g hga e => (own_tag ho9 g hga).ne (own_tag hout9 g e) rfl rfl)
     have hob10 := own_keep hob9 hg10 (fun g hga e => (own_tag hob9 g hga).ne (own_tag hout9 g e) rfl rfl)
     have hR10 := hR9.grown hg10 (fun g e => .inr (.inr ⟨_, rfl, own_tag hout9 g e⟩))
     have hB10 := hB9.grown hg10 hB9.size (fun g e => (own_block hout9 g e).1)
     refine d2 ?_; refine dend rfl (fun h => by cases h) ?_
     refine dS rfl ?_
     refine rend _ _ ⟨k + 1, upd A i a9, upd C i c9, rfl, by omega, ho10, hR10.congr (fun j hj => upd_ne _ _ (by omega)), fun j hj => by rw [upd_ne _ _ (by omega), upd_ne _ _ (by omega)]; exact hnone2 j hj, by rw [upd_same, upd_same]; exact hrow10, hob10, hB10, by omega, rfl⟩ (by omega) (by repeat' (first | exact True.intro | exact rfl | exact iv (by omega) | refine ⟨?_, ?_⟩))
   ·obtain rfl : k = n := by omega
    refine dT rfl ?_
    refine is U (v := (.string ⟨⟨[48]⟩⟩)) rfl rfl rfl rfl rfl rfl rfl (fun _ => rfl) (fun _ => rfl) (fun _ => rfl) rfl rfl i rfl hin hob ?_
    intro p w3 hob3 hg3 hs3
    rw [bls_set hin] at hob3
    have ho3 := own_keep ho hg3 (fun g hga e => (own_tag ho g hga).ne (own_tag hob g e) rfl rfl)
    rw [vws_len (lenK_end k i)] at ho3
    have hR3 : RowsT w3 gb w3.heap.size k (i + 1) A (nrm rows) := by
     rw [hs3]
     exact ((hR2.lim hsz2).snoc (own_sl hrow) (fun g hg => ⟨by have := (own_block hrow g hg).1; omega, (own_block hrow g hg).2, own_tag hrow g hg⟩)).grown hg3 (fun g e => by cases e; exact .inl (Nat.le_refl _))
    have hB3 := hB2.grown hg3 hB2.size (fun g e => by cases e; exact (own_block hob gb rfl).1)
    refine dT rfl ?_
    refine cS rfl rfl rfl rfl (fun hqa => ?_) (fun hqa => ?_)
    ·refine dT rfl ?_
     refine cS rfl rfl rfl rfl (fun hqb => ?_) (fun hqb => ?_)
     ·have hri : qtext (r i) = [49] := by rw [hr1 i (by omega)]; exact qtext_one
      refine dT rfl ?_
      refine is U (v := (.string ⟨⟨[49]⟩⟩)) rfl rfl rfl rfl rfl rfl rfl (fun _ => rfl) (fun _ => rfl) (fun _ => rfl) rfl rfl i rfl hin hob3 ?_
      intro p4 w4 hob4 hg4 hs4
      rw [blsP_set hin, ← hri, blsP_end] at hob4
      have ho4 := own_keep ho3 hg4 (fun g hga e => (own_tag ho3 g hga).ne (own_tag hob3 g e) rfl rfl)
      have hR4 : RowsT w4 gb w4.heap.size k (i + 1) A (nrm rows) := by
       rw [hs4]; exact hR3.grown hg4 (fun g e => by cases e; exact .inl (Nat.le_refl _))
      have hB4 := hB3.grown hg4 hB3.size (fun g e => by cases e; exact (own_block hob3 gb rfl).1)
      refine dS rfl ?_
      exact rend _ _ ⟨i + 1, A, C, rfl, by omega, ho4, hR4, fun j hj => hnone2 j (by omega), hob4, hB4, rfl⟩ (by omega) (by repeat' (first | exact True.intro | exact rfl | exact iv (by omega) | refine ⟨?_, ?_⟩))
     ·have hri : qtext (r i) = [48] := by rw [hr0 i (by omega)]; exact qtext_zero
      rw [← hri, blsP_end] at hob3
      refine dS rfl ?_
      exact rend _ _ ⟨i + 1, A, C, rfl, by omega, ho3, hR3, fun j hj => hnone2 j (by omega), hob3, hB3, rfl⟩ (by omega) (by repeat' (first | exact True.intro | exact rfl | exact iv (by omega) | refine ⟨?_, ?_⟩))
    ·have hri : qtext (r i) = [48] := by rw [hr0 i (by omega)]; exact qtext_zero
     rw [← hri, blsP_end] at hob3
     refine dS rfl ?_
     exact rend _ _ ⟨i + 1, A, C, rfl, by omega, ho3, hR3, fun j hj => hnone2 j (by omega), hob3, hB3, rfl⟩ (by omega) (by repeat' (first | exact True.intro | exact rfl | exact iv (by omega) | refine ⟨?_, ?_⟩))
  ·obtain rfl : i = n := by omega
   rw [bls_end] at hob
   have hsm := rowsT_sm (own_sl ho) hR1
   refine dT rfl ?_
   refine call (f := 50) rfl rfl cb50 (pSolveC_calls (nrm rows) r 15 P.h0 (by have := P.hn; omega) (by omega) (fun i _ k _ => P.nrm i k) P.b (grw7 P.hn (by omega)) P.reg P.sol _ _ _ _ w1 hsm (lit_txs (own_sl hob)) (ht0.below hB1)) ?_
   rintro v w2 ⟨hS, hB12⟩
   obtain ⟨x, ax, cx, hx1, hx2, rfl, hx3, hx4⟩ := hS
   have hxs := hsb x hx1
   have hB2 := bl_tr hB1 hB12 hB1.size
   have hSx := hx3.sl.1
   refine ⟨_, rfl, ?_⟩
   refine dT rfl ?_
   refine cF rfl rfl rfl ((fun h => h rfl)) ?_; refine dT rfl ?_
   refine call (f := 52) rfl rfl cb52 (of_calls 0 (by omega) w2) ?_
   rintro v w3 ⟨a3, c3, rfl, hr3, hB23⟩
   refine ⟨_, rfl, ?_⟩
   refine call (f := 51) rfl rfl cb51 (frof_calls 0 a3 c3 w3 (own_rd hr3)) ?_
   rintro v w4 ⟨hv4, hB34⟩
   have hf4 : FQ w4 v 0 := hv4
   obtain ⟨u1, u2, u3, u4, u5, u6, u7, rfl⟩ := hf4.shape
   have hB24 := bl_tr hB23 hB34 hB23.size
   refine ⟨_, rfl, ?_⟩
   refine dT rfl ?_
   refine al U rfl rfl rfl rfl ?_
   intro b20 w5 hb5 hs5 hk5 hg5
   have hB45 : Below w4.heap.size w4 w5 := (Below.refl _ _).grown hg5 (Nat.le_refl _) (fun k e => by cases e)
   refine dT rfl ?_
   refine st U rfl rfl rfl rfl rfl rfl rfl rfl rfl rfl (hk5) ?_
   intro w6 hk6 hg6 hs6
   have hB46 := hB45.grown hg6 hB45.size (fun k e => by cases e; omega)
   have hB26 := bl_tr hB24 hB46 hB24.size
   have hf6 := hf4.stay hB46
   have hlen : (strs (txs i x)).length = i := by rw [strs_len, txs_length]
   have hpart := (hSx.stay hB26).drop p cx (by rw [hlen]; exact hx4)
   have hpg : ∀ k, p + k < i → ((strs (txs i x)).drop p)[k]? = some (.string ⟨⟨qtext (x (p + k))⟩⟩) := fun k hk => by rw [List.getElem?_drop]; exact txs_get hk
   have hsums : ∀ k, p + k ≤ i → Small 4000 (sm k (fun j => x (p + j))) := fun k hk => small_mono (sm_small1 (K := 12) (n := k) (fun j hj => hxs (p + j) (by omega)) k (Nat.le_refl _)) (by omega)
   refine dS rfl ?_
   rw [show ((q : Int) + 1).toNat = q + 1 by omega, Int.toNat_natCast]
   obtain ⟨apx, hapx⟩ : ∃ apx, sadd ax cx p 1 = apx := ⟨_, rfl⟩
   rw [hapx] at hpart ⊢
   have hB6 := bl_tr hB2 hB26 hB2.size
   refine loopR (fun fr w' m2 => ∃ (k : Nat) (u1 : Bool) (u2 u5 : Option Addr) (u3 u4 u6 u7 : Nat), fr = [(20, .pointer (some ⟨b20, 0, none⟩)), (107, .slice apx (q + 1 - p) (cx - p)), (108, .int .i64 ((q + 1 - p : Nat) : Int)), (109, .int .i64 (k : Nat))] ∧ k ≤ q + 1 - p ∧ Bk w' b20 76 [.bool u1, .slice u2 u3 u4, .slice u5 u6 u7] ∧ FQ w' (.agg ⟨[.bool u1, .slice u2 u3 u4, .slice u5 u6 u7]⟩) (sm k (fun j => x (p + j))) ∧
     Below w2.heap.size w2 w' ∧ m2 = q + 1 - p - k)
    ⟨0, u1, u2, u5, u3, u4, u6, u7, rfl, by omega, hk6, hf6, hB26, rfl⟩ (by repeat' (first | exact True.intro | exact rfl | exact iv (by omega) | refine ⟨?_, ?_⟩)) ?_
   rintro fr w7 m2 ⟨k, u1, u2, u5, u3, u4, u6, u7, rfl, hk, hk7, hf7, hB27, rfl⟩
   have hB7 := bl_tr hB2 hB27 hB2.size
   refine dT rfl ?_
   refine cS rfl rfl rfl rfl (fun hqk => ?_) (fun hqk => ?_)
   ·have hkq : k < q + 1 - p := by omega
    have hx7 : Sl w7 apx ((strs (txs i x)).drop p) := by
     have := ((hSx.stay hB27).drop p cx (by rw [hlen]; exact hx4))
     rw [hapx] at this; exact this
    refine dT rfl ?_
    refine il U rfl rfl rfl rfl rfl rfl rfl (fun _ => rfl) rfl k rfl hkq hx7 (hpg k (by omega)) ?_
    refine dT rfl ?_
    refine dwn 4 (fun W => Bk W b20 76 [.bool u1, .slice u2 u3 u4, .slice u5 u6 u7]) hmo ?_
    intro w8 hh8 hg8
    have hB78 : Below w7.heap.size w7 w8 := (Below.refl _ _).grown hg8 (Nat.le_refl _) (fun k e => by cases e)
    have hk8 := hk7.below hB78 hk7.lt
    have hf8 := hf7.stay hB78
    have hl0 : ∀ W, Bk W b20 76 [.bool u1, .slice u2 u3 u4, .slice u5 u6 u7] → (loadVar 76 ⟨b20, 0, none⟩).run Tryz.prog W = .ok (.agg ⟨[.bool u1, .slice u2 u3 u4, .slice u5 u6 u7]⟩) W := fun W h => run_load_agg ag_frac h rfl
    refine dq U [0,1] [(0, .agg ⟨[.bool u1, .slice u2 u3 u4, .slice u5 u6 u7]⟩)] (by kernel_rfl) rfl rfl hk8 (by simp only [AllP, InR, List.nil_append, List.cons_append]; (repeat' apply And.intro); all_goals first | exact True.intro | omega | (with_reducible exact hl0)) ?_
    refine d1 rfl rfl (fun _ => hk8) ?_
    refine call (f := 54) rfl rfl cb54 (must_calls (x (p + k)) (hx2 (p + k) (by omega)) w8) ?_
    rintro v w9 ⟨hf9, hB89⟩
    have hk9 := hk8.below hB89 hk8.lt
    have hB79 := bl_tr hB78 hB89 hB78.size
    refine ⟨_, rfl, d2 ?_⟩
    refine d1 rfl rfl (fun _ => hk9) ?_
    refine call (f := 53) rfl rfl cb53 (fadd_calls (sm k (fun j => x (p + j))) (x (p + k)) 4000 (by omega) _ _ w9 (hf8.stay hB89) hf9 (hsums k (by omega)) (hx2 (p + k) (by omega))) ?_
    rintro v w10 ⟨hf10, hB910⟩
    have hk10 := hk9.below hB910 hk9.lt
    have hB710 := bl_tr hB79 hB910 hB79.size
    obtain ⟨y1, y2, y3, y4, y5, y6, y7, rfl⟩ := hf10.shape
    refine ⟨_, rfl, d2 ?_⟩
    refine d1 rfl rfl (fun _ => hk10) ?_
    refine st U rfl rfl rfl rfl rfl rfl rfl rfl rfl rfl (hk10) ?_
    intro w11 hk11 hg11 hs11
    have hB210 := bl_tr hB27 hB710 hB27.size
    have hB211 := hB210.grown hg11 hB210.size (fun k e => by cases e; have := hB24.size; omega)
    have hf11 := hf10.push hg11 (fun g e => by cases e; exact hk10.tg)
    refine d2 ?_; refine dend rfl (fun h => by cases h) ?_
    refine dS rfl ?_
    exact rend _ _ ⟨k + 1, y1, y2, y5, y3, y4, y6, y7, rfl, by omega, hk11, hf11, hB211, rfl⟩ (by omega) (by repeat' (first | exact True.intro | exact rfl | exact iv (by omega) | refine ⟨?_, ?_⟩))
   ·obtain rfl : k = q + 1 - p := by omega
    have hsk := hsums (q + 1 - p) (by omega)
    refine dT rfl ?_
    refine lg rfl ag_frac rfl rfl hk7 rfl ?_
    refine call (f := 55) rfl rfl cb55 (frnumq_calls (sm (q + 1 - p) (fun j => x (p + j))) _ w7 hf7 (hsk.fits (by omega)) (ht0.below hB7)) ?_
    rintro v w8 ⟨hres, hB8⟩
    obtain rfl := hres.ok hsk
    refine ⟨_, rfl, ?_⟩
    refine dT rfl ?_
    refine ret Tryz.results14 rfl ⟨_, rfl, ⟨_, _, .inr ⟨hst, hrg, rfl, x, ?_, ?_⟩, rfl⟩, bl_tr hB01 (bl_tr hB7 hB8 hB7.size) hB01.size⟩
    ·intro k hk
     rw [← hr]; exact hx1 k hk
    ·rw [rgw_sum (by omega) (by omega), show q + 1 - p = q - p + 1 by omega]
end Go.Proofs.YtejlpdbiacmfcaaGreatDoor
