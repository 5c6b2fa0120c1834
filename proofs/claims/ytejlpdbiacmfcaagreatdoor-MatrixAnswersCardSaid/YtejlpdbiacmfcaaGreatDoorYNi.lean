/-
  Walk of package matrix's fit.
  Conditions: a strategy of at most 7 cells; the numbers' digits fit; the library's table of powers of ten is laid.
  Walks of slices.Max and of package matrix's Norm.
  Conditions: rows take at most a million ints.
-/
import Derived.Test.YtejlpdbiacmfcaaGreatDoorYMj
import Derived.Test.YtejlpdbiacmfcaaGreatDoorYGg
import Derived.Test.YtejlpdbiacmfcaaGreatDoorYNh
set_option linter.unusedSimpArgs false
set_option linter.unusedVariables false
namespace Go.Proofs.YtejlpdbiacmfcaaGreatDoor
section
set_option maxHeartbeats 8000000
set_option maxRecDepth 100000
open Go Go.Proofs Go.RowKit Go.Lib

theorem mfit_calls (rows : List (List Int)) (n : Nat) (yq r : Nat → Rat) (hreq : ∀ i, r i = rhs rows yq i rows.length) (P : SysP rows n r) (hy : ∀ j, j < rows.length → Small 4000 (yq j)) (hr : ∀ i, i < n → ∀ j, j ≤ rows.length → Small 15 (rhs rows yq i j))
  (ar yr : Option Addr) (cr yc : Nat) (w0 : World) (hs : SZ w0 ar rows) (hyl : Lit w0 (.slice yr rows.length yc) (txs rows.length yq)) (ht0 : TabOk w0) :
  Calls Tryz.prog 44 #[.slice ar rows.length cr, .slice yr rows.length yc] w0 (Ret fun v w' => FitR rows n r v w' ∧ Below w0.heap.size w0 w') := by
 obtain ⟨Ar, Cr, hSlr, hRr⟩ := hs
 have h00 := P.hrow 0 P.hl0
 have hnn := P.hn
 have hll := P.hl
 refine enter Tryz.func44 rfl Tryz.ntmps44 (Nat.le_of_ble_eq_true rfl) ?_
 refine dT rfl ?_
 refine il U rfl rfl rfl rfl rfl rfl rfl (fun _ => rfl) rfl 0 rfl P.hl0 hSlr (irws_get P.hl0) ?_
 rw [h00]
 refine dT rfl ?_
 refine dwn 5 (fun _ => True) hmo ?_
 intro wA hhA hgA
 have hBA : Below w0.heap.size w0 wA := (Below.refl _ _).grown hgA (Nat.le_refl _) (fun k e => by cases e)
 refine dqS [0,2] [] rfl rfl True.intro ?_
 refine d1or (i := 1) (j := 3) rfl rfl rfl (fun _ => True.intro) ?_ ?_
 ·refine mkn U rfl rfl rfl rfl rfl rfl rfl n rfl rfl (by omega) (by omega) w0.heap.size hBA.size ?_
  intro ao wC hoA hgC
  obtain ⟨go, rfl⟩ := own_go hoA P.h0
  have hBC := hBA.grown hgC hBA.size (fun k e => by cases e)
  refine d2 ?_
  refine dqS [4] [] rfl rfl True.intro ?_
  refine d1 rfl rfl (fun _ => True.intro) ?_
  refine mkn U rfl rfl rfl rfl rfl rfl rfl n rfl rfl (by omega) (by omega) w0.heap.size hBC.size ?_
  intro ab_ wS hoB hgS
  obtain ⟨gb, rfl⟩ := own_go hoB P.h0
  have hBS := hBC.grown hgS hBC.size (fun k e => by cases e)
  have hoA := own_keep hoA hgS (fun g e h => by cases h)
  refine d2 ?_
  refine d1 rfl rfl (fun _ => True.intro) ?_
  refine dT rfl ?_
  refine d3 ?_; refine dend rfl (fun h => by cases h) ?_
  rw [vws_start] at hoA
  rw [bls_zero n r] at hoB
  refine dT rfl ?_
  refine loopR (fun fr w' mm => ∃ (i : Nat) (A : Nat → Option Addr) (C : Nat → Nat), fr = [(0, .slice ar rows.length cr), (1, .slice yr rows.length yc), (6, .int .i64 (n : Nat)), (7, .slice (some ⟨go, 0, none⟩) n n), (8, .slice (some ⟨gb, 0, none⟩) n n), (24, .int .i64 (n : Nat)), (25, .int .i64 (i : Nat))] ∧ i ≤ n ∧ w'.ownsRow w0.heap.size 29 1 (.slice (some ⟨go, 0, none⟩) n n) n (vws n A (lenK n i 0) C) ∧ RowsT w' gb w'.heap.size n i A (nrm rows) ∧ (∀ j, i ≤ j → A j = none ∧ C j = 0) ∧
    w'.ownsRow w0.heap.size 35 1 (.slice (some ⟨gb, 0, none⟩) n n) n (strs (bls n i r)) ∧ Below w0.heap.size w0 w' ∧ mm = n - i)
   ⟨0, fun _ => none, fun _ => 0, rfl, by omega, by rw [vws_len (L' := fun _ => 0) (lenK_zero n)]; exact hoA, RowsT.none _ _ _ _ _ _, fun _ _ => ⟨rfl, rfl⟩, hoB, hBS, rfl⟩ (by repeat' (first | exact True.intro | exact rfl | exact iv (by omega) | refine ⟨?_, ?_⟩)) ?_
  rintro fr w1 mm ⟨i, A, C, rfl, hi, ho, hR1, hnone, hob, hB1, rfl⟩
  have hgb1 := (own_block hob gb rfl).2
  refine dT rfl ?_
  refine cS rfl rfl rfl rfl (fun hqi => ?_) (fun hqi => ?_)
  ·have hin : i < n := by omega
   refine dT rfl ?_
   refine loopR (fun fr w' mm => ∃ (k : Nat) (A : Nat → Option Addr) (C : Nat → Nat), fr = [(0, .slice ar rows.length cr), (1, .slice yr rows.length yc), (6, .int .i64 (n : Nat)), (7, .slice (some ⟨go, 0, none⟩) n n), (8, .slice (some ⟨gb, 0, none⟩) n n), (24, .int .i64 (n : Nat)), (25, .int .i64 (i : Nat)), (9, .int .i64 (i : Nat)), (28, .int .i64 (n : Nat)), (29, .int .i64 (k : Nat))] ∧ k ≤ n ∧ w'.ownsRow w0.heap.size 29 1 (.slice (some ⟨go, 0, none⟩) n n) n (vws n A (lenK n i k) C) ∧ RowsT w' gb w1.heap.size n i A (nrm rows) ∧ (∀ j, i < j → A j = none ∧ C j = 0) ∧
     w'.ownsRow w1.heap.size 35 1 (.slice (A i) k (C i)) k (strs (txs k (nrm rows i))) ∧ w'.ownsRow w0.heap.size 35 1 (.slice (some ⟨gb, 0, none⟩) n n) n (strs (bls n i r)) ∧ Below w0.heap.size w0 w' ∧ w1.heap.size ≤ w'.heap.size ∧ mm = n - k)
    ⟨0, A, C, rfl, by omega, ho, hR1, fun j hj => hnone j (by omega), by rw [(hnone i (Nat.le_refl _)).1, (hnone i (Nat.le_refl _)).2]; exact ⟨rfl, .inl ⟨rfl, rfl⟩⟩, hob, hB1, Nat.le_refl _, rfl⟩ (by repeat' (first | exact True.intro | exact rfl | exact iv (by omega) | refine ⟨?_, ?_⟩)) ?_
   rintro fr w2 mm ⟨k, A, C, rfl, hk, ho, hR2, hnone2, hrow, hob, hB2, hsz2, rfl⟩
   refine dT rfl ?_
   refine cS rfl rfl rfl rfl (fun hqk => ?_) (fun hqk => ?_)
   ·have hkn : k < n := by omega
    refine dT rfl ?_
    refine loopR (fun fr w' mm => ∃ (j : Nat), fr = [(0, .slice ar rows.length cr), (1, .slice yr rows.length yc), (6, .int .i64 (n : Nat)), (7, .slice (some ⟨go, 0, none⟩) n n), (8, .slice (some ⟨gb, 0, none⟩) n n), (24, .int .i64 (n : Nat)), (25, .int .i64 (i : Nat)), (9, .int .i64 (i : Nat)), (28, .int .i64 (n : Nat)), (29, .int .i64 (k : Nat)), (10, .int .i64 (k : Nat)), (11, .int .i64 (dotC rows i k j)), (32, .slice ar rows.length cr), (33, .int .i64 (rows.length : Nat)), (34, .int .i64 (j : Nat))] ∧ j ≤ rows.length ∧ Below w2.heap.size w2 w' ∧ mm = rows.length - j)
     ⟨0, rfl, by omega, Below.refl _ _, rfl⟩ (by repeat' (first | exact True.intro | exact rfl | exact iv (by omega) | refine ⟨?_, ?_⟩)) ?_
    rintro fr w3 mm ⟨j, rfl, hj, hB23, rfl⟩
    have hB3 := bl_tr hB2 hB23 hB2.size
    refine dT rfl ?_
    refine cS rfl rfl rfl rfl (fun hqj => ?_) (fun hqj => ?_)
    ·have hjl : j < rows.length := by omega
     have hlj := P.hrow j hjl
     have hRj := (hRr j hjl).stay hB3
     obtain ⟨ga, oa, hga, _⟩ := hRj i _ (ivs_get (by omega))
     have hd0 := dotC_le P.bits i k j
     have hpr := bits_prod P.bits i k j
     refine dT rfl ?_
     refine il U rfl rfl rfl rfl rfl rfl rfl (fun _ => rfl) rfl j rfl hjl (hSlr.stay hB3) (irws_get hjl) ?_
     rw [hga] at hRj ⊢
     refine dT rfl ?_
     refine dwn 11 (fun W => Sl W (some ⟨ga, oa, none⟩) (ivs (irow rows j))) hmo ?_
     intro w4 hh4 hg4
     have hB34 : Below w3.heap.size w3 w4 := (Below.refl _ _).grown hg4 (Nat.le_refl _) (fun k e => by cases e)
     have hRj4 := hRj.stay hB34
     have hl4 : ∀ W, Sl W (some ⟨ga, oa, none⟩) (ivs (irow rows j)) → (loadVar 3 ((⟨ga, oa, none⟩ : Addr).add (((i : Nat) : Int).toNat * 1))).run Tryz.prog W = .ok (.int .i64 ((irow rows j).getD i 0)) W := fun W h => run_load_cell U rfl (by simpa [add_plain] using slc2 h (ivs_get (i := i) (by omega)))
     have hl8 : ∀ W, Sl W (some ⟨ga, oa, none⟩) (ivs (irow rows j)) → (loadVar 3 ((⟨ga, oa, none⟩ : Addr).add (((k : Nat) : Int).toNat * 1))).run Tryz.prog W = .ok (.int .i64 ((irow rows j).getD k 0)) W := fun W h => run_load_cell U rfl (by simpa [add_plain] using slc2 h (ivs_get (i := k) (by omega)))
     refine dq U [0,1,2,3,4,5,6,7,8,9,10] [(4, .int .i64 ((irow rows j).getD i 0)), (8, .int .i64 ((irow rows j).getD k 0))] (by kernel_rfl) rfl rfl hRj4 (by simp only [AllP, InR, List.nil_append, List.cons_append]; (repeat' apply And.intro); all_goals first | exact True.intro | omega | (with_reducible exact hl4) | (with_reducible exact hl8)) ?_
     refine d1 rfl rfl (fun _ => hRj4) ?_
     refine dT rfl ?_
     refine d3 ?_; refine dend rfl (fun h => by cases h) ?_
     refine dS rfl ?_
     exact rend _ _ ⟨j + 1, rfl, by omega, bl_tr hB23 hB34 hB23.size, rfl⟩ (by omega) (by repeat' (first | exact True.intro | exact rfl | exact iv (by omega) | refine ⟨?_, ?_⟩))
    ·obtain rfl : j = rows.length := by omega
     have hlk : lenK n i k i = k := by simp [lenK]
     have hnr := nrm_int rows i k
     have hdl := dotC_le P.bits i k rows.length
     have ho3 := own_bw ho hB23
     have hrow3 := own_bw hrow hB23
     have hob3 := own_bw hob hB23
     have hR3 := hR2.stay hB23
     refine dT rfl ?_
     refine dwn 11 (fun W => Sl W (some ⟨go, 0, none⟩) (vws n A (lenK n i k) C)) hmo ?_
     intro w5 hh5 hg5
     have hB35 : Below w3.heap.size w3 w5 := (Below.refl _ _).grown hg5 (Nat.le_refl _) (fun k e => by cases e)
     have hB5 := bl_tr hB3 hB35 hB3.size
     have ho5 := own_bw ho3 hB35
     have hl5 : ∀ W, Sl W (some ⟨go, 0, none⟩) (vws n A (lenK n i k) C) → (loadVar 29 ((⟨go, 0, none⟩ : Addr).add (((i : Nat) : Int).toNat * 1))).run Tryz.prog W = .ok (.slice (A i) k (C i)) W := fun W h => run_load_cell U rfl (by have := slc2 h (vws_get hin); rw [hlk] at this; simpa [add_plain] using this)
     refine dq U [0,1,2,3,4,5,6] [(5, .slice (A i) k (C i))] (by kernel_rfl) rfl rfl (own_sl ho5) (by simp only [AllP, InR, List.nil_append, List.cons_append]; (repeat' apply And.intro); all_goals first | exact True.intro | omega | (with_reducible exact hl5)) ?_
     refine d1 rfl rfl (fun _ => (own_sl ho5)) ?_
     refine call (f := 43) rfl rfl cb43 (mint_calls (dotC rows i k rows.length) (by omega) (by omega) w5 (ht0.below hB5)) ?_
     rintro v w6 ⟨rfl, hB56⟩
     have ho6 := own_bw ho5 hB56
     refine ⟨_, rfl, d2 ?_⟩
     refine d1 rfl rfl (fun _ => (own_sl ho6)) ?_
     refine bs1 U (v := .string ⟨⟨qtext ((dotC rows i k rows.length : Int) : Rat)⟩⟩) rfl rfl rfl rfl rfl rfl rfl ?_
     intro w7 hk7 hs7 hg7
     have hB67 : Below w6.heap.size w6 w7 := (Below.refl _ _).grown hg7 (Nat.le_refl _) (fun k e => by cases e)
     have hB37 := bl_tr (bl_tr hB35 hB56 hB35.size) hB67 (bl_tr hB35 hB56 hB35.size).size
     have hB7 := bl_tr hB3 hB37 hB3.size
     have ho7 := own_bw ho3 hB37
     have hrow7 := own_bw hrow3 hB37
     have hob7 := own_bw hob3 hB37
     have hR7 := hR3.stay hB37
     have hz7 : w1.heap.size ≤ w7.heap.size := by have := hB23.size; have := hB37.size; omega
     refine d2 ?_
     refine d1 rfl rfl (fun _ => (own_sl ho7)) ?_
     refine aw U rfl rfl rfl rfl rfl rfl rfl rfl rfl hrow7 (hk7.sl 0) rfl (by intro u hu; simp at hu; subst hu; rfl) hz7 (by omega) rfl ?_
     intro a9 c9 w9 ho9 hg9
     rw [← hnr, List.drop_zero, strs_txs_snoc] at ho9
     have hout9 := own_keep ho7 hg9 (fun g hga e => (own_tag ho7 g hga).ne (own_tag hrow7 g e) rfl rfl)
     have hob9 := own_keep hob7 hg9 (fun g hga e => by cases hga; have := (own_block hrow7 gb e).1; omega)
     have hR9 := hR7.grown hg9 (fun g e => .inr (.inl (own_block hrow7 g e).1))
     have hB9 := hB7.grown hg9 hB7.size (fun g e => by have := (own_block hrow7 g e).1; have := hB1.size; omega)
     have hz9 := hg9.size
     refine d2 ?_
     refine dqS [10] [] rfl rfl (own_sl hout9) ?_
     refine d1 rfl rfl (fun _ => (own_sl hout9)) ?_
     refine so U (v := (.slice a9 (k + 1) c9)) rfl rfl rfl rfl rfl rfl rfl i (by simp [add_plain]) hin hout9 ?_
     intro w10 ho10 hg10 hs10
     rw [vws_set hin, vws_len (lenK_upd n i k)] at ho10
     have hrow10 := own_keep ho9 hg10 (fun g hga e => (own_tag ho9 g hga).ne (own_tag hout9 g e) rfl rfl)
     have hob10 := own_keep hob9 hg10 (fun g hga e => (own_tag hob9 g hga).ne (own_tag hout9 g e) rfl rfl)
     have hR10 := hR9.grown hg10 (fun g e => .inr (.inr ⟨_, rfl, own_tag hout9 g e⟩))
     have hB10 := hB9.grown hg10 hB9.size (fun g e => (own_block hout9 g e).1)
     refine d2 ?_; refine dend rfl (fun h => by cases h) ?_
     refine dS rfl ?_
     refine rend _ _ ⟨k + 1, upd A i a9, upd C i c9, rfl, by omega, ho10, hR10.congr (fun j hj => upd_ne _ _ (by omega)), fun j hj => by rw [upd_ne _ _ (by omega), upd_ne _ _ (by omega)]; exact hnone2 j hj, by rw [upd_same, upd_same]; exact hrow10, hob10, hB10, by omega, rfl⟩ (by omega) (by repeat' (first | exact True.intro | exact rfl | exact iv (by omega) | refine ⟨?_, ?_⟩))
   ·obtain rfl : k = n := by omega
    refine dT rfl ?_
    refine is U (v := (.string ⟨⟨[48]⟩⟩)) rfl rfl rfl rfl rfl rfl rfl (fun _ => rfl) (fun _ => rfl) (fun _ => rfl) rfl rfl i rfl hin hob ?_
    intro p w3 hob3 hg3 hs3
    rw [bls_set hin] at hob3
    have ho3 := own_keep ho hg3 (fun g hga e => (own_tag ho g hga).ne (own_tag hob g e) rfl rfl)
    rw [vws_len (lenK_end k i)] at ho3
    have hR3 : RowsT w3 gb w3.heap.size k (i + 1) A (nrm rows) := by
     rw [hs3]
     exact ((hR2.lim hsz2).snoc (own_sl hrow) (fun g hg => ⟨by have := (own_block hrow g hg).1; omega, (own_block hrow g hg).2, own_tag hrow g hg⟩)).grown hg3 (fun g e => by cases e; exact .inl (Nat.le_refl _))
    have hB3 := hB2.grown hg3 hB2.size (fun g e => by cases e; exact (own_block hob gb rfl).1)
    refine dT rfl ?_
    rw [← qtext_zero] at hob3
    refine loopR (fun fr w' mm => ∃ (j : Nat), fr = [(0, .slice ar rows.length cr), (1, .slice yr rows.length yc), (6, .int .i64 (k : Nat)), (7, .slice (some ⟨go, 0, none⟩) k k), (8, .slice (some ⟨gb, 0, none⟩) k k), (24, .int .i64 (k : Nat)), (25, .int .i64 (i : Nat)), (9, .int .i64 (i : Nat)), (65, .slice ar rows.length cr), (66, .int .i64 (rows.length : Nat)), (67, .int .i64 (j : Nat))] ∧ j ≤ rows.length ∧ w'.ownsRow w0.heap.size 29 1 (.slice (some ⟨go, 0, none⟩) k k) k (vws k A (lenK k (i + 1) 0) C) ∧ RowsT w' gb w'.heap.size k (i + 1) A (nrm rows) ∧
      w'.ownsRow w0.heap.size 35 1 (.slice (some ⟨gb, 0, none⟩) k k) k (strs (blsP k i r (qtext (rhs rows yq i j)))) ∧ Below w0.heap.size w0 w' ∧ mm = rows.length - j)
     ⟨0, rfl, by omega, ho3, hR3, hob3, hB3, rfl⟩ (by repeat' (first | exact True.intro | exact rfl | exact iv (by omega) | refine ⟨?_, ?_⟩)) ?_
    rintro fr w4 mm ⟨j, rfl, hj, ho4, hR4, hob4, hB4, rfl⟩
    refine dT rfl ?_
    refine cS rfl rfl rfl rfl (fun hqj => ?_) (fun hqj => ?_)
    ·have hjl : j < rows.length := by omega
     have hlj := P.hrow j hjl
     refine dT rfl ?_
     refine il U rfl rfl rfl rfl rfl rfl rfl (fun _ => rfl) rfl j rfl hjl (hSlr.stay hB4) (irws_get hjl) ?_
     refine dT rfl ?_
     refine il U rfl rfl rfl rfl rfl rfl rfl (fun _ => rfl) rfl i rfl (by omega) ((hRr j hjl).stay hB4) (ivs_get (by omega)) ?_
     have hrs := rhs_succ rows yq i j
     refine cS rfl rfl rfl rfl (fun hq1 => ?_) (fun hq1 => ?_)
     ·rw [hq1] at hrs
      have hrs : rhs rows yq i (j + 1) = rhs rows yq i j + yq j := by rw [hrs]; simp
      have hys := hyl.stay hB4
      obtain ⟨gy, oy, hgy, _⟩ := hys.sl.1 j _ (txs_get hjl)
      rw [hgy] at hys ⊢
      have hSy := hys.sl.1
      refine dT rfl ?_
      refine dwn 15 (fun W => Sl W (some ⟨gb, 0, none⟩) (strs (blsP k i r (qtext (rhs rows yq i j)))) ∧ Sl W (some ⟨gy, oy, none⟩) (strs (txs rows.length yq))) hmo ?_
      intro w5 hh5 hg5
      have hB45 : Below w4.heap.size w4 w5 := (Below.refl _ _).grown hg5 (Nat.le_refl _) (fun k e => by cases e)
      have hob5 := own_bw hob4 hB45
      have hl5 : ∀ W, (Sl W (some ⟨gb, 0, none⟩) (strs (blsP k i r (qtext (rhs rows yq i j)))) ∧ Sl W (some ⟨gy, oy, none⟩) (strs (txs rows.length yq))) → (loadVar 35 ((⟨gb, 0, none⟩ : Addr).add (((i : Nat) : Int).toNat * 1))).run Tryz.prog W = .ok (.string ⟨⟨qtext (rhs rows yq i j)⟩⟩) W := fun W h => run_load_cell U rfl (by simpa [add_plain] using slc2 h.1 (blsP_get hin r _))
      have hl9 : ∀ W, (Sl W (some ⟨gb, 0, none⟩) (strs (blsP k i r (qtext (rhs rows yq i j)))) ∧ Sl W (some ⟨gy, oy, none⟩) (strs (txs rows.length yq))) → (loadVar 35 ((⟨gy, oy, none⟩ : Addr).add (((j : Nat) : Int).toNat * 1))).run Tryz.prog W = .ok (.string ⟨⟨qtext (yq j)⟩⟩) W := fun W h => run_load_cell U rfl (by simpa [add_plain] using slc2 h.2 (txs_get hjl))
      refine dq U [0,1,2,3,4,5,6,7,8,9] [(5, .string ⟨⟨qtext (rhs rows yq i j)⟩⟩), (9, .string ⟨⟨qtext (yq j)⟩⟩)] (by kernel_rfl) rfl rfl ⟨own_sl hob5, hSy.stay hB45⟩ (by simp only [AllP, InR, List.nil_append, List.cons_append]; (repeat' apply And.intro); all_goals first | exact True.intro | omega | (with_reducible exact hl5) | (with_reducible exact hl9)) ?_
      refine d1 rfl rfl (fun _ => ⟨own_sl hob5, hSy.stay hB45⟩) ?_
      refine call (f := 49) rfl rfl cb49 (madd_q (small_mono (hr i hin j hj) (by omega)) (hy j hjl) (by rw [← hrs]; exact small_mono (hr i hin (j + 1) hjl) (by omega)) w5 (ht0.below (bl_tr hB4 hB45 hB4.size))) ?_
      rintro v w6 ⟨rfl, hB56⟩
      have hB46 := bl_tr hB45 hB56 hB45.size
      have hB6 := bl_tr hB4 hB46 hB4.size
      have hob6 := own_bw hob4 hB46
      have ho6 := own_bw ho4 hB46
      have hR6 := (hR4.stay hB46).lim hB46.size
      refine ⟨_, rfl, d2 ?_⟩
      refine dqS [11,12,13,14] [] rfl rfl ⟨own_sl hob6, hSy.stay hB46⟩ ?_
      refine d1 rfl rfl (fun _ => ⟨own_sl hob6, hSy.stay hB46⟩) ?_
      refine so U (v := (.string ⟨⟨qtext (rhs rows yq i j + yq j)⟩⟩)) rfl rfl rfl rfl rfl rfl rfl i (by simp [add_plain]) hin hob6 ?_
      intro w7 hob7 hg7 hs7
      rw [blsP_set hin, ← hrs] at hob7
      have ho7 := own_keep ho6 hg7 (fun g hga e => (own_tag ho6 g hga).ne (own_tag hob6 g e) rfl rfl)
      have hR7 : RowsT w7 gb w7.heap.size k (i + 1) A (nrm rows) := by
       rw [hs7]; exact hR6.grown hg7 (fun g e => by cases e; exact .inl (Nat.le_refl _))
      have hB7 := hB6.grown hg7 hB6.size (fun g e => (own_block hob6 g e).1)
      refine d2 ?_; refine dend rfl (fun h => by cases h) ?_
      refine dS rfl ?_
      exact rend _ _ ⟨j + 1, rfl, by omega, ho7, hR7, hob7, hB7, rfl⟩ (by omega) (by repeat' (first | exact True.intro | exact rfl | exact iv (by omega) | refine ⟨?_, ?_⟩))
     ·have h0 : (irow rows j).getD i 0 = 0 := by
       rcases P.bits j i with h | h
       ·exact h
       ·exact absurd h hq1
      rw [h0] at hrs
      have hrs : rhs rows yq i (j + 1) = rhs rows yq i j := by rw [hrs]; simp [Rat.add_zero]
      refine dS rfl ?_
      exact rend _ _ ⟨j + 1, rfl, by omega, ho4, hR4, by rw [hrs]; exact hob4, hB4, rfl⟩ (by omega) (by repeat' (first | exact True.intro | exact rfl | exact iv (by omega) | refine ⟨?_, ?_⟩))
    ·obtain rfl : j = rows.length := by omega
     rw [← hreq i, blsP_end (n := k) (i := i) r] at hob4
     refine dS rfl ?_
     exact rend _ _ ⟨i + 1, A, C, rfl, by omega, ho4, hR4, fun j hj => hnone2 j (by omega), hob4, hB4, rfl⟩ (by omega) (by repeat' (first | exact True.intro | exact rfl | exact iv (by omega) | refine ⟨?_, ?_⟩))
  ·obtain rfl : i = n := by omega
   rw [bls_end] at hob
   have hsm := rowsT_sm (own_sl ho) hR1
   refine dT rfl ?_
   refine call (f := 50) rfl rfl cb50 (pSolveC_calls (nrm rows) r 15 P.h0 (by have := P.hn; omega) (by omega) (fun i _ k _ => P.nrm i k) P.b (grw7 P.hn (by omega)) P.reg P.sol _ _ _ _ w1 hsm (lit_txs (own_sl hob)) (ht0.below hB1)) ?_
   rintro v w2 ⟨hS, hB12⟩
   obtain ⟨x, ax, cx, hx1, hx2, rfl, hx3, hx4⟩ := hS
   refine ⟨_, rfl, ?_⟩
   refine dT rfl ?_
   exact ret Tryz.results44 rfl ⟨_, rfl, ⟨x, ax, cx, hx1, hx2, rfl, hx3, hx4⟩, bl_tr hB1 hB12 hB1.size⟩
 ·refine mkn U rfl rfl rfl rfl rfl rfl rfl n rfl rfl (by omega) (by omega) w0.heap.size hBA.size ?_
  intro ab_ wC hoB hgC
  obtain ⟨gb, rfl⟩ := own_go hoB P.h0
  have hBC := hBA.grown hgC hBA.size (fun k e => by cases e)
  refine d2 ?_
  refine d1 rfl rfl (fun _ => True.intro) ?_
  refine mkn U rfl rfl rfl rfl rfl rfl rfl n rfl rfl (by omega) (by omega) w0.heap.size hBC.size ?_
  intro ao wS hoA hgS
  obtain ⟨go, rfl⟩ := own_go hoA P.h0
  have hBS := hBC.grown hgS hBC.size (fun k e => by cases e)
  have hoB := own_keep hoB hgS (fun g e h => by cases h)
  refine d2 ?_
  refine dqS [4] [] rfl rfl True.intro ?_
  refine d1 rfl rfl (fun _ => True.intro) ?_
  refine dT rfl ?_
  refine d3 ?_; refine dend rfl (fun h => by cases h) ?_
  rw [vws_start] at hoA
  rw [bls_zero n r] at hoB
  refine dT rfl ?_
  refine loopR (fun fr w' mm => ∃ (i : Nat) (A : Nat → Option Addr) (C : Nat → Nat), fr = [(0, .slice ar rows.length cr), (1, .slice yr rows.length yc), (6, .int .i64 (n : Nat)), (7, .slice (some ⟨go, 0, none⟩) n n), (8, .slice (some ⟨gb, 0, none⟩) n n), (24, .int .i64 (n : Nat)), (25, .int .i64 (i : Nat))] ∧ i ≤ n ∧ w'.ownsRow w0.heap.size 29 1 (.slice (some ⟨go, 0, none⟩) n n) n (vws n A (lenK n i 0) C) ∧ RowsT w' gb w'.heap.size n i A (nrm rows) ∧ (∀ j, i ≤ j → A j = none ∧ C j = 0) ∧
    w'.ownsRow w0.heap.size 35 1 (.slice (some ⟨gb, 0, none⟩) n n) n (strs (bls n i r)) ∧ Below w0.heap.size w0 w' ∧ mm = n - i)
   ⟨0, fun _ => none, fun _ => 0, rfl, by omega, by rw [vws_len (L' := fun _ => 0) (lenK_zero n)]; exact hoA, RowsT.none _ _ _ _ _ _, fun _ _ => ⟨rfl, rfl⟩, hoB, hBS, rfl⟩ (by repeat' (first | exact True.intro | exact rfl | exact iv (by omega) | refine ⟨?_, ?_⟩)) ?_
  rintro fr w1 mm ⟨i, A, C, rfl, hi, ho, hR1, hnone, hob, hB1, rfl⟩
  have hgb1 := (own_block hob gb rfl).2
  refine dT rfl ?_
  refine cS rfl rfl rfl rfl (fun hqi => ?_) (fun hqi => ?_)
  ·have hin : i < n := by omega
   refine dT rfl ?_
   refine loopR (fun fr w' mm => ∃ (k : Nat) (A : Nat → Option Addr) (C : Nat → Nat), fr = [(0, .slice ar rows.length cr), (1, .slice yr rows.length yc), (6, .int .i64 (n : Nat)), (7, .slice (some ⟨go, 0, none⟩) n n), (8, .slice (some ⟨gb, 0, none⟩) n n), (24, .int .i64 (n : Nat)), (25, .int .i64 (i : Nat)), (9, .int .i64 (i : Nat)), (28, .int .i64 (n : Nat)), (29, .int .i64 (k : Nat))] ∧ k ≤ n ∧ w'.ownsRow w0.heap.size 29 1 (.slice (some ⟨go, 0, none⟩) n n) n (vws n A (lenK n i k) C) ∧ RowsT w' gb w1.heap.size n i A (nrm rows) ∧ (∀ j, i < j → A j = none ∧ C j = 0) ∧
     w'.ownsRow w1.heap.size 35 1 (.slice (A i) k (C i)) k (strs (txs k (nrm rows i))) ∧ w'.ownsRow w0.heap.size 35 1 (.slice (some ⟨gb, 0, none⟩) n n) n (strs (bls n i r)) ∧ Below w0.heap.size w0 w' ∧ w1.heap.size ≤ w'.heap.size ∧ mm = n - k)
    ⟨0, A, C, rfl, by omega, ho, hR1, fun j hj => hnone j (by omega), by rw [(hnone i (Nat.le_refl _)).1, (hnone i (Nat.le_refl _)).2]; exact ⟨rfl, .inl ⟨rfl, rfl⟩⟩, hob, hB1, Nat.le_refl _, rfl⟩ (by repeat' (first | exact True.intro | exact rfl | exact iv (by omega) | refine ⟨?_, ?_⟩)) ?_
   rintro fr w2 mm ⟨k, A, C, rfl, hk, ho, hR2, hnone2, hrow, hob, hB2, hsz2, rfl⟩
   refine dT rfl ?_
   refine cS rfl rfl rfl rfl (fun hqk => ?_) (fun hqk => ?_)
   ·have hkn : k < n := by omega
    refine dT rfl ?_
    refine loopR (fun fr w' mm => ∃ (j : Nat), fr = [(0, .slice ar rows.length cr), (1, .slice yr rows.length yc), (6, .int .i64 (n : Nat)), (7, .slice (some ⟨go, 0, none⟩) n n), (8, .slice (some ⟨gb, 0, none⟩) n n), (24, .int .i64 (n : Nat)), (25, .int .i64 (i : Nat)), (9, .int .i64 (i : Nat)), (28, .int .i64 (n : Nat)), (29, .int .i64 (k : Nat)), (10, .int .i64 (k : Nat)), (11, .int .i64 (dotC rows i k j)), (32, .slice ar rows.length cr), (33, .int .i64 (rows.length : Nat)), (34, .int .i64 (j : Nat))] ∧ j ≤ rows.length ∧ Below w2.heap.size w2 w' ∧ mm = rows.length - j)
     ⟨0, rfl, by omega, Below.refl _ _, rfl⟩ (by repeat' (first | exact True.intro | exact rfl | exact iv (by omega) | refine ⟨?_, ?_⟩)) ?_
    rintro fr w3 mm ⟨j, rfl, hj, hB23, rfl⟩
    have hB3 := bl_tr hB2 hB23 hB2.size
    refine dT rfl ?_
    refine cS rfl rfl rfl rfl (fun hqj => ?_) (fun hqj => ?_)
    ·have hjl : j < rows.length := by omega
     have hlj := P.hrow j hjl
     have hRj := (hRr j hjl).stay hB3
     obtain ⟨ga, oa, hga, _⟩ := hRj i _ (ivs_get (by omega))
     have hd0 := dotC_le P.bits i k j
     have hpr := bits_prod P.bits i k j
     refine dT rfl ?_
     refine il U rfl rfl rfl rfl rfl rfl rfl (fun _ => rfl) rfl j rfl hjl (hSlr.stay hB3) (irws_get hjl) ?_
     rw [hga] at hRj ⊢
     refine dT rfl ?_
     refine dwn 11 (fun W => Sl W (some ⟨ga, oa, none⟩) (ivs (irow rows j))) hmo ?_
     intro w4 hh4 hg4
     have hB34 : Below w3.heap.size w3 w4 := (Below.refl _ _).grown hg4 (Nat.le_refl _) (fun k e => by cases e)
     have hRj4 := hRj.stay hB34
     have hl4 : ∀ W, Sl W (some ⟨ga, oa, none⟩) (ivs (irow rows j)) → (loadVar 3 ((⟨ga, oa, none⟩ : Addr).add (((i : Nat) : Int).toNat * 1))).run Tryz.prog W = .ok (.int .i64 ((irow rows j).getD i 0)) W := fun W h => run_load_cell U rfl (by simpa [add_plain] using slc2 h (ivs_get (i := i) (by omega)))
     have hl8 : ∀ W, Sl W (some ⟨ga, oa, none⟩) (ivs (irow rows j)) → (loadVar 3 ((⟨ga, oa, none⟩ : Addr).add (((k : Nat) : Int).toNat * 1))).run Tryz.prog W = .ok (.int .i64 ((irow rows j).getD k 0)) W := fun W h => run_load_cell U rfl (by simpa [add_plain] using slc2 h (ivs_get (i := k) (by omega)))
     refine dq U [0,1,2,3,4,5,6,7,8,9,10] [(4, .int .i64 ((irow rows j).getD i 0)), (8, .int .i64 ((irow rows j).getD k 0))] (by kernel_rfl) rfl rfl hRj4 (by simp only [AllP, InR, List.nil_append, List.cons_append]; (repeat' apply And.intro); all_goals first | exact True.intro | omega | (with_reducible exact hl4) | (with_reducible exact hl8)) ?_
     refine d1 rfl rfl (fun _ => hRj4) ?_
     refine dT rfl ?_
     refine d3 ?_; refine dend rfl (fun h => by cases h) ?_
     refine dS rfl ?_
     exact rend _ _ ⟨j + 1, rfl, by omega, bl_tr hB23 hB34 hB23.size, rfl⟩ (by omega) (by repeat' (first | exact True.intro | exact rfl | exact iv (by omega) | refine ⟨?_, ?_⟩))
    ·obtain rfl : j = rows.length := by omega
     have hlk : lenK n i k i = k := by simp [lenK]
     have hnr := nrm_int rows i k
     have hdl := dotC_le P.bits i k rows.length
     have ho3 := own_bw ho hB23
     have hrow3 := own_bw hrow hB23
     have hob3 := own_bw hob hB23
     have hR3 := hR2.stay hB23
     refine dT rfl ?_
     refine dwn 11 (fun W => Sl W (some ⟨go, 0, none⟩) (vws n A (lenK n i k) C)) hmo ?_
     intro w5 hh5 hg5
     have hB35 : Below w3.heap.size w3 w5 := (Below.refl _ _).grown hg5 (Nat.le_refl _) (fun k e => by cases e)
     have hB5 := bl_tr hB3 hB35 hB3.size
     have ho5 := own_bw ho3 hB35
     have hl5 : ∀ W, Sl W (some ⟨go, 0, none⟩) (vws n A (lenK n i k) C) → (loadVar 29 ((⟨go, 0, none⟩ : Addr).add (((i : Nat) : Int).toNat * 1))).run Tryz.prog W = .ok (.slice (A i) k (C i)) W := fun W h => run_load_cell U rfl (by have := slc2 h (vws_get hin); rw [hlk] at this; simpa [add_plain] using this)
     refine dq U [0,1,2,3,4,5,6] [(5, .slice (A i) k (C i))] (by kernel_rfl) rfl rfl (own_sl ho5) (by simp only [AllP, InR, List.nil_append, List.cons_append]; (repeat' apply And.intro); all_goals first | exact True.intro | omega | (with_reducible exact hl5)) ?_
     refine d1 rfl rfl (fun _ => (own_sl ho5)) ?_
     refine call (f := 43) rfl rfl cb43 (mint_calls (dotC rows i k rows.length) (by omega) (by omega) w5 (ht0.below hB5)) ?_
     rintro v w6 ⟨rfl, hB56⟩
     have ho6 := own_bw ho5 hB56
     refine ⟨_, rfl, d2 ?_⟩
     refine d1 rfl rfl (fun _ => (own_sl ho6)) ?_
     refine bs1 U (v := .string ⟨⟨qtext ((dotC rows i k rows.length : Int) : Rat)⟩⟩) rfl rfl rfl rfl rfl rfl rfl ?_
     intro w7 hk7 hs7 hg7
     have hB67 : Below w6.heap.size w6 w7 := (Below.refl _ _).grown hg7 (Nat.le_refl _) (fun k e => by cases e)
     have hB37 := bl_tr (bl_tr hB35 hB56 hB35.size) hB67 (bl_tr hB35 hB56 hB35.size).size
     have hB7 := bl_tr hB3 hB37 hB3.size
     have ho7 := own_bw ho3 hB37
     have hrow7 := own_bw hrow3 hB37
     have hob7 := own_bw hob3 hB37
     have hR7 := hR3.stay hB37
     have hz7 : w1.heap.size ≤ w7.heap.size := by have := hB23.size; have := hB37.size; omega
     refine d2 ?_
     refine d1 rfl rfl (fun _ => (own_sl ho7)) ?_
     refine aw U rfl rfl rfl rfl rfl rfl rfl rfl rfl hrow7 (hk7.sl 0) rfl (by intro u hu; simp at hu; subst hu; rfl) hz7 (by omega) rfl ?_
     intro a9 c9 w9 ho9 hg9
     rw [← hnr, List.drop_zero, strs_txs_snoc] at ho9
     have hout9 := own_keep ho7 hg9 (fun g hga e => (own_tag ho7 g hga).ne (own_tag hrow7 g e) rfl rfl)
     have hob9 := own_keep hob7 hg9 (fun g hga e => by cases hga; have := (own_block hrow7 gb e).1; omega)
     have hR9 := hR7.grown hg9 (fun g e => .inr (.inl (own_block hrow7 g e).1))
     have hB9 := hB7.grown hg9 hB7.size (fun g e => by have := (own_block hrow7 g e).1; have := hB1.size; omega)
     have hz9 := hg9.size
     refine d2 ?_
     refine dqS [10] [] rfl rfl (own_sl hout9) ?_
     refine d1 rfl rfl (fun _ => (own_sl hout9)) ?_
     refine so U (v := (.slice a9 (k + 1) c9)) rfl rfl rfl rfl rfl rfl rfl i (by simp [add_plain]) hin hout9 ?_
     intro w10 ho10 hg10 hs10
     rw [vws_set hin, vws_len (lenK_upd n i k)] at ho10
     have hrow10 := own_keep ho9 hg10 (fun g hga e => (own_tag ho9 g hga).ne (own_tag hout9 g e) rfl rfl)
     have hob10 := own_keep hob9 hg10 (fun g hga e => (own_tag hob9 g hga).ne (own_tag hout9 g e) rfl rfl)
     have hR10 := hR9.grown hg10 (fun g e => .inr (.inr ⟨_, rfl, own_tag hout9 g e⟩))
     have hB10 := hB9.grown hg10 hB9.size (fun g e => (own_block hout9 g e).1)
     refine d2 ?_; refine dend rfl (fun h => by cases h) ?_
     refine dS rfl ?_
     refine rend _ _ ⟨k + 1, upd A i a9, upd C i c9, rfl, by omega, ho10, hR10.congr (fun j hj => upd_ne _ _ (by omega)), fun j hj => by rw [upd_ne _ _ (by omega), upd_ne _ _ (by omega)]; exact hnone2 j hj, by rw [upd_same, upd_same]; exact hrow10, hob10, hB10, by omega, rfl⟩ (by omega) (by repeat' (first | exact True.intro | exact rfl | exact iv (by omega) | refine ⟨?_, ?_⟩))
   ·obtain rfl : k = n := by omega
    refine dT rfl ?_
    refine is U (v := (.string ⟨⟨[48]⟩⟩)) rfl rfl rfl rfl rfl rfl rfl (fun _ => rfl) (fun _ => rfl) (fun _ => rfl) rfl rfl i rfl hin hob ?_
    intro p w3 hob3 hg3 hs3
    rw [bls_set hin] at hob3
    have ho3 := own_keep ho hg3 (fun g hga e => (own_tag ho g hga).ne (own_tag hob g e) rfl rfl)
    rw [vws_len (lenK_end k i)] at ho3
    have hR3 : RowsT w3 gb w3.heap.size k (i + 1) A (nrm rows) := by
     rw [hs3]
     exact ((hR2.lim hsz2).snoc (own_sl hrow) (fun g hg => ⟨by have := (own_block hrow g hg).1; omega, (own_block hrow g hg).2, own_tag hrow g hg⟩)).grown hg3 (fun g e => by cases e; exact .inl (Nat.le_refl _))
    have hB3 := hB2.grown hg3 hB2.size (fun g e => by cases e; exact (own_block hob gb rfl).1)
    refine dT rfl ?_
    rw [← qtext_zero] at hob3
    refine loopR (fun fr w' mm => ∃ (j : Nat), fr = [(0, .slice ar rows.length cr), (1, .slice yr rows.length yc), (6, .int .i64 (k : Nat)), (7, .slice (some ⟨go, 0, none⟩) k k), (8, .slice (some ⟨gb, 0, none⟩) k k), (24, .int .i64 (k : Nat)), (25, .int .i64 (i : Nat)), (9, .int .i64 (i : Nat)), (65, .slice ar rows.length cr), (66, .int .i64 (rows.length : Nat)), (67, .int .i64 (j : Nat))] ∧ j ≤ rows.length ∧ w'.ownsRow w0.heap.size 29 1 (.slice (some ⟨go, 0, none⟩) k k) k (vws k A (lenK k (i + 1) 0) C) ∧ RowsT w' gb w'.heap.size k (i + 1) A (nrm rows) ∧
      w'.ownsRow w0.heap.size 35 1 (.slice (some ⟨gb, 0, none⟩) k k) k (strs (blsP k i r (qtext (rhs rows yq i j)))) ∧ Below w0.heap.size w0 w' ∧ mm = rows.length - j)
     ⟨0, rfl, by omega, ho3, hR3, hob3, hB3, rfl⟩ (by repeat' (first | exact True.intro | exact rfl | exact iv (by omega) | refine ⟨?_, ?_⟩)) ?_
    rintro fr w4 mm ⟨j, rfl, hj, ho4, hR4, hob4, hB4, rfl⟩
    refine dT rfl ?_
    refine cS rfl rfl rfl rfl (fun hqj => ?_) (fun hqj => ?_)
    ·have hjl : j < rows.length := by omega
     have hlj := P.hrow j hjl
     refine dT rfl ?_
     refine il U rfl rfl rfl rfl rfl rfl rfl (fun _ => rfl) rfl j rfl hjl (hSlr.stay hB4) (irws_get hjl) ?_
     refine dT rfl ?_
     refine il U rfl rfl rfl rfl rfl rfl rfl (fun _ => rfl) rfl i rfl (by omega) ((hRr j hjl).stay hB4) (ivs_get (by omega)) ?_
     have hrs := rhs_succ rows yq i j
     refine cS rfl rfl rfl rfl (fun hq1 => ?_) (fun hq1 => ?_)
     ·rw [hq1] at hrs
      have hrs : rhs rows yq i (j + 1) = rhs rows yq i j + yq j := by rw [hrs]; simp
      have hys := hyl.stay hB4
      obtain ⟨gy, oy, hgy, _⟩ := hys.sl.1 j _ (txs_get hjl)
      rw [hgy] at hys ⊢
      have hSy := hys.sl.1
      refine dT rfl ?_
      refine dwn 15 (fun W => Sl W (some ⟨gb, 0, none⟩) (strs (blsP k i r (qtext (rhs rows yq i j)))) ∧ Sl W (some ⟨gy, oy, none⟩) (strs (txs rows.length yq))) hmo ?_
      intro w5 hh5 hg5
      have hB45 : Below w4.heap.size w4 w5 := (Below.refl _ _).grown hg5 (Nat.le_refl _) (fun k e => by cases e)
      have hob5 := own_bw hob4 hB45
      have hl5 : ∀ W, (Sl W (some ⟨gb, 0, none⟩) (strs (blsP k i r (qtext (rhs rows yq i j)))) ∧ Sl W (some ⟨gy, oy, none⟩) (strs (txs rows.length yq))) → (loadVar 35 ((⟨gb, 0, none⟩ : Addr).add (((i : Nat) : Int).toNat * 1))).run Tryz.prog W = .ok (.string ⟨⟨qtext (rhs rows yq i j)⟩⟩) W := fun W h => run_load_cell U rfl (by simpa [add_plain] using slc2 h.1 (blsP_get hin r _))
      have hl9 : ∀ W, (Sl W (some ⟨gb, 0, none⟩) (strs (blsP k i r (qtext (rhs rows yq i j)))) ∧ Sl W (some ⟨gy, oy, none⟩) (strs (txs rows.length yq))) → (loadVar 35 ((⟨gy, oy, none⟩ : Addr).add (((j : Nat) : Int).toNat * 1))).run Tryz.prog W = .ok (.string ⟨⟨qtext (yq j)⟩⟩) W := fun W h => run_load_cell U rfl (by simpa [add_plain] using slc2 h.2 (txs_get hjl))
      refine dq U [0,1,2,3,4,5,6,7,8,9] [(5, .string ⟨⟨qtext (rhs rows yq i j)⟩⟩), (9, .string ⟨⟨qtext (yq j)⟩⟩)] (by kernel_rfl) rfl rfl ⟨own_sl hob5, hSy.stay hB45⟩ (by simp only [AllP, InR, List.nil_append, List.cons_append]; (repeat' apply And.intro); all_goals first | exact True.intro | omega | (with_reducible exact hl5) | (with_reducible exact hl9)) ?_
      refine d1 rfl rfl (fun _ => ⟨own_sl hob5, hSy.stay hB45⟩) ?_
      refine call (f := 49) rfl rfl cb49 (madd_q (small_mono (hr i hin j hj) (by omega)) (hy j hjl) (by rw [← hrs]; exact small_mono (hr i hin (j + 1) hjl) (by omega)) w5 (ht0.below (bl_tr hB4 hB45 hB4.size))) ?_
      rintro v w6 ⟨rfl, hB56⟩
      have hB46 := bl_tr hB45 hB56 hB45.size
      have hB6 := bl_tr hB4 hB46 hB4.size
      have hob6 := own_bw hob4 hB46
      have ho6 := own_bw ho4 hB46
      have hR6 := (hR4.stay hB46).lim hB46.size
      refine ⟨_, rfl, d2 ?_⟩
      refine dqS [11,12,13,14] [] rfl rfl ⟨own_sl hob6, hSy.stay hB46⟩ ?_
      refine d1 rfl rfl (fun _ => ⟨own_sl hob6, hSy.stay hB46⟩) ?_
      refine so U (v := (.string ⟨⟨qtext (rhs rows yq i j + yq j)⟩⟩)) rfl rfl rfl rfl rfl rfl rfl i (by simp [add_plain]) hin hob6 ?_
      intro w7 hob7 hg7 hs7
      rw [blsP_set hin, ← hrs] at hob7
      have ho7 := own_keep ho6 hg7 (fun g hga e => (own_tag ho6 g hga).ne (own_tag hob6 g e) rfl rfl)
      have hR7 : RowsT w7 gb w7.heap.size k (i + 1) A (nrm rows) := by
       rw [hs7]; exact hR6.grown hg7 (fun g e => by cases e; exact .inl (Nat.le_refl _))
      have hB7 := hB6.grown hg7 hB6.size (fun g e => (own_block hob6 g e).1)
      refine d2 ?_; refine dend rfl (fun h => by cases h) ?_
      refine dS rfl ?_
      exact rend _ _ ⟨j + 1, rfl, by omega, ho7, hR7, hob7, hB7, rfl⟩ (by omega) (by repeat' (first | exact True.intro | exact rfl | exact iv (by omega) | refine ⟨?_, ?_⟩))
     ·have h0 : (irow rows j).getD i 0 = 0 := by
       rcases P.bits j i with h | h
       ·exact h
       ·exact absurd h hq1
      rw [h0] at hrs
      have hrs : rhs rows yq i (j + 1) = rhs rows yq i j := by rw [hrs]; simp [Rat.add_zero]
      refine dS rfl ?_
      exact rend _ _ ⟨j + 1, rfl, by omega, ho4, hR4, by rw [hrs]; exact hob4, hB4, rfl⟩ (by omega) (by repeat' (first | exact True.intro | exact rfl | exact iv (by omega) | refine ⟨?_, ?_⟩))
    ·obtain rfl : j = rows.length := by omega
     rw [← hreq i, blsP_end (n := k) (i := i) r] at hob4
     refine dS rfl ?_
     exact rend _ _ ⟨i + 1, A, C, rfl, by omega, ho4, hR4, fun j hj => hnone2 j (by omega), hob4, hB4, rfl⟩ (by omega) (by repeat' (first | exact True.intro | exact rfl | exact iv (by omega) | refine ⟨?_, ?_⟩))
  ·obtain rfl : i = n := by omega
   rw [bls_end] at hob
   have hsm := rowsT_sm (own_sl ho) hR1
   refine dT rfl ?_
   refine call (f := 50) rfl rfl cb50 (pSolveC_calls (nrm rows) r 15 P.h0 (by have := P.hn; omega) (by omega) (fun i _ k _ => P.nrm i k) P.b (grw7 P.hn (by omega)) P.reg P.sol _ _ _ _ w1 hsm (lit_txs (own_sl hob)) (ht0.below hB1)) ?_
   rintro v w2 ⟨hS, hB12⟩
   obtain ⟨x, ax, cx, hx1, hx2, rfl, hx3, hx4⟩ := hS
   refine ⟨_, rfl, ?_⟩
   refine dT rfl ?_
   exact ret Tryz.results44 rfl ⟨_, rfl, ⟨x, ax, cx, hx1, hx2, rfl, hx3, hx4⟩, bl_tr hB1 hB12 hB1.size⟩
end
section
set_option maxHeartbeats 2000000
open Go Go.Proofs Go.RowKit Go.Lib

theorem wthn_get {l : List Int} {B : Int} (h : Wthn l B) (hB : 0 ≤ B) (k : Nat) : -B ≤ l.getD k 0 ∧ l.getD k 0 ≤ B := by
 by_cases hk : k < l.length
 ·exact h _ (by simp [List.getD, hk])
 ·have : l.getD k 0 = 0 := by simp [List.getD, hk]
  omega
end
end Go.Proofs.YtejlpdbiacmfcaaGreatDoor
