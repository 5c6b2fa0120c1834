/-
  Walks of the reference's Int, numbers, fit and Estimate.
  Conditions: a strategy of at most 7 cells; the numbers' digits fit.
-/
import Derived.Test.YtejlpdbiacmfcaaGreatDoorYR2
import Derived.Test.YtejlpdbiacmfcaaGreatDoorYAf
import Derived.Test.YtejlpdbiacmfcaaGreatDoorYNd
import Derived.Test.YtejlpdbiacmfcaaGreatDoorYNh
import Derived.Test.YtejlpdbiacmfcaaGreatDoorYOb
set_option linter.unusedSimpArgs false
set_option linter.unusedVariables false
set_option maxHeartbeats 8000000
set_option maxRecDepth 100000
namespace Go.Proofs.YtejlpdbiacmfcaaGreatDoor
open Go Go.Proofs Go.RowKit Go.Lib

theorem fromint_nat (k : Nat) (hk : (k : Int) ≤ 9223372036854775807) (w : World) :
  Calls Tryz.prog 60 #[.int .i64 (k : Nat)] w (Ret fun v w' => v = .tuple ⟨[.string ⟨⟨decDigits k⟩⟩, .int .i64 0]⟩ ∧ w = w') :=
 (refFromInt_calls (k : Nat) hk w).mono (by
  rintro _ w' ⟨v, rfl, hv, rfl⟩
  refine ⟨_, rfl, ?_, rfl⟩
  rcases hv with ⟨h, _⟩ | ⟨_, h⟩
  ·omega
  ·rw [Int.toNat_natCast] at h; exact h)
theorem rsmall02_calls (k : Nat) (z : Int) (hz : z = (k : Int)) (hk : (k : Int) ≤ 9223372036854775807) (w : World) :
  Calls Tryz.prog 63 #[.int .i64 z] w (Ret fun v w' => v = .string ⟨⟨decDigits k⟩⟩ ∧ w = w') := by
 subst hz
 refine enter Tryz.func63 rfl Tryz.ntmps63 (Nat.le_of_ble_eq_true rfl) ?_
 refine dT rfl ?_
 refine call (f := 60) rfl rfl cb60 (fromint_nat k hk w) ?_
 rintro v w1 ⟨rfl, rfl⟩
 refine ⟨_, rfl, ?_⟩
 refine dT rfl ?_
 exact ret Tryz.results63 rfl ⟨_, rfl, rfl, rfl⟩
theorem gint_calls (z : Int) (h0 : -9223372036854775808 ≤ z) (h1 : z ≤ 9223372036854775807) (w : World) :
  Calls Tryz.prog 24 #[.int .i64 z] w (Ret fun v w' => v = .string ⟨⟨qtext (z : Rat)⟩⟩ ∧ Below w.heap.size w w') := by
 rw [qtext_int]
 refine enter Tryz.func24 rfl Tryz.ntmps24 (Nat.le_of_ble_eq_true rfl) ?_
 refine dT rfl ?_
 refine cS rfl rfl rfl rfl (fun hq1 => ?_) (fun hq1 => ?_)
 ·obtain ⟨k, rfl⟩ : ∃ k : Nat, z = (k : Int) := ⟨z.toNat, by omega⟩
  rw [itoa_nonneg]
  refine dT rfl ?_
  refine call (f := 60) rfl rfl cb60 (fromint_nat k h1 w) ?_
  rintro v w1 ⟨rfl, rfl⟩
  refine ⟨_, rfl, ?_⟩
  refine dT rfl ?_
  exact ret Tryz.results24 rfl ⟨_, rfl, rfl, Below.refl _ _⟩
 ·obtain ⟨k, hk⟩ : ∃ k : Nat, z = -((k + 1 : Nat) : Int) := ⟨(-z - 1).toNat, by omega⟩
  have hk19 := nD_le 19 k (by omega) (by omega)
  have hkl := decDigits_length k
  have hl1 := lim_le_nD k
  have hl2 := lim_le_nD (k + 1)
  have hk20 := nD_le 20 (k + 1) (by omega) (by omega)
  refine dS rfl ?_
  refine call (f := 63) rfl rfl cb63 (rsmall02_calls k _ (by omega) (by omega) w) ?_
  rintro v w1 ⟨rfl, rfl⟩
  refine ⟨_, rfl, ?_⟩
  refine call (f := 62) rfl rfl cb62 (read_calls (decDigits k) (dec_dval k).1 (by omega) w) ?_
  rintro v w2 ho
  rw [(dec_dval k).2] at ho
  obtain ⟨a2, c2, rfl, ho2, hB2⟩ := ho
  refine ⟨_, rfl, ?_⟩
  refine call (f := 64) rfl rfl cb64 (rone_calls w2) ?_
  rintro v w3 ⟨⟨a3, c3, rfl, hr3⟩, hB3⟩
  have hl01 := lim_le_nD 1
  have hn01 := nD_le 1 1 (by omega) (by omega)
  refine ⟨_, rfl, ?_⟩
  refine call (f := 61) rfl rfl cb61 (plus_calls k 1 a2 a3 c2 c3 w3 ((ownI_rd ho2).below hB3) hr3 (by omega) (by omega)) ?_
  rintro v w4 ⟨a4, c4, rfl, ho4, hB4⟩
  refine ⟨_, rfl, ?_⟩
  refine dT rfl ?_
  refine call (f := 65) rfl rfl cb65 (write_ref (k + 1) a4 c4 w4 (ownI_rd ho4) (by omega)) ?_
  rintro v w5 ⟨rfl, hB5⟩
  refine ⟨_, rfl, ?_⟩
  have hdl := decDigits_length (k + 1)
  refine dr U 600 rfl (by simp only [AllP, InR, List.nil_append, List.cons_append, and_true, List.length_cons, List.length_nil, List.length_append]; omega) ?_
  refine ret Tryz.results24 rfl ⟨_, rfl, ?_, bl_tr hB2 (bl_tr hB3 (bl_tr hB4 hB5 hB4.size) hB3.size) hB2.size⟩
  rw [hk, itoa_neg (k + 1) (by omega)]; rfl
theorem gnumbers_calls (l : List Int) (hl : l.length ≤ 1000000) (hx : ∀ i, -9223372036854775808 ≤ l.getD i 0 ∧ l.getD i 0 ≤ 9223372036854775807) (a : Option Addr) (c : Nat) (w : World) (hs : Sl w a (ivs l)) :
  Calls Tryz.prog 70 #[.slice a l.length c] w (Ret fun v w' => (∃ a' c', v = .slice a' l.length c' ∧ w'.ownsRow w.heap.size 35 1 (.slice a' l.length c') l.length (strs (txs l.length (ratsI l)))) ∧ Below w.heap.size w w') := by
 refine enter Tryz.func70 rfl Tryz.ntmps70 (Nat.le_of_ble_eq_true rfl) ?_
 refine dT rfl ?_
 refine loopR (fun fr w' m => ∃ (i : Nat) (a2 : Option Addr) (c2 : Nat), fr = [(0, .slice a l.length c), (3, .slice a2 i c2), (4, .int .i64 (i : Nat))] ∧ i ≤ l.length ∧ w'.ownsRow w.heap.size 35 1 (.slice a2 i c2) i (strs (txs i (ratsI l))) ∧ Below w.heap.size w w' ∧ m = l.length - i)
  ⟨0, none, 0, rfl, by omega, ⟨rfl, .inl ⟨rfl, rfl⟩⟩, Below.refl _ _, rfl⟩ (by repeat' (first | exact True.intro | exact rfl | exact iv (by omega) | refine ⟨?_, ?_⟩)) ?_
 rintro fr w1 m ⟨i, a2, c2, rfl, hi, ho, hB, rfl⟩
 refine dT rfl ?_
 refine cS rfl rfl rfl rfl (fun hq => ?_) (fun hq => ?_)
 ·have hil : i < l.length := by omega
  have hxi := hx i
  refine dT rfl ?_
  refine il U rfl rfl rfl rfl rfl rfl rfl (fun _ => rfl) rfl i rfl hil (hs.stay hB) (ivs_get hil) ?_
  refine call (f := 24) rfl rfl cb24 (gint_calls (l.getD i 0) hxi.1 hxi.2 w1) ?_
  rintro v w2 ⟨rfl, hB2⟩
  have hB2' := bl_tr hB hB2 hB.size
  have ho2 := own_bw ho hB2
  refine ⟨_, rfl, ?_⟩
  refine ap U (v := (.string ⟨⟨qtext ((l.getD i 0 : Int) : Rat)⟩⟩)) rfl rfl rfl rfl rfl rfl (fun _ => rfl) rfl (fun _ => rfl) rfl rfl rfl ho2 hB2'.size (by omega) (by decide) ?_
  intro a5 c5 w5 ho5 hg5
  have hB5 := hB2'.grown hg5 hB2'.size (fun g e => (own_block ho2 g e).1)
  have ho5 : w5.ownsRow w.heap.size 35 1 (.slice a5 (i + 1) c5) (i + 1) (strs (txs (i + 1) (ratsI l))) := by rw [← strs_txs_snoc]; exact ho5
  refine dS rfl ?_
  exact rend _ _ ⟨i + 1, a5, c5, rfl, by omega, ho5, hB5, rfl⟩ (by omega) (by repeat' (first | exact True.intro | exact rfl | exact iv (by omega) | refine ⟨?_, ?_⟩))
 ·obtain rfl : i = l.length := by omega
  refine dT rfl ?_
  exact ret Tryz.results70 rfl ⟨_, rfl, ⟨a2, c2, rfl, ho⟩, hB⟩

def RowsB (w : World) (n i : Nat) (A : Nat → Option Addr) (f : Nat → Nat → Rat) (gb : Option Nat) : Prop := ∀ j, j < i → Sl w (A j) (strs (txs n (f j))) ∧ ∀ g, ab (A j) = some g → Tg w 35 g ∧ gb ≠ some g
theorem RowsB.stay {w w' : World} {n i : Nat} {A : Nat → Option Addr} {f : Nat → Nat → Rat} {gb : Option Nat} (h : RowsB w n i A f gb) (hb : Below w.heap.size w w') : RowsB w' n i A f gb := fun j hj =>
 ⟨(h j hj).1.stay hb, fun g hg => ⟨((h j hj).2 g hg).1.below hb, ((h j hj).2 g hg).2⟩⟩
theorem RowsB.other {w w' : World} {n i t : Nat} {A : Nat → Option Addr} {f : Nat → Nat → Rat} {gb row : Option Nat} (h : RowsB w n i A f gb) (hg : w.grownBy w' row) (hr : ∀ g, row = some g → Tg w t g) (ht : Nat.beq 35 t = false) : RowsB w' n i A f gb := fun j hj => by
 have hne : ∀ g, ab (A j) = some g → row ≠ some g := fun g hg' e => ((h j hj).2 g hg').1.ne (hr g e) ht rfl
 exact ⟨(h j hj).1.keep hg hne, fun g hg' => ⟨((h j hj).2 g hg').1.grown hg (hne g hg'), ((h j hj).2 g hg').2⟩⟩
theorem RowsB.grow {w w' : World} {n i : Nat} {A : Nat → Option Addr} {f : Nat → Nat → Rat} {gb gb' : Option Nat} (h : RowsB w n i A f gb) (hg : w.grownBy w' gb) (hp : gb' = gb ∨ gb' = some w.heap.size) : RowsB w' n i A f gb' := fun j hj => by
 refine ⟨(h j hj).1.keep hg (fun g hg' => ((h j hj).2 g hg').2), fun g hg' => ⟨((h j hj).2 g hg').1.grown hg ((h j hj).2 g hg').2, ?_⟩⟩
 rcases hp with rfl | rfl
 ·exact ((h j hj).2 g hg').2
 ·intro e
  have := ((h j hj).2 g hg').1.lt
  have := Option.some.inj e
  omega
theorem RowsB.snoc {w : World} {n i : Nat} {A : Nat → Option Addr} {f : Nat → Nat → Rat} {gb : Option Nat} {a : Option Addr} (h : RowsB w n i A f gb) (hs : Sl w a (strs (txs n (f i)))) (hg : ∀ g, ab a = some g → Tg w 35 g ∧ gb ≠ some g) : RowsB w n (i + 1) (upd A i a) f gb := fun j hj => by
 by_cases e : j = i
 ·subst e; rw [upd_same]; exact ⟨hs, hg⟩
 ·rw [upd_ne _ _ e]; exact h j (by omega)
theorem rowsB_sm {w : World} {n m : Nat} {a : Option Addr} {A : Nat → Option Addr} {C : Nat → Nat} {f : Nat → Nat → Rat} {gb : Option Nat} (ho : Sl w a (srws (mtx m n f) A C)) (h : RowsB w n m A f gb) : SM w a (mtx m n f) :=
 ⟨A, C, ho, fun i hi => by rw [mtx_length] at hi; rw [mtx_row hi]; exact (h i hi).1⟩
theorem mtx_snoc (i n : Nat) (f : Mx) : mtx i n f ++ [txs n (f i)] = mtx (i + 1) n f := by unfold mtx; rw [List.range_succ, List.map_append]; rfl
theorem gfit_calls (rows : List (List Int)) (n : Nat) (yq r : Nat → Rat) (hreq : ∀ i, r i = rhs rows yq i rows.length) (P : SysP rows n r) (hy : ∀ j, j < rows.length → Small 4000 (yq j)) (hr : ∀ i, i < n → ∀ j, j ≤ rows.length → Small 15 (rhs rows yq i j))
  (ar yr : Option Addr) (cr yc : Nat) (w0 : World) (hs : SZ w0 ar rows) (hyl : Lit w0 (.slice yr rows.length yc) (txs rows.length yq)) :
  Calls Tryz.prog 69 #[.slice ar rows.length cr, .slice yr rows.length yc] w0 (Ret fun v w' => FitR rows n r v w' ∧ Below w0.heap.size w0 w') := by
 obtain ⟨Ar, Cr, hSlr, hRr⟩ := hs
 have h00 := P.hrow 0 P.hl0
 have hnn := P.hn
 have hll := P.hl
 obtain ⟨gr, or_, rfl, _⟩ := hSlr.at (j := 0) (by rw [irws_length]; exact P.hl0)
 refine enter Tryz.func69 rfl Tryz.ntmps69 (Nat.le_of_ble_eq_true rfl) ?_
 refine dT rfl ?_
 refine il U rfl rfl rfl rfl rfl rfl rfl (fun _ => rfl) rfl 0 rfl P.hl0 hSlr (irws_get P.hl0) ?_
 rw [h00]
 refine dT rfl ?_
 refine loopR (fun fr w' mm => ∃ (i : Nat) (a2 : Option Addr) (c2 : Nat) (A : Nat → Option Addr) (C : Nat → Nat) (b2 : Option Addr) (d2 : Nat), fr = [(0, .slice (some ⟨gr, or_, none⟩) rows.length cr), (1, .slice yr rows.length yc), (6, .int .i64 (n : Nat)), (7, .slice a2 i c2), (8, .slice b2 i d2), (9, .int .i64 (i : Nat))] ∧ i ≤ n ∧
   w'.ownsRow w0.heap.size 29 1 (.slice a2 i c2) i (srws (mtx i n (nrm rows)) A C) ∧ RowsB w' n i A (nrm rows) (ab b2) ∧ w'.ownsRow w0.heap.size 35 1 (.slice b2 i d2) i (strs (txs i r)) ∧ Below w0.heap.size w0 w' ∧ mm = n - i)
  ⟨0, none, 0, fun _ => none, fun _ => 0, none, 0, rfl, by omega, ⟨rfl, .inl ⟨rfl, rfl⟩⟩, fun j hj => absurd hj (by omega), ⟨rfl, .inl ⟨rfl, rfl⟩⟩, Below.refl _ _, rfl⟩ (by repeat' (first | exact True.intro | exact rfl | exact iv (by omega) | refine ⟨?_, ?_⟩)) ?_
 rintro fr w1 mm ⟨i, a2, c2, A, C, b2, d2_, rfl, hi, ho, hR1, hob, hB1, rfl⟩
 refine dT rfl ?_
 refine cS rfl rfl rfl rfl (fun hqi => ?_) (fun hqi => ?_)
 ·have hin : i < n := by omega
  refine dT rfl ?_
  refine loopR (fun fr w' mm => ∃ (k : Nat) (a3 : Option Addr) (c3 : Nat), fr = [(0, .slice (some ⟨gr, or_, none⟩) rows.length cr), (1, .slice yr rows.length yc), (6, .int .i64 (n : Nat)), (7, .slice a2 i c2), (8, .slice b2 i d2_), (9, .int .i64 (i : Nat)), (10, .slice a3 k c3), (11, .int .i64 (k : Nat))] ∧ k ≤ n ∧
    w'.ownsRow w1.heap.size 35 1 (.slice a3 k c3) k (strs (txs k (nrm rows i))) ∧ Below w1.heap.size w1 w' ∧ mm = n - k)
   ⟨0, none, 0, rfl, by omega, ⟨rfl, .inl ⟨rfl, rfl⟩⟩, Below.refl _ _, rfl⟩ (by repeat' (first | exact True.intro | exact rfl | exact iv (by omega) | refine ⟨?_, ?_⟩)) ?_
  rintro fr w2 mm ⟨k, a3, c3, rfl, hk, hrow, hB12, rfl⟩
  have hB2 := bl_tr hB1 hB12 hB1.size
  refine dT rfl ?_
  refine cS rfl rfl rfl rfl (fun hqk => ?_) (fun hqk => ?_)
  ·have hkn : k < n := by omega
   refine dT rfl ?_
   refine loopR (fun fr w' mm => ∃ (j : Nat), fr = [(0, .slice (some ⟨gr, or_, none⟩) rows.length cr), (1, .slice yr rows.length yc), (6, .int .i64 (n : Nat)), (7, .slice a2 i c2), (8, .slice b2 i d2_), (9, .int .i64 (i : Nat)), (10, .slice a3 k c3), (11, .int .i64 (k : Nat)), (12, .int .i64 (dotC rows i k j)), (13, .int .i64 (j : Nat))] ∧ j ≤ rows.length ∧ Below w2.heap.size w2 w' ∧ mm = rows.length - j)
    ⟨0, rfl, by omega, Below.refl _ _, rfl⟩ (by repeat' (first | exact True.intro | exact rfl | exact iv (by omega) | refine ⟨?_, ?_⟩)) ?_
   rintro fr w3 mm ⟨j, rfl, hj, hB23, rfl⟩
   have hB3 := bl_tr hB2 hB23 hB2.size
   refine dT rfl ?_
   refine cS rfl rfl rfl rfl (fun hqj => ?_) (fun hqj => ?_)
   ·have hjl : j < rows.length := by omega
    have hlj := P.hrow j hjl
    have hRj := (hRr j hjl).stay hB3
    obtain ⟨ga, oa, hga, _⟩ := hRj i _ (ivs_get (by omega))
    have hd0 := dotC_le P.bits i k j
    have hpr := bits_prod P.bits i k j
    rw [hga] at hRj
    have hCr := hSlr.stay hB3
    refine dT rfl ?_
    refine dwn 17 (fun W => Sl W (some ⟨gr, or_, none⟩) (irws rows Ar Cr) ∧ Sl W (some ⟨ga, oa, none⟩) (ivs (irow rows j))) hmo ?_
    intro w4 hh4 hg4
    have hB34 : Below w3.heap.size w3 w4 := (Below.refl _ _).grown hg4 (Nat.le_refl _) (fun k e => by cases e)
    have hm4 : ∀ W, (Sl W (some ⟨gr, or_, none⟩) (irws rows Ar Cr) ∧ Sl W (some ⟨ga, oa, none⟩) (ivs (irow rows j))) → (loadVar 23 ((⟨gr, or_, none⟩ : Addr).add (((j : Nat) : Int).toNat * 1))).run Tryz.prog W = .ok (.slice (some ⟨ga, oa, none⟩) n (Cr j)) W := fun W h => run_load_cell U rfl (by have := slc2 h.1 (irws_get hjl); rw [hga, hlj] at this; simpa [add_plain] using this)
    have hm7 : ∀ W, (Sl W (some ⟨gr, or_, none⟩) (irws rows Ar Cr) ∧ Sl W (some ⟨ga, oa, none⟩) (ivs (irow rows j))) → (loadVar 3 ((⟨ga, oa, none⟩ : Addr).add (((i : Nat) : Int).toNat * 1))).run Tryz.prog W = .ok (.int .i64 ((irow rows j).getD i 0)) W := fun W h => run_load_cell U rfl (by simpa [add_plain] using slc2 h.2 (ivs_get (i := i) (by omega)))
    have hm14 : ∀ W, (Sl W (some ⟨gr, or_, none⟩) (irws rows Ar Cr) ∧ Sl W (some ⟨ga, oa, none⟩) (ivs (irow rows j))) → (loadVar 3 ((⟨ga, oa, none⟩ : Addr).add (((k : Nat) : Int).toNat * 1))).run Tryz.prog W = .ok (.int .i64 ((irow rows j).getD k 0)) W := fun W h => run_load_cell U rfl (by simpa [add_plain] using slc2 h.2 (ivs_get (i := k) (by omega)))
    refine dq U [0,1,2,3,4,5,6,7,8,9,10,11,12,13,14,15,16] [(4, .slice (some ⟨ga, oa, none⟩) n (Cr j)), (7, .int .i64 ((irow rows j).getD i 0)), (11, .slice (some ⟨ga, oa, none⟩) n (Cr j)), (14, .int .i64 ((irow rows j).getD k 0))] (by kernel_rfl) rfl rfl ⟨hCr.stay hB34, hRj.stay hB34⟩ (by simp only [AllP, InR, List.nil_append, List.cons_append]; (repeat' apply And.intro); all_goals first | exact True.intro | omega | (with_reducible exact hm4) | (with_reducible exact hm7) | (with_reducible exact hm14)) ?_
    refine d1 rfl rfl (fun _ => ⟨hCr.stay hB34, hRj.stay hB34⟩) ?_
    refine dT rfl ?_
    refine d3 ?_; refine dend rfl (fun h => by cases h) ?_
    refine dS rfl ?_
    exact rend _ _ ⟨j + 1, rfl, by omega, bl_tr hB23 hB34 hB23.size, rfl⟩ (by omega) (by repeat' (first | exact True.intro | exact rfl | exact iv (by omega) | refine ⟨?_, ?_⟩))
   ·obtain rfl : j = rows.length := by omega
    have hnr := nrm_int rows i k
    have hdl := dotC_le P.bits i k rows.length
    have hB13 := bl_tr hB12 hB23 hB12.size
    have hrow3 := own_bw hrow hB23
    refine dT rfl ?_
    refine call (f := 24) rfl rfl cb24 (gint_calls (dotC rows i k rows.length) (by omega) (by omega) w3) ?_
    rintro v w4 ⟨rfl, hB34⟩
    have hB14 := bl_tr hB13 hB34 hB13.size
    have hrow4 := own_bw hrow3 hB34
    refine ⟨_, rfl, ?_⟩
    refine ap U (v := (.string ⟨⟨qtext ((dotC rows i k rows.length : Int) : Rat)⟩⟩)) rfl rfl rfl rfl rfl rfl (fun _ => rfl) rfl (fun _ => rfl) rfl rfl rfl hrow4 hB14.size (by omega) (by decide) ?_
    intro a5 c5 w5 ho5 hg5
    have hB5 := hB14.grown hg5 hB14.size (fun g e => (own_block hrow4 g e).1)
    rw [← hnr, strs_txs_snoc] at ho5
    refine dS rfl ?_
    exact rend _ _ ⟨k + 1, a5, c5, rfl, by omega, ho5, hB5, rfl⟩ (by omega) (by repeat' (first | exact True.intro | exact rfl | exact iv (by omega) | refine ⟨?_, ?_⟩))
  ·obtain rfl : k = n := by omega
   refine dT rfl ?_
   refine loopR (fun fr w' mm => ∃ (j : Nat), fr = [(0, .slice (some ⟨gr, or_, none⟩) rows.length cr), (1, .slice yr rows.length yc), (6, .int .i64 (k : Nat)), (7, .slice a2 i c2), (8, .slice b2 i d2_), (9, .int .i64 (i : Nat)), (10, .slice a3 k c3), (14, .string ⟨⟨qtext (rhs rows yq i j)⟩⟩), (15, .int .i64 (j : Nat))] ∧ j ≤ rows.length ∧ Below w2.heap.size w2 w' ∧ mm = rows.length - j)
    ⟨0, rfl, by omega, Below.refl _ _, rfl⟩ (by rw [show rhs rows yq i 0 = 0 from rfl, qtext_zero]; repeat' (first | exact True.intro | exact rfl | exact iv (by omega) | refine ⟨?_, ?_⟩)) ?_
   rintro fr w3 mm ⟨j, rfl, hj, hB23, rfl⟩
   have hB3 := bl_tr hB2 hB23 hB2.size
   refine dT rfl ?_
   refine cS rfl rfl rfl rfl (fun hqj => ?_) (fun hqj => ?_)
   ·have hjl : j < rows.length := by omega
    have hlj := P.hrow j hjl
    refine dT rfl ?_
    refine il U rfl rfl rfl rfl rfl rfl rfl (fun _ => rfl) rfl j rfl hjl (hSlr.stay hB3) (irws_get hjl) ?_
    refine dT rfl ?_
    refine il U rfl rfl rfl rfl rfl rfl rfl (fun _ => rfl) rfl i rfl (by omega) ((hRr j hjl).stay hB3) (ivs_get (by omega)) ?_
    have hrs := rhs_succ rows yq i j
    refine cS rfl rfl rfl rfl (fun hq1 => ?_) (fun hq1 => ?_)
    ·rw [hq1] at hrs
     have hrs : rhs rows yq i (j + 1) = rhs rows yq i j + yq j := by rw [hrs]; simp
     have hys := hyl.stay hB3
     refine dT rfl ?_
     refine il U rfl rfl rfl rfl rfl rfl rfl (fun _ => rfl) rfl j rfl hjl hys.sl.1 (txs_get hjl) ?_
     refine call (f := 23) rfl rfl cb23 (radd_q (small_mono (hr i hin j hj) (by omega)) (hy j hjl) (by rw [← hrs]; exact small_mono (hr i hin (j + 1) hjl) (by omega)) w3) ?_
     rintro v w4 ⟨rfl, hB34⟩
     refine ⟨_, rfl, ?_⟩
     rw [← hrs]
     refine dS rfl ?_
     exact rend _ _ ⟨j + 1, rfl, by omega, bl_tr hB23 hB34 hB23.size, rfl⟩ (by omega) (by repeat' (first | exact True.intro | exact rfl | exact iv (by omega) | refine ⟨?_, ?_⟩))
    ·have h0 : (irow rows j).getD i 0 = 0 := by
      rcases P.bits j i with h | h
      ·exact h
      ·exact absurd h hq1
     rw [h0] at hrs
     have hrs : rhs rows yq i (j + 1) = rhs rows yq i j := by rw [hrs]; simp [Rat.add_zero]
     refine dS rfl ?_
     exact rend _ _ ⟨j + 1, rfl, by omega, hB23, rfl⟩ (by omega) (by rw [hrs]; repeat' (first | exact True.intro | exact rfl | exact iv (by omega) | refine ⟨?_, ?_⟩))
   ·obtain rfl : j = rows.length := by omega
    rw [← hreq i]
    have hB13 := bl_tr hB12 hB23 hB12.size
    have ho3 := own_bw ho hB13
    have hob3 := own_bw hob hB13
    have hR3 := (hR1.stay hB13).snoc (a := a3) (own_sl (own_bw hrow hB23)) (fun g hg => ⟨own_tag (own_bw hrow hB23) g hg, fun e => by
     have h1 := (own_block hrow g hg).1
     have h2 := (own_block hob g e).2
     omega⟩)
    refine dT rfl ?_
    refine ap U (v := (.slice a3 k c3)) rfl rfl rfl rfl rfl rfl (fun _ => rfl) rfl (fun _ => rfl) rfl rfl rfl ho3 hB3.size (by omega) (by decide) ?_
    intro a5 c5 w5 ho5 hg5
    have hB5 := hB3.grown hg5 hB3.size (fun g e => (own_block ho3 g e).1)
    have hob5 := own_keep hob3 hg5 (fun g hga e => (own_tag hob3 g hga).ne (own_tag ho3 g e) rfl rfl)
    have hR5 := hR3.other hg5 (fun g e => own_tag ho3 g e) rfl
    have ho5 : w5.ownsRow w0.heap.size 29 1 (.slice a5 (i + 1) c5) (i + 1) (srws (mtx (i + 1) k (nrm rows)) (upd A i a3) (upd C i c3)) := by
     have e := srws_snoc (mtx i k (nrm rows)) (txs k (nrm rows i)) A C a3 c3
     rw [mtx_snoc, mtx_length, txs_length] at e
     rw [← e]; exact ho5
    refine dT rfl ?_
    refine bs1 U (v := .string ⟨⟨qtext (r i)⟩⟩) rfl rfl rfl rfl rfl rfl rfl ?_
    intro w6 hk6 hs6 hg6
    have hB56 : Below w5.heap.size w5 w6 := (Below.refl _ _).grown hg6 (Nat.le_refl _) (fun k e => by cases e)
    have hB6 := bl_tr hB5 hB56 hB5.size
    have hob6 := own_bw hob5 hB56
    have ho6 := own_bw ho5 hB56
    have hR6 := hR5.stay hB56
    refine awf U rfl rfl rfl rfl rfl rfl rfl rfl rfl hob6 (hk6.sl 0) rfl (by decide) (by intro u hu; simp at hu; subst hu; rfl) hB6.size (by omega) rfl ?_
    intro b9 d9 w9 hob9 hg9 hp9
    rw [List.drop_zero, strs_txs_snoc] at hob9
    have ho9 := own_keep ho6 hg9 (fun g hga e => (own_tag ho6 g hga).ne (own_tag hob6 g e) rfl rfl)
    have hR9 := hR6.grow hg9 hp9
    have hB9 := hB6.grown hg9 hB6.size (fun g e => (own_block hob6 g e).1)
    refine dS rfl ?_
    exact rend _ _ ⟨i + 1, a5, c5, _, _, b9, d9, rfl, by omega, ho9, hR9, hob9, hB9, rfl⟩ (by omega) (by repeat' (first | exact True.intro | exact rfl | exact iv (by omega) | refine ⟨?_, ?_⟩))
 ·obtain rfl : i = n := by omega
  have hsm := rowsB_sm (own_sl ho) hR1
  refine dT rfl ?_
  refine call (f := 108) rfl rfl cb108 (gpSolveC_calls (nrm rows) r 15 P.h0 (by have := P.hn; omega) (by omega) (fun i _ k _ => P.nrm i k) P.b (grw7 P.hn (by omega)) P.reg P.sol _ _ _ _ w1 hsm ⟨b2, d2_, by rw [txs_length], own_sl hob⟩) ?_
  rintro v w2 ⟨hS, hB12⟩
  obtain ⟨x, ax, cx, hx1, hx2, rfl, hx3, hx4⟩ := hS
  refine ⟨_, rfl, ?_⟩
  refine dT rfl ?_
  exact ret Tryz.results69 rfl ⟨_, rfl, ⟨x, ax, cx, hx1, hx2, rfl, hx3, hx4⟩, bl_tr hB1 hB12 hB1.size⟩
theorem gest_calls (kind n : Int) (noisy : List Int) (hn : n ≤ 7 ∨ 64 < n) (hl : noisy.length ≤ 1000000) (a : Option Addr) (c : Nat) (w : World) (hs : Sl w a (ivs noisy)) :
  Calls Tryz.prog 28 #[.int .i64 kind, .int .i64 n, .slice a noisy.length c] w (Ret fun v w' => EstR kind n noisy v w' ∧ Below w.heap.size w w') := by
 refine enter Tryz.func28 rfl Tryz.ntmps28 (Nat.le_of_ble_eq_true rfl) ?_
 refine dT rfl ?_
 refine call (f := 34) rfl rfl cb34 (gstrat_calls kind n w) ?_
 rintro v w1 ⟨⟨a1, c1, rfl, hO, hnil⟩, hB1⟩
 refine ⟨_, rfl, ?_⟩
 refine dT rfl ?_
 refine eqNil U rfl rfl rfl rfl rfl ?_
 by_cases hst : strat kind n = []
 ·rw [(hnil hst).1]
  refine dT rfl ?_
  exact ret Tryz.results28 rfl ⟨_, rfl, .inl ⟨hst, rfl⟩, hB1⟩
 have hn7 : n ≤ 7 := by
  rcases hn with h | h
  ·exact h
  ·exact absurd (strat_out (.inr h)) hst
 have hpos := List.length_pos_iff.2 hst
 have hOs := hO.sz
 obtain ⟨ga, rfl⟩ : ∃ ga, a1 = some ga := by
  obtain ⟨A, C, h1, _⟩ := hO
  obtain ⟨go, h⟩ := own_go h1 hpos
  exact ⟨_, h⟩
 have hln := strat_len7 (kind := kind) hn7
 have hPb := fun hw : Wthn noisy 1000000000000 => fun (i : Nat) (_ : i < n.toNat) => rhs_small (kind := kind) hn7 hw i (strat kind n).length (Nat.le_refl _)
 have hPr := fun hw : Wthn noisy 1000000000000 => fun (i : Nat) (_ : i < n.toNat) (j : Nat) (hj : j ≤ (strat kind n).length) => isn_small (K := 15) (rhs_small (kind := kind) hn7 hw i j hj) (by omega) (by omega)
 have hP := fun hw => sysP_of (b := fun i => rhs (strat kind n) (ratsI noisy) i (strat kind n).length) hst hn7 (hPb hw)
 refine dT rfl ?_
 refine cS rfl rfl rfl rfl (fun hq1 => ?_) (fun hq1 => ?_)
 ·refine dT rfl ?_
  exact ret Tryz.results28 rfl ⟨_, rfl, .inr (.inl ⟨hst, by omega, rfl⟩), hB1⟩
 have hlen : noisy.length = (strat kind n).length := by omega
 refine dT rfl ?_
 refine call (f := 68) rfl rfl cb68 (gwithin_calls noisy 1000000000000 (by omega) (by omega) a c w1 (hs.stay hB1)) ?_
 rintro v w2 ⟨rfl, hB2⟩
 have hB2' := bl_tr hB1 hB2 hB1.size
 refine ⟨_, rfl, ?_⟩
 by_cases hw : Wthn noisy 1000000000000
 case neg =>
  rw [decide_eq_false hw]
  refine dT rfl ?_
  exact ret Tryz.results28 rfl ⟨_, rfl, .inr (.inr (.inl ⟨hst, hlen, hw, rfl⟩)), hB2'⟩
 rw [decide_eq_true hw]
 have hsm := ratsI_small hw (by omega)
 refine dT rfl ?_
 refine call (f := 70) rfl rfl cb70 (gnumbers_calls noisy hl (fun i => by have := wthn_get hw (by omega) i; omega) a c w2 (hs.stay hB2')) ?_
 rintro v w3 ⟨⟨a3, c3, rfl, ho3⟩, hB3⟩
 have hB3' := bl_tr hB2' hB3 hB2'.size
 refine ⟨_, rfl, ?_⟩
 rw [hlen] at ho3 ⊢
 have hfit := gfit_calls (strat kind n) n.toNat (ratsI noisy) _ (fun _ => rfl) (hP hw) (fun j _ => small_mono (hsm j) (by omega)) (hPr hw) (some ga) a3 c1 c3 w3 (hOs.stay (bl_tr hB2 hB3 hB2.size)) ⟨a3, c3, by rw [txs_length], own_sl ho3⟩
 refine call (f := 69) rfl rfl cb69 hfit ?_
 rintro v w4 ⟨hf, hB4⟩
 have hf0 := hf
 obtain ⟨x, ax, cx, hx1, hx2, rfl, hx3, hx4⟩ := hf0
 refine ⟨_, rfl, ?_⟩
 refine dT rfl ?_
 exact ret Tryz.results28 rfl ⟨_, rfl, .inr (.inr (.inr ⟨hst, hlen, hw, hf⟩)), bl_tr hB3' hB4 hB3'.size⟩
end Go.Proofs.YtejlpdbiacmfcaaGreatDoor
