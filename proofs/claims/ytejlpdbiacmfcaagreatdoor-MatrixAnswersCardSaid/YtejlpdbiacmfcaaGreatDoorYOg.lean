/-
  Walks of the reference's ranged, Answers and Spread.
  Conditions: the sums' digits fit; at most 7 cells, or an invalid number of cells.
-/
import Derived.Test.YtejlpdbiacmfcaaGreatDoorYGa
import Derived.Test.YtejlpdbiacmfcaaGreatDoorYOa
import Derived.Test.YtejlpdbiacmfcaaGreatDoorYOf
set_option linter.unusedSimpArgs false
set_option linter.unusedVariables false
set_option maxHeartbeats 8000000
set_option maxRecDepth 100000
namespace Go.Proofs.YtejlpdbiacmfcaaGreatDoor
open Go Go.Proofs Go.RowKit Go.Lib

section
variable {P : Program} (U : Tys P) {ro : Option Nat} {n : Nat} {ds : List Deferred} {Q : PT} {l l' : Fr} {w w' : World} {arr : Array Oper} {r : List Oper} {k : List It}
theorem jq {x1 : Nat} {t e ty : TypeId} {x i : Operand} {ps : String} {af : Array Edge} {g1 : Option (Nat × Bool)} {p : Addr} {m : Nat} {ki : IntKind} {iv : Int}
  (hx : ev l x = some (.pointer (some p))) (hi : ev l i = some (.int ki iv)) (ht : U.tb.u t = some (.array m e)) (hz : U.tb.sz e = some 1) (hg1 : gd arr l g1 = some true) (hx1 : Nat.blt x1 n = true)
  (j : Nat) (hj : iv = (j : Int)) (hm : j < m)
  (t' : T P ro n ds Q ((x1, .pointer (some (p.add j))) :: l) w (.ops arr r) k) :
  T P ro n ds Q l w (.ops arr (⟨some x1, .indexAddr t x i, ty, ps, af, g1⟩ :: r)) k := by
 subst hj
 obtain ⟨ii, hi0, hz0⟩ := U.hs _ _ hz
 refine op1 (w' := w) (v := .pointer (some (p.add j))) (by intro c h; cases h) hg1 (put1_some hx1) (fun a hf => ?_) t'
 have h1 : (0 : Int) ≤ (j : Int) ∧ (j : Int) < (m : Int) := by omega
 have hrun : (Instr.indexAt t (.pointer (some p)) (.int ki (j : Int))).run P w = .ok (.pointer (some (p.add j))) w := by
  simp only [Instr.indexAt, Sem.run_bind, asIntOf, Instr.sureAddr, Sem.run_pure, Result.andThen, run_under (U.hu _ _ ht), if_pos h1]
  simp [sizeOf, typeInfo, program, hi0, hz0, Sem.run]
 simp [execOp, hf.ev hx, hf.ev hi, hrun]
end
theorem granged_calls (lo hi n : Int) (w : World) : Calls Tryz.prog 72 #[.int .i64 lo, .int .i64 hi, .int .i64 n] w (Ret fun v w' => v = .bool (decide (0 ≤ lo ∧ lo ≤ hi ∧ hi < n)) ∧ w = w') := by
 refine enter Tryz.func72 rfl Tryz.ntmps72 (Nat.le_of_ble_eq_true rfl) ?_
 refine dT rfl ?_
 refine cS rfl rfl rfl rfl (fun hq1 => ?_) (fun hq1 => ?_)
 ·refine dT rfl ?_
  refine cS rfl rfl rfl rfl (fun hq2 => ?_) (fun hq2 => ?_)
  ·refine dT rfl ?_
   refine cS rfl rfl rfl rfl (fun hq3 => ?_) (fun hq3 => ?_)
   ·refine dT rfl ?_
    exact ret Tryz.results72 rfl ⟨_, rfl, by rw [decide_eq_true ⟨hq1, hq2, hq3⟩]; rfl, rfl⟩
   ·refine dT rfl ?_
    exact ret Tryz.results72 rfl ⟨_, rfl, by rw [decide_eq_false (fun h => hq3 h.2.2)]; rfl, rfl⟩
  ·refine dT rfl ?_
   exact ret Tryz.results72 rfl ⟨_, rfl, by rw [decide_eq_false (fun h => hq2 h.2.1)]; rfl, rfl⟩
 ·refine dT rfl ?_
  exact ret Tryz.results72 rfl ⟨_, rfl, by rw [decide_eq_false (fun h => hq1 h.1)]; rfl, rfl⟩
theorem g28ans_calls (rs : List (Int × Int)) (xs : List Tx) (hrl : rs.length ≤ 1099511627776) (hx : LenV xs) (hv : VErr xs 0 → ∀ j, j < xs.length → Small 4000 (vval xs j)) (hfit : VErr xs 0 → ∀ lo k, lo + k ≤ xs.length → Small 4000 (sm k fun j => vval xs (lo + j)))
  (a b : Option Addr) (c d : Nat) (w : World) (hs : Sl w a (pvs rs)) (hb : Sl w b (strs xs)) :
  Calls Tryz.prog 29 #[.slice a rs.length c, .slice b xs.length d] w (Ret fun v w' => (∃ ys e, AnsS rs xs ys e ∧ VOut ys e v w') ∧ Below w.heap.size w w') := by
 refine enter Tryz.func29 rfl Tryz.ntmps29 (Nat.le_of_ble_eq_true rfl) ?_
 refine dT rfl ?_
 refine call (f := 71) rfl rfl cb71 (gVector_calls xs b d w hb hx.l hx.x) ?_
 rintro v w1 ⟨⟨e, rfl, he⟩, hB1⟩
 have hs := hs.stay hB1
 have hb := hb.stay hB1
 refine ⟨_, rfl, ?_⟩
 refine dT rfl ?_
 refine cS rfl rfl rfl rfl (fun hq1 => ?_) (fun hq1 => ?_)
 ·refine dT rfl ?_
  exact ret Tryz.results29 rfl ⟨_, rfl, ⟨[], e, .inl ⟨hq1, he, rfl⟩, VOut.nil _ _⟩, hB1⟩
 obtain rfl := Classical.not_not.1 hq1
 refine dT rfl ?_
 refine cS rfl rfl rfl rfl (fun hq2 => ?_) (fun hq2 => ?_)
 ·refine dT rfl ?_
  exact ret Tryz.results29 rfl ⟨_, rfl, ⟨[], 4, .inr (.inl ⟨he, by omega, rfl, rfl⟩), VOut.nil _ _⟩, hB1⟩
 refine dT rfl ?_
 refine loopR (fun fr w' m => ∃ (i : Nat), fr = [(0, .slice a rs.length c), (1, .slice b xs.length d), (7, .int .i64 (i : Nat))] ∧ i ≤ rs.length ∧ (∀ j, j < i → Rgd xs.length (pget rs j)) ∧ Below w1.heap.size w1 w' ∧ m = rs.length - i)
  ⟨0, rfl, by omega, fun j hj => absurd hj (by omega), Below.refl _ _, rfl⟩ (by repeat' (first | exact True.intro | exact rfl | exact iv (by omega) | refine ⟨?_, ?_⟩)) ?_
 rintro fr w2 m ⟨i, rfl, hi, hall, hB2, rfl⟩
 refine dT rfl ?_
 refine cS rfl rfl rfl rfl (fun hq3 => ?_) (fun hq3 => ?_)
 ·have hil : i < rs.length := by omega
  have hm : pget rs i ∈ rs := by unfold pget; simp [List.getD, hil]
  obtain ⟨ga, oa, rfl, _⟩ := hs.at (j := i * 2) (by rw [pvs_len]; omega)
  have hp0 := pvs_get hil 0 _ rfl
  have hp1 := pvs_get hil 1 _ rfl
  refine dT rfl ?_
  refine dwn 13 (fun W => Sl W (some ⟨ga, oa, none⟩) (pvs rs)) hmo ?_
  intro w3 hh3 hg3
  have hB3 := hB2.grown hg3 hB2.size (fun k e => by cases e)
  have hC3 := hs.stay hB3
  have hl4 : ∀ W, Sl W (some ⟨ga, oa, none⟩) (pvs rs) → (loadVar 3 (((⟨ga, oa, none⟩ : Addr).add (((i : Nat) : Int).toNat * 2)).add 0)).run Tryz.prog W = .ok (.int .i64 (pget rs i).1) W := fun W h => run_load_cell U rfl (by have := slc2 h hp0; simpa [add_plain] using this)
  have hl9 : ∀ W, Sl W (some ⟨ga, oa, none⟩) (pvs rs) → (loadVar 3 (((⟨ga, oa, none⟩ : Addr).add (((i : Nat) : Int).toNat * 2)).add 1)).run Tryz.prog W = .ok (.int .i64 (pget rs i).2) W := fun W h => run_load_cell U rfl (by have := slc2 h hp1; simpa [add_plain, Nat.add_assoc] using this)
  refine dqS [0,1,2,5,6,7,10,11] [] rfl rfl hC3 ?_
  refine d1or (i := 3) (j := 8) rfl rfl rfl (fun _ => hC3) ?_ ?_
  ·refine jq U rfl rfl rfl rfl rfl rfl 0 rfl (by omega) ?_
   refine d2 ?_
   refine dq U [4] [(4, .int .i64 (pget rs i).1)] (by kernel_rfl) rfl rfl hC3 (by simp only [AllP, InR, List.nil_append, List.cons_append]; (repeat' apply And.intro); all_goals first | exact True.intro | omega | (with_reducible exact hl4)) ?_
   refine d1 rfl rfl (fun _ => hC3) ?_
   refine jq U rfl rfl rfl rfl rfl rfl 1 rfl (by omega) ?_
   refine d2 ?_
   refine dq U [9] [(9, .int .i64 (pget rs i).2)] (by kernel_rfl) rfl rfl hC3 (by simp only [AllP, InR, List.nil_append, List.cons_append]; (repeat' apply And.intro); all_goals first | exact True.intro | omega | (with_reducible exact hl9)) ?_
   refine d1 rfl rfl (fun _ => hC3) ?_
   refine call (f := 72) rfl rfl cb72 (granged_calls (pget rs i).1 (pget rs i).2 (xs.length : Nat) w3) ?_
   rintro v _ ⟨rfl, rfl⟩
   refine ⟨_, rfl, d2 ?_⟩
   by_cases h : Rgd xs.length (pget rs i)
   ·rw [decide_eq_true (show (0 ≤ (pget rs i).1 ∧ (pget rs i).1 ≤ (pget rs i).2 ∧ (pget rs i).2 < ((xs.length : Nat) : Int)) from h)]
    refine d1 rfl rfl (fun _ => hC3) ?_
    refine dT rfl ?_
    refine d3 ?_; refine dend rfl (fun h => by cases h) ?_
    refine dS rfl ?_
    refine rend _ _ ⟨i + 1, rfl, by omega, fun j hj => ?_, hB3, rfl⟩ (by omega) (by repeat' (first | exact True.intro | exact rfl | exact iv (by omega) | refine ⟨?_, ?_⟩))
    rcases Nat.lt_succ_iff_lt_or_eq.1 hj with h' | rfl
    ·exact hall j h'
    ·exact h
   ·rw [decide_eq_false (show ¬ (0 ≤ (pget rs i).1 ∧ (pget rs i).1 ≤ (pget rs i).2 ∧ (pget rs i).2 < ((xs.length : Nat) : Int)) from h)]
    refine d1 rfl rfl (fun _ => hC3) ?_
    refine dT rfl ?_
    refine d3 ?_; refine dend rfl (fun h => by cases h) ?_
    refine dT rfl ?_
    exact ret Tryz.results29 rfl ⟨_, rfl, ⟨[], 2, .inr (.inr (.inl ⟨he, by omega, fun hh => h (hh _ hm), rfl, rfl⟩)), VOut.nil _ _⟩, bl_tr hB1 hB3 hB1.size⟩
  ·refine jq U rfl rfl rfl rfl rfl rfl 1 rfl (by omega) ?_
   refine d2 ?_
   refine dq U [9] [(9, .int .i64 (pget rs i).2)] (by kernel_rfl) rfl rfl hC3 (by simp only [AllP, InR, List.nil_append, List.cons_append]; (repeat' apply And.intro); all_goals first | exact True.intro | omega | (with_reducible exact hl9)) ?_
   refine d1 rfl rfl (fun _ => hC3) ?_
   refine jq U rfl rfl rfl rfl rfl rfl 0 rfl (by omega) ?_
   refine d2 ?_
   refine dq U [4] [(4, .int .i64 (pget rs i).1)] (by kernel_rfl) rfl rfl hC3 (by simp only [AllP, InR, List.nil_append, List.cons_append]; (repeat' apply And.intro); all_goals first | exact True.intro | omega | (with_reducible exact hl4)) ?_
   refine d1 rfl rfl (fun _ => hC3) ?_
   refine call (f := 72) rfl rfl cb72 (granged_calls (pget rs i).1 (pget rs i).2 (xs.length : Nat) w3) ?_
   rintro v _ ⟨rfl, rfl⟩
   refine ⟨_, rfl, d2 ?_⟩
   by_cases h : Rgd xs.length (pget rs i)
   ·rw [decide_eq_true (show (0 ≤ (pget rs i).1 ∧ (pget rs i).1 ≤ (pget rs i).2 ∧ (pget rs i).2 < ((xs.length : Nat) : Int)) from h)]
    refine d1 rfl rfl (fun _ => hC3) ?_
    refine dT rfl ?_
    refine d3 ?_; refine dend rfl (fun h => by cases h) ?_
    refine dS rfl ?_
    refine rend _ _ ⟨i + 1, rfl, by omega, fun j hj => ?_, hB3, rfl⟩ (by omega) (by repeat' (first | exact True.intro | exact rfl | exact iv (by omega) | refine ⟨?_, ?_⟩))
    rcases Nat.lt_succ_iff_lt_or_eq.1 hj with h' | rfl
    ·exact hall j h'
    ·exact h
   ·rw [decide_eq_false (show ¬ (0 ≤ (pget rs i).1 ∧ (pget rs i).1 ≤ (pget rs i).2 ∧ (pget rs i).2 < ((xs.length : Nat) : Int)) from h)]
    refine d1 rfl rfl (fun _ => hC3) ?_
    refine dT rfl ?_
    refine d3 ?_; refine dend rfl (fun h => by cases h) ?_
    refine dT rfl ?_
    exact ret Tryz.results29 rfl ⟨_, rfl, ⟨[], 2, .inr (.inr (.inl ⟨he, by omega, fun hh => h (hh _ hm), rfl, rfl⟩)), VOut.nil _ _⟩, bl_tr hB1 hB3 hB1.size⟩
 obtain rfl : i = rs.length := by omega
 have hok := verr_ok he
 have hfit := hfit he
 have hv := hv he
 have hx64 : xs.length ≤ 64 := by
  rcases he with ⟨_, h⟩ | ⟨_, h⟩ | ⟨_, _, _, _, _, _, h⟩ | ⟨_, h, _, _⟩
  ·omega
  ·omega
  ·exact absurd rfl h
  ·exact h
 refine dT rfl ?_
 refine loopR (fun fr w' m => ∃ (i : Nat) (a2 : Option Addr) (c2 : Nat), fr = [(0, .slice a rs.length c), (1, .slice b xs.length d), (8, .slice a2 i c2), (9, .int .i64 (i : Nat))] ∧ i ≤ rs.length ∧ w'.ownsRow w1.heap.size 35 1 (.slice a2 i c2) i (strs (ansTo rs (vval xs) i)) ∧ Below w1.heap.size w1 w' ∧ m = rs.length - i)
  ⟨0, none, 0, rfl, by omega, ⟨rfl, .inl ⟨rfl, rfl⟩⟩, hB2, rfl⟩ (by repeat' (first | exact True.intro | exact rfl | exact iv (by omega) | refine ⟨?_, ?_⟩)) ?_
 rintro fr w3 m ⟨i, a2, c2, rfl, hi, ho, hB3, rfl⟩
 refine dT rfl ?_
 refine cS rfl rfl rfl rfl (fun hq4 => ?_) (fun hq4 => ?_)
 ·have hil : i < rs.length := by omega
  obtain ⟨hr1, hr2, hr3⟩ := hall i hil
  obtain ⟨p, hp⟩ : ∃ p : Nat, (pget rs i).1 = (p : Int) := ⟨(pget rs i).1.toNat, by omega⟩
  obtain ⟨q, hq⟩ : ∃ q : Nat, (pget rs i).2 + 1 = (q : Int) := ⟨((pget rs i).2 + 1).toNat, by omega⟩
  have hrs : rsum (vval xs) (pget rs i) = sm (q - p) (fun j => vval xs (p + j)) := by
   unfold rsum
   rw [hp, show ((pget rs i).2 - (p : Int) + 1).toNat = q - p by omega, Int.toNat_natCast]
  obtain ⟨ga, oa, rfl, _⟩ := hs.at (j := i * 2) (by rw [pvs_len]; omega)
  have hp0 := pvs_get hil 0 _ rfl
  have hp1 := pvs_get hil 1 _ rfl
  have hs3 := hs.stay hB3
  have hc0 : w3.cell? ((⟨ga, oa + i * 2, none⟩ : Addr).add 0) = some (.int .i64 (pget rs i).1) := by have := slc2 hs3 hp0; simpa [add_plain] using this
  refine dT rfl ?_
  refine ia U rfl rfl rfl rfl rfl rfl i rfl hil ?_
  refine jq U rfl rfl rfl rfl rfl rfl 0 rfl (by omega) ?_
  refine ld U rfl rfl rfl rfl hc0 ?_
  refine dT rfl ?_
  refine loopR (fun fr w' m2 => ∃ (k : Nat), fr = [(0, .slice (some ⟨ga, oa, none⟩) rs.length c), (1, .slice b xs.length d), (8, .slice a2 i c2), (9, .int .i64 (i : Nat)), (10, .string ⟨⟨qtext (sm k (fun j => vval xs (p + j)))⟩⟩), (11, .int .i64 0), (12, .int .i64 ((p + k : Nat) : Int))] ∧ k ≤ q - p ∧ Below w3.heap.size w3 w' ∧ m2 = q - p - k)
   ⟨0, rfl, by omega, Below.refl _ _, rfl⟩ (by rw [sm, qtext_zero]; repeat' (first | exact True.intro | exact rfl | exact iv (by omega) | refine ⟨?_, ?_⟩)) ?_
  rintro fr w4 m2 ⟨k, rfl, hk, hB34, rfl⟩
  have hB4 := bl_tr hB3 hB34 hB3.size
  have hc1 : w4.cell? ((⟨ga, oa + i * 2, none⟩ : Addr).add 1) = some (.int .i64 (pget rs i).2) := by have := slc2 (hs.stay hB4) hp1; simpa [add_plain, Nat.add_assoc] using this
  refine dT rfl ?_
  refine ia U rfl rfl rfl rfl rfl rfl i rfl hil ?_
  refine jq U rfl rfl rfl rfl rfl rfl 1 rfl (by omega) ?_
  refine ld U rfl rfl rfl rfl hc1 ?_
  refine cS rfl rfl rfl rfl (fun hq5 => ?_) (fun hq5 => ?_)
  ·have hkq : k < q - p := by omega
   have hqe : qtext (vval xs (p + k)) = xs.getD (p + k) [] := q_text_back (hok (p + k) (by omega))
   have hadd := radd_q (hfit p k (by omega)) (hv (p + k) (by omega)) (hfit p (k + 1) (by omega)) w4
   rw [hqe] at hadd
   refine dT rfl ?_
   refine il U rfl rfl rfl rfl rfl rfl rfl (fun _ => rfl) rfl (p + k) rfl (by omega) (hb.stay hB4) (getS (by omega)) ?_
   refine call (f := 23) rfl rfl cb23 hadd ?_
   rintro v w5 ⟨rfl, hB45⟩
   refine ⟨_, rfl, ?_⟩
   refine dT rfl ?_
   refine cF rfl rfl rfl (fun h => h rfl) ?_
   refine dS rfl ?_
   exact rend _ _ ⟨k + 1, rfl, by omega, bl_tr hB34 hB45 hB34.size, rfl⟩ (by omega) (by repeat' (first | exact True.intro | exact rfl | exact iv (by omega) | refine ⟨?_, ?_⟩))
  ·obtain rfl : k = q - p := by omega
   rw [← hrs]
   have ho4 := own_bw ho hB34
   refine dT rfl ?_
   refine ap U (v := (.string ⟨⟨qtext (rsum (vval xs) (pget rs i))⟩⟩)) rfl rfl rfl rfl rfl rfl (fun _ => rfl) rfl (fun _ => rfl) rfl rfl rfl ho4 hB4.size (by omega) (by decide) ?_
   intro a5 c5 w7 ho7 hg7
   have hB7 := hB4.grown hg7 hB4.size (fun g e => (own_block ho4 g e).1)
   rw [ansTo_snoc] at ho7
   refine dS rfl ?_
   exact rend _ _ ⟨i + 1, a5, c5, rfl, by omega, ho7, hB7, rfl⟩ (by omega) (by repeat' (first | exact True.intro | exact rfl | exact iv (by omega) | refine ⟨?_, ?_⟩))
 ·obtain rfl : i = rs.length := by omega
  have hall' : ∀ r, r ∈ rs → Rgd xs.length r := fun r hr => by
   obtain ⟨j, hj, rfl⟩ := List.getElem_of_mem hr
   have := hall j hj
   unfold pget at this
   simpa [List.getD, hj] using this
  refine dT rfl ?_
  refine ret Tryz.results29 rfl ⟨_, rfl, ⟨ansTo rs (vval xs) rs.length, 0, .inr (.inr (.inr ⟨he, by omega, hall', ansTo_all _ _, rfl⟩)), a2, c2, by rw [ansTo_len]; rfl, own_sl ho, by rw [ansTo_len]; exact own_cap ho, fun g hg => (own_block ho g hg).2⟩, bl_tr hB1 hB3 hB1.size⟩

theorem rsum_txs {n : Nat} {x : Nat → Rat} {r : Int × Int} (hS : ∀ i, i < n → Small 4000 (x i)) (hr : Rgd n r) : rsum (vval (txs n x)) r = rsum x r := by
 obtain ⟨h1, h2, h3⟩ := hr
 unfold rsum
 exact sm_congr fun j hj => txs_vval hS (by omega)
theorem ansS_txs {n : Nat} {x : Nat → Rat} {rs : List (Int × Int)} (h0 : 0 < n) (hn : n ≤ 64) (hS : ∀ i, i < n → Small 4000 (x i)) (hl : rs.length ≤ 64) (hall : ∀ r, r ∈ rs → Rgd n r) : AnsS rs (txs n x) (rs.map fun r => qtext (rsum x r)) 0 := by
 refine .inr (.inr (.inr ⟨txs_verr h0 hn hS, hl, fun r hr => by rw [txs_length]; exact hall r hr, ?_, rfl⟩))
 exact List.map_congr_left fun r hr => by rw [rsum_txs hS (hall r hr)]
theorem ans_fit {n K : Nat} {x : Nat → Rat} (hS : ∀ i, i < n → Small K (x i)) (hK4 : K ≤ 4000) (hK : 1 + n * (K + 1) ≤ 4000) : ∀ lo k, lo + k ≤ (txs n x).length → Small 4000 (sm k fun j => vval (txs n x) (lo + j)) := fun lo k hk => by
 rw [txs_length] at hk
 have e : sm k (fun j => vval (txs n x) (lo + j)) = sm k (fun j => x (lo + j)) := sm_congr fun j hj => txs_vval (fun i hi => small_mono (hS i hi) hK4) (by omega)
 rw [e]
 have h1 := sm_small1 (K := K) (n := k) (f := fun j => x (lo + j)) (fun j hj => hS (lo + j) (by omega)) k (Nat.le_refl _)
 refine small_mono h1 ?_
 have := Nat.mul_le_mul_right (K + 1) (show k ≤ n by omega)
 omega
theorem ans_small {n K : Nat} {x : Nat → Rat} (hS : ∀ i, i < n → Small K (x i)) (hK4 : K ≤ 4000) : ∀ j, j < (txs n x).length → Small 4000 (vval (txs n x) j) := fun j hj => by
 rw [txs_length] at hj
 rw [txs_vval (fun i hi => small_mono (hS i hi) hK4) hj]
 exact small_mono (hS j hj) hK4
theorem g28ans_x {rs : List (Int × Int)} {xs ys : List Tx} {e : Int} (hE : AnsS rs xs ys e) (hrl : rs.length ≤ 1000) (hx : LenV xs) (hv : VErr xs 0 → ∀ j, j < xs.length → Small 4000 (vval xs j)) (hfit : VErr xs 0 → ∀ lo k, lo + k ≤ xs.length → Small 4000 (sm k fun j => vval xs (lo + j)))
  (a b : Option Addr) (c d m q : Nat) (w : World) (hs : LitP w (.slice a m c) rs) (hb : Lit w (.slice b q d) xs) :
  Calls Tryz.prog 29 #[.slice a m c, .slice b q d] w (Ret fun v w' => (∃ a c, v = .tuple ⟨[.slice a ys.length c, .int .i64 e]⟩ ∧ Lit w' (.slice a ys.length c) ys) ∧ Below w.heap.size w w') := by
 obtain ⟨h1, rfl⟩ := hs.sl
 obtain ⟨h2, rfl⟩ := hb.sl
 refine (g28ans_calls rs xs (by omega) hx hv hfit a b c d w h1 h2).mono ?_
 rintro _ w' ⟨v, rfl, ⟨ys', e', g1, g2⟩, hB⟩
 obtain ⟨rfl, rfl⟩ := g1.uniq hE
 obtain ⟨a', c', rfl, h5⟩ := g2.lit
 exact ⟨_, rfl, ⟨a', c', rfl, h5⟩, hB⟩

theorem weight_eq {m n : Nat} {f : Mx} {w z x : Nat → Rat} {i : Nat} (hz : ∀ k, k < n → mapp n (mmul m (trp f) f) z k = w k) (hx : ∀ k, k < n → mapp n (mmul m (trp f) f) x k = f i k) : sm n (fun k => w k * x k) = mapp n f z i := by
 have hsym : ∀ k j, mmul m (trp f) f k j = mmul m (trp f) f j k := fun k j => by unfold mmul trp; exact sm_congr fun t _ => by grind
 unfold mapp at *
 rw [sm_congr (n := n) (g := fun k => sm n (fun j => mmul m (trp f) f k j * z j * x k)) (fun k hk => by rw [← hz k hk, ← sm_mulr])]
 refine (sm_comm (fun k j => mmul m (trp f) f k j * z j * x k) n n).trans ?_
 apply sm_congr
 intro j hj
 rw [sm_congr (n := n) (g := fun k => z j * (mmul m (trp f) f j k * x k)) (fun k _ => by rw [hsym k j]; grind), sm_mul, hx j hj]
 grind
def unitI (m i : Nat) : List Int := (List.replicate m 0).set i 1
theorem unitI_len (m i : Nat) : (unitI m i).length = m := by simp [unitI]
theorem unitI_get {m i : Nat} (h : i < m) (k : Nat) : (unitI m i).getD k 0 = if k = i then 1 else 0 := by
 unfold unitI
 by_cases e : k = i
 ·subst e; simp [List.getD, h]
 ·rw [if_neg e, List.getD, List.getElem?_set_ne (by omega)]
  by_cases hk : k < m
  ·simp [hk]
  ·simp [hk]
theorem unitI_wthn (m i : Nat) (h : i < m) : Wthn (unitI m i) ((1 : Nat) : Int) := fun x hx => by
 obtain ⟨j, hj, rfl⟩ := List.getElem_of_mem hx
 have := unitI_get h j
 have e : (unitI m i).getD j 0 = (unitI m i)[j] := by simp [List.getD, hj]
 rw [e] at this
 rw [this]
 split <;> omega
theorem rhs_unit {rows : List (List Int)} {i : Nat} (h : i < rows.length) (k : Nat) : rhs rows (ratsI (unitI rows.length i)) k rows.length = stM rows i k := by
 unfold rhs trp ratsI
 rw [sm_single h (fun t ht hne => by rw [unitI_get h, if_neg hne]; simp), unitI_get h, if_pos rfl]
 simp
theorem stM_isn {rows : List (List Int)} (hb : Bits rows) (i k : Nat) : Isn 13 (stM rows i k) := by
 have := hb i k
 unfold irow at this
 exact isn_int (by rcases this with h | h <;> rw [h] <;> decide)
theorem g28spd_calls (kind z lo hi : Int) (hz : z ≤ 7 ∨ 64 < z) (w : World) :
  Calls Tryz.prog 30 #[.int .i64 kind, .int .i64 z, .int .i64 lo, .int .i64 hi] w (Ret fun v w' => (∃ t e, SpdS kind z lo hi t e ∧ v = .tuple ⟨[.string ⟨⟨t⟩⟩, .int .i64 e]⟩) ∧ Below w.heap.size w w') := by
 refine enter Tryz.func30 rfl Tryz.ntmps30 (Nat.le_of_ble_eq_true rfl) ?_
 refine dT rfl ?_
 refine call (f := 34) rfl rfl cb34 (gstrat_calls kind z w) ?_
 rintro v w0 ⟨⟨ar, cr, rfl, hO, hnil⟩, hB01⟩
 refine ⟨_, rfl, ?_⟩
 refine dT rfl ?_
 refine eqNil U rfl rfl rfl rfl rfl ?_
 by_cases hst : strat kind z = []
 ·rw [(hnil hst).1]
  refine dT rfl ?_
  exact ret Tryz.results30 rfl ⟨_, rfl, ⟨[], 2, .inl ⟨.inl hst, rfl, rfl⟩, rfl⟩, hB01⟩
 have hn7 : z ≤ 7 := by
  rcases hz with h | h
  ·exact h
  ·exact absurd (strat_out (.inr h)) hst
 have hz1 := (strat_kind hst).1
 obtain ⟨n, rfl⟩ : ∃ n : Nat, z = (n : Int) := ⟨z.toNat, by omega⟩
 have hpos := List.length_pos_iff.2 hst
 have hOs := hO.sz
 obtain ⟨ga, rfl⟩ : ∃ ga, ar = some ga := by
  obtain ⟨A, C, h1, _⟩ := hO
  obtain ⟨go, h⟩ := own_go h1 hpos
  exact ⟨_, h⟩
 refine dT rfl ?_
 refine call (f := 72) rfl rfl cb72 (granged_calls lo hi (n : Int) w0) ?_
 rintro v _ ⟨rfl, rfl⟩
 refine ⟨_, rfl, ?_⟩
 by_cases hrg : Rgd n (lo, hi)
 case neg =>
  rw [decide_eq_false (show ¬ (0 ≤ lo ∧ lo ≤ hi ∧ hi < (n : Int)) from hrg)]
  refine dT rfl ?_
  exact ret Tryz.results30 rfl ⟨_, rfl, ⟨[], 2, .inl ⟨.inr (by rw [Int.toNat_natCast]; exact hrg), rfl, rfl⟩, rfl⟩, hB01⟩
 rw [decide_eq_true (show (0 ≤ lo ∧ lo ≤ hi ∧ hi < (n : Int)) from hrg)]
 refine dT rfl ?_
 obtain ⟨hrg1, hrg2, hrg3⟩ := id hrg
 obtain ⟨p, rfl⟩ : ∃ p : Nat, lo = (p : Int) := ⟨lo.toNat, by omega⟩
 obtain ⟨q, rfl⟩ : ∃ q : Nat, hi = (q : Int) := ⟨hi.toNat, by omega⟩
 have hll := strat_len7 (kind := kind) hn7
 have hbits := strat_bits kind (n : Int)
 have hreg := strat_reg hst
 rw [Int.toNat_natCast] at hreg
 -- the range's own solution
 obtain ⟨zz, hzz⟩ : ∃ zz : Nat → Rat, ∀ k, k < n → mapp n (nrm (strat kind n)) zz k = rgw p q k := ⟨_, gj_sol (b := rgw p q) hreg⟩
 have hP : ∀ i, i < (strat kind n).length → SysP (strat kind n) n (fun k => rhs (strat kind n) (ratsI (unitI (strat kind n).length i)) k (strat kind n).length) := fun i hi => by
  have := sysB_of (b := fun k => rhs (strat kind n) (ratsI (unitI (strat kind n).length i)) k (strat kind n).length) hst hn7 (fun k _ => by rw [rhs_unit hi]; exact stM_isn hbits i k)
  rw [Int.toNat_natCast] at this
  exact this
 have hsol : ∀ i, i < (strat kind n).length → ∀ x, (∀ k, k < n → mapp n (nrm (strat kind n)) x k = rhs (strat kind n) (ratsI (unitI (strat kind n).length i)) k (strat kind n).length) → (∀ k, k < n → Small 12 (x k)) ∧ rsum x ((p : Int), (q : Int)) = mapp n (stM (strat kind n)) zz i := fun i hi x hx => by
  have hx' : ∀ k, k < n → mapp n (nrm (strat kind n)) x k = stM (strat kind n) i k := fun k hk => by rw [hx k hk, rhs_unit hi]
  refine ⟨?_, ?_⟩
  ·have := stsol_bits hst hn7 (b := stM (strat kind n) i) (fun k _ => stM_isn hbits i k) x (by rw [Int.toNat_natCast]; exact hx')
   rw [Int.toNat_natCast] at this
   exact this
  ·rw [← weight_eq (m := (strat kind n).length) (f := stM (strat kind n)) (w := rgw p q) (z := zz) (x := x) (i := i) hzz hx', rgw_sum (by omega) (by omega)]
   unfold rsum
   simp only [Int.toNat_natCast]
   rw [show ((q : Int) - (p : Int) + 1).toNat = q - p + 1 by omega]
 have hpart : ∀ i, i < (strat kind n).length → ∀ k, k < n → ∀ j, j ≤ (strat kind n).length → Small 15 (rhs (strat kind n) (ratsI (unitI (strat kind n).length i)) k j) := fun i hi k _ j hj => isn_small (rhs_isn (B := 1) (M := 13) (K := 13) hll (unitI_wthn _ _ hi) (by omega) k j hj) (by omega) (by omega)
 have hgoal : SpdS kind n p q (qtext (sm (strat kind n).length (fun i => mapp n (stM (strat kind n)) zz i * mapp n (stM (strat kind n)) zz i))) 0 := by
  refine .inr ⟨hst, by rw [Int.toNat_natCast]; exact hrg, rfl, zz, ?_, ?_⟩
  ·rw [Int.toNat_natCast, Int.toNat_natCast, Int.toNat_natCast]; exact hzz
  ·rw [Int.toNat_natCast, Int.toNat_natCast, Int.toNat_natCast, spread_sq (m := (strat kind n).length) (f := stM (strat kind n)) (w := rgw p q) (z := zz) hzz]
 generalize strat kind (n : Int) = rows at *
 -- the weights' digits
 obtain ⟨wt, hwt⟩ : ∃ wt : Nat → Rat, wt = fun i => mapp n (stM rows) zz i := ⟨_, rfl⟩
 have hwq : ∀ i, mapp n (stM rows) zz i = wt i := fun i => by rw [hwt]
 simp only [hwq] at hsol hgoal
 have hn0 : 0 < n := by omega
 have hws : ∀ i, i < rows.length → Small 92 (wt i) := fun i hi => by
  have hfs := hP i hi
  obtain ⟨x, hx⟩ : ∃ x : Nat → Rat, ∀ k, k < n → mapp n (nrm rows) x k = rhs rows (ratsI (unitI rows.length i)) k rows.length := ⟨_, gj_sol (b := fun k => rhs rows (ratsI (unitI rows.length i)) k rows.length) hreg⟩
  obtain ⟨h1, h2⟩ := hsol i hi x hx
  rw [← h2]
  unfold rsum
  simp only [Int.toNat_natCast]
  rw [show ((q : Int) - (p : Int) + 1).toNat = q - p + 1 by omega]
  exact small_mono (sm_small1 (K := 12) (n := q - p + 1) (fun j hj => h1 (p + j) (by omega)) _ (Nat.le_refl _)) (by omega)
 have hsq : ∀ i, i < rows.length → Small 184 (wt i * wt i) := fun i hi => small_mono (small_mul (hws i hi) (hws i hi)) (by omega)
 have htot : ∀ i, i ≤ rows.length → Small 4000 (sm i (fun i => wt i * wt i)) := fun i hi => small_mono (sm_small1 (K := 184) (n := i) (fun j hj => hsq j (by omega)) i (Nat.le_refl _)) (by omega)
 refine loopR (fun fr w' mm => ∃ (i : Nat), fr = [(2, .int .i64 (p : Nat)), (3, .int .i64 (q : Nat)), (10, .slice (some ga) rows.length cr), (11, .string ⟨⟨qtext (sm i (fun i => wt i * wt i))⟩⟩), (12, .int .i64 (i : Nat))] ∧ i ≤ rows.length ∧ Below w0.heap.size w0 w' ∧ mm = rows.length - i)
  ⟨0, rfl, by omega, Below.refl _ _, rfl⟩ (by rw [sm, qtext_zero]; repeat' (first | exact True.intro | exact rfl | exact iv (by omega) | refine ⟨?_, ?_⟩)) ?_
 rintro fr w1 mm ⟨i, rfl, hi, hB1, rfl⟩
 refine dT rfl ?_
 refine cS rfl rfl rfl rfl (fun hqi => ?_) (fun hqi => ?_)
 ·have hil : i < rows.length := by omega
  refine dT rfl ?_
  refine mkn U rfl rfl rfl rfl rfl rfl rfl rows.length rfl rfl (by omega) (by omega) w1.heap.size (Nat.le_refl _) ?_
  intro a2 w2 ho2 hg2
  have hB2 := hB1.grown hg2 hB1.size (fun k e => by cases e)
  rw [ivs_zero] at ho2
  refine dT rfl ?_
  refine is U (v := (.int .i64 1)) rfl rfl rfl rfl rfl rfl rfl (fun _ => rfl) (fun _ => rfl) (fun _ => rfl) rfl rfl i rfl hil ho2 ?_
  intro p3 w3 ho3 hg3 hs3
  have hB3 := hB2.grown hg3 hB2.size (fun g e => by have := (own_block ho2 g e).1; have := hB1.size; omega)
  rw [ivs_set] at ho3
  have ho3 : Sl w3 a2 (ivs (unitI rows.length i)) := own_sl ho3
  have hnum := gnumbers_calls (unitI rows.length i) (by rw [unitI_len]; omega) (fun k => by rw [unitI_get hil]; split <;> omega) a2 rows.length w3 ho3
  rw [unitI_len] at hnum
  refine dT rfl ?_
  refine call (f := 70) rfl rfl cb70 hnum ?_
  rintro v w4 ⟨⟨a4, c4, rfl, ho4⟩, hB34⟩
  have hB4 := bl_tr hB3 hB34 hB3.size
  refine ⟨_, rfl, ?_⟩
  refine call (f := 69) rfl rfl cb69 (gfit_calls rows n (ratsI (unitI rows.length i)) _ (fun _ => rfl) (hP i hil) (fun j _ => small_mono (ratsI_small (unitI_wthn rows.length i hil) (by omega) j) (by omega)) (hpart i hil) (some ga) a4 cr c4 w4 (hOs.stay hB4) ⟨a4, c4, by rw [txs_length], own_sl ho4⟩) ?_
  rintro v w5 ⟨⟨x, ax, cx, hx1, hx2, rfl, hx3, hx4⟩, hB45⟩
  have hB5 := bl_tr hB4 hB45 hB4.size
  obtain ⟨hxs, hxw⟩ := hsol i hil x hx1
  refine ⟨_, rfl, ?_⟩
  refine dT rfl ?_
  refine bdp rfl rfl rfl rfl ?_
  refine bsS U [[.int .i64 (p : Nat), .int .i64 (q : Nat)]] rfl rfl rfl rfl rfl rfl (by decide) (by decide) (by intro cs h; simp at h; subst h; rfl) ?_
  intro w6 hk6 hs6 hg6
  have hB56 : Below w5.heap.size w5 w6 := (Below.refl _ _).grown hg6 (Nat.le_refl _) (fun k e => by cases e)
  have hB6 := bl_tr hB5 hB56 hB5.size
  have hp6 := litp_bk (n := 1) (c := 1) (rs := [((p : Int), (q : Int))]) hk6 rfl rfl
  refine dT rfl ?_
  refine call (f := 29) rfl rfl cb29 (g28ans_x (ansS_txs hn0 (by omega) hx2 (by simp) (by intro r hr; simp at hr; subst hr; exact hrg)) (by simp) (txs_lenv (by omega) hx2) (fun _ => ans_small hxs (by omega)) (fun _ => ans_fit hxs (by omega) (by omega)) _ _ _ _ _ _ w6 hp6 (hx3.stay hB56)) ?_
  rintro v w7 ⟨⟨a7, c7, rfl, hl7⟩, hB67⟩
  have hB7 := bl_tr hB6 hB67 hB6.size
  rw [show (List.map (fun r => qtext (rsum x r)) [((p : Int), (q : Int))]).length = 1 from rfl] at hl7 ⊢
  simp only [List.map_cons, List.map_nil, hxw] at hl7
  have hS7 := hl7.sl.1
  obtain ⟨g7, o7, rfl, _⟩ := hS7 0 (.string ⟨⟨qtext (wt i)⟩⟩) rfl
  refine ⟨_, rfl, ?_⟩
  refine dT rfl ?_
  refine dwn 11 (fun W => Sl W (some ⟨g7, o7, none⟩) (strs [qtext (wt i)])) hmo ?_
  intro w8 hh8 hg8
  have hB78 : Below w7.heap.size w7 w8 := (Below.refl _ _).grown hg8 (Nat.le_refl _) (fun k e => by cases e)
  have hC8 := hS7.stay hB78
  have hl0 : ∀ W, Sl W (some ⟨g7, o7, none⟩) (strs [qtext (wt i)]) → (loadVar 35 ((⟨g7, o7, none⟩ : Addr).add ((0 : Int).toNat * 1))).run Tryz.prog W = .ok (.string ⟨⟨qtext (wt i)⟩⟩) W := fun W h => run_load_cell U rfl (by simpa [add_plain] using slc2 h (i := 0) (v := .string ⟨⟨qtext (wt i)⟩⟩) rfl)
  refine dq U [0,1,2,3,4,5] [(2, .string ⟨⟨qtext (wt i)⟩⟩), (5, .string ⟨⟨qtext (wt i)⟩⟩)] (by kernel_rfl) rfl rfl hC8 (by simp only [AllP, InR, List.nil_append, List.cons_append]; (repeat' apply And.intro); all_goals first | exact True.intro | omega | (with_reducible exact hl0)) ?_
  refine d1 rfl rfl (fun _ => hC8) ?_
  refine call (f := 67) rfl rfl cb67 (rmul_q (small_mono (hws i hil) (by omega)) (small_mono (hws i hil) (by omega)) (small_mono (hsq i hil) (by omega)) w8) ?_
  rintro v w9 ⟨rfl, hB89⟩
  have hB79 := bl_tr hB78 hB89 hB78.size
  have hC9 := hS7.stay hB79
  refine ⟨_, rfl, d2 ?_⟩
  refine dqS [7,8,9,10] [] rfl rfl hC9 ?_
  refine d1 rfl rfl (fun _ => hC9) ?_
  refine dT rfl ?_
  refine d3 ?_; refine dend rfl (fun h => by cases h) ?_
  have hB9 := bl_tr hB7 hB79 hB7.size
  refine dT rfl ?_
  refine call (f := 23) rfl rfl cb23 (radd_q (htot i hi) (small_mono (hsq i hil) (by omega)) (htot (i + 1) hil) w9) ?_
  rintro v w10 ⟨rfl, hB910⟩
  refine ⟨_, rfl, ?_⟩
  refine dS rfl ?_
  exact rend _ _ ⟨i + 1, rfl, by omega, bl_tr hB9 hB910 hB9.size, rfl⟩ (by omega) (by repeat' (first | exact True.intro | exact rfl | exact iv (by omega) | refine ⟨?_, ?_⟩))
 ·obtain rfl : i = rows.length := by omega
  refine dT rfl ?_
  exact ret Tryz.results30 rfl ⟨_, rfl, ⟨_, _, hgoal, rfl⟩, bl_tr hB01 hB1 hB01.size⟩
end Go.Proofs.YtejlpdbiacmfcaaGreatDoor
