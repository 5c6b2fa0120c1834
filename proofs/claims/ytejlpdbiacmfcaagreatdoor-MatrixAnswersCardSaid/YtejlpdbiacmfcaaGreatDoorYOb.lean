/-
  Walks of the reference's block, same, tree, Strategy, within.
  Conditions: lists have at most 2^40 elements.
  Walks of the reference's Norm and Apply.
  Conditions: rows take at most a million ints.
-/
import Derived.Test.YtejlpdbiacmfcaaGreatDoorYOa
set_option linter.unusedSimpArgs false
set_option linter.unusedVariables false
namespace Go.Proofs.YtejlpdbiacmfcaaGreatDoor
section
set_option maxHeartbeats 4000000
open Go Go.Proofs Go.RowKit Go.Lib

theorem gblock_calls (n s t : Nat) (hn : n ≤ 1000) (ht : t ≤ n) (hs : s ≤ t) (w : World) :
  Calls Tryz.prog 74 #[.int .i64 (n : Nat), .int .i64 (s : Nat), .int .i64 (t : Nat)] w (Ret fun v w' => (∃ a c, v = .slice a n c ∧ OwnIL w' w.heap.size a n c (blkRow n s t)) ∧ Below w.heap.size w w') := by
 refine enter Tryz.func74 rfl Tryz.ntmps74 (Nat.le_of_ble_eq_true rfl) ?_
 refine dT rfl ?_
 refine mkn U rfl rfl rfl rfl rfl rfl rfl n rfl rfl (by omega) (by omega) w.heap.size (Nat.le_refl _) ?_
 intro a w1 ho1 hg1
 have hB1 : Below w.heap.size w w1 := (Below.refl _ _).grown hg1 (Nat.le_refl _) (fun k e => by cases e)
 rw [ivs_zero, ← blkRow_none n s] at ho1
 refine dT rfl ?_
 refine loopR (fun fr w' m => ∃ i : Nat, fr = [(0, .int .i64 (n : Nat)), (1, .int .i64 (s : Nat)), (2, .int .i64 (t : Nat)), (7, .slice a n n), (8, .int .i64 (i : Nat))] ∧ s ≤ i ∧ i ≤ t ∧ OwnIL w' w.heap.size a n n (blkRow n s i) ∧ Below w.heap.size w w' ∧ m = t - i)
  ⟨s, rfl, by omega, by omega, ho1, hB1, rfl⟩ ⟨rfl, rfl, rfl, rfl, rfl, trivial⟩ ?_
 rintro fr w2 m ⟨i, rfl, hsi, hit, ho, hB, rfl⟩
 refine dT rfl ?_
 refine cS rfl rfl rfl rfl (fun hq => ?_) (fun hq => ?_)
 ·have hlt : i < t := by omega
  refine dT rfl ?_
  refine is U (v := (.int .i64 1)) rfl rfl rfl rfl rfl rfl rfl (fun _ => rfl) (fun _ => rfl) (fun _ => rfl) rfl rfl i rfl (by omega) ho ?_
  intro p w3 ho3 hg3 hs3
  have hB3 := hB.grown hg3 hB.size (fun g e => (own_block ho g e).1)
  rw [ivs_set, blkRow_set hsi (by omega)] at ho3
  refine dS rfl ?_
  exact rend _ _ ⟨i + 1, rfl, by omega, by omega, ho3, hB3, rfl⟩ (by omega) ⟨rfl, rfl, rfl, rfl, iv (by omega), trivial⟩
 ·obtain rfl : i = t := by omega
  refine dT rfl ?_
  exact ret Tryz.results74 rfl ⟨_, rfl, ⟨_, _, rfl, ho⟩, hB⟩

theorem gsamei_calls (xs ys : List Int) (a b : Option Addr) (c d : Nat) (w : World) (hx : Sl w a (ivs xs)) (hy : Sl w b (ivs ys)) (hl : xs.length = ys.length) (hxl : xs.length ≤ 1099511627776) :
  Calls Tryz.prog 110 #[.slice a xs.length c, .slice b ys.length d] w (Ret fun v w' => v = .bool (decide (xs = ys)) ∧ Below w.heap.size w w') := by
 refine enter Tryz.func110 rfl Tryz.ntmps110 (Nat.le_of_ble_eq_true rfl) ?_
 refine dT rfl ?_
 refine loopR (fun f w' m => ∃ i : Nat, f = [(0, .slice a xs.length c), (1, .slice b ys.length d), (5, .int .i64 (i : Nat))] ∧ i ≤ xs.length ∧ (∀ j, j < i → xs.getD j 0 = ys.getD j 0) ∧ Below w.heap.size w w' ∧ m = xs.length - i)
  ⟨0, rfl, by omega, fun j hj => absurd hj (by omega), Below.refl _ _, rfl⟩ (by repeat' (first | exact True.intro | exact rfl | exact iv (by omega) | refine ⟨?_, ?_⟩)) ?_
 rintro f w1 m ⟨i, rfl, hi, he, hB, rfl⟩
 refine dT rfl ?_
 refine cS rfl rfl rfl rfl (fun hq => ?_) (fun hq => ?_)
 ·have hix : i < xs.length := by omega
  have hiy : i < ys.length := by omega
  obtain ⟨ga, oa, rfl, _⟩ := hx i _ (ivs_get hix)
  obtain ⟨gb, ob, rfl, _⟩ := hy i _ (ivs_get hiy)
  refine dT rfl ?_
  refine dwn 8 (fun W => Sl W (some ⟨ga, oa, none⟩) (ivs xs) ∧ Sl W (some ⟨gb, ob, none⟩) (ivs ys)) hmo ?_
  intro w2 hh2 hg2
  have hB2 : Below w.heap.size w w2 := hB.grown hg2 hB.size (fun k e => by cases e)
  have hl3 : ∀ W, (Sl W (some ⟨ga, oa, none⟩) (ivs xs) ∧ Sl W (some ⟨gb, ob, none⟩) (ivs ys)) → (loadVar 3 ((⟨ga, oa, none⟩ : Addr).add (((i : Nat) : Int).toNat * 1))).run Tryz.prog W = .ok (.int .i64 (xs.getD i 0)) W := fun W h => run_load_cell U rfl (by simpa [add_plain] using slc2 h.1 (ivs_get hix))
  have hl7 : ∀ W, (Sl W (some ⟨ga, oa, none⟩) (ivs xs) ∧ Sl W (some ⟨gb, ob, none⟩) (ivs ys)) → (loadVar 3 ((⟨gb, ob, none⟩ : Addr).add (((i : Nat) : Int).toNat * 1))).run Tryz.prog W = .ok (.int .i64 (ys.getD i 0)) W := fun W h => run_load_cell U rfl (by simpa [add_plain] using slc2 h.2 (ivs_get hiy))
  refine dq U [0,1,2,3,4,5,6,7] [(3, .int .i64 (xs.getD i 0)), (7, .int .i64 (ys.getD i 0))] (by kernel_rfl) rfl rfl ⟨hx.stay hB2, hy.stay hB2⟩ (by simp only [AllP, InR, List.nil_append, List.cons_append]; (repeat' apply And.intro); all_goals first | exact True.intro | omega | (with_reducible exact hl3) | (with_reducible exact hl7)) ?_
  refine d1 rfl rfl (fun _ => ⟨hx.stay hB2, hy.stay hB2⟩) ?_
  refine cS rfl rfl rfl rfl (fun hq2 => ?_) (fun hq2 => ?_)
  ·refine d2 ?_; refine dend rfl (fun h => by cases h) ?_
   refine dT rfl ?_
   refine ret Tryz.results110 rfl ⟨_, rfl, ?_, hB2⟩
   rw [decide_eq_false (fun h => hq2 (by rw [h]))]; rfl
  ·refine d2 ?_; refine dend rfl (fun h => by cases h) ?_
   refine dS rfl ?_
   refine rend _ _ ⟨i + 1, rfl, by omega, fun j hj => ?_, hB2, rfl⟩ (by omega) (by repeat' (first | exact True.intro | exact rfl | exact iv (by omega) | refine ⟨?_, ?_⟩))
   rcases Nat.lt_succ_iff_lt_or_eq.1 hj with h' | rfl
   ·exact he j h'
   ·exact Classical.not_not.1 hq2
 ·obtain rfl : i = xs.length := by omega
  refine dT rfl ?_
  refine cT rfl rfl rfl (by omega) ?_
  refine dT rfl ?_
  refine ret Tryz.results110 rfl ⟨_, rfl, ?_, hB⟩
  rw [decide_eq_true (ivs_eq hl he)]; rfl

theorem irow_iff {xss : List (List Int)} {r : List Int} : r ∈ xss ↔ ∃ q, q < xss.length ∧ irow xss q = r := by
 constructor
 ·intro h
  obtain ⟨q, hq, rfl⟩ := List.getElem_of_mem h
  exact ⟨q, hq, by simp [irow, List.getD, hq]⟩
 ·rintro ⟨q, hq, rfl⟩
  exact irow_mem hq
theorem gtree_calls (n : Nat) (hn0 : 0 < n) (hn : n ≤ 64) (w : World) :
  Calls Tryz.prog 73 #[.int .i64 (n : Nat)] w (Ret fun v w' => StratR (tree n) w.heap.size v w' ∧ Below w.heap.size w w') := by
 refine enter Tryz.func73 rfl Tryz.ntmps73 (Nat.le_of_ble_eq_true rfl) ?_
 refine dT rfl ?_
 refine loopR (fun fr w' m => ∃ (j : Nat) (a2 : Option Addr) (c2 : Nat), fr = [(0, .int .i64 (n : Nat)), (3, .slice a2 (treeTo n (bpre n j 0)).length c2), (4, .int .i64 ((2 ^ j : Nat) : Int))] ∧ j ≤ lev n ∧ OwnZ w' w.heap.size a2 c2 (treeTo n (bpre n j 0)) ∧ Below w.heap.size w w' ∧ m = lev n - j)
  ⟨0, none, 0, rfl, by omega, by rw [bpre_zero]; exact OwnZ.nil _ _, Below.refl _ _, rfl⟩ ⟨rfl, by rw [bpre_zero]; rfl, iv (by simp), trivial⟩ ?_
 rintro fr w1 m ⟨j, a2, c2, rfl, hj, hO, hB, rfl⟩
 have hpl := pow_lev hn0 hn hj
 have hp0 := two_pos j
 have hps : 2 ^ (j + 1) = 2 * 2 ^ j := by rw [Nat.pow_succ]; omega
 have hlev := lev_lt (n := n) (j := j) hn0
 generalize hsz : 2 ^ j = s at *
 refine dS rfl ?_
 refine cS rfl rfl rfl rfl (fun hq => ?_) (fun hq => ?_)
 ·have hjl : j < lev n := hlev.2 (by omega)
  refine dT rfl ?_
  refine loopR (fun fr w' m => ∃ (k : Nat) (a2 : Option Addr) (c2 : Nat), fr = [(0, .int .i64 (n : Nat)), (3, .slice a2 (treeTo n (bpre n j k)).length c2), (4, .int .i64 (s : Nat)), (5, .int .i64 ((k * s : Nat) : Int))] ∧ k * s < n + s ∧ OwnZ w' w.heap.size a2 c2 (treeTo n (bpre n j k)) ∧ Below w.heap.size w w' ∧ m = n + s - k * s)
   ⟨0, a2, c2, rfl, by omega, hO, hB, rfl⟩ ⟨rfl, rfl, rfl, iv (by omega), trivial⟩ ?_
  rintro fr w2 m ⟨k, a2, c2, rfl, hk, hO, hB, rfl⟩
  have hsc := bpre_succ (n := n) (j := j) (k := k)
  have hnx := bpre_next (n := n) (j := j) (k := k)
  have hle := bpre_le (k := k) hn0 hn hjl
  have htl := treeTo_len n (bpre n j k)
  have hks : (k + 1) * s = k * s + s := Nat.succ_mul k s
  have hrow := fun r (h : r ∈ treeTo n (bpre n j k)) => treeTo_row h
  rw [hsz] at hsc hnx
  generalize hfr : k * s = from_ at *
  refine dT rfl ?_
  refine cS rfl rfl rfl rfl (fun hq => ?_) (fun hq => ?_)
  ·have hlt : from_ < n := by omega
   have hsc := hsc hlt
   have htn : treeTo n (bpre n j (k + 1)) = addRow (treeTo n (bpre n j k)) (blkRow n from_ (min n (from_ + s))) := by rw [hsc, treeTo_snoc]; rfl
   generalize treeTo n (bpre n j k) = out at *
   refine dS rfl ?_
   have hcall := gblock_calls n from_ (min n (from_ + s)) (by omega) (by omega) (by omega) w2
   rw [show ((min n (from_ + s) : Nat) : Int) = min (n : Int) ((from_ : Int) + (s : Int)) by omega] at hcall
   refine call (f := 74) rfl rfl cb74 hcall ?_
   rintro v w3 ⟨⟨a3, c3, rfl, hr3⟩, hB3⟩
   have hO3 := hO.stay hB3
   have hB3' := bl_tr hB hB3 hB.size
   generalize hrr : blkRow n from_ (min n (from_ + s)) = r at *
   have hrl : r.length = n := by rw [← hrr]; exact blkRow_length _ _ _
   refine ⟨_, rfl, ?_⟩
   refine dT rfl ?_
   refine loopR (fun fr w' m => ∃ (i : Nat) (tw : Bool), fr = [(0, .int .i64 (n : Nat)), (3, .slice a2 out.length c2), (4, .int .i64 (s : Nat)), (5, .int .i64 (from_ : Nat)), (6, .slice a3 n c3), (7, .bool tw), (8, .int .i64 (i : Nat))] ∧ i ≤ out.length ∧ (tw = true ↔ ∃ q, q < i ∧ irow out q = r) ∧ Below w3.heap.size w3 w' ∧ m = out.length - i)
    ⟨0, false, rfl, by omega, ⟨fun h => (by cases h), fun ⟨q, hq, _⟩ => absurd hq (by omega)⟩, Below.refl _ _, rfl⟩ ⟨rfl, rfl, rfl, rfl, rfl, rfl, rfl, trivial⟩ ?_
   rintro fr w4 m ⟨i, tw, rfl, hi, htw, hB4, rfl⟩
   refine dT rfl ?_
   refine cS rfl rfl rfl rfl (fun hq => ?_) (fun hq => ?_)
   ·have hil : i < out.length := by omega
    cases tw with
    | true =>
     refine dS rfl ?_
     refine rend _ _ ⟨i + 1, true, rfl, by omega, ⟨fun _ => ?_, fun _ => rfl⟩, hB4, rfl⟩ (by omega) ⟨rfl, rfl, rfl, rfl, rfl, rfl, iv (by omega), trivial⟩
     obtain ⟨q, hq, e⟩ := htw.1 rfl
     exact ⟨q, by omega, e⟩
    | false =>
     have hO4 := (hO3.stay hB4).sz
     obtain ⟨A, C, hSl, hR⟩ := hO4
     have hri := hrow _ (irow_mem hil)
     refine dT rfl ?_
     refine il U rfl rfl rfl rfl rfl rfl rfl (fun _ => rfl) rfl i rfl hil hSl (irws_get hil) ?_
     refine dT rfl ?_
     have hcl := gsamei_calls (irow out i) r (A i) a3 (C i) c3 w4 (hR i hil) ((own_sl hr3).stay hB4) (by rw [hri, hrl]) (by omega)
     rw [hrl] at hcl
     refine call (f := 110) rfl rfl cb110 hcl ?_
     rintro v w5 ⟨rfl, hB5⟩
     refine ⟨_, rfl, ?_⟩
     refine dS rfl ?_
     refine rend _ _ ⟨i + 1, decide (irow out i = r), rfl, by omega, ⟨fun h => ⟨i, by omega, of_decide_eq_true h⟩, fun ⟨q, hq, e⟩ => ?_⟩, bl_tr hB4 hB5 hB4.size, rfl⟩ (by omega) ⟨rfl, rfl, rfl, rfl, rfl, rfl, iv (by omega), trivial⟩
     rcases Nat.lt_succ_iff_lt_or_eq.1 hq with h' | rfl
     ·exact absurd (htw.2 ⟨q, h', e⟩) (by decide)
     ·exact decide_eq_true e
   ·obtain rfl : i = out.length := by omega
    have hB4' := bl_tr hB3' hB4 hB3'.size
    have hO4 := hO3.stay hB4
    have hmem := htw.trans irow_iff.symm
    cases tw with
    | true =>
     rw [addRow, if_pos (hmem.1 rfl)] at htn
     refine dS rfl ?_
     exact rend _ _ ⟨k + 1, a2, c2, rfl, by omega, by rw [htn]; exact hO4, hB4', rfl⟩ (by omega) ⟨rfl, by rw [htn]; rfl, rfl, iv (by omega), trivial⟩
    | false =>
     rw [addRow, if_neg (fun h => absurd (hmem.2 h) (by decide))] at htn
     obtain ⟨A, C, ho, h2⟩ := hO4
     have hr4 := own_bw hr3 hB4
     refine dT rfl ?_
     refine ap U (v := (.slice a3 n c3)) rfl rfl rfl rfl rfl rfl (fun _ => rfl) rfl (fun _ => rfl) rfl rfl rfl ho hB4'.size (by omega) (by decide) ?_
     intro a9 c9 w9 ho9 hg9
     have hB9 := hB4'.grown hg9 hB4'.size (fun g e => (own_block ho g e).1)
     have hO9 := OwnZ.snoc (xss := out) (xs := r) (a := a2) (c := c2) (d := c3) (w := w4) (w' := w9) ho h2 (own_sl hr4) (own_tag hr4) hg9 (by rw [hrl]; exact ho9)
     rw [← htn] at hO9
     refine dS rfl ?_
     exact rend _ _ ⟨k + 1, a9, c9, rfl, by omega, hO9, hB9, rfl⟩ (by omega) ⟨rfl, by rw [htn, List.length_append, List.length_singleton]; rfl, rfl, iv (by omega), trivial⟩
  ·rw [hnx (by omega)] at hO ⊢
   refine dS rfl ?_
   exact rend _ _ ⟨j + 1, a2, c2, rfl, by omega, hO, hB, rfl⟩ (by omega) ⟨rfl, rfl, iv (by omega), trivial⟩
 ·obtain rfl : j = lev n := by
   rcases Nat.lt_or_ge j (lev n) with h | h
   ·have := hlev.1 h; omega
   ·omega
  rw [bpre_all] at hO ⊢
  refine dT rfl ?_
  refine ret Tryz.results73 rfl ⟨_, rfl, ⟨a2, c2, rfl, hO, fun e => ?_⟩, hB⟩
  have h := strat_empty (kind := 2) (n := n) hn0 hn (by omega)
  rw [strat_tr ⟨by omega, hn⟩] at h
  exact absurd e h

theorem gstrat_calls (kind n : Int) (w : World) :
  Calls Tryz.prog 34 #[.int .i64 kind, .int .i64 n] w (Ret fun v w' => StratR (strat kind n) w.heap.size v w' ∧ Below w.heap.size w w') := by
 refine enter Tryz.func34 rfl Tryz.ntmps34 (Nat.le_of_ble_eq_true rfl) ?_
 refine dT rfl ?_
 refine cS rfl rfl rfl rfl (fun hq1 => ?_) (fun hq1 => ?_)
 ·refine dT rfl ?_
  refine ret Tryz.results34 rfl ⟨_, rfl, ?_, Below.refl _ _⟩
  rw [strat_out (.inl hq1)]; exact StratR.nil _ _
 refine dT rfl ?_
 refine cS rfl rfl rfl rfl (fun hq2 => ?_) (fun hq2 => ?_)
 ·refine dT rfl ?_
  refine ret Tryz.results34 rfl ⟨_, rfl, ?_, Below.refl _ _⟩
  rw [strat_out (.inr hq2)]; exact StratR.nil _ _
 refine dT rfl ?_
 refine cS rfl rfl rfl rfl (fun hq3 => ?_) (fun hq3 => ?_)
 ·refine dT rfl ?_
  refine ret Tryz.results34 rfl ⟨_, rfl, ?_, Below.refl _ _⟩
  rw [strat_no (by omega) (by omega) (by omega)]; exact StratR.nil _ _
 refine dT rfl ?_
 refine cS rfl rfl rfl rfl (fun hq4 => ?_) (fun hq4 => ?_)
 ·refine dT rfl ?_
  refine ret Tryz.results34 rfl ⟨_, rfl, ?_, Below.refl _ _⟩
  rw [strat_no (by omega) (by omega) (by omega)]; exact StratR.nil _ _
 obtain ⟨m, rfl⟩ : ∃ m : Nat, n = (m : Int) := ⟨n.toNat, by omega⟩
 have h1 : 1 ≤ m := by omega
 have h64 : m ≤ 64 := by omega
 refine dT rfl ?_
 refine cS rfl rfl rfl rfl (fun hq5 => ?_) (fun hq5 => ?_)
 ·subst hq5
  refine dT rfl ?_
  refine call (f := 73) rfl rfl cb73 (gtree_calls m (by omega) h64 w) ?_
  rintro v w1 ⟨hS, hB1⟩
  refine ⟨_, rfl, ?_⟩
  refine dT rfl ?_
  refine ret Tryz.results34 rfl ⟨_, rfl, ?_, hB1⟩
  rw [strat_tr ⟨h1, h64⟩]; exact hS
 refine dT rfl ?_
 obtain ⟨g, hg0, hg1⟩ : ∃ g : Nat → List Int, (kind = 0 → g = fun i => blkRow m i (i + 1)) ∧ (kind ≠ 0 → g = fun i => blkRow m 0 (i + 1)) := by
  by_cases h : kind = 0
  ·exact ⟨_, fun _ => rfl, fun h' => absurd h h'⟩
  ·exact ⟨_, fun h' => absurd h' h, fun _ => rfl⟩
 have hstr : strat kind m = rowsTo g m := by
  by_cases h : kind = 0
  ·subst h; rw [hg0 rfl]; exact strat_id ⟨h1, h64⟩
  ·obtain rfl : kind = 1 := by omega
   rw [hg1 h]; exact strat_pr ⟨h1, h64⟩
 refine loopR (fun fr w' mm => ∃ (i : Nat) (a2 : Option Addr) (c2 : Nat), fr = [(0, .int .i64 kind), (1, .int .i64 (m : Nat)), (5, .slice a2 i c2), (6, .int .i64 (i : Nat))] ∧ i ≤ m ∧ OwnZ w' w.heap.size a2 c2 (rowsTo g i) ∧ Below w.heap.size w w' ∧ mm = m - i)
  ⟨0, none, 0, rfl, by omega, OwnZ.nil _ _, Below.refl _ _, rfl⟩ (by repeat' (first | exact True.intro | exact rfl | exact iv (by omega) | refine ⟨?_, ?_⟩)) ?_
 rintro fr w1 mm ⟨i, a2, c2, rfl, hi, hO, hB, rfl⟩
 refine dT rfl ?_
 refine cS rfl rfl rfl rfl (fun hq6 => ?_) (fun hq6 => ?_)
 ·have him : i < m := by omega
  refine dT rfl ?_
  refine cS rfl rfl rfl rfl (fun hq7 => ?_) (fun hq7 => ?_)
  ·have hgi : g i = blkRow m i (i + 1) := by rw [hg0 hq7]
   refine dS rfl ?_
   refine call (f := 74) rfl rfl cb74 (gblock_calls m i (i + 1) (by omega) (by omega) (by omega) w1) ?_
   rintro v w2 ⟨⟨a3, c3, rfl, hr3⟩, hB2⟩
   have hB2' := bl_tr hB hB2 hB.size
   have hO2 := hO.stay hB2
   obtain ⟨A, C, ho, h2⟩ := hO2
   rw [rowsTo_len] at ho h2
   refine ⟨_, rfl, ?_⟩
   refine ap U (v := (.slice a3 m c3)) rfl rfl rfl rfl rfl rfl (fun _ => rfl) rfl (fun _ => rfl) rfl rfl rfl ho hB2'.size (by omega) (by decide) ?_
   intro a9 c9 w9 ho9 hg9
   have hB9 := hB2'.grown hg9 hB2'.size (fun g e => (own_block ho g e).1)
   have hO9 := OwnZ.snoc (xss := rowsTo g i) (xs := g i) (a := a2) (c := c2) (d := c3) (w := w2) (w' := w9) (by rw [rowsTo_len]; exact ho) (fun j hj => h2 j (by rw [rowsTo_len] at hj; exact hj)) (by rw [hgi]; exact own_sl hr3) (own_tag hr3) hg9 (by rw [rowsTo_len, hgi, blkRow_length]; exact ho9)
   rw [rowsTo_snoc] at hO9
   refine dS rfl ?_
   exact rend _ _ ⟨i + 1, a9, c9, rfl, by omega, hO9, hB9, rfl⟩ (by omega) (by repeat' (first | exact True.intro | exact rfl | exact iv (by omega) | refine ⟨?_, ?_⟩))
  ·have hgi : g i = blkRow m 0 (i + 1) := by rw [hg1 hq7]
   refine dS rfl ?_
   refine call (f := 74) rfl rfl cb74 (gblock_calls m 0 (i + 1) (by omega) (by omega) (by omega) w1) ?_
   rintro v w2 ⟨⟨a3, c3, rfl, hr3⟩, hB2⟩
   have hB2' := bl_tr hB hB2 hB.size
   have hO2 := hO.stay hB2
   obtain ⟨A, C, ho, h2⟩ := hO2
   rw [rowsTo_len] at ho h2
   refine ⟨_, rfl, ?_⟩
   refine ap U (v := (.slice a3 m c3)) rfl rfl rfl rfl rfl rfl (fun _ => rfl) rfl (fun _ => rfl) rfl rfl rfl ho hB2'.size (by omega) (by decide) ?_
   intro a9 c9 w9 ho9 hg9
   have hB9 := hB2'.grown hg9 hB2'.size (fun g e => (own_block ho g e).1)
   have hO9 := OwnZ.snoc (xss := rowsTo g i) (xs := g i) (a := a2) (c := c2) (d := c3) (w := w2) (w' := w9) (by rw [rowsTo_len]; exact ho) (fun j hj => h2 j (by rw [rowsTo_len] at hj; exact hj)) (by rw [hgi]; exact own_sl hr3) (own_tag hr3) hg9 (by rw [rowsTo_len, hgi, blkRow_length]; exact ho9)
   rw [rowsTo_snoc] at hO9
   refine dS rfl ?_
   exact rend _ _ ⟨i + 1, a9, c9, rfl, by omega, hO9, hB9, rfl⟩ (by omega) (by repeat' (first | exact True.intro | exact rfl | exact iv (by omega) | refine ⟨?_, ?_⟩))
 ·obtain rfl : i = m := by omega
  refine dT rfl ?_
  refine ret Tryz.results34 rfl ⟨_, rfl, ?_, hB⟩
  rw [hstr]
  exact ⟨a2, c2, by rw [rowsTo_len]; rfl, hO, fun e => by have := congrArg List.length e; rw [rowsTo_len] at this; simp at this; omega⟩

theorem gwithin_calls (l : List Int) (B : Int) (hB : 0 ≤ B ∧ B ≤ 1000000000000) (hl : l.length ≤ 1099511627776) (a : Option Addr) (c : Nat) (w : World) (hs : Sl w a (ivs l)) :
  Calls Tryz.prog 68 #[.slice a l.length c, .int .i64 B] w (Ret fun v w' => v = .bool (decide (Wthn l B)) ∧ Below w.heap.size w w') := by
 refine enter Tryz.func68 rfl Tryz.ntmps68 (Nat.le_of_ble_eq_true rfl) ?_
 refine dT rfl ?_
 refine loopR (fun fr w' m => ∃ i : Nat, fr = [(0, .slice a l.length c), (1, .int .i64 B), (5, .int .i64 (i : Nat))] ∧ i ≤ l.length ∧ (∀ j, j < i → -B ≤ l.getD j 0 ∧ l.getD j 0 ≤ B) ∧ w = w' ∧ m = l.length - i)
  ⟨0, rfl, by omega, fun j hj => absurd hj (by omega), rfl, rfl⟩ (by repeat' (first | exact True.intro | exact rfl | exact iv (by omega) | refine ⟨?_, ?_⟩)) ?_
 rintro fr w1 m ⟨i, rfl, hi, hin, rfl, rfl⟩
 refine dT rfl ?_
 refine cS rfl rfl rfl rfl (fun hq => ?_) (fun hq => ?_)
 ·have hil : i < l.length := by omega
  have hnw : ¬ (-B ≤ l.getD i 0 ∧ l.getD i 0 ≤ B) → ¬ Wthn l B := fun h hw => h (hw _ (by simp [List.getD, hil]))
  refine dT rfl ?_
  refine il U rfl rfl rfl rfl rfl rfl rfl (fun _ => rfl) rfl i rfl hil hs (ivs_get hil) ?_
  refine dS rfl ?_
  refine cS rfl rfl rfl rfl (fun hq2 => ?_) (fun hq2 => ?_)
  ·refine dT rfl ?_
   exact ret Tryz.results68 rfl ⟨_, rfl, by rw [decide_eq_false (hnw (by omega))]; rfl, Below.refl _ _⟩
  refine dT rfl ?_
  refine il U rfl rfl rfl rfl rfl rfl rfl (fun _ => rfl) rfl i rfl hil hs (ivs_get hil) ?_
  refine dT rfl ?_
  refine cS rfl rfl rfl rfl (fun hq3 => ?_) (fun hq3 => ?_)
  ·refine dT rfl ?_
   exact ret Tryz.results68 rfl ⟨_, rfl, by rw [decide_eq_false (hnw (by omega))]; rfl, Below.refl _ _⟩
  refine dS rfl ?_
  refine rend _ _ ⟨i + 1, rfl, by omega, fun j hj => ?_, rfl, rfl⟩ (by omega) (by repeat' (first | exact True.intro | exact rfl | exact iv (by omega) | refine ⟨?_, ?_⟩))
  rcases Nat.lt_succ_iff_lt_or_eq.1 hj with h' | rfl
  ·exact hin j h'
  ·omega
 ·obtain rfl : i = l.length := by omega
  refine dT rfl ?_
  have hW : Wthn l B := fun x hx => by
   obtain ⟨j, hj, rfl⟩ := List.getElem_of_mem hx
   have := hin j hj
   simpa [List.getD, hj] using this
  refine ret Tryz.results68 rfl ⟨_, rfl, ?_, Below.refl _ _⟩
  rw [decide_eq_true hW]
  rfl
end
section
set_option maxHeartbeats 4000000
set_option maxRecDepth 100000
open Go Go.Proofs Go.RowKit Go.Lib
end
end Go.Proofs.YtejlpdbiacmfcaaGreatDoor
