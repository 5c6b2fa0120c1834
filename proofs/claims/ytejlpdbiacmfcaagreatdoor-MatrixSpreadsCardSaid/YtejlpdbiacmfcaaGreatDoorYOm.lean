/-
  The law MatrixSpreads: it returns true for every input.
  Conditions: the library's table of powers of ten is laid.
-/
import Derived.Test.YtejlpdbiacmfcaaGreatDoorYOa
set_option linter.unusedSimpArgs false
set_option linter.unusedVariables false
set_option maxHeartbeats 8000000
set_option maxRecDepth 100000
namespace Go.Proofs.YtejlpdbiacmfcaaGreatDoor
open Go Go.Proofs Go.RowKit Go.Lib

theorem qtext_two : qtext 2 = [50] := by have := qtext_nat 2; rw [decDigits_one (by omega)] at this; simpa using this
theorem rgw_small {K : Nat} (hK : 1 ≤ K) {lo hi k : Nat} {x : Rat} (h : Small K x) : Small K (rgw lo hi k * x) := by
  unfold rgw
  by_cases e : lo ≤ k ∧ k ≤ hi
  · rw [if_pos e, Rat.one_mul]; exact h
  · rw [if_neg e, Rat.zero_mul]; exact small_mono small_zero hK
theorem mspd_ex (kind : Int) (n lo hi : Nat) (hs : strat kind n ≠ []) (hn : n ≤ 7) (h1 : lo ≤ hi) (h2 : hi < n) (w : World) (ht : TabOk w) :
    Calls Tryz.prog 14 #[.int .i64 kind, .int .i64 (n : Nat), .int .i64 (lo : Nat), .int .i64 (hi : Nat)] w (Ret fun v w' => (∃ z : Nat → Rat, v = .tuple ⟨[.string ⟨⟨qtext (sm n (fun k => rgw lo hi k * z k))⟩⟩, .int .i64 0]⟩ ∧ (∀ k, k < n → mapp n (nrm (strat kind n)) z k = rgw lo hi k) ∧ Small 4000 (sm n (fun k => rgw lo hi k * z k))) ∧ Below w.heap.size w w') := by
  refine (mspd_calls kind n lo hi (by omega) w ht).mono ?_
  rintro _ w' ⟨v, rfl, ⟨t, e, hE, rfl⟩, hB⟩
  have hr : Rgd (n : Int).toNat ((lo : Int), (hi : Int)) := ⟨by show (0 : Int) ≤ lo; omega, by show (lo : Int) ≤ hi; omega, by show (hi : Int) < ((n : Int).toNat : Int); omega⟩
  rcases hE with ⟨h | h, _⟩ | ⟨_, _, rfl, z, hz, rfl⟩
  · exact absurd h hs
  · exact absurd hr h
  · have hb := stsol_bits hs (by omega) (fun i _ => rgw_isn _ _ i) z hz
    simp only [Int.toNat_natCast] at hz hb ⊢
    refine ⟨_, rfl, ⟨z, rfl, hz, ?_⟩, hB⟩
    exact small_mono (sm_small1 (K := 12) (fun k hk => rgw_small (by omega) (hb k hk)) n (Nat.le_refl _)) (by omega)
theorem matrixSpreads_calls (z1 z2 z3 z4 : Int)
    (hz1 : -9223372036854775808 ≤ z1 ∧ z1 ≤ 9223372036854775807) (hz2 : -9223372036854775808 ≤ z2 ∧ z2 ≤ 9223372036854775807) (hz3 : -9223372036854775808 ≤ z3 ∧ z3 ≤ 9223372036854775807) (hz4 : -9223372036854775808 ≤ z4 ∧ z4 ≤ 9223372036854775807) (w : World) (ht : TabOk w) :
    Calls Tryz.prog 6 #[.int .i64 z1, .int .i64 z2, .int .i64 z3, .int .i64 z4] w (Ret fun v w' => v = .bool true ∧ Below w.heap.size w w') := by
  refine enter Tryz.func6 rfl Tryz.ntmps6 (Nat.le_of_ble_eq_true rfl) ?_
  refine dr U 600 rfl trivial ?_
  refine call (f := 9) rfl rfl cb9 (lives28_calls w ht) ?_
  rintro v w1 ⟨rfl, hB1⟩
  refine ⟨_, rfl, ?_⟩
  refine dr U 600 rfl trivial ?_
  refine call (f := 18) rfl rfl cb18 (pick_calls z1 6 (by omega) (by omega) w1) ?_
  rintro v _ ⟨⟨n', rfl, hn'⟩, rfl⟩
  refine ⟨_, rfl, ?_⟩
  refine dr U 600 rfl (by first | exact True.intro | (simp only [AllP, InR, List.nil_append, List.cons_append, and_true]; omega)) ?_
  obtain ⟨n, hn0, hn6, en⟩ : ∃ n : Nat, 0 < n ∧ n ≤ 6 ∧ (1 + (n' : Int) : Int) = ((n : Nat) : Int) := ⟨1 + n', by omega, by omega, by omega⟩
  rw [en]
  refine call (f := 18) rfl rfl cb18 (pick_calls z2 n (by omega) (by omega) w1) ?_
  rintro v _ ⟨⟨lo, rfl, hlo⟩, rfl⟩
  refine ⟨_, rfl, ?_⟩
  refine dr U 600 rfl (by first | exact True.intro | (simp only [AllP, InR, List.nil_append, List.cons_append, and_true]; omega)) ?_
  have hpk := pick_calls z3 (n - lo) (by omega) (by omega) w1
  rw [show ((n - lo : Nat) : Int) = (n : Int) - (lo : Int) by omega] at hpk
  refine call (f := 18) rfl rfl cb18 hpk ?_
  rintro v _ ⟨⟨q', rfl, hq'⟩, rfl⟩
  refine ⟨_, rfl, ?_⟩
  refine dr U 600 rfl (by first | exact True.intro | (simp only [AllP, InR, List.nil_append, List.cons_append, and_true]; omega)) ?_
  obtain ⟨hi, hlh, hhn, eq_⟩ : ∃ hi : Nat, lo ≤ hi ∧ hi < n ∧ (lo : Int) + (q' : Int) = ((hi : Nat) : Int) := ⟨lo + q', by omega, by omega, by omega⟩
  rw [eq_]
  have hst0 := strat_empty (kind := 0) (n := n) hn0 (by omega) (by omega)
  have hst1 := strat_empty (kind := 1) (n := n) hn0 (by omega) (by omega)
  have hst := strat_empty (kind := 2) (n := n) hn0 (by omega) (by omega)
  have hpos := List.length_pos_iff.2 hst
  have hml := strat_len6 (kind := 2) (n := (n : Int)) (by omega)
  have hrowl : ∀ i, i < (strat 2 n).length → (irow (strat 2 n) i).length = n := fun i hi => strat_length (irow_mem hi)
  refine call (f := 14) rfl rfl cb14 (mspd_ex 0 n lo hi hst0 (by omega) hlh hhn w1 (ht.below hB1)) ?_
  rintro v w2 ⟨⟨z0, rfl, hz0, hs0⟩, hB2⟩
  have hB2' := bl_tr hB1 hB2 hB1.size
  have e0 : strat 0 n = idRows n := by rw [strat_id ⟨by omega, by omega⟩]; rfl
  rw [e0] at hz0
  rw [spread_cells hn0 (by omega) hlh hhn hz0] at hs0 ⊢
  refine ⟨_, rfl, ?_⟩
  refine dr U 600 rfl trivial ?_
  refine call (f := 14) rfl rfl cb14 (mspd_ex 1 n lo hi hst1 (by omega) hlh hhn w2 (ht.below hB2')) ?_
  rintro v w3 ⟨⟨z1', rfl, hz1', hs1⟩, hB3⟩
  have hB3' := bl_tr hB2' hB3 hB2'.size
  have e1 : strat 1 n = preRows n := by rw [strat_pr ⟨by omega, by omega⟩]; rfl
  rw [e1] at hz1'
  rw [spread_prefix hn0 (by omega) hlh hhn hz1'] at hs1 ⊢
  refine ⟨_, rfl, ?_⟩
  refine dr U 600 rfl trivial ?_
  refine call (f := 14) rfl rfl cb14 (mspd_ex 2 n lo hi hst (by omega) hlh hhn w3 (ht.below hB3')) ?_
  rintro v w4 ⟨⟨z2', rfl, hz2', hs2⟩, hB4⟩
  have hB4' := bl_tr hB3' hB4 hB3'.size
  have hle2 : cmpQ (sm n (fun k => rgw lo hi k * z2' k)) ((hi - lo + 1 : Nat) : Rat) ≤ 0 := by
    rw [strat_tr ⟨by omega, by omega⟩] at hz2'
    exact cmpQ_le (spread_tree hlh hhn hz2')
  have hlt2 : cmpQ 0 (sm n (fun k => rgw lo hi k * z2' k)) < 0 := cmpQ_lt (spread_pos (f := stM (strat 2 n)) (m := (strat 2 n).length) hz2' (k := lo) (by omega) (by unfold rgw; rw [if_pos ⟨Nat.le_refl _, hlh⟩]; decide))
  generalize sm n (fun k => rgw lo hi k * z2' k) = s2 at *
  refine ⟨_, rfl, ?_⟩
  refine dr U 600 rfl trivial ?_
  refine call (f := 11) rfl rfl cb11 (mstrat_calls 2 n w4) ?_
  rintro v w5 ⟨⟨ae, ce, rfl, hO5, _⟩, hB5⟩
  have hB5' := bl_tr hB4' hB5 hB4'.size
  have hS5 := hO5.sz
  refine ⟨_, rfl, ?_⟩
  refine dr U 600 rfl trivial ?_
  refine call (f := 22) rfl rfl cb22 (shaped_calls (strat 2 n) n hpos (by omega) hrowl ae ce w5 hS5) ?_
  rintro v _ ⟨rfl, rfl⟩
  refine ⟨_, rfl, ?_⟩
  refine dr U 600 rfl trivial ?_
  refine call (f := 18) rfl rfl cb18 (pick_calls z4 (strat 2 n).length (by omega) (by omega) w5) ?_
  rintro v _ ⟨⟨at_, rfl, hat⟩, rfl⟩
  refine ⟨_, rfl, ?_⟩
  obtain ⟨A, C, hSl, hR⟩ := hS5
  refine il U rfl rfl rfl rfl rfl rfl rfl (fun _ => rfl) rfl at_ rfl hat hSl (irws_get hat) ?_
  have hRr := hR at_ hat
  obtain ⟨a, b, hab, hbn, hrow⟩ := strat_row (irow_mem hat)
  have hgr : (strat 2 n).getD at_ [] = blkRow n a (b - 1 + 1) := by rw [show b - 1 + 1 = b by omega]; exact hrow
  rw [hrowl at_ hat]
  rw [hrow] at hRr
  refine dr U 600 rfl trivial ?_
  refine loopR (fun fr w' m => ∃ i : Nat, fr = [(0, .int .i64 (n : Nat)), (1, .int .i64 (lo : Nat)), (2, .int .i64 (hi : Nat)), (9, .string ⟨⟨qtext ((hi - lo + 1 : Nat) : Rat)⟩⟩), (10, .int .i64 0), (11, .string ⟨⟨qtext (if lo = 0 then 1 else 2)⟩⟩), (12, .int .i64 0), (13, .string ⟨⟨qtext s2⟩⟩), (14, .int .i64 0), (16, .slice (A at_) n (C at_)), (17, .int .i64 (fro a b i)), (18, .int .i64 (tow a b i)), (19, .int .i64 (i : Nat))] ∧ i ≤ n ∧ w' = w5 ∧ m = n - i)
    ⟨0, rfl, by omega, rfl, rfl⟩ (by repeat' (first | exact True.intro | exact rfl | exact iv (by omega) | refine ⟨?_, ?_⟩)) ?_
  rintro fr w6 m ⟨i, rfl, hi', rfl, rfl⟩
  have hst_ : ∀ i, -1 ≤ fro a b i ∧ fro a b i ≤ a := fun i => by unfold fro; split <;> omega
  refine dr U 600 rfl trivial ?_
  refine cS rfl rfl rfl rfl (fun hq1 => ?_) (fun hq1 => ?_)
  · have hin : i < n := by omega
    have hf := fro_step hin hab
    have hto := tow_step hin hab
    refine dr U 600 rfl trivial ?_
    refine il U rfl rfl rfl rfl rfl rfl rfl (fun _ => rfl) rfl i rfl hin hRr (ivs_get (by rw [blkRow_length]; exact hin)) ?_
    refine cS rfl rfl rfl rfl (fun hq2 => ?_) (fun hq2 => ?_)
    · rw [if_pos hq2] at hf hto
      refine dr U 600 rfl trivial ?_
      refine cS rfl rfl rfl rfl (fun hq3 => ?_) (fun hq3 => ?_)
      · rw [if_pos hq3] at hf
        refine dr U 600 rfl (by first | exact True.intro | (simp only [AllP, InR, List.nil_append, List.cons_append, and_true]; omega)) ?_
        exact rend _ _ ⟨i + 1, rfl, by omega, rfl, rfl⟩ (by omega) (by repeat' (first | exact True.intro | exact rfl | exact iv (by omega) | refine ⟨?_, ?_⟩))
      · rw [if_neg hq3] at hf
        refine dr U 600 rfl (by first | exact True.intro | (simp only [AllP, InR, List.nil_append, List.cons_append, and_true]; omega)) ?_
        exact rend _ _ ⟨i + 1, rfl, by omega, rfl, rfl⟩ (by omega) (by repeat' (first | exact True.intro | exact rfl | exact iv (by omega) | refine ⟨?_, ?_⟩))
    · rw [if_neg hq2] at hf hto
      refine dr U 600 rfl (by first | exact True.intro | (simp only [AllP, InR, List.nil_append, List.cons_append, and_true]; omega)) ?_
      exact rend _ _ ⟨i + 1, rfl, by omega, rfl, rfl⟩ (by omega) (by repeat' (first | exact True.intro | exact rfl | exact iv (by omega) | refine ⟨?_, ?_⟩))
  obtain rfl : i = n := by omega
  obtain ⟨hfe, hte⟩ := fro_end (n := i) hab hbn
  rw [hfe, hte]
  refine dr U 600 rfl trivial ?_
  refine call (f := 14) rfl rfl cb14 (mspd_ex 2 i a (b - 1) hst (by omega) (by omega) (by omega) w6 (ht.below hB5')) ?_
  rintro v w10 ⟨⟨z3', rfl, hz3', hs3⟩, hB10⟩
  have hB10' := bl_tr hB5' hB10 hB5'.size
  have hle3 : cmpQ (sm i (fun k => rgw a (b - 1) k * z3' k)) 1 ≤ 0 := cmpQ_le (spread_row hat hgr hz3')
  generalize sm i (fun k => rgw a (b - 1) k * z3' k) = s3 at *
  have hcmp1 := fun w => rcmp_q (q := 1) hs3 (small_mono (K := 1) (by have := small_int (z := 1) (K := 1) (by omega) (by decide); simpa using this) (by omega)) w
  have hcmp0 := fun w => rcmp_q (p := 0) (small_mono small_zero (by omega)) hs2 w
  rw [qtext_one] at hcmp1
  rw [qtext_zero] at hcmp0
  have hsz : Small 4000 ((hi - lo + 1 : Nat) : Rat) := hs0
  refine ⟨_, rfl, ?_⟩
  refine dr U 600 rfl trivial ?_
  refine cF rfl rfl rfl (fun e => e rfl) ?_
  refine dr U 600 rfl trivial ?_
  refine cF rfl rfl rfl (fun e => e rfl) ?_
  refine dr U 600 rfl trivial ?_
  refine cF rfl rfl rfl (fun e => e rfl) ?_
  refine dr U 600 rfl trivial ?_
  refine cF rfl rfl rfl (fun e => e rfl) ?_
  refine dr U 600 rfl trivial ?_
  refine cS rfl rfl rfl rfl (fun hq4 => ?_) (fun hq4 => ?_)
  · rw [if_pos (show lo = 0 by omega), qtext_one]
    refine dr U 600 rfl (by first | exact True.intro | (simp only [AllP, InR, List.nil_append, List.cons_append, and_true]; omega)) ?_
    rw [show (hi : Int) - (lo : Int) + 1 = ((hi - lo + 1 : Nat) : Int) by omega]
    refine call (f := 24) rfl rfl cb24 (gint_calls ((hi - lo + 1 : Nat) : Int) (by omega) (by omega) w10) ?_
    rintro v w11 ⟨rfl, hB11⟩
    have hB11' := bl_tr hB10' hB11 hB10'.size
    rw [Rat.intCast_natCast]
    refine ⟨_, rfl, ?_⟩
    refine dr U 600 rfl trivial ?_
    refine call (f := 25) rfl rfl cb25 (rcmp_q hs2 hsz w11) ?_
    rintro v w12 ⟨rfl, hB12⟩
    have hB12' := bl_tr hB11' hB12 hB11'.size
    refine ⟨_, rfl, ?_⟩
    refine dr U 600 rfl trivial ?_
    refine call (f := 25) rfl rfl cb25 (hcmp1 w12) ?_
    rintro v w13 ⟨rfl, hB13⟩
    have hB13' := bl_tr hB12' hB13 hB12'.size
    refine ⟨_, rfl, ?_⟩
    refine dr U 600 rfl trivial ?_
    refine call (f := 25) rfl rfl cb25 (hcmp0 w13) ?_
    rintro v w14 ⟨rfl, hB14⟩
    have hB14' := bl_tr hB13' hB14 hB13'.size
    refine ⟨_, rfl, ?_⟩
    refine dr U 600 rfl trivial ?_
    refine cT rfl rfl rfl rfl ?_
    refine dr U 600 rfl trivial ?_
    refine cT rfl rfl rfl rfl ?_
    refine dr U 600 rfl trivial ?_
    refine cT rfl rfl rfl hle2 ?_
    refine dr U 600 rfl trivial ?_
    refine cT rfl rfl rfl hle3 ?_
    refine dr U 600 rfl trivial ?_
    refine cT rfl rfl rfl hlt2 ?_
    refine dr U 600 rfl trivial ?_
    exact ret Tryz.results6 rfl ⟨_, rfl, rfl, hB14'⟩
  · rw [if_neg (show ¬ lo = 0 by omega), qtext_two]
    refine dr U 600 rfl (by first | exact True.intro | (simp only [AllP, InR, List.nil_append, List.cons_append, and_true]; omega)) ?_
    rw [show (hi : Int) - (lo : Int) + 1 = ((hi - lo + 1 : Nat) : Int) by omega]
    refine call (f := 24) rfl rfl cb24 (gint_calls ((hi - lo + 1 : Nat) : Int) (by omega) (by omega) w10) ?_
    rintro v w11 ⟨rfl, hB11⟩
    have hB11' := bl_tr hB10' hB11 hB10'.size
    rw [Rat.intCast_natCast]
    refine ⟨_, rfl, ?_⟩
    refine dr U 600 rfl trivial ?_
    refine call (f := 25) rfl rfl cb25 (rcmp_q hs2 hsz w11) ?_
    rintro v w12 ⟨rfl, hB12⟩
    have hB12' := bl_tr hB11' hB12 hB11'.size
    refine ⟨_, rfl, ?_⟩
    refine dr U 600 rfl trivial ?_
    refine call (f := 25) rfl rfl cb25 (hcmp1 w12) ?_
    rintro v w13 ⟨rfl, hB13⟩
    have hB13' := bl_tr hB12' hB13 hB12'.size
    refine ⟨_, rfl, ?_⟩
    refine dr U 600 rfl trivial ?_
    refine call (f := 25) rfl rfl cb25 (hcmp0 w13) ?_
    rintro v w14 ⟨rfl, hB14⟩
    have hB14' := bl_tr hB13' hB14 hB13'.size
    refine ⟨_, rfl, ?_⟩
    refine dr U 600 rfl trivial ?_
    refine cT rfl rfl rfl rfl ?_
    refine dr U 600 rfl trivial ?_
    refine cT rfl rfl rfl rfl ?_
    refine dr U 600 rfl trivial ?_
    refine cT rfl rfl rfl hle2 ?_
    refine dr U 600 rfl trivial ?_
    refine cT rfl rfl rfl hle3 ?_
    refine dr U 600 rfl trivial ?_
    refine cT rfl rfl rfl hlt2 ?_
    refine dr U 600 rfl trivial ?_
    exact ret Tryz.results6 rfl ⟨_, rfl, rfl, hB14'⟩
end Go.Proofs.YtejlpdbiacmfcaaGreatDoor
