/-
  The laws BitsHalves and BitsAll: they return true for every input.
  Conditions: the library's table of powers of ten is laid.
-/
import Derived.Test.YtcnbohfejgdcbaaGreatDoorYBl
import Derived.Test.YtcnbohfejgdcbaaGreatDoorYR6
import Derived.Test.YtcnbohfejgdcbaaGreatDoorYBj
set_option linter.unusedSimpArgs false
set_option linter.unusedVariables false
set_option maxHeartbeats 1000000
namespace Go.Proofs.YtcnbohfejgdcbaaGreatDoor
open Go Go.Proofs Go.RowKit Go.Lib

theorem SChk.long {l : List UInt8} {e : Int} (h : SChk l e) (hl : l.length ≤ 256) (he : e ≠ 0) : ¬ Bin l ∧ e = 3 := by
  rcases h with ⟨_, _, h⟩ | ⟨_, h, _⟩ | h
  · exact absurd h he
  · omega
  · exact h
theorem bin_snoc {l : List UInt8} {c : UInt8} (hc : c = 48 ∨ c = 49) : Bin (l ++ [c]) ↔ Bin l := by
  constructor
  · intro h x hx; exact h x (by simp [hx])
  · intro h x hx
    rcases List.mem_append.1 hx with h1 | h1
    · exact h x h1
    · rw [List.mem_singleton.1 h1]; exact hc
theorem cell_small {k n : Nat} (hn : n ≤ 256) (hk : k ≤ 2 ^ n) : Small 78 (mkq false k (2 ^ n)) := by
  have h1 : (2 ^ n : Nat) < 10 ^ 78 := Nat.lt_of_le_of_lt (Nat.pow_le_pow_right (by omega) hn) (by decide)
  exact mkq_small (Nat.ne_of_gt (Nat.pow_pos (by omega))) (nD_le _ _ (by omega) (by omega)) (nD_le _ _ (by omega) h1)
/-- The sum of two numbers that are small. -/
theorem radd_text (p q : Rat) (hp : Small 78 p) (hq : Small 78 q) (w : World) :
    Calls Tryz.prog 13 #[.string ⟨⟨qtext p⟩⟩, .string ⟨⟨qtext q⟩⟩] w (Ret fun v w' => v = .tuple ⟨[.string ⟨⟨qtext (p + q)⟩⟩, .int .i64 0]⟩ ∧ Below w.heap.size w w') := by
  have hl : ∀ r : Rat, Small 78 r → (qtext r).length ≤ 1000 := by
    intro r hr
    unfold qtext
    rw [List.length_append, List.length_append, decDigits_length]
    have := hr.1
    have h2 := hr.2
    have e1 : (if r.num < 0 then [45] else ([] : List UInt8)).length ≤ 1 := by split <;> simp
    have e2 : (if r.den = 1 then [] else (47 : UInt8) :: decDigits r.den).length ≤ 79 := by
      split
      · simp
      · rw [List.length_cons, decDigits_length]; omega
    omega
  refine (radd_calls (qtext p) (qtext q) (by have := hl p hp; omega) (by have := hl q hq; omega) w).mono ?_
  rintro e w' ⟨v, rfl, h, hB⟩
  exact ⟨v, rfl, (h.text (small_mono hp (by omega)) (small_mono hq (by omega))).ok (small_mono (small_add hp hq) (by omega)), hB⟩

theorem bitsHalves_calls (b : List UInt8) (hb : b.length ≤ 9223372036854775806) (w0 : World) (ht0 : TabOk w0) :
    Calls Tryz.prog 4 #[.string ⟨⟨b⟩⟩] w0 (Ret fun v w' => v = .bool true ∧ Below w0.heap.size w0 w') := by
  have hW0 := Below.refl w0.heap.size w0
  refine enter Tryz.func4 rfl Tryz.ntmps4 (Nat.le_of_ble_eq_true rfl) ?_
  refine dr U 600 rfl trivial ?_
  refine call (f := 9) rfl rfl cb9 (blives_calls w0 ht0) ?_; rintro v w1 ⟨rfl, hB1⟩; refine ⟨_, rfl, ?_⟩; have ht1 := ht0.below hB1; have hW1 := bl_tr hW0 hB1 hW0.size; refine dr U 600 rfl trivial ?_
  refine cS rfl rfl rfl rfl (fun hq => ?_) (fun hq => ?_)
  · refine dr U 600 rfl trivial ?_
    exact ret Tryz.results4 rfl ⟨_, rfl, rfl, hW1⟩
  · have hbl : b.length ≤ 255 := by omega
    refine dr U 600 rfl trivial ?_
    refine call (f := 11) rfl rfl cb11 (cell_calls b (by omega) w1 ht1) ?_
    rintro v w2 ⟨hc, hB2⟩
    have hW2 := bl_tr hW1 hB2 hW1.size
    have ht2 := ht0.below hW2
    have hlz : (b ++ [48]).length ≤ 256 := by simp; omega
    have hlo : (b ++ [49]).length ≤ 256 := by simp; omega
    by_cases hbin : Bin b
    · have hbz := (bin_snoc (.inl rfl)).2 hbin
      have hbo := (bin_snoc (.inr rfl)).2 hbin
      obtain rfl := hc.uniq (.inr ⟨.inl ⟨hbin, by omega, rfl⟩, rfl⟩)
      refine ⟨_, rfl, ?_⟩
      refine dr U 600 rfl (by simp only [AllP, InR, List.nil_append, List.cons_append, and_true, List.length_cons, List.length_nil, List.length_append]; omega) ?_
      refine call (f := 11) rfl rfl cb11 (cell_calls (b ++ [48]) (by omega) w2 ht2) ?_
      rintro v w3 ⟨hc, hB3⟩
      obtain rfl := hc.uniq (.inr ⟨.inl ⟨hbz, by omega, rfl⟩, rfl⟩)
      have hW3 := bl_tr hW2 hB3 hW2.size
      have ht3 := ht0.below hW3
      refine ⟨_, rfl, ?_⟩
      refine dr U 600 rfl (by simp only [AllP, InR, List.nil_append, List.cons_append, and_true, List.length_cons, List.length_nil, List.length_append]; omega) ?_
      refine call (f := 11) rfl rfl cb11 (cell_calls (b ++ [49]) (by omega) w3 ht3) ?_
      rintro v w4 ⟨hc, hB4⟩
      obtain rfl := hc.uniq (.inr ⟨.inl ⟨hbo, by omega, rfl⟩, rfl⟩)
      have hW4 := bl_tr hW3 hB4 hW3.size
      refine ⟨_, rfl, ?_⟩
      have e48 : bval (b ++ [48]) = 2 * bval b := by rw [bval_snoc]; rfl
      have e49 : bval (b ++ [49]) = 2 * bval b + 1 := by rw [bval_snoc]; rfl
      have ln : ∀ c : UInt8, (b ++ [c]).length = b.length + 1 := fun c => by simp
      have hbv := bval_lt b.length b rfl
      have hp := Nat.pow_succ 2 b.length
      rw [e48, e49, ln 48, ln 49]
      have s1 := cell_small (k := 1) (n := b.length + 1) (by omega) (Nat.pow_pos (by omega))
      have s2 := cell_small (k := 2 * bval b) (n := b.length + 1) (by omega) (by omega)
      refine dr U 600 rfl trivial ?_
      refine cF rfl rfl rfl ((fun h => h rfl)) ?_; refine dr U 600 rfl trivial ?_
      refine call (f := 13) rfl rfl cb13 (radd_text _ _ s1 s1 w4) ?_
      rintro v w5 ⟨rfl, hB5⟩
      have hW5 := bl_tr hW4 hB5 hW4.size
      refine ⟨_, rfl, ?_⟩
      refine dr U 600 rfl trivial ?_
      refine call (f := 13) rfl rfl cb13 (radd_text _ _ s2 s1 w5) ?_
      rintro v w6 ⟨rfl, hB6⟩
      have hW6 := bl_tr hW5 hB6 hW5.size
      refine ⟨_, rfl, ?_⟩
      refine dr U 600 rfl trivial ?_
      refine cT rfl rfl rfl (rfl) ?_; refine dr U 600 rfl trivial ?_
      refine cT rfl rfl rfl (rfl) ?_; refine dr U 600 rfl trivial ?_
      refine cT rfl rfl rfl ((by rw [cell_half])) ?_; refine dr U 600 rfl trivial ?_
      refine cT rfl rfl rfl (rfl) ?_; refine dr U 600 rfl trivial ?_
      refine cT rfl rfl rfl ((by rw [cell_next, show 1 + 1 = 2 * 1 from rfl, cell_half])) ?_; refine dr U 600 rfl trivial ?_
      refine cT rfl rfl rfl ((by rw [cell_next])) ?_; refine dr U 600 rfl trivial ?_
      exact ret Tryz.results4 rfl ⟨_, rfl, rfl, hW6⟩
    · have hbz := fun h => hbin ((bin_snoc (c := 48) (.inl rfl)).1 h)
      have hbo := fun h => hbin ((bin_snoc (c := 49) (.inr rfl)).1 h)
      obtain rfl := hc.uniq (.inl ⟨3, by decide, .inr (.inr ⟨hbin, rfl⟩), rfl⟩)
      refine ⟨_, rfl, ?_⟩
      refine dr U 600 rfl (by simp only [AllP, InR, List.nil_append, List.cons_append, and_true, List.length_cons, List.length_nil, List.length_append]; omega) ?_
      refine call (f := 11) rfl rfl cb11 (cell_calls (b ++ [48]) (by omega) w2 ht2) ?_
      rintro v w3 ⟨hc, hB3⟩
      obtain rfl := hc.uniq (.inl ⟨3, by decide, .inr (.inr ⟨hbz, rfl⟩), rfl⟩)
      have hW3 := bl_tr hW2 hB3 hW2.size
      have ht3 := ht0.below hW3
      refine ⟨_, rfl, ?_⟩
      refine dr U 600 rfl (by simp only [AllP, InR, List.nil_append, List.cons_append, and_true, List.length_cons, List.length_nil, List.length_append]; omega) ?_
      refine call (f := 11) rfl rfl cb11 (cell_calls (b ++ [49]) (by omega) w3 ht3) ?_
      rintro v w4 ⟨hc, hB4⟩
      obtain rfl := hc.uniq (.inl ⟨3, by decide, .inr (.inr ⟨hbo, rfl⟩), rfl⟩)
      have hW4 := bl_tr hW3 hB4 hW3.size
      refine ⟨_, rfl, ?_⟩
      refine dr U 600 rfl trivial ?_
      refine cT rfl rfl rfl ((by decide)) ?_; refine dr U 600 rfl trivial ?_
      refine cT rfl rfl rfl (rfl) ?_; refine dr U 600 rfl trivial ?_
      refine cT rfl rfl rfl (rfl) ?_; refine dr U 600 rfl trivial ?_
      refine cT rfl rfl rfl (rfl) ?_; refine dr U 600 rfl trivial ?_
      refine cT rfl rfl rfl (rfl) ?_; refine dr U 600 rfl trivial ?_
      refine cT rfl rfl rfl (rfl) ?_; refine dr U 600 rfl trivial ?_
      refine call (f := 12) rfl rfl cb12 (bcheck_calls b (by omega) w4) ?_
      rintro v w5 ⟨⟨e, rfl, he⟩, hB5⟩
      obtain rfl := he.uniq (.inr ⟨hbin, rfl⟩)
      refine ⟨_, rfl, ?_⟩
      refine dr U 600 rfl trivial ?_
      refine cT rfl rfl rfl (rfl) ?_; refine dr U 600 rfl trivial ?_
      exact ret Tryz.results4 rfl ⟨_, rfl, rfl, bl_tr hW4 hB5 hW4.size⟩
theorem q_nat (n : Nat) (m d : Nat) (h : mkq false m d = (n : Rat)) : qtext (mkq false m d) = decDigits n := by rw [h, qtext_nat]
theorem q_none (k : Nat) : qtext (mkq false 0 (2 ^ k)) = [48] := by
  have h : (2 ^ k : Nat) ≠ 0 := Nat.ne_of_gt (Nat.pow_pos (by omega))
  rw [qtext_mkq _ _ _ h, Nat.gcd_zero_left, Nat.div_self (Nat.pos_of_ne_zero h), Nat.zero_div, decDigits_one (by omega)]
  rfl
theorem q_whole (k : Nat) : qtext (mkq false (2 ^ k) (2 ^ k)) = [49] := by
  rw [cell_one, show (1 : Rat) = ((1 : Nat) : Rat) from rfl, qtext_nat, decDigits_one (by omega)]; rfl
theorem allb_at (k m i : Nat) (h : i < m) : (strs (allb k m))[i]? = some (.string ⟨⟨bitsOf k i⟩⟩) := by simp [strs, allb, h]
theorem pow_12 {k : Nat} (h : k ≤ 12) : 2 ^ k ≤ 4096 := Nat.pow_le_pow_right (n := 2) (by omega) h

theorem bitsAll_calls (n : Int) (hn : -9223372036854775808 ≤ n ∧ n ≤ 9223372036854775807) (w0 : World) (ht0 : TabOk w0) :
    Calls Tryz.prog 3 #[.int .i64 n] w0 (Ret fun v w' => v = .bool true ∧ Below w0.heap.size w0 w') := by
  have hW0 := Below.refl w0.heap.size w0
  refine enter Tryz.func3 rfl Tryz.ntmps3 (Nat.le_of_ble_eq_true rfl) ?_
  refine dr U 600 rfl trivial ?_
  refine call (f := 9) rfl rfl cb9 (blives_calls w0 ht0) ?_; rintro v w1 ⟨rfl, hB1⟩; refine ⟨_, rfl, ?_⟩; have ht1 := ht0.below hB1; have hW1 := bl_tr hW0 hB1 hW0.size; refine dr U 600 rfl trivial ?_
  refine call (f := 10) rfl rfl cb10 (all_calls n hn w1) ?_
  rintro v w2 ⟨hr, hB2⟩
  have hW2 := bl_tr hW1 hB2 hW1.size
  have ht2 := ht0.below hW2
  rcases hr with ⟨hno, rfl⟩ | ⟨h0, h12, a, c, rfl, ho⟩
  · refine ⟨_, rfl, ?_⟩
    refine dr U 600 rfl trivial ?_
    refine cS rfl rfl rfl rfl (fun hq => ?_) (fun hq => ?_)
    · refine dr U 600 rfl trivial ?_
      refine cT rfl rfl rfl (rfl) ?_; refine dr U 600 rfl trivial ?_
      refine cT rfl rfl rfl (rfl) ?_; refine dr U 600 rfl trivial ?_
      exact ret Tryz.results3 rfl ⟨_, rfl, rfl, hW2⟩
    · refine dr U 600 rfl trivial ?_
      refine cT rfl rfl rfl ((by omega)) ?_; refine dr U 600 rfl trivial ?_
      refine cT rfl rfl rfl (rfl) ?_; refine dr U 600 rfl trivial ?_
      refine cT rfl rfl rfl (rfl) ?_; refine dr U 600 rfl trivial ?_
      exact ret Tryz.results3 rfl ⟨_, rfl, rfl, hW2⟩
  · refine ⟨_, rfl, ?_⟩
    obtain ⟨k, rfl⟩ : ∃ k : Nat, n = (k : Int) := ⟨n.toNat, by omega⟩
    rw [Int.toNat_natCast] at ho
    simp only [Int.toNat_natCast]
    have hk : k ≤ 12 := by omega
    have h2p := pow_12 hk
    have h2o : 0 < 2 ^ k := Nat.pow_pos (by omega)
    have hsl := own_sl ho
    refine dr U 600 rfl trivial ?_
    refine cF rfl rfl rfl ((by omega)) ?_; refine dr U 600 rfl trivial ?_
    refine cF rfl rfl rfl ((by omega)) ?_; refine dr U 600 rfl trivial ?_
    refine cF rfl rfl rfl ((fun h => h rfl)) ?_; refine dr U 600 rfl trivial ?_
    refine shlI 1 k rfl rfl (by show k ≤ 64; omega) rfl rfl ?_
    have hwr : IntKind.i64.wrap ((1 : Int) * 2 ^ k) = ((2 ^ k : Nat) : Int) := by
      rw [show (1 : Int) * 2 ^ k = ((2 ^ k : Nat) : Int) from by rw [Int.one_mul, Int.natCast_pow]; rfl]
      exact wrap_in (by unfold InR; generalize 2 ^ k = q at *; exact ⟨by omega, by omega⟩)
    rw [hwr]
    refine dr U 600 rfl trivial ?_
    refine cF rfl rfl rfl ((fun h => h rfl)) ?_; refine dr U 600 rfl trivial ?_
    refine loopR (fun f w' m => ∃ i sz, f = [(0, .int .i64 (k : Nat)), (3, .slice a (2 ^ k) c), (5, .string ⟨⟨qtext (mkq false i (2 ^ k))⟩⟩), (6, .string ⟨⟨sz⟩⟩), (7, .int .i64 (i : Nat))] ∧ i ≤ 2 ^ k ∧ (0 < i → sz = qtext (mkq false 1 (2 ^ k))) ∧ Below w2.heap.size w2 w' ∧ m = 2 ^ k - i)
      ⟨0, [], rfl, by omega, fun h => by omega, Below.refl _ _, rfl⟩ ⟨rfl, rfl, by rw [q_none]; rfl, rfl, rfl, trivial⟩ ?_
    rintro f w' m ⟨i, sz, rfl, hi, hsz, hB, rfl⟩
    have ht' := ht2.below hB
    refine dr U 600 rfl trivial ?_
    refine cS rfl rfl rfl rfl (fun hq => ?_) (fun hq => ?_)
    · have hi2 : i < 2 ^ k := by omega
      have hbv : bval (bitsOf k i) = i := by rw [bitsOf_bval, Nat.mod_eq_of_lt hi2]
      refine dr U 600 rfl trivial ?_
      refine il U rfl rfl rfl rfl rfl rfl rfl (fun _ => rfl) rfl i rfl hi2 (hsl.stay hB) (allb_at k _ i hi2) ?_
      refine call (f := 11) rfl rfl cb11 (cell_calls (bitsOf k i) (by rw [bitsOf_length]; omega) w' ht') ?_
      rintro v w3 ⟨hc, hB'⟩
      obtain rfl := hc.uniq (.inr ⟨.inl ⟨bitsOf_bin k i, by rw [bitsOf_length]; omega, rfl⟩, rfl⟩)
      refine ⟨_, rfl, ?_⟩
      have hB3 := bl_tr hB hB' hB.size
      rw [hbv, bitsOf_length]
      refine dr U 600 rfl trivial ?_
      refine cF rfl rfl rfl ((fun h => h rfl)) ?_; refine dr U 600 rfl trivial ?_
      refine il U rfl rfl rfl rfl rfl rfl rfl (fun _ => rfl) rfl i rfl hi2 ((hsl.stay hB).stay hB') (allb_at k _ i hi2) ?_
      refine dr U 600 rfl trivial ?_
      refine cF rfl rfl rfl ((fun h => h (by rw [bitsOf_length]))) ?_; refine dr U 600 rfl trivial ?_
      refine cF rfl rfl rfl ((fun h => h rfl)) ?_; refine dr U 600 rfl trivial ?_
      refine cS rfl rfl rfl rfl (fun hq => ?_) (fun hq => ?_)
      · have hs1 := hsz (by omega)
        subst hs1
        refine dr U 600 rfl trivial ?_
        refine cF rfl rfl rfl ((fun h => h rfl)) ?_; refine dr U 600 rfl trivial ?_
        refine il U rfl rfl rfl rfl rfl rfl rfl (fun _ => rfl) rfl i rfl hi2 ((hsl.stay hB).stay hB') (allb_at k _ i hi2) ?_
        refine dr U 600 rfl trivial ?_
        refine call (f := 12) rfl rfl cb12 (bcheck_calls (bitsOf k i) (by rw [bitsOf_length]; omega) w3) ?_
        rintro v w4 ⟨⟨e, rfl, he⟩, hB4'⟩
        obtain rfl := he.uniq (.inl ⟨bitsOf_bin k i, rfl⟩)
        refine ⟨_, rfl, ?_⟩
        have hB4 := bl_tr hB3 hB4' hB3.size
        refine dr U 600 rfl trivial ?_
        refine cF rfl rfl rfl ((fun h => h rfl)) ?_; refine dr U 600 rfl trivial ?_
        refine call (f := 13) rfl rfl cb13 (radd_text _ _ (cell_small (k := i) (n := k) (by omega) (by omega)) (cell_small (k := 1) (n := k) (by omega) (by omega)) w4) ?_
        rintro v w5 ⟨rfl, hB5'⟩
        refine ⟨_, rfl, ?_⟩
        rw [cell_next]
        refine dr U 600 rfl (by first | exact True.intro | (simp only [AllP, InR, List.nil_append, List.cons_append, and_true]; omega)) ?_
        refine rend _ _ ⟨i + 1, qtext (mkq false 1 (2 ^ k)), rfl, by omega, fun _ => rfl, bl_tr hB4 hB5' hB4.size, rfl⟩ (by omega) ⟨rfl, rfl, rfl, rfl, iv (by omega), trivial⟩
      · refine dr U 600 rfl trivial ?_
        refine il U rfl rfl rfl rfl rfl rfl rfl (fun _ => rfl) rfl i rfl hi2 ((hsl.stay hB).stay hB') (allb_at k _ i hi2) ?_
        refine dr U 600 rfl trivial ?_
        refine call (f := 12) rfl rfl cb12 (bcheck_calls (bitsOf k i) (by rw [bitsOf_length]; omega) w3) ?_
        rintro v w4 ⟨⟨e, rfl, he⟩, hB4'⟩
        obtain rfl := he.uniq (.inl ⟨bitsOf_bin k i, rfl⟩)
        refine ⟨_, rfl, ?_⟩
        have hB4 := bl_tr hB3 hB4' hB3.size
        refine dr U 600 rfl trivial ?_
        refine cF rfl rfl rfl ((fun h => h rfl)) ?_; refine dr U 600 rfl trivial ?_
        refine call (f := 13) rfl rfl cb13 (radd_text _ _ (cell_small (k := i) (n := k) (by omega) (by omega)) (cell_small (k := 1) (n := k) (by omega) (by omega)) w4) ?_
        rintro v w5 ⟨rfl, hB5'⟩
        refine ⟨_, rfl, ?_⟩
        rw [cell_next]
        refine dr U 600 rfl (by first | exact True.intro | (simp only [AllP, InR, List.nil_append, List.cons_append, and_true]; omega)) ?_
        refine rend _ _ ⟨i + 1, qtext (mkq false 1 (2 ^ k)), rfl, by omega, fun _ => rfl, bl_tr hB4 hB5' hB4.size, rfl⟩ (by omega) ⟨rfl, rfl, rfl, rfl, iv (by omega), trivial⟩
    · obtain rfl : i = 2 ^ k := by omega
      rw [q_whole]
      refine dr U 600 rfl trivial ?_
      refine cT rfl rfl rfl (rfl) ?_; refine dr U 600 rfl trivial ?_
      exact ret Tryz.results3 rfl ⟨_, rfl, rfl, bl_tr hW2 hB hW2.size⟩
end Go.Proofs.YtcnbohfejgdcbaaGreatDoor
