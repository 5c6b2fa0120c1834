/-
  Rational numbers and their texts, in plain arithmetic.
  No conditions: each theorem names its own premises.

  Bit strings and their numbers, in plain arithmetic.
  No conditions: each theorem names its own premises.

  Walks of package bits: Check, short, power, plus, value, Number.
  Conditions: texts take fewer than 2^40 bytes; the library's table of powers of ten is laid.

  Walks of package bits: fold, value, Number, Word.
  Conditions: texts take fewer than 2^40 bytes; the library's table of powers of ten is laid.
-/
import Derived.Test.YtcnbohfejgdcbaaGreatDoorYNum
import Derived.Test.YtcnbohfejgdcbaaGreatDoorYLaw
import Derived.Test.YtcnbohfejgdcbaaGreatDoorYWb
section
set_option linter.unusedSimpArgs false
set_option linter.unusedVariables false
namespace Go.Proofs.YtcnbohfejgdcbaaGreatDoor
open Go.Lib

def mkq (m : Bool) (n d : Nat) : Rat := mkRat (if m then -(n : Int) else n) d
theorem mkq_form (m : Bool) (n d : Nat) (hd : d ≠ 0) : (mkq m n d).num = (if m then -((n / Nat.gcd n d : Nat) : Int) else ((n / Nat.gcd n d : Nat) : Int)) ∧ (mkq m n d).den = d / Nat.gcd n d := by
  have h := Rat.normalize_eq (num := if m then -(n : Int) else n) hd
  rw [Rat.normalize_eq_mkRat] at h
  have hn : (if m then -(n : Int) else (n : Int)).natAbs = n := by split <;> simp
  unfold mkq
  rw [h]
  refine ⟨?_, by simp only [hn]⟩
  simp only [hn]
  split
  · rw [Int.neg_ediv_of_dvd (Int.natCast_dvd_natCast.2 (Nat.gcd_dvd_left n d)), Int.natCast_ediv]
  · rw [Int.natCast_ediv]
theorem mkq_num (m : Bool) (n d : Nat) (hd : d ≠ 0) : (mkq m n d).num.natAbs = n / Nat.gcd n d := by
  rw [(mkq_form m n d hd).1]; split
  · rw [Int.natAbs_neg, Int.natAbs_natCast]
  · rw [Int.natAbs_natCast]
theorem mkq_neg (m : Bool) (n d : Nat) (hd : d ≠ 0) : ((mkq m n d).num < 0) ↔ (m = true ∧ n ≠ 0) := by
  rw [(mkq_form m n d hd).1]
  have hg : 0 < Nat.gcd n d := Nat.gcd_pos_of_pos_right n (Nat.pos_of_ne_zero hd)
  have h0 : n / Nat.gcd n d = 0 ↔ n = 0 := by
    constructor
    · intro h
      have := Nat.div_mul_cancel (Nat.gcd_dvd_left n d)
      rw [h] at this; omega
    · rintro rfl; simp
  generalize n / Nat.gcd n d = k at *
  cases m
  · simp
  · simp only [if_true, true_and]
    omega
theorem mkq_self (r : Rat) : mkq (decide (r.num < 0)) r.num.natAbs r.den = r := by
  unfold mkq
  have : (if decide (r.num < 0) = true then -(r.num.natAbs : Int) else (r.num.natAbs : Int)) = r.num := by
    by_cases h : r.num < 0
    · rw [if_pos (by simpa using h)]; omega
    · rw [if_neg (by simpa using h)]; omega
  rw [this, Rat.mkRat_self]
theorem mkq_add (m m' : Bool) (a b c d : Nat) (hb : b ≠ 0) (hd : d ≠ 0) :
    mkq m a b + mkq m' c d = mkRat ((if m then -((a * d : Nat) : Int) else ((a * d : Nat) : Int)) + (if m' then -((c * b : Nat) : Int) else ((c * b : Nat) : Int))) (b * d) := by
  unfold mkq
  rw [Rat.mkRat_add_mkRat _ _ hb hd]
  congr 1
  cases m <;> cases m' <;> simp [Int.neg_mul, Int.mul_neg]
theorem mkq_mul (m m' : Bool) (a b c d : Nat) : mkq m a b * mkq m' c d = mkq (m != m') (a * c) (b * d) := by
  unfold mkq
  rw [Rat.mkRat_mul_mkRat]
  congr 1
  cases m <;> cases m' <;> simp [Int.neg_mul, Int.mul_neg]

/-- The text of a rational number. -/
def qtext (r : Rat) : List UInt8 := (if r.num < 0 then [45] else []) ++ decDigits r.num.natAbs ++ (if r.den = 1 then [] else 47 :: decDigits r.den)
/-- Both parts have at most so many digits. -/
def Small (k : Nat) (r : Rat) : Prop := nDigits r.num.natAbs ≤ k ∧ nDigits r.den ≤ k
theorem qtext_nat (n : Nat) : qtext (n : Rat) = decDigits n := by
  unfold qtext
  rw [show ((n : Nat) : Rat).num = (n : Int) from rfl, show ((n : Nat) : Rat).den = 1 from rfl]
  rw [if_neg (by omega), if_pos rfl]; simp
theorem mkq_small {m : Bool} {n d K : Nat} (hd : d ≠ 0) (h1 : nDigits n ≤ K) (h2 : nDigits d ≤ K) : Small K (mkq m n d) := by
  unfold Small
  rw [mkq_num m n d hd, (mkq_form m n d hd).2]
  exact ⟨Nat.le_trans (nD_mono (Nat.div_le_self _ _)) h1, Nat.le_trans (nD_mono (Nat.div_le_self _ _)) h2⟩
theorem qtext_mkq (m : Bool) (n d : Nat) (hd : d ≠ 0) : qtext (mkq m n d) = (if m = true ∧ n ≠ 0 then [45] else []) ++ decDigits (n / Nat.gcd n d) ++ (if d / Nat.gcd n d = 1 then [] else 47 :: decDigits (d / Nat.gcd n d)) := by
  unfold qtext
  rw [mkq_num m n d hd, (mkq_form m n d hd).2]
  simp only [mkq_neg m n d hd]
/-- A cell's place and size. -/
theorem cell_next (k n : Nat) : mkq false k (2 ^ n) + mkq false 1 (2 ^ n) = mkq false (k + 1) (2 ^ n) := by
  have h : (2 ^ n : Nat) ≠ 0 := Nat.ne_of_gt (Nat.pow_pos (by omega))
  unfold mkq
  simp only [Bool.false_eq_true, if_false]
  rw [Rat.mkRat_eq_div, Rat.mkRat_eq_div, Rat.mkRat_eq_div]
  rw [show ((k + 1 : Nat) : Int) = (k : Int) + 1 from rfl, show ((1 : Nat) : Int) = 1 from rfl]
  grind
theorem cell_half (k n : Nat) : mkq false (2 * k) (2 ^ (n + 1)) = mkq false k (2 ^ n) := by
  have h : (2 ^ n : Nat) ≠ 0 := Nat.ne_of_gt (Nat.pow_pos (by omega))
  unfold mkq
  simp only [Bool.false_eq_true, if_false]
  rw [Nat.pow_succ, Nat.mul_comm (2 ^ n)]
  rw [show ((2 * k : Nat) : Int) = ((2 : Nat) : Int) * (k : Int) by simp]
  exact Rat.mkRat_mul_left (by omega)
theorem cell_one (n : Nat) : mkq false (2 ^ n) (2 ^ n) = 1 := by
  have h : (2 ^ n : Nat) ≠ 0 := Nat.ne_of_gt (Nat.pow_pos (by omega))
  apply Rat.ext
  · rw [(mkq_form _ _ _ h).1, Nat.gcd_self, Nat.div_self (Nat.pos_of_ne_zero h)]; rfl
  · rw [(mkq_form _ _ _ h).2, Nat.gcd_self, Nat.div_self (Nat.pos_of_ne_zero h)]; rfl
end Go.Proofs.YtcnbohfejgdcbaaGreatDoor
end
section
set_option linter.unusedSimpArgs false
set_option linter.unusedVariables false
namespace Go.Proofs.YtcnbohfejgdcbaaGreatDoor
open Go.Lib

def bv1 (c : UInt8) : Nat := if c = 49 then 1 else 0
def bvalA (a : Nat) (l : List UInt8) : Nat := l.foldl (fun a c => 2 * a + bv1 c) a
/-- The number of a bit string. -/
def bval (l : List UInt8) : Nat := bvalA 0 l
def Bin (l : List UInt8) : Prop := ∀ c ∈ l, c = 48 ∨ c = 49
theorem bvalA_append (a : Nat) (x y : List UInt8) : bvalA a (x ++ y) = bvalA (bvalA a x) y := by unfold bvalA; rw [List.foldl_append]
theorem bval_snoc (x : List UInt8) (c : UInt8) : bval (x ++ [c]) = 2 * bval x + bv1 c := by
  unfold bval; rw [bvalA_append]; rfl
theorem bv1_le (c : UInt8) : bv1 c ≤ 1 := by unfold bv1; split <;> omega
theorem bval_lt : ∀ (k : Nat) (l : List UInt8), l.length = k → bval l < 2 ^ k
  | 0, l, h => by rw [List.length_eq_zero_iff.1 h]; show 0 < 1; omega
  | k + 1, l, h => by
    rcases snocL l with rfl | ⟨ys, y, rfl⟩
    · simp at h
    · have h1 := bval_lt k ys (by simp at h; exact h)
      have h2 := bv1_le y
      rw [bval_snoc, Nat.pow_succ]; omega
/-- The n lowest bits of a number, the highest first. -/
def bitsOf : Nat → Nat → List UInt8
  | 0, _ => []
  | n + 1, k => bitsOf n (k / 2) ++ [if k % 2 = 1 then 49 else 48]
theorem bitsOf_length : ∀ n k, (bitsOf n k).length = n
  | 0, _ => rfl
  | n + 1, k => by simp [bitsOf, bitsOf_length n]
theorem bitsOf_bin : ∀ n k, Bin (bitsOf n k)
  | 0, _, c, h => by cases h
  | n + 1, k, c, h => by
    rw [bitsOf, List.mem_append] at h
    rcases h with h | h
    · exact bitsOf_bin n _ c h
    · rw [List.mem_singleton] at h
      subst h
      split
      · exact .inr rfl
      · exact .inl rfl
theorem bitsOf_bval : ∀ n k, bval (bitsOf n k) = k % 2 ^ n
  | 0, k => by rw [Nat.pow_zero, Nat.mod_one]; rfl
  | n + 1, k => by
    rw [bitsOf, bval_snoc, bitsOf_bval n (k / 2)]
    have h2 : bv1 (if k % 2 = 1 then 49 else 48) = k % 2 := by
      rcases Nat.mod_two_eq_zero_or_one k with h | h
      · rw [if_neg (by omega), h]; rfl
      · rw [if_pos h, h]; rfl
    rw [h2, Nat.pow_succ', Nat.mod_mul]
    omega
theorem bval_bits : ∀ (n : Nat) (l : List UInt8), Bin l → l.length = n → l = bitsOf n (bval l)
  | 0, l, _, h => by rw [List.length_eq_zero_iff.1 h]; rfl
  | n + 1, l, hb, h => by
    rcases snocL l with rfl | ⟨ys, y, rfl⟩
    · simp at h
    · have h1 := bval_bits n ys (fun c hc => hb c (by simp [hc])) (by simp at h; exact h)
      have hy := hb y (by simp)
      rw [bval_snoc, bitsOf]
      have e1 : (2 * bval ys + bv1 y) / 2 = bval ys := by have := bv1_le y; omega
      have e2 : (if (2 * bval ys + bv1 y) % 2 = 1 then (49 : UInt8) else 48) = y := by
        rcases hy with rfl | rfl
        · rw [if_neg]; unfold bv1; rw [if_neg (by decide)]; omega
        · rw [if_pos]; unfold bv1; rw [if_pos rfl]; omega
      rw [e1, e2, ← h1]
end Go.Proofs.YtcnbohfejgdcbaaGreatDoor
end
section
set_option linter.unusedSimpArgs false
set_option linter.unusedVariables false
set_option maxHeartbeats 1000000
namespace Go.Proofs.YtcnbohfejgdcbaaGreatDoor
open Go Go.Proofs Go.RowKit Go.Lib

theorem bin_cut (c : UInt8) : ([48, 49] : List UInt8).contains c = true ↔ (c = 48 ∨ c = 49) := by simp
theorem bin_trim (l : List UInt8) (hl : l.length ≤ 1099511627776) (w : World) :
    Calls Tryz.prog 36 #[.string ⟨⟨l⟩⟩, .string ⟨⟨[48, 49]⟩⟩] w (Ret fun v w' => (∃ t, v = .string ⟨⟨t⟩⟩ ∧ (t = [] ↔ Bin l)) ∧ Below w.heap.size w w') :=
  (Any.strings_Trim_laid Tryz.lays160 (by kernel_rfl) ⟨⟨l⟩⟩ ⟨⟨[48, 49]⟩⟩ w (show l.length ≤ _ by omega) (by decide) (ascii_of_all (by decide))).mono (by
    rintro e w' ⟨rfl, hB⟩
    refine ⟨_, rfl, ⟨_, rfl, ?_⟩, hB⟩
    rw [trim_nil]
    exact ⟨fun h c hc => (bin_cut c).1 (h c hc), fun h c hc => (bin_cut c).2 (h c hc)⟩)

/-- What Check answers. -/
def BChk (l : List UInt8) (e : Int) : Prop := (Bin l ∧ e = 0) ∨ (¬ Bin l ∧ e = 3)
theorem BChk.uniq {l : List UInt8} {e f : Int} (h : BChk l e) (h' : BChk l f) : e = f := by
  rcases h with ⟨h1, rfl⟩ | ⟨h1, rfl⟩ <;> rcases h' with ⟨h2, rfl⟩ | ⟨h2, rfl⟩ <;> first | rfl | contradiction
theorem bcheck_calls (l : List UInt8) (hl : l.length ≤ 1099511627776) (w : World) :
    Calls Tryz.prog 12 #[.string ⟨⟨l⟩⟩] w (Ret fun v w' => (∃ e, v = .int .i64 e ∧ BChk l e) ∧ Below w.heap.size w w') := by
  refine enter Tryz.func12 rfl Tryz.ntmps12 (Nat.le_of_ble_eq_true rfl) ?_
  refine dr U 600 rfl trivial ?_
  refine call (f := 36) rfl rfl cb36 (bin_trim l hl w) ?_
  rintro v w1 ⟨⟨t, rfl, ht⟩, hB⟩
  refine ⟨_, rfl, ?_⟩
  refine cS rfl rfl rfl rfl (fun hq => ?_) (fun hq => ?_)
  · refine dr U 600 rfl trivial ?_
    exact ret Tryz.results12 rfl ⟨_, rfl, ⟨_, rfl, .inr ⟨fun h => hq (ht.2 h), rfl⟩⟩, hB⟩
  · refine dr U 600 rfl trivial ?_
    exact ret Tryz.results12 rfl ⟨_, rfl, ⟨_, rfl, .inl ⟨ht.1 (Classical.not_not.1 hq), rfl⟩⟩, hB⟩

/-- What short answers. -/
def SChk (l : List UInt8) (e : Int) : Prop := (Bin l ∧ l.length ≤ 256 ∧ e = 0) ∨ (Bin l ∧ 256 < l.length ∧ e = 4) ∨ (¬ Bin l ∧ e = 3)
theorem SChk.uniq {l : List UInt8} {e f : Int} (h : SChk l e) (h' : SChk l f) : e = f := by
  rcases h with ⟨h1, h2, rfl⟩ | ⟨h1, h2, rfl⟩ | ⟨h1, rfl⟩ <;> rcases h' with ⟨h3, h4, rfl⟩ | ⟨h3, h4, rfl⟩ | ⟨h3, rfl⟩ <;> first | rfl | contradiction | omega
theorem SChk.ok {l : List UInt8} (h : SChk l 0) : Bin l ∧ l.length ≤ 256 := by
  rcases h with ⟨h1, h2, _⟩ | ⟨_, _, h⟩ | ⟨_, h⟩
  · exact ⟨h1, h2⟩
  · cases h
  · cases h
theorem bshort_calls (l : List UInt8) (hl : l.length ≤ 1099511627776) (w : World) :
    Calls Tryz.prog 32 #[.string ⟨⟨l⟩⟩] w (Ret fun v w' => (∃ e, v = .int .i64 e ∧ SChk l e) ∧ Below w.heap.size w w') := by
  refine enter Tryz.func32 rfl Tryz.ntmps32 (Nat.le_of_ble_eq_true rfl) ?_
  refine dr U 600 rfl trivial ?_
  refine call (f := 12) rfl rfl cb12 (bcheck_calls l hl w) ?_
  rintro v w1 ⟨⟨e, rfl, he⟩, hB⟩
  refine ⟨_, rfl, ?_⟩
  refine dr U 600 rfl trivial ?_
  refine cS rfl rfl rfl rfl (fun hq => ?_) (fun hq => ?_)
  · refine dr U 600 rfl trivial ?_
    rcases he with ⟨_, h⟩ | ⟨h1, rfl⟩
    · exact absurd h hq
    · exact ret Tryz.results32 rfl ⟨_, rfl, ⟨_, rfl, .inr (.inr ⟨h1, rfl⟩)⟩, hB⟩
  · obtain ⟨h1, _⟩ | ⟨_, rfl⟩ := he
    · refine dr U 600 rfl trivial ?_
      refine cS rfl rfl rfl rfl (fun hq => ?_) (fun hq => ?_)
      · refine dr U 600 rfl trivial ?_
        exact ret Tryz.results32 rfl ⟨_, rfl, ⟨_, rfl, .inr (.inl ⟨h1, by omega, rfl⟩)⟩, hB⟩
      · refine dr U 600 rfl trivial ?_
        exact ret Tryz.results32 rfl ⟨_, rfl, ⟨_, rfl, .inl ⟨h1, by omega, rfl⟩⟩, hB⟩
    · exact absurd (by decide) hq

theorem nd_two (k : Nat) (h : k ≤ 256) : nDigits (2 ^ k) ≤ 78 := by
  refine nD_le _ _ (by omega) ?_
  have := Nat.pow_le_pow_right (n := 2) (by omega) h
  have h2 : (2 : Nat) ^ 256 < 10 ^ 78 := by decide
  omega
theorem nd_below {n k : Nat} (h : k ≤ 256) (hn : n < 2 ^ k) : nDigits n ≤ 78 := by
  refine nD_le _ _ (by omega) ?_
  have := Nat.pow_le_pow_right (n := 2) (by omega) h
  have h2 : (2 : Nat) ^ 256 < 10 ^ 78 := by decide
  omega
theorem bpower_calls (k : Nat) (hk : k ≤ 256) (w : World) (ht : TabOk w) :
    Calls Tryz.prog 33 #[.int .i64 (k : Nat)] w (Ret fun v w' => v = .string ⟨⟨decDigits (2 ^ k)⟩⟩ ∧ Below w.heap.size w w') := by
  have h2 : Num 1 [50] 2 := by have := Num.of (l := [50]) (by decide) (by simp) (.inr (by decide)); exact this
  refine enter Tryz.func33 rfl Tryz.ntmps33 (Nat.le_of_ble_eq_true rfl) ?_
  refine dr U 600 rfl trivial ?_
  refine call (f := 56) rfl rfl cb56 (npow_calls h2 (by omega) (by omega) (by have := nd_two k hk; omega) w ht) ?_
  rintro v w1 ⟨rfl, hB⟩
  refine ⟨_, rfl, ?_⟩
  refine dr U 600 rfl trivial ?_
  exact ret Tryz.results33 rfl ⟨_, rfl, rfl, hB⟩

theorem bplus_calls (m n : Nat) (hm : nDigits m ≤ 3999) (hn : nDigits n ≤ 3999) (w : World) (ht : TabOk w) :
    Calls Tryz.prog 63 #[.string ⟨⟨decDigits m⟩⟩, .string ⟨⟨decDigits n⟩⟩] w (Ret fun v w' => v = .string ⟨⟨decDigits (m + n)⟩⟩ ∧ Below w.heap.size w w') := by
  refine enter Tryz.func63 rfl Tryz.ntmps63 (Nat.le_of_ble_eq_true rfl) ?_
  refine dr U 600 rfl trivial ?_
  refine call (f := 99) rfl rfl cb99 (nadd_calls (⟨rfl, hm⟩ : Num _ _ m) (⟨rfl, hn⟩ : Num _ _ n) (by omega) (by omega) w ht) ?_
  rintro v w1 ⟨rfl, hB⟩
  refine ⟨_, rfl, ?_⟩
  refine dr U 600 rfl trivial ?_
  exact ret Tryz.results63 rfl ⟨_, rfl, rfl, hB⟩

theorem value1_calls (n : Nat) (c : UInt8) (hn : nDigits n ≤ 3990) (w : World) (ht : TabOk w) :
    Calls Tryz.prog 62 #[.string ⟨⟨decDigits n⟩⟩, .int .u8 (c.toNat : Nat)] w (Ret fun v w' => v = .string ⟨⟨decDigits (2 * n + bv1 c)⟩⟩ ∧ Below w.heap.size w w') := by
  have h1 := nD_add n n _ hn hn
  refine enter Tryz.func62 rfl Tryz.ntmps62 (Nat.le_of_ble_eq_true rfl) ?_
  refine dr U 600 rfl trivial ?_
  refine call (f := 63) rfl rfl cb63 (bplus_calls n n (by omega) (by omega) w ht) ?_
  rintro v w1 ⟨rfl, hB⟩
  refine ⟨_, rfl, ?_⟩
  have ht1 := ht.below hB
  refine dr U 600 rfl trivial ?_
  refine cS rfl rfl rfl rfl (fun hq => ?_) (fun hq => ?_)
  · have hc : c = 49 := UInt8.toNat_inj.1 (by have : (49 : UInt8).toNat = 49 := rfl; omega)
    have e1 : decDigits 1 = [49] := by rw [decDigits_one (by omega)]; rfl
    have h2 := bplus_calls (n + n) 1 (by omega) (by rw [nDigits_small (by omega)]; omega) w1 ht1
    rw [e1] at h2
    refine dr U 600 rfl trivial ?_
    refine call (f := 63) rfl rfl cb63 h2 ?_
    rintro v w2 ⟨rfl, hB2⟩
    refine ⟨_, rfl, ?_⟩
    refine dr U 600 rfl trivial ?_
    refine ret Tryz.results62 rfl ⟨_, rfl, ?_, bl_tr hB hB2 hB.size⟩
    rw [show 2 * n + bv1 c = n + n + 1 from by unfold bv1; rw [if_pos hc]; omega]
    rfl
  · have hc : c ≠ 49 := fun h => hq (by rw [h]; rfl)
    refine dr U 600 rfl trivial ?_
    refine ret Tryz.results62 rfl ⟨_, rfl, ?_, hB⟩
    rw [show 2 * n + bv1 c = n + n from by unfold bv1; rw [if_neg hc]; omega]
    rfl
end Go.Proofs.YtcnbohfejgdcbaaGreatDoor
end
section
set_option linter.unusedSimpArgs false
set_option linter.unusedVariables false
set_option maxHeartbeats 1000000
namespace Go.Proofs.YtcnbohfejgdcbaaGreatDoor
open Go Go.Proofs Go.RowKit Go.Lib

theorem bval_take {l : List UInt8} {i : Nat} (h : i < l.length) : bval (l.take (i + 1)) = 2 * bval (l.take i) + bv1 (l.getD i 0) := by
  rw [List.take_succ_eq_append_getElem h, bval_snoc]
  simp [List.getD, h]
theorem fold_calls (l : List UInt8) (hl : l.length ≤ 256) (w : World) (ht : TabOk w) :
    Calls Tryz.prog 61 #[.string ⟨⟨l⟩⟩, .string ⟨⟨[48]⟩⟩, .func (.func 62) #[] #[]] w (Ret fun v w' => v = .string ⟨⟨decDigits (bval l)⟩⟩ ∧ Below w.heap.size w w') := by
  have e0 : decDigits (bval (l.take 0)) = [48] := by rw [List.take_zero, show bval [] = 0 from rfl, decDigits_one (by omega)]; rfl
  refine enter Tryz.func61 rfl Tryz.ntmps61 (Nat.le_of_ble_eq_true rfl) ?_
  refine dr U 600 rfl trivial ?_
  refine loopR (fun f w' m => ∃ i : Nat, f = [(0, .string ⟨⟨l⟩⟩), (1, .string ⟨⟨decDigits (bval (l.take i))⟩⟩), (2, .func (.func 62) #[] #[]), (9, .int .i64 (l.length : Nat)), (10, .int .i64 (i : Nat))] ∧ i ≤ l.length ∧ Below w.heap.size w w' ∧ m = l.length - i)
    ⟨0, rfl, by omega, Below.refl _ _, rfl⟩ ⟨rfl, by rw [e0]; rfl, rfl, rfl, rfl, trivial⟩ ?_
  rintro f w' m ⟨i, rfl, hi, hB, rfl⟩
  have ht' := ht.below hB
  refine dr U 600 rfl trivial ?_
  refine cS rfl rfl rfl rfl (fun hq => ?_) (fun hq => ?_)
  · refine dr U 600 rfl (by first | exact True.intro | (simp only [AllP, InR, List.nil_append, List.cons_append, and_true]; omega)) ?_
    have hn : nDigits (bval (l.take i)) ≤ 78 := nd_below (k := i) (by omega) (bval_lt _ _ (by simp; omega))
    refine call (f := 62) rfl rfl cb62 (value1_calls (bval (l.take i)) (l.getD i 0) (by omega) w' ht') ?_
    rintro v w1 ⟨rfl, hB1⟩
    refine ⟨_, rfl, ?_⟩
    refine dr U 600 rfl (by first | exact True.intro | (simp only [AllP, InR, List.nil_append, List.cons_append, and_true]; omega)) ?_
    refine rend _ _ ⟨i + 1, rfl, by omega, bl_tr hB hB1 hB.size, rfl⟩ (by omega) ⟨rfl, ?_, rfl, rfl, iv (by omega), trivial⟩
    rw [bval_take (by omega)]; rfl
  · obtain rfl : i = l.length := by omega
    refine dr U 600 rfl trivial ?_
    refine ret Tryz.results61 rfl ⟨_, rfl, ?_, hB⟩
    rw [List.take_length]; rfl

theorem value_calls (l : List UInt8) (hl : l.length ≤ 256) (w : World) (ht : TabOk w) :
    Calls Tryz.prog 35 #[.string ⟨⟨l⟩⟩] w (Ret fun v w' => v = .string ⟨⟨decDigits (bval l)⟩⟩ ∧ Below w.heap.size w w') := by
  refine enter Tryz.func35 rfl Tryz.ntmps35 (Nat.le_of_ble_eq_true rfl) ?_
  refine dr U 600 rfl trivial ?_
  refine call (f := 61) rfl rfl cb61 (fold_calls l hl w ht) ?_
  rintro v w1 ⟨rfl, hB⟩
  refine ⟨_, rfl, ?_⟩
  refine dr U 600 rfl trivial ?_
  exact ret Tryz.results35 rfl ⟨_, rfl, rfl, hB⟩

/-- What Number answers. -/
def NumR (l : List UInt8) (v : Value) : Prop := (∃ e, e ≠ 0 ∧ SChk l e ∧ v = .tuple ⟨[.string ⟨⟨[]⟩⟩, .int .i64 e]⟩) ∨ (SChk l 0 ∧ v = .tuple ⟨[.string ⟨⟨decDigits (bval l)⟩⟩, .int .i64 0]⟩)
theorem NumR.uniq {l : List UInt8} {v v' : Value} (h : NumR l v) (h' : NumR l v') : v = v' := by
  rcases h with ⟨e, h1, h2, rfl⟩ | ⟨h2, rfl⟩ <;> rcases h' with ⟨e', h3, h4, rfl⟩ | ⟨h4, rfl⟩
  · rw [h2.uniq h4]
  · exact absurd (h2.uniq h4) h1
  · exact absurd (h4.uniq h2) h3
  · rfl
theorem number_calls' (l : List UInt8) (hl : l.length ≤ 1099511627776) (w : World) (ht : TabOk w) :
    Calls Tryz.prog 14 #[.string ⟨⟨l⟩⟩] w (Ret fun v w' => NumR l v ∧ Below w.heap.size w w') := by
  refine enter Tryz.func14 rfl Tryz.ntmps14 (Nat.le_of_ble_eq_true rfl) ?_
  refine dr U 600 rfl trivial ?_
  refine call (f := 32) rfl rfl cb32 (bshort_calls l hl w) ?_
  rintro v w1 ⟨⟨e, rfl, he⟩, hB⟩
  refine ⟨_, rfl, ?_⟩
  refine dr U 600 rfl trivial ?_
  refine cS rfl rfl rfl rfl (fun hq => ?_) (fun hq => ?_)
  · refine dr U 600 rfl trivial ?_
    exact ret Tryz.results14 rfl ⟨_, rfl, .inl ⟨e, hq, he, rfl⟩, hB⟩
  · obtain rfl := Classical.not_not.1 hq
    refine dr U 600 rfl trivial ?_
    refine call (f := 35) rfl rfl cb35 (value_calls l he.ok.2 w1 (ht.below hB)) ?_
    rintro v w2 ⟨rfl, hB2⟩
    refine ⟨_, rfl, ?_⟩
    refine dr U 600 rfl trivial ?_
    exact ret Tryz.results14 rfl ⟨_, rfl, .inr ⟨he, rfl⟩, bl_tr hB hB2 hB.size⟩

/-- What Word answers. -/
def WordR (x : List UInt8) (n : Int) (v : Value) : Prop :=
  (∃ e, e ≠ 0 ∧ Chk x e ∧ v = .tuple ⟨[.string ⟨⟨[]⟩⟩, .int .i64 e]⟩) ∨
  (Chk x 0 ∧ (n < 0 ∨ 256 < n ∨ 2 ^ n.toNat ≤ dval x) ∧ v = .tuple ⟨[.string ⟨⟨[]⟩⟩, .int .i64 2]⟩) ∨
  (Chk x 0 ∧ 0 ≤ n ∧ n ≤ 256 ∧ dval x < 2 ^ n.toNat ∧ v = .tuple ⟨[.string ⟨⟨bitsOf n.toNat (dval x)⟩⟩, .int .i64 0]⟩)

theorem BldT.below {bt : Nat} {w w' : World} {base b : Nat} {bs : List UInt8} (h : BldT bt w base b bs) (hb : Below w.heap.size w w') : BldT bt w' base b bs := by
  obtain ⟨h1, p, a, m, c, h2, h3, h4, h5⟩ := h
  refine ⟨h1, p, a, m, c, h2, h3.below hb h3.lt, ?_, h5⟩
  refine ⟨h4.1, ?_⟩
  rcases h4.2 with h | ⟨g, cap, cur, e1, e2, e3, e4⟩
  · exact .inl h
  · exact .inr ⟨g, cap, cur, e1, e2, by rw [hb.block g (Array.getElem?_eq_some_iff.1 e3).1]; exact e3, e4⟩

theorem bits_step (k i m : Nat) (h : i + 1 ≤ k) : bitsOf (k - (i + 1)) (m / 2 ^ (i + 1)) ++ [bitc (decide (m / 2 ^ i % 2 = 1))] = bitsOf (k - i) (m / 2 ^ i) := by
  rw [show k - i = (k - (i + 1)) + 1 from by omega, bitsOf, Nat.pow_succ, Nat.div_div_eq_div_mul]
  unfold bitc
  simp only [decide_eq_true_eq]
theorem two_num : Num 1 [50] 2 := by have := Num.of (l := [50]) (by decide) (by simp) (.inr (by decide)); exact this


theorem word_calls (x : List UInt8) (n : Int) (hx : x.length ≤ 1099511627776) (hn : -9223372036854775808 ≤ n ∧ n ≤ 9223372036854775807) (w : World) (ht : TabOk w) :
    Calls Tryz.prog 15 #[.string ⟨⟨x⟩⟩, .int .i64 n] w (Ret fun v w' => WordR x n v ∧ Below w.heap.size w w') := by
  refine enter Tryz.func15 rfl Tryz.ntmps15 (Nat.le_of_ble_eq_true rfl) ?_
  refine dr U 600 rfl trivial ?_
  refine call (f := 40) rfl rfl cb40 (check_calls x hx w) ?_
  rintro v w1 ⟨⟨e, rfl, hc⟩, hB1⟩
  refine ⟨_, rfl, ?_⟩
  have ht1 := ht.below hB1
  refine dr U 600 rfl trivial ?_
  refine cS rfl rfl rfl rfl (fun hq => ?_) (fun hq => ?_)
  · refine dr U 600 rfl trivial ?_
    exact ret Tryz.results15 rfl ⟨_, rfl, .inl ⟨e, hq, hc, rfl⟩, hB1⟩
  · obtain rfl := Classical.not_not.1 hq
    have hf := chk_ok hc
    have hxm : x = decDigits (dval x) := dec_of hf.1.2.2 hf.1.1 hf.1.2.1
    have hnum : Num 4000 x (dval x) := ⟨hxm, by rw [← decDigits_length, ← hxm]; exact hf.2⟩
    refine dr U 600 rfl trivial ?_
    refine cS rfl rfl rfl rfl (fun hq => ?_) (fun hq => ?_)
    · refine dr U 600 rfl trivial ?_
      exact ret Tryz.results15 rfl ⟨_, rfl, .inr (.inl ⟨hc, .inl hq, rfl⟩), hB1⟩
    · refine dr U 600 rfl trivial ?_
      refine cS rfl rfl rfl rfl (fun hq => ?_) (fun hq => ?_)
      · refine dr U 600 rfl trivial ?_
        exact ret Tryz.results15 rfl ⟨_, rfl, .inr (.inl ⟨hc, .inr (.inl hq), rfl⟩), hB1⟩
      · obtain ⟨k, rfl⟩ : ∃ k : Nat, n = (k : Int) := ⟨n.toNat, by omega⟩
        have hk : k ≤ 256 := by omega
        refine dr U 600 rfl trivial ?_
        refine call (f := 33) rfl rfl cb33 (bpower_calls k hk w1 ht1) ?_
        rintro v w2 ⟨rfl, hB2⟩
        refine ⟨_, rfl, ?_⟩
        have hB2' := bl_tr hB1 hB2 hB1.size
        refine dr U 600 rfl trivial ?_
        refine call (f := 41) rfl rfl cb41 (ncmp_calls hnum (⟨rfl, nd_two k hk⟩ : Num _ _ (2 ^ k)) (by omega) (by omega) w2) ?_
        rintro v w3 ⟨rfl, hB3⟩
        refine ⟨_, rfl, ?_⟩
        have hB3' := bl_tr hB2' hB3 hB2'.size
        have ht3 := ht.below hB3'
        refine dr U 600 rfl trivial ?_
        refine cS rfl rfl rfl rfl (fun hq => ?_) (fun hq => ?_)
        · have h2 : 2 ^ k ≤ dval x := by have := (cmpN_neg (p := dval x) (q := 2 ^ k)); omega
          refine dr U 600 rfl trivial ?_
          exact ret Tryz.results15 rfl ⟨_, rfl, .inr (.inl ⟨hc, .inr (.inr h2), rfl⟩), hB3'⟩
        · have h2 : dval x < 2 ^ k := by have := (cmpN_neg (p := dval x) (q := 2 ^ k)); omega
          obtain ⟨m, hm⟩ : ∃ m, m = dval x := ⟨_, rfl⟩
          rw [← hm] at h2 hnum
          refine dr U 600 rfl trivial ?_
          refine al U rfl rfl rfl rfl ?_
          intro b w4 hb4 hs4 hk4 hg4
          have hB4 := hB3'.grown hg4 hB3'.size (fun k e => by cases e)
          have hbw : w.heap.size ≤ b := by have := hB3'.size; omega
          have hbl4 : BldT 54 w4 w.heap.size b [] := ⟨hbw, _, _, _, _, .inl rfl, hk4, ⟨rfl, .inl ⟨rfl, rfl⟩⟩, fun g e => by cases e⟩
          refine dr U 600 rfl (by first | exact True.intro | (simp only [AllP, InR, List.nil_append, List.cons_append, and_true]; omega)) ?_
          rcases Nat.eq_zero_or_pos k with rfl | hkp
          · refine loopR (fun f w' m => f = [(0, .string ⟨⟨x⟩⟩), (7, .pointer (some ⟨b, 0, none⟩)), (8, .int .i64 ((0 : Nat) - 1 : Int))] ∧ w' = w4) ⟨rfl, rfl⟩ ⟨rfl, rfl, rfl, trivial⟩ (m0 := 0) ?_
            rintro f w' m' ⟨rfl, rfl⟩
            refine dr U 600 rfl trivial ?_
            refine cS rfl rfl rfl rfl (fun hq => ?_) (fun hq => ?_)
            · exact absurd hq (by omega)
            · refine dr U 600 rfl trivial ?_
              refine call (f := 31) rfl rfl cb31 (string0T _ w.heap.size b _ w' hk4) ?_
              rintro v w5 ⟨rfl, hB5⟩
              refine ⟨_, rfl, ?_⟩
              refine dr U 600 rfl trivial ?_
              exact ret Tryz.results15 rfl ⟨_, rfl, .inr (.inr ⟨hc, by omega, by omega, by rw [← hm]; exact h2, by rw [← hm]; rfl⟩), hB4.trans hB5⟩
          · refine loopR (fun f w' j => f = [(0, .string ⟨⟨x⟩⟩), (7, .pointer (some ⟨b, 0, none⟩)), (8, .int .i64 ((j : Nat) - 1 : Int))] ∧ j ≤ k ∧ BldT 54 w' w.heap.size b (bitsOf (k - j) (m / 2 ^ j)) ∧ Below w.heap.size w w') (m0 := k)
              ⟨rfl, by omega, by rw [Nat.sub_self]; exact hbl4, hB4⟩ ⟨rfl, rfl, rfl, trivial⟩ ?_
            rintro f w' j ⟨rfl, hj, hbl, hB⟩
            refine dr U 600 rfl trivial ?_
            refine cS rfl rfl rfl rfl (fun hq => ?_) (fun hq => ?_)
            · obtain ⟨i, rfl⟩ : ∃ i, j = i + 1 := ⟨j - 1, by omega⟩
              have ei : ((i + 1 : Nat) : Int) - 1 = (i : Nat) := by omega
              have htw := ht.below hB
              refine dr U 600 rfl trivial ?_
              refine call (f := 33) rfl rfl cb33 (by rw [ei]; exact bpower_calls i (by omega) w' htw) ?_
              rintro v w2 ⟨rfl, hB2⟩
              refine ⟨_, rfl, ?_⟩
              have hBa := bl_tr hB hB2 hB.size
              have hbla := hbl.below hB2
              have hta := ht.below hBa
              refine dr U 600 rfl trivial ?_
              refine call (f := 42) rfl rfl cb42 (ndiv_calls hnum (⟨rfl, nd_two i (by omega)⟩ : Num _ _ (2 ^ i)) (by omega) (by omega) (Nat.ne_of_gt (Nat.two_pow_pos i)) w2 hta) ?_
              rintro v w3 ⟨rfl, hB3⟩
              refine ⟨_, rfl, ?_⟩
              have hBb := bl_tr hBa hB3 hBa.size
              have hblb := hbla.below hB3
              have htb := ht.below hBb
              have hnd : Num 4000 (decDigits (m / 2 ^ i)) (m / 2 ^ i) := ⟨rfl, Nat.le_trans (nD_mono (Nat.div_le_self _ _)) hnum.2⟩
              refine dr U 600 rfl trivial ?_
              refine call (f := 42) rfl rfl cb42 (ndiv_calls hnd two_num (by omega) (by omega) (by omega) w3 htb) ?_
              rintro v w4 ⟨rfl, hB4'⟩
              refine ⟨_, rfl, ?_⟩
              have hB4 := bl_tr hBb hB4' hBb.size
              have hbl4 := hblb.below hB4'
              have e1 : decDigits 1 = [49] := by rw [decDigits_one (by omega)]; rfl
              refine dr U 600 rfl trivial ?_
              refine cS rfl rfl rfl rfl (fun hq => ?_) (fun hq => ?_)
              · have hr : m / 2 ^ i % 2 = 1 := dec_inj (by rw [e1]; exact hq)
                refine dr U 600 rfl trivial ?_
                refine call (f := 30) rfl rfl cb30 (bit_calls w.heap.size b _ true w4 hbl4 (by rw [bitsOf_length]; omega) hB4.size) ?_
                rintro v w5 ⟨rfl, hbl5, hB5, _⟩
                refine ⟨_, rfl, ?_⟩
                refine dr U 600 rfl (by first | exact True.intro | (simp only [AllP, InR, List.nil_append, List.cons_append, and_true]; omega)) ?_
                refine rend _ i ⟨rfl, by omega, ?_, hB4.trans hB5⟩ (by omega) ⟨rfl, rfl, iv (by omega), trivial⟩
                have e := bits_step k i m (by omega)
                rw [(decide_eq_true hr)] at e
                rw [← e]
                exact hbl5
              · have hr : ¬ m / 2 ^ i % 2 = 1 := fun h => hq (by rw [h, e1])
                refine dr U 600 rfl trivial ?_
                refine call (f := 30) rfl rfl cb30 (bit_calls w.heap.size b _ false w4 hbl4 (by rw [bitsOf_length]; omega) hB4.size) ?_
                rintro v w5 ⟨rfl, hbl5, hB5, _⟩
                refine ⟨_, rfl, ?_⟩
                refine dr U 600 rfl (by first | exact True.intro | (simp only [AllP, InR, List.nil_append, List.cons_append, and_true]; omega)) ?_
                refine rend _ i ⟨rfl, by omega, ?_, hB4.trans hB5⟩ (by omega) ⟨rfl, rfl, iv (by omega), trivial⟩
                have e := bits_step k i m (by omega)
                rw [(decide_eq_false hr)] at e
                rw [← e]
                exact hbl5
            · obtain rfl : j = 0 := by omega
              rw [Nat.sub_zero, Nat.pow_zero, Nat.div_one] at hbl
              refine dr U 600 rfl trivial ?_
              refine call (f := 31) rfl rfl cb31 (stringT _ w.heap.size b _ w' hbl (fun e => by have := bitsOf_length k m; rw [e] at this; simp at this; omega)) ?_
              rintro v w5 ⟨rfl, hB5⟩
              refine ⟨_, rfl, ?_⟩
              refine dr U 600 rfl trivial ?_
              exact ret Tryz.results15 rfl ⟨_, rfl, .inr (.inr ⟨hc, by omega, by omega, by rw [← hm]; exact h2, by rw [← hm]; rfl⟩), hB.trans hB5⟩
end Go.Proofs.YtcnbohfejgdcbaaGreatDoor
end
