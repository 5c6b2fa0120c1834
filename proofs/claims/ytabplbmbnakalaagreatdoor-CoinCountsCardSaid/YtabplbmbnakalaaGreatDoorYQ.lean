/-
  Rational numbers and their texts, in plain arithmetic.
  No conditions: each theorem names its own premises.

  Bit strings and their numbers, in plain arithmetic.
  No conditions: each theorem names its own premises.

  Walks of package bits: Check, short, power, plus, value, Number.
  Conditions: texts take fewer than 2^40 bytes; the library's table of powers of ten is laid.

  Walks of package bits: fold, value, Number, Word.
  Conditions: texts take fewer than 2^40 bytes; the library's table of powers of ten is laid.
-/
import Derived.Test.YtabplbmbnakalaaGreatDoorYNum
import Derived.Test.YtabplbmbnakalaaGreatDoorYLaw
import Derived.Test.YtabplbmbnakalaaGreatDoorYWb
section
set_option linter.unusedSimpArgs false
set_option linter.unusedVariables false
namespace Go.Proofs.YtabplbmbnakalaaGreatDoor
open Go.Lib

def mkq (m : Bool) (n d : Nat) : Rat := mkRat (if m then -(n : Int) else n) d
theorem mkq_form (m : Bool) (n d : Nat) (hd : d ≠ 0) : (mkq m n d).num = (if m then -((n / Nat.gcd n d : Nat) : Int) else ((n / Nat.gcd n d : Nat) : Int)) ∧ (mkq m n d).den = d / Nat.gcd n d := by
  have h := Rat.normalize_eq (num := if m then -(n : Int) else n) hd
  rw [Rat.normalize_eq_mkRat] at h
  have hn : (if m then -(n : Int) else (n : Int)).natAbs = n := by split <;> simp
  unfold mkq
  rw [h]
  refine ⟨?_, by simp only [hn]⟩
  simp only [hn]
  split
  · rw [Int.neg_ediv_of_dvd (Int.natCast_dvd_natCast.2 (Nat.gcd_dvd_left n d)), Int.natCast_ediv]
  · rw [Int.natCast_ediv]
theorem mkq_num (m : Bool) (n d : Nat) (hd : d ≠ 0) : (mkq m n d).num.natAbs = n / Nat.gcd n d := by
  rw [(mkq_form m n d hd).1]; split
  · rw [Int.natAbs_neg, Int.natAbs_natCast]
  · rw [Int.natAbs_natCast]
theorem mkq_neg (m : Bool) (n d : Nat) (hd : d ≠ 0) : ((mkq m n d).num < 0) ↔ (m = true ∧ n ≠ 0) := by
  rw [(mkq_form m n d hd).1]
  have hg : 0 < Nat.gcd n d := Nat.gcd_pos_of_pos_right n (Nat.pos_of_ne_zero hd)
  have h0 : n / Nat.gcd n d = 0 ↔ n = 0 := by
    constructor
    · intro h
      have := Nat.div_mul_cancel (Nat.gcd_dvd_left n d)
      rw [h] at this; omega
    · rintro rfl; simp
  generalize n / Nat.gcd n d = k at *
  cases m
  · simp
  · simp only [if_true, true_and]
    omega
theorem mkq_self (r : Rat) : mkq (decide (r.num < 0)) r.num.natAbs r.den = r := by
  unfold mkq
  have : (if decide (r.num < 0) = true then -(r.num.natAbs : Int) else (r.num.natAbs : Int)) = r.num := by
    by_cases h : r.num < 0
    · rw [if_pos (by simpa using h)]; omega
    · rw [if_neg (by simpa using h)]; omega
  rw [this, Rat.mkRat_self]
theorem mkq_add (m m' : Bool) (a b c d : Nat) (hb : b ≠ 0) (hd : d ≠ 0) :
    mkq m a b + mkq m' c d = mkRat ((if m then -((a * d : Nat) : Int) else ((a * d : Nat) : Int)) + (if m' then -((c * b : Nat) : Int) else ((c * b : Nat) : Int))) (b * d) := by
  unfold mkq
  rw [Rat.mkRat_add_mkRat _ _ hb hd]
  congr 1
  cases m <;> cases m' <;> simp [Int.neg_mul, Int.mul_neg]
theorem mkq_mul (m m' : Bool) (a b c d : Nat) : mkq m a b * mkq m' c d = mkq (m != m') (a * c) (b * d) := by
  unfold mkq
  rw [Rat.mkRat_mul_mkRat]
  congr 1
  cases m <;> cases m' <;> simp [Int.neg_mul, Int.mul_neg]

/-- The text of a rational number. -/
def qtext (r : Rat) : List UInt8 := (if r.num < 0 then [45] else []) ++ decDigits r.num.natAbs ++ (if r.den = 1 then [] else 47 :: decDigits r.den)
/-- Both parts have at most so many digits. -/
def Small (k : Nat) (r : Rat) : Prop := nDigits r.num.natAbs ≤ k ∧ nDigits r.den ≤ k
theorem qtext_nat (n : Nat) : qtext (n : Rat) = decDigits n := by
  unfold qtext
  rw [show ((n : Nat) : Rat).num = (n : Int) from rfl, show ((n : Nat) : Rat).den = 1 from rfl]
  rw [if_neg (by omega), if_pos rfl]; simp
theorem mkq_small {m : Bool} {n d K : Nat} (hd : d ≠ 0) (h1 : nDigits n ≤ K) (h2 : nDigits d ≤ K) : Small K (mkq m n d) := by
  unfold Small
  rw [mkq_num m n d hd, (mkq_form m n d hd).2]
  exact ⟨Nat.le_trans (nD_mono (Nat.div_le_self _ _)) h1, Nat.le_trans (nD_mono (Nat.div_le_self _ _)) h2⟩
theorem qtext_mkq (m : Bool) (n d : Nat) (hd : d ≠ 0) : qtext (mkq m n d) = (if m = true ∧ n ≠ 0 then [45] else []) ++ decDigits (n / Nat.gcd n d) ++ (if d / Nat.gcd n d = 1 then [] else 47 :: decDigits (d / Nat.gcd n d)) := by
  unfold qtext
  rw [mkq_num m n d hd, (mkq_form m n d hd).2]
  simp only [mkq_neg m n d hd]
/-- A cell's place and size. -/
theorem cell_next (k n : Nat) : mkq false k (2 ^ n) + mkq false 1 (2 ^ n) = mkq false (k + 1) (2 ^ n) := by
  have h : (2 ^ n : Nat) ≠ 0 := Nat.ne_of_gt (Nat.pow_pos (by omega))
  unfold mkq
  simp only [Bool.false_eq_true, if_false]
  rw [Rat.mkRat_eq_div, Rat.mkRat_eq_div, Rat.mkRat_eq_div]
  rw [show ((k + 1 : Nat) : Int) = (k : Int) + 1 from rfl, show ((1 : Nat) : Int) = 1 from rfl]
  grind
theorem cell_half (k n : Nat) : mkq false (2 * k) (2 ^ (n + 1)) = mkq false k (2 ^ n) := by
  have h : (2 ^ n : Nat) ≠ 0 := Nat.ne_of_gt (Nat.pow_pos (by omega))
  unfold mkq
  simp only [Bool.false_eq_true, if_false]
  rw [Nat.pow_succ, Nat.mul_comm (2 ^ n)]
  rw [show ((2 * k : Nat) : Int) = ((2 : Nat) : Int) * (k : Int) by simp]
  exact Rat.mkRat_mul_left (by omega)
theorem cell_one (n : Nat) : mkq false (2 ^ n) (2 ^ n) = 1 := by
  have h : (2 ^ n : Nat) ≠ 0 := Nat.ne_of_gt (Nat.pow_pos (by omega))
  apply Rat.ext
  · rw [(mkq_form _ _ _ h).1, Nat.gcd_self, Nat.div_self (Nat.pos_of_ne_zero h)]; rfl
  · rw [(mkq_form _ _ _ h).2, Nat.gcd_self, Nat.div_self (Nat.pos_of_ne_zero h)]; rfl
end Go.Proofs.YtabplbmbnakalaaGreatDoor
end
section
set_option linter.unusedSimpArgs false
set_option linter.unusedVariables false
namespace Go.Proofs.YtabplbmbnakalaaGreatDoor
open Go.Lib

def bv1 (c : UInt8) : Nat := if c = 49 then 1 else 0
def bvalA (a : Nat) (l : List UInt8) : Nat := l.foldl (fun a c => 2 * a + bv1 c) a
/-- The number of a bit string. -/
def bval (l : List UInt8) : Nat := bvalA 0 l
def Bin (l : List UInt8) : Prop := ∀ c ∈ l, c = 48 ∨ c = 49
theorem bvalA_append (a : Nat) (x y : List UInt8) : bvalA a (x ++ y) = bvalA (bvalA a x) y := by unfold bvalA; rw [List.foldl_append]
theorem bval_snoc (x : List UInt8) (c : UInt8) : bval (x ++ [c]) = 2 * bval x + bv1 c := by
  unfold bval; rw [bvalA_append]; rfl
theorem bv1_le (c : UInt8) : bv1 c ≤ 1 := by unfold bv1; split <;> omega
theorem bval_lt : ∀ (k : Nat) (l : List UInt8), l.length = k → bval l < 2 ^ k
  | 0, l, h => by rw [List.length_eq_zero_iff.1 h]; show 0 < 1; omega
  | k + 1, l, h => by
    rcases snocL l with rfl | ⟨ys, y, rfl⟩
    · simp at h
    · have h1 := bval_lt k ys (by simp at h; exact h)
      have h2 := bv1_le y
      rw [bval_snoc, Nat.pow_succ]; omega
/-- The n lowest bits of a number, the highest first. -/
def bitsOf : Nat → Nat → List UInt8
  | 0, _ => []
  | n + 1, k => bitsOf n (k / 2) ++ [if k % 2 = 1 then 49 else 48]
theorem bitsOf_length : ∀ n k, (bitsOf n k).length = n
  | 0, _ => rfl
  | n + 1, k => by simp [bitsOf, bitsOf_length n]
theorem bitsOf_bin : ∀ n k, Bin (bitsOf n k)
  | 0, _, c, h => by cases h
  | n + 1, k, c, h => by
    rw [bitsOf, List.mem_append] at h
    rcases h with h | h
    · exact bitsOf_bin n _ c h
    · rw [List.mem_singleton] at h
      subst h
      split
      · exact .inr rfl
      · exact .inl rfl
theorem bitsOf_bval : ∀ n k, bval (bitsOf n k) = k % 2 ^ n
  | 0, k => by rw [Nat.pow_zero, Nat.mod_one]; rfl
  | n + 1, k => by
    rw [bitsOf, bval_snoc, bitsOf_bval n (k / 2)]
    have h2 : bv1 (if k % 2 = 1 then 49 else 48) = k % 2 := by
      rcases Nat.mod_two_eq_zero_or_one k with h | h
      · rw [if_neg (by omega), h]; rfl
      · rw [if_pos h, h]; rfl
    rw [h2, Nat.pow_succ', Nat.mod_mul]
    omega
theorem bval_bits : ∀ (n : Nat) (l : List UInt8), Bin l → l.length = n → l = bitsOf n (bval l)
  | 0, l, _, h => by rw [List.length_eq_zero_iff.1 h]; rfl
  | n + 1, l, hb, h => by
    rcases snocL l with rfl | ⟨ys, y, rfl⟩
    · simp at h
    · have h1 := bval_bits n ys (fun c hc => hb c (by simp [hc])) (by simp at h; exact h)
      have hy := hb y (by simp)
      rw [bval_snoc, bitsOf]
      have e1 : (2 * bval ys + bv1 y) / 2 = bval ys := by have := bv1_le y; omega
      have e2 : (if (2 * bval ys + bv1 y) % 2 = 1 then (49 : UInt8) else 48) = y := by
        rcases hy with rfl | rfl
        · rw [if_neg]; unfold bv1; rw [if_neg (by decide)]; omega
        · rw [if_pos]; unfold bv1; rw [if_pos rfl]; omega
      rw [e1, e2, ← h1]
end Go.Proofs.YtabplbmbnakalaaGreatDoor
end
section
set_option linter.unusedSimpArgs false
set_option linter.unusedVariables false
set_option maxHeartbeats 1000000
namespace Go.Proofs.YtabplbmbnakalaaGreatDoor
open Go Go.Proofs Go.RowKit Go.Lib

theorem bin_cut (c : UInt8) : ([48, 49] : List UInt8).contains c = true ↔ (c = 48 ∨ c = 49) := by simp
theorem bin_trim (l : List UInt8) (hl : l.length ≤ 1099511627776) (w : World) :
    Calls Tryz.prog 90 #[.string ⟨⟨l⟩⟩, .string ⟨⟨[48, 49]⟩⟩] w (Ret fun v w' => (∃ t, v = .string ⟨⟨t⟩⟩ ∧ (t = [] ↔ Bin l)) ∧ Below w.heap.size w w') :=
  (Any.strings_Trim_laid Tryz.lays160 (by kernel_rfl) ⟨⟨l⟩⟩ ⟨⟨[48, 49]⟩⟩ w (show l.length ≤ _ by omega) (by decide) (ascii_of_all (by decide))).mono (by
    rintro e w' ⟨rfl, hB⟩
    refine ⟨_, rfl, ⟨_, rfl, ?_⟩, hB⟩
    rw [trim_nil]
    exact ⟨fun h c hc => (bin_cut c).1 (h c hc), fun h c hc => (bin_cut c).2 (h c hc)⟩)

/-- What Check answers. -/
def BChk (l : List UInt8) (e : Int) : Prop := (Bin l ∧ e = 0) ∨ (¬ Bin l ∧ e = 3)
theorem BChk.uniq {l : List UInt8} {e f : Int} (h : BChk l e) (h' : BChk l f) : e = f := by
  rcases h with ⟨h1, rfl⟩ | ⟨h1, rfl⟩ <;> rcases h' with ⟨h2, rfl⟩ | ⟨h2, rfl⟩ <;> first | rfl | contradiction
theorem bcheck_calls (l : List UInt8) (hl : l.length ≤ 1099511627776) (w : World) :
    Calls Tryz.prog 54 #[.string ⟨⟨l⟩⟩] w (Ret fun v w' => (∃ e, v = .int .i64 e ∧ BChk l e) ∧ Below w.heap.size w w') := by
  refine enter Tryz.func54 rfl Tryz.ntmps54 (Nat.le_of_ble_eq_true rfl) ?_
  refine dr U 600 rfl trivial ?_
  refine call (f := 90) rfl rfl cb90 (bin_trim l hl w) ?_
  rintro v w1 ⟨⟨t, rfl, ht⟩, hB⟩
  refine ⟨_, rfl, ?_⟩
  refine cS rfl rfl rfl rfl (fun hq => ?_) (fun hq => ?_)
  · refine dr U 600 rfl trivial ?_
    exact ret Tryz.results54 rfl ⟨_, rfl, ⟨_, rfl, .inr ⟨fun h => hq (ht.2 h), rfl⟩⟩, hB⟩
  · refine dr U 600 rfl trivial ?_
    exact ret Tryz.results54 rfl ⟨_, rfl, ⟨_, rfl, .inl ⟨ht.1 (Classical.not_not.1 hq), rfl⟩⟩, hB⟩

/-- What short answers. -/
def SChk (l : List UInt8) (e : Int) : Prop := (Bin l ∧ l.length ≤ 256 ∧ e = 0) ∨ (Bin l ∧ 256 < l.length ∧ e = 4) ∨ (¬ Bin l ∧ e = 3)
theorem SChk.uniq {l : List UInt8} {e f : Int} (h : SChk l e) (h' : SChk l f) : e = f := by
  rcases h with ⟨h1, h2, rfl⟩ | ⟨h1, h2, rfl⟩ | ⟨h1, rfl⟩ <;> rcases h' with ⟨h3, h4, rfl⟩ | ⟨h3, h4, rfl⟩ | ⟨h3, rfl⟩ <;> first | rfl | contradiction | omega
theorem SChk.ok {l : List UInt8} (h : SChk l 0) : Bin l ∧ l.length ≤ 256 := by
  rcases h with ⟨h1, h2, _⟩ | ⟨_, _, h⟩ | ⟨_, h⟩
  · exact ⟨h1, h2⟩
  · cases h
  · cases h
theorem nd_two (k : Nat) (h : k ≤ 256) : nDigits (2 ^ k) ≤ 78 := by
  refine nD_le _ _ (by omega) ?_
  have := Nat.pow_le_pow_right (n := 2) (by omega) h
  have h2 : (2 : Nat) ^ 256 < 10 ^ 78 := by decide
  omega
theorem nd_below {n k : Nat} (h : k ≤ 256) (hn : n < 2 ^ k) : nDigits n ≤ 78 := by
  refine nD_le _ _ (by omega) ?_
  have := Nat.pow_le_pow_right (n := 2) (by omega) h
  have h2 : (2 : Nat) ^ 256 < 10 ^ 78 := by decide
  omega
end Go.Proofs.YtabplbmbnakalaaGreatDoor
end
section
set_option linter.unusedSimpArgs false
set_option linter.unusedVariables false
set_option maxHeartbeats 1000000
namespace Go.Proofs.YtabplbmbnakalaaGreatDoor
open Go Go.Proofs Go.RowKit Go.Lib

theorem bval_take {l : List UInt8} {i : Nat} (h : i < l.length) : bval (l.take (i + 1)) = 2 * bval (l.take i) + bv1 (l.getD i 0) := by
  rw [List.take_succ_eq_append_getElem h, bval_snoc]
  simp [List.getD, h]
/-- What Number answers. -/
def NumR (l : List UInt8) (v : Value) : Prop := (∃ e, e ≠ 0 ∧ SChk l e ∧ v = .tuple ⟨[.string ⟨⟨[]⟩⟩, .int .i64 e]⟩) ∨ (SChk l 0 ∧ v = .tuple ⟨[.string ⟨⟨decDigits (bval l)⟩⟩, .int .i64 0]⟩)
theorem NumR.uniq {l : List UInt8} {v v' : Value} (h : NumR l v) (h' : NumR l v') : v = v' := by
  rcases h with ⟨e, h1, h2, rfl⟩ | ⟨h2, rfl⟩ <;> rcases h' with ⟨e', h3, h4, rfl⟩ | ⟨h4, rfl⟩
  · rw [h2.uniq h4]
  · exact absurd (h2.uniq h4) h1
  · exact absurd (h4.uniq h2) h3
  · rfl
/-- What Word answers. -/
def WordR (x : List UInt8) (n : Int) (v : Value) : Prop :=
  (∃ e, e ≠ 0 ∧ Chk x e ∧ v = .tuple ⟨[.string ⟨⟨[]⟩⟩, .int .i64 e]⟩) ∨
  (Chk x 0 ∧ (n < 0 ∨ 256 < n ∨ 2 ^ n.toNat ≤ dval x) ∧ v = .tuple ⟨[.string ⟨⟨[]⟩⟩, .int .i64 2]⟩) ∨
  (Chk x 0 ∧ 0 ≤ n ∧ n ≤ 256 ∧ dval x < 2 ^ n.toNat ∧ v = .tuple ⟨[.string ⟨⟨bitsOf n.toNat (dval x)⟩⟩, .int .i64 0]⟩)

theorem BldT.below {bt : Nat} {w w' : World} {base b : Nat} {bs : List UInt8} (h : BldT bt w base b bs) (hb : Below w.heap.size w w') : BldT bt w' base b bs := by
  obtain ⟨h1, p, a, m, c, h2, h3, h4, h5⟩ := h
  refine ⟨h1, p, a, m, c, h2, h3.below hb h3.lt, ?_, h5⟩
  refine ⟨h4.1, ?_⟩
  rcases h4.2 with h | ⟨g, cap, cur, e1, e2, e3, e4⟩
  · exact .inl h
  · exact .inr ⟨g, cap, cur, e1, e2, by rw [hb.block g (Array.getElem?_eq_some_iff.1 e3).1]; exact e3, e4⟩

theorem bits_step (k i m : Nat) (h : i + 1 ≤ k) : bitsOf (k - (i + 1)) (m / 2 ^ (i + 1)) ++ [bitc (decide (m / 2 ^ i % 2 = 1))] = bitsOf (k - i) (m / 2 ^ i) := by
  rw [show k - i = (k - (i + 1)) + 1 from by omega, bitsOf, Nat.pow_succ, Nat.div_div_eq_div_mul]
  unfold bitc
  simp only [decide_eq_true_eq]
theorem two_num : Num 1 [50] 2 := by have := Num.of (l := [50]) (by decide) (by simp) (.inr (by decide)); exact this


end Go.Proofs.YtabplbmbnakalaaGreatDoor
end
