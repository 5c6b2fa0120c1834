/-
  Rational numbers and their texts, in plain arithmetic.
  No conditions: each theorem names its own premises.

  Bit strings and their numbers, in plain arithmetic.
  No conditions: each theorem names its own premises.

  Walks of package bits: Check, short, power, plus, value, Number.
  Conditions: texts take fewer than 2^40 bytes; the library's table of powers of ten is laid.

  Walks of package bits: fold, value, Number, Word.
  Conditions: texts take fewer than 2^40 bytes; the library's table of powers of ten is laid.
-/
import Derived.Test.YtfdekppnilffeaaGreatDoorYNum
import Derived.Test.YtfdekppnilffeaaGreatDoorYLaw
import Derived.Test.YtfdekppnilffeaaGreatDoorYWb
section
set_option linter.unusedSimpArgs false
set_option linter.unusedVariables false
namespace Go.Proofs.YtfdekppnilffeaaGreatDoor
open Go.Lib

def mkq (m : Bool) (n d : Nat) : Rat := mkRat (if m then -(n : Int) else n) d
theorem mkq_form (m : Bool) (n d : Nat) (hd : d ≠ 0) : (mkq m n d).num = (if m then -((n / Nat.gcd n d : Nat) : Int) else ((n / Nat.gcd n d : Nat) : Int)) ∧ (mkq m n d).den = d / Nat.gcd n d := by
  have h := Rat.normalize_eq (num := if m then -(n : Int) else n) hd
  rw [Rat.normalize_eq_mkRat] at h
  have hn : (if m then -(n : Int) else (n : Int)).natAbs = n := by split <;> simp
  unfold mkq
  rw [h]
  refine ⟨?_, by simp only [hn]⟩
  simp only [hn]
  split
  · rw [Int.neg_ediv_of_dvd (Int.natCast_dvd_natCast.2 (Nat.gcd_dvd_left n d)), Int.natCast_ediv]
  · rw [Int.natCast_ediv]
theorem mkq_num (m : Bool) (n d : Nat) (hd : d ≠ 0) : (mkq m n d).num.natAbs = n / Nat.gcd n d := by
  rw [(mkq_form m n d hd).1]; split
  · rw [Int.natAbs_neg, Int.natAbs_natCast]
  · rw [Int.natAbs_natCast]
theorem mkq_neg (m : Bool) (n d : Nat) (hd : d ≠ 0) : ((mkq m n d).num < 0) ↔ (m = true ∧ n ≠ 0) := by
  rw [(mkq_form m n d hd).1]
  have hg : 0 < Nat.gcd n d := Nat.gcd_pos_of_pos_right n (Nat.pos_of_ne_zero hd)
  have h0 : n / Nat.gcd n d = 0 ↔ n = 0 := by
    constructor
    · intro h
      have := Nat.div_mul_cancel (Nat.gcd_dvd_left n d)
      rw [h] at this; omega
    · rintro rfl; simp
  generalize n / Nat.gcd n d = k at *
  cases m
  · simp
  · simp only [if_true, true_and]
    omega
theorem mkq_self (r : Rat) : mkq (decide (r.num < 0)) r.num.natAbs r.den = r := by
  unfold mkq
  have : (if decide (r.num < 0) = true then -(r.num.natAbs : Int) else (r.num.natAbs : Int)) = r.num := by
    by_cases h : r.num < 0
    · rw [if_pos (by simpa using h)]; omega
    · rw [if_neg (by simpa using h)]; omega
  rw [this, Rat.mkRat_self]
theorem mkq_add (m m' : Bool) (a b c d : Nat) (hb : b ≠ 0) (hd : d ≠ 0) :
    mkq m a b + mkq m' c d = mkRat ((if m then -((a * d : Nat) : Int) else ((a * d : Nat) : Int)) + (if m' then -((c * b : Nat) : Int) else ((c * b : Nat) : Int))) (b * d) := by
  unfold mkq
  rw [Rat.mkRat_add_mkRat _ _ hb hd]
  congr 1
  cases m <;> cases m' <;> simp [Int.neg_mul, Int.mul_neg]
theorem mkq_mul (m m' : Bool) (a b c d : Nat) : mkq m a b * mkq m' c d = mkq (m != m') (a * c) (b * d) := by
  unfold mkq
  rw [Rat.mkRat_mul_mkRat]
  congr 1
  cases m <;> cases m' <;> simp [Int.neg_mul, Int.mul_neg]

/-- The text of a rational number. -/
def qtext (r : Rat) : List UInt8 := (if r.num < 0 then [45] else []) ++ decDigits r.num.natAbs ++ (if r.den = 1 then [] else 47 :: decDigits r.den)
/-- Both parts have at most so many digits. -/
def Small (k : Nat) (r : Rat) : Prop := nDigits r.num.natAbs ≤ k ∧ nDigits r.den ≤ k
theorem qtext_nat (n : Nat) : qtext (n : Rat) = decDigits n := by
  unfold qtext
  rw [show ((n : Nat) : Rat).num = (n : Int) from rfl, show ((n : Nat) : Rat).den = 1 from rfl]
  rw [if_neg (by omega), if_pos rfl]; simp
theorem mkq_small {m : Bool} {n d K : Nat} (hd : d ≠ 0) (h1 : nDigits n ≤ K) (h2 : nDigits d ≤ K) : Small K (mkq m n d) := by
  unfold Small
  rw [mkq_num m n d hd, (mkq_form m n d hd).2]
  exact ⟨Nat.le_trans (nD_mono (Nat.div_le_self _ _)) h1, Nat.le_trans (nD_mono (Nat.div_le_self _ _)) h2⟩
end Go.Proofs.YtfdekppnilffeaaGreatDoor
end
section
set_option linter.unusedSimpArgs false
set_option linter.unusedVariables false
namespace Go.Proofs.YtfdekppnilffeaaGreatDoor
open Go.Lib

def bv1 (c : UInt8) : Nat := if c = 49 then 1 else 0
def bvalA (a : Nat) (l : List UInt8) : Nat := l.foldl (fun a c => 2 * a + bv1 c) a
/-- The number of a bit string. -/
def bval (l : List UInt8) : Nat := bvalA 0 l
def Bin (l : List UInt8) : Prop := ∀ c ∈ l, c = 48 ∨ c = 49
end Go.Proofs.YtfdekppnilffeaaGreatDoor
end
section
set_option linter.unusedSimpArgs false
set_option linter.unusedVariables false
set_option maxHeartbeats 1000000
namespace Go.Proofs.YtfdekppnilffeaaGreatDoor
open Go Go.Proofs Go.RowKit Go.Lib

/-- What Check answers. -/
def BChk (l : List UInt8) (e : Int) : Prop := (Bin l ∧ e = 0) ∨ (¬ Bin l ∧ e = 3)
theorem BChk.uniq {l : List UInt8} {e f : Int} (h : BChk l e) (h' : BChk l f) : e = f := by
  rcases h with ⟨h1, rfl⟩ | ⟨h1, rfl⟩ <;> rcases h' with ⟨h2, rfl⟩ | ⟨h2, rfl⟩ <;> first | rfl | contradiction
/-- What short answers. -/
def SChk (l : List UInt8) (e : Int) : Prop := (Bin l ∧ l.length ≤ 256 ∧ e = 0) ∨ (Bin l ∧ 256 < l.length ∧ e = 4) ∨ (¬ Bin l ∧ e = 3)
theorem SChk.uniq {l : List UInt8} {e f : Int} (h : SChk l e) (h' : SChk l f) : e = f := by
  rcases h with ⟨h1, h2, rfl⟩ | ⟨h1, h2, rfl⟩ | ⟨h1, rfl⟩ <;> rcases h' with ⟨h3, h4, rfl⟩ | ⟨h3, h4, rfl⟩ | ⟨h3, rfl⟩ <;> first | rfl | contradiction | omega
theorem SChk.ok {l : List UInt8} (h : SChk l 0) : Bin l ∧ l.length ≤ 256 := by
  rcases h with ⟨h1, h2, _⟩ | ⟨_, _, h⟩ | ⟨_, h⟩
  · exact ⟨h1, h2⟩
  · cases h
  · cases h
end Go.Proofs.YtfdekppnilffeaaGreatDoor
end
section
set_option linter.unusedSimpArgs false
set_option linter.unusedVariables false
set_option maxHeartbeats 1000000
namespace Go.Proofs.YtfdekppnilffeaaGreatDoor
open Go Go.Proofs Go.RowKit Go.Lib

/-- What Number answers. -/
def NumR (l : List UInt8) (v : Value) : Prop := (∃ e, e ≠ 0 ∧ SChk l e ∧ v = .tuple ⟨[.string ⟨⟨[]⟩⟩, .int .i64 e]⟩) ∨ (SChk l 0 ∧ v = .tuple ⟨[.string ⟨⟨decDigits (bval l)⟩⟩, .int .i64 0]⟩)
theorem NumR.uniq {l : List UInt8} {v v' : Value} (h : NumR l v) (h' : NumR l v') : v = v' := by
  rcases h with ⟨e, h1, h2, rfl⟩ | ⟨h2, rfl⟩ <;> rcases h' with ⟨e', h3, h4, rfl⟩ | ⟨h4, rfl⟩
  · rw [h2.uniq h4]
  · exact absurd (h2.uniq h4) h1
  · exact absurd (h4.uniq h2) h3
  · rfl
theorem BldT.below {bt : Nat} {w w' : World} {base b : Nat} {bs : List UInt8} (h : BldT bt w base b bs) (hb : Below w.heap.size w w') : BldT bt w' base b bs := by
  obtain ⟨h1, p, a, m, c, h2, h3, h4, h5⟩ := h
  refine ⟨h1, p, a, m, c, h2, h3.below hb h3.lt, ?_, h5⟩
  refine ⟨h4.1, ?_⟩
  rcases h4.2 with h | ⟨g, cap, cur, e1, e2, e3, e4⟩
  · exact .inl h
  · exact .inr ⟨g, cap, cur, e1, e2, by rw [hb.block g (Array.getElem?_eq_some_iff.1 e3).1]; exact e3, e4⟩

end Go.Proofs.YtfdekppnilffeaaGreatDoor
end
