/-
  Plain arithmetic of decimal digits: how the digits of a number are made of the digits of its limbs.
  No conditions: each theorem names its own premises.

  Plain arithmetic of texts of digits: their value, and that a text without a leading zero is the digits of its value.
  No conditions: each theorem names its own premises.

  Rational numbers and their texts, in plain arithmetic.
  No conditions: each theorem names its own premises.

  Sums, and Gauss-Jordan elimination of matrices of rational numbers: what it keeps, what it brings about.
  No conditions: each theorem names its own premises.
-/
import Derived.Test.YtejlpdbiacmfcaaGreatDoorYNumC
import Derived.Lib.ItoaNum
import Derived.Lib.ParseIntB
section
set_option linter.unusedVariables false
set_option linter.unusedSimpArgs false
namespace Go.Proofs.YtejlpdbiacmfcaaGreatDoor
open Go.Lib

/-- m digits, zeros first. -/
def padD : Nat → Nat → List UInt8
  | 0, _ => []
  | m + 1, r => padD m (r / 10) ++ [UInt8.ofNat (48 + r % 10)]

theorem padD_length : ∀ (m r : Nat), (padD m r).length = m
  | 0, _ => rfl
  | m + 1, r => by simp [padD, padD_length m]

theorem dec_big {u : Nat} (h : ¬ u < 10) : decDigits u = decDigits (u / 10) ++ [UInt8.ofNat (48 + u % 10)] := by rw [decDigits, dif_neg h]

theorem shift10 (x m r : Nat) : (x * 10 ^ (m + 1) + r) / 10 = x * 10 ^ m + r / 10 := by
  rw [Nat.pow_succ, ← Nat.mul_assoc]; omega

theorem dec_pad : ∀ (m x r : Nat), 0 < x → r < 10 ^ m → decDigits (x * 10 ^ m + r) = decDigits x ++ padD m r
  | 0, x, r, _, h => by simp at h; subst h; simp [padD]
  | m + 1, x, r, hx, h => by
    have h1 : 10 ^ (m + 1) ≤ x * 10 ^ (m + 1) := Nat.le_mul_of_pos_left _ hx
    have h2 : 10 ≤ 10 ^ (m + 1) := by rw [Nat.pow_succ]; have := Nat.pow_pos (n := m) (show 0 < 10 by omega); omega
    rw [dec_big (by omega), shift10, dec_pad m x (r / 10) hx (by rw [Nat.pow_succ] at h; omega), padD, List.append_assoc]
    congr 4
    rw [Nat.pow_succ, ← Nat.mul_assoc]; omega

theorem nD_pad (m x r : Nat) (hx : 0 < x) (h : r < 10 ^ m) : nDigits (x * 10 ^ m + r) = nDigits x + m := by
  rw [← decDigits_length, dec_pad m x r hx h]; simp [padD_length, decDigits_length]

theorem rep_pad (m r : Nat) (h : r < 10 ^ m) : r = 0 → padD m r = List.replicate m 48 := by
  rintro rfl
  induction m with
  | zero => rfl
  | succ m ih => rw [padD, Nat.zero_div, ih (Nat.pow_pos (by omega)), List.replicate_succ']; rfl

theorem nD_le : ∀ (m r : Nat), 0 < m → r < 10 ^ m → nDigits r ≤ m
  | 0, _, h, _ => by omega
  | m + 1, r, _, h => by
    by_cases h1 : r < 10
    · rw [nDigits_small h1]; omega
    · rw [nDigits_big h1]
      have h2 : r / 10 < 10 ^ m := by rw [Nat.pow_succ] at h; omega
      rcases Nat.eq_zero_or_pos m with rfl | hm
      · simp at h2; omega
      · have := nD_le m (r / 10) hm h2; omega

/-- The digits of a number, filled up with zeros. -/
theorem fill_pad : ∀ (m r : Nat), 0 < m → r < 10 ^ m → List.replicate (m - nDigits r) 48 ++ decDigits r = padD m r
  | 0, _, h, _ => by omega
  | m + 1, r, _, h => by
    by_cases h1 : r < 10
    · rw [nDigits_small h1, decDigits_one h1, padD, rep_pad m (r / 10) (by rw [Nat.div_eq_of_lt h1]; exact Nat.pow_pos (by omega)) (Nat.div_eq_of_lt h1), Nat.mod_eq_of_lt h1]; rfl
    · have h2 : r / 10 < 10 ^ m := by rw [Nat.pow_succ] at h; omega
      rcases Nat.eq_zero_or_pos m with rfl | hm
      · simp at h2; omega
      · have := fill_pad m (r / 10) hm h2
        rw [nDigits_big h1, dec_big h1, padD, ← this, Nat.add_sub_add_right, List.append_assoc]

theorem pw10 (k : Nat) : pw k = 10 ^ (9 * k) := by unfold pw; rw [Nat.pow_mul]

/-- How many digits a number has. -/
theorem nD_lim {n : Nat} (h : n ≠ 0) : nDigits n = 9 * ((lim n).length - 1) + nDigits ((lim n).getD ((lim n).length - 1) 0) := by
  have ht := lim_top h
  have hl : 0 < (lim n).length := List.length_pos_iff.2 (fun e => h (lim_eq_nil.1 e))
  have h2 := val_take_succ (lim n) ((lim n).length - 1) (by omega)
  rw [take_all (by omega), val_lim] at h2
  have h3 := val_lt ((lim_Lm n).take ((lim n).length - 1))
  simp only [List.length_take] at h3
  rw [Nat.min_eq_left (by omega), pw10] at h3
  rw [pw10, Nat.add_comm, Nat.mul_comm] at h2
  generalize (lim n).getD ((lim n).length - 1) 0 = x at *
  generalize (lim n).length - 1 = k at *
  rw [h2, nD_pad _ _ _ ht h3, Nat.add_comm]

theorem nD_zero : nDigits 0 = 1 := nDigits_small (by omega)

/-- The digits from one limb on. -/
theorem dec_cons {x : Nat} {r : List Nat} (hx : x < 1000000000) (hr : 0 < val r) : decDigits (val (x :: r)) = decDigits (val r) ++ (List.replicate (9 - nDigits x) 48 ++ decDigits x) := by
  rw [fill_pad 9 x (by omega) hx, val_cons, Nat.add_comm, Nat.mul_comm]
  exact dec_pad 9 (val r) x hr hx

theorem lim_le_nD (n : Nat) : (lim n).length ≤ nDigits n := by
  by_cases h : n = 0
  · subst h; rw [lim_zero]; simp
  · rw [nD_lim h]; have := nDigits_pos ((lim n).getD ((lim n).length - 1) 0); omega

theorem nD_mul (m n : Nat) : nDigits (m * n) ≤ nDigits m + nDigits n := by
  refine nD_le _ _ (by have := nDigits_pos m; omega) ?_
  rw [Nat.pow_add]
  exact Nat.mul_lt_mul'' (lt_pow_nDigits m) (lt_pow_nDigits n)

theorem nD_mono {m n : Nat} (h : m ≤ n) : nDigits m ≤ nDigits n :=
  nD_le _ _ (nDigits_pos n) (Nat.lt_of_le_of_lt h (lt_pow_nDigits n))
end Go.Proofs.YtejlpdbiacmfcaaGreatDoor
end
section
set_option linter.unusedVariables false
set_option linter.unusedSimpArgs false
namespace Go.Proofs.YtejlpdbiacmfcaaGreatDoor
open Go.Lib

def isD (c : UInt8) : Prop := 48 ≤ c.toNat ∧ c.toNat ≤ 57
def Dgs (l : List UInt8) : Prop := ∀ c ∈ l, isD c
def dvalA (a : Nat) (l : List UInt8) : Nat := l.foldl (fun a c => a * 10 + (c.toNat - 48)) a
def dval (l : List UInt8) : Nat := dvalA 0 l

theorem dvalA_nil (a : Nat) : dvalA a [] = a := by simp only [dvalA, List.foldl_nil]
theorem dvalA_cons (a : Nat) (c : UInt8) (l : List UInt8) : dvalA a (c :: l) = dvalA (a * 10 + (c.toNat - 48)) l := by simp only [dvalA, List.foldl_cons]
theorem dvalA_append (a : Nat) (x y : List UInt8) : dvalA a (x ++ y) = dvalA (dvalA a x) y := by unfold dvalA; rw [List.foldl_append]
theorem dvalA_eq : ∀ (l : List UInt8) (a : Nat), dvalA a l = a * 10 ^ l.length + dval l
  | [], a => by simp [dval, dvalA]
  | c :: l, a => by
    have h1 : dval (c :: l) = (c.toNat - 48) * 10 ^ l.length + dval l := by
      show dvalA 0 (c :: l) = _
      rw [dvalA_cons, dvalA_eq l, Nat.zero_mul, Nat.zero_add]
    rw [dvalA_cons, dvalA_eq l, h1, List.length_cons, Nat.pow_succ, Nat.add_mul, Nat.mul_comm (10 ^ l.length) 10, ← Nat.mul_assoc]
    omega
theorem dval_append (x y : List UInt8) : dval (x ++ y) = dval x * 10 ^ y.length + dval y := by
  show dvalA 0 (x ++ y) = _; rw [dvalA_append, dvalA_eq]; rfl
theorem dval_snoc (x : List UInt8) (c : UInt8) : dval (x ++ [c]) = dval x * 10 + (c.toNat - 48) := by
  show dvalA 0 (x ++ [c]) = _; rw [dvalA_append, dvalA_cons, dvalA_nil]; rfl
theorem Dgs.left {x y : List UInt8} (h : Dgs (x ++ y)) : Dgs x := fun c hc => h c (by simp [hc])
theorem Dgs.right {x y : List UInt8} (h : Dgs (x ++ y)) : Dgs y := fun c hc => h c (by simp [hc])
theorem Dgs.take {x : List UInt8} (h : Dgs x) (k : Nat) : Dgs (x.take k) := fun c hc => h c (List.mem_of_mem_take hc)
theorem Dgs.drop {x : List UInt8} (h : Dgs x) (k : Nat) : Dgs (x.drop k) := fun c hc => h c (List.mem_of_mem_drop hc)

theorem snocL {α : Type} (xs : List α) : xs = [] ∨ ∃ ys y, xs = ys ++ [y] := by
  rcases List.eq_nil_or_concat xs with h | ⟨a, b, h⟩
  · exact .inl h
  · exact .inr ⟨a, b, by simpa using h⟩

theorem dval_lt {l : List UInt8} (h : Dgs l) : dval l < 10 ^ l.length := by
  induction hn : l.length generalizing l with
  | zero => rw [List.length_eq_zero_iff] at hn; subst hn; simp [dval, dvalA]
  | succ n ih =>
    rcases snocL l with rfl | ⟨x, c, rfl⟩
    · simp at hn
    · have h1 := ih h.left (by simpa using hn)
      have h2 := h c (by simp)
      unfold isD at h2
      rw [dval_snoc, Nat.pow_succ]
      omega

theorem parse_ok : ∀ (l : List UInt8) (a : Nat), Dgs l → (a + 1) * 10 ^ l.length ≤ 1000000000000000000 → parseUintM (2 ^ 64 - 1) a l = .ok (dvalA a l)
  | [], a, _, _ => rfl
  | c :: l, a, h, hb => by
    have h1 := h c (by simp)
    unfold isD at h1
    rw [parseUintM, if_pos h1]
    have h2 : (a * 10 + (c.toNat - 48) + 1) * 10 ^ l.length ≤ 1000000000000000000 := by
      refine Nat.le_trans (Nat.mul_le_mul_right _ (show a * 10 + (c.toNat - 48) + 1 ≤ (a + 1) * 10 by omega)) ?_
      rw [List.length_cons, Nat.pow_succ, Nat.mul_comm (10 ^ l.length), ← Nat.mul_assoc] at hb
      exact hb
    have h3 : (a * 10 + (c.toNat - 48) + 1) * 1 ≤ (a * 10 + (c.toNat - 48) + 1) * 10 ^ l.length := Nat.mul_le_mul_left _ (Nat.pow_pos (by omega))
    rw [if_neg (by omega), if_neg (by omega), dvalA_cons]
    exact parse_ok l _ (fun c hc => h c (by simp [hc])) h2

theorem parse_chunk {l : List UInt8} (h : Dgs l) (hne : l ≠ []) (hl : l.length ≤ 9) : parseUintB 64 l = .ok (dval l) := by
  unfold parseUintB
  rw [if_neg hne]
  refine parse_ok l 0 h ?_
  have := Nat.pow_le_pow_right (n := 10) (by omega) hl
  omega

theorem ofNat_d {k : Nat} (h : k < 10) : (UInt8.ofNat (48 + k)).toNat = 48 + k := by
  rw [UInt8.toNat_ofNat']; omega

theorem dec_dval (n : Nat) : Dgs (decDigits n) ∧ dval (decDigits n) = n := by
  induction n using Nat.strongRecOn with
  | _ n ih =>
    by_cases h : n < 10
    · rw [decDigits_one h]
      have := ofNat_d h
      exact ⟨fun c hc => by rw [List.mem_singleton.1 hc]; unfold isD; omega, by show dvalA 0 [_] = _; rw [dvalA_cons, dvalA_nil, this]; omega⟩
    · rw [dec_big h]
      obtain ⟨h1, h2⟩ := ih (n / 10) (by omega)
      have := ofNat_d (Nat.mod_lt n (show 0 < 10 by omega))
      refine ⟨fun c hc => ?_, by rw [dval_snoc, h2, this]; omega⟩
      simp only [List.mem_append, List.mem_singleton] at hc
      rcases hc with hc | rfl
      · exact h1 c hc
      · unfold isD; omega

/-- A text of digits without a leading zero is the digits of its value. -/
theorem dec_of {l : List UInt8} (h : Dgs l) (hne : l ≠ []) (hz : l = [48] ∨ l.head? ≠ some 48) : l = decDigits (dval l) := by
  induction hn : l.length generalizing l with
  | zero => exact absurd (List.length_eq_zero_iff.1 hn) hne
  | succ n ih =>
    rcases snocL l with rfl | ⟨x, c, rfl⟩
    · exact absurd rfl hne
    · have h2 := h c (by simp)
      unfold isD at h2
      have hc : UInt8.ofNat (48 + (c.toNat - 48)) = c := by
        apply UInt8.toNat_inj.1; rw [UInt8.toNat_ofNat']; have := c.toNat_lt; omega
      by_cases hx : x = []
      · subst hx
        simp only [List.nil_append]
        have : dval [c] = c.toNat - 48 := by show dvalA 0 [c] = _; rw [dvalA_cons, dvalA_nil]; omega
        rw [this, decDigits_one (by omega), hc]
      · have hz' : x = [48] ∨ x.head? ≠ some 48 := by
          right
          intro e
          rcases hz with hz | hz
          · have := congrArg List.length hz; simp at this; exact hx this
          · cases x with
            | nil => exact hx rfl
            | cons y r => exact hz e
        have h3 := ih h.left hx hz' (by simpa using hn)
        have h4 : 0 < dval x := by
          rcases Nat.eq_zero_or_pos (dval x) with h5 | h5
          · rw [h5, decDigits_one (by omega)] at h3
            rcases hz with hz | hz
            · have := congrArg List.length hz; simp at this; exact absurd this hx
            · rw [h3] at hz; exact absurd rfl hz
          · exact h5
        rw [dval_snoc, dec_big (by omega), show (dval x * 10 + (c.toNat - 48)) / 10 = dval x by omega, show (dval x * 10 + (c.toNat - 48)) % 10 = c.toNat - 48 by omega, hc, ← h3]

theorem dec_head {n : Nat} : decDigits n = [48] ∨ (decDigits n).head? ≠ some 48 := by
  induction n using Nat.strongRecOn with
  | _ n ih =>
    by_cases h : n < 10
    · rw [decDigits_one h]
      by_cases h0 : n = 0
      · left; subst h0; rfl
      · right
        intro e
        have := congrArg UInt8.toNat (Option.some.inj e)
        rw [ofNat_d h] at this
        have h8 : (48 : UInt8).toNat = 48 := rfl
        omega
    · right
      rw [dec_big h]
      have hne : decDigits (n / 10) ≠ [] := fun e => by have := decDigits_length (n / 10); rw [e] at this; have := nDigits_pos (n / 10); simp at *; omega
      rcases ih (n / 10) (by omega) with h1 | h1
      · exfalso
        have := (dec_dval (n / 10)).2
        rw [h1] at this
        simp [dval, dvalA] at this
        omega
      · cases hd : decDigits (n / 10) with
        | nil => exact absurd hd hne
        | cons y r => rw [hd] at h1; simpa using h1

end Go.Proofs.YtejlpdbiacmfcaaGreatDoor
end
section
set_option linter.unusedSimpArgs false
set_option linter.unusedVariables false
namespace Go.Proofs.YtejlpdbiacmfcaaGreatDoor
open Go.Lib

def mkq (m : Bool) (n d : Nat) : Rat := mkRat (if m then -(n : Int) else n) d
theorem mkq_form (m : Bool) (n d : Nat) (hd : d ≠ 0) : (mkq m n d).num = (if m then -((n / Nat.gcd n d : Nat) : Int) else ((n / Nat.gcd n d : Nat) : Int)) ∧ (mkq m n d).den = d / Nat.gcd n d := by
  have h := Rat.normalize_eq (num := if m then -(n : Int) else n) hd
  rw [Rat.normalize_eq_mkRat] at h
  have hn : (if m then -(n : Int) else (n : Int)).natAbs = n := by split <;> simp
  unfold mkq
  rw [h]
  refine ⟨?_, by simp only [hn]⟩
  simp only [hn]
  split
  · rw [Int.neg_ediv_of_dvd (Int.natCast_dvd_natCast.2 (Nat.gcd_dvd_left n d)), Int.natCast_ediv]
  · rw [Int.natCast_ediv]
theorem mkq_num (m : Bool) (n d : Nat) (hd : d ≠ 0) : (mkq m n d).num.natAbs = n / Nat.gcd n d := by
  rw [(mkq_form m n d hd).1]; split
  · rw [Int.natAbs_neg, Int.natAbs_natCast]
  · rw [Int.natAbs_natCast]
theorem mkq_neg (m : Bool) (n d : Nat) (hd : d ≠ 0) : ((mkq m n d).num < 0) ↔ (m = true ∧ n ≠ 0) := by
  rw [(mkq_form m n d hd).1]
  have hg : 0 < Nat.gcd n d := Nat.gcd_pos_of_pos_right n (Nat.pos_of_ne_zero hd)
  have h0 : n / Nat.gcd n d = 0 ↔ n = 0 := by
    constructor
    · intro h
      have := Nat.div_mul_cancel (Nat.gcd_dvd_left n d)
      rw [h] at this; omega
    · rintro rfl; simp
  generalize n / Nat.gcd n d = k at *
  cases m
  · simp
  · simp only [if_true, true_and]
    omega
theorem mkq_self (r : Rat) : mkq (decide (r.num < 0)) r.num.natAbs r.den = r := by
  unfold mkq
  have : (if decide (r.num < 0) = true then -(r.num.natAbs : Int) else (r.num.natAbs : Int)) = r.num := by
    by_cases h : r.num < 0
    · rw [if_pos (by simpa using h)]; omega
    · rw [if_neg (by simpa using h)]; omega
  rw [this, Rat.mkRat_self]
theorem mkq_add (m m' : Bool) (a b c d : Nat) (hb : b ≠ 0) (hd : d ≠ 0) :
    mkq m a b + mkq m' c d = mkRat ((if m then -((a * d : Nat) : Int) else ((a * d : Nat) : Int)) + (if m' then -((c * b : Nat) : Int) else ((c * b : Nat) : Int))) (b * d) := by
  unfold mkq
  rw [Rat.mkRat_add_mkRat _ _ hb hd]
  congr 1
  cases m <;> cases m' <;> simp [Int.neg_mul, Int.mul_neg]
theorem mkq_mul (m m' : Bool) (a b c d : Nat) : mkq m a b * mkq m' c d = mkq (m != m') (a * c) (b * d) := by
  unfold mkq
  rw [Rat.mkRat_mul_mkRat]
  congr 1
  cases m <;> cases m' <;> simp [Int.neg_mul, Int.mul_neg]

/-- The text of a rational number. -/
def qtext (r : Rat) : List UInt8 := (if r.num < 0 then [45] else []) ++ decDigits r.num.natAbs ++ (if r.den = 1 then [] else 47 :: decDigits r.den)
/-- Both parts have at most so many digits. -/
def Small (k : Nat) (r : Rat) : Prop := nDigits r.num.natAbs ≤ k ∧ nDigits r.den ≤ k
theorem qtext_nat (n : Nat) : qtext (n : Rat) = decDigits n := by
  unfold qtext
  rw [show ((n : Nat) : Rat).num = (n : Int) from rfl, show ((n : Nat) : Rat).den = 1 from rfl]
  rw [if_neg (by omega), if_pos rfl]; simp
theorem mkq_small {m : Bool} {n d K : Nat} (hd : d ≠ 0) (h1 : nDigits n ≤ K) (h2 : nDigits d ≤ K) : Small K (mkq m n d) := by
  unfold Small
  rw [mkq_num m n d hd, (mkq_form m n d hd).2]
  exact ⟨Nat.le_trans (nD_mono (Nat.div_le_self _ _)) h1, Nat.le_trans (nD_mono (Nat.div_le_self _ _)) h2⟩
end Go.Proofs.YtejlpdbiacmfcaaGreatDoor
end
section
set_option linter.unusedSimpArgs false
set_option linter.unusedVariables false
namespace Go.Proofs.YtejlpdbiacmfcaaGreatDoor
/-- A sum. -/
def sm : Nat → (Nat → Rat) → Rat
  | 0, _ => 0
  | n + 1, f => sm n f + f n

theorem sm_congr {f g : Nat → Rat} : ∀ {n : Nat}, (∀ i, i < n → f i = g i) → sm n f = sm n g
  | 0, _ => rfl
  | n + 1, h => by rw [sm, sm, sm_congr (fun i hi => h i (by omega)), h n (by omega)]
theorem sm_zero : ∀ n : Nat, sm n (fun _ => 0) = 0
  | 0 => rfl
  | n + 1 => by rw [sm, sm_zero n]; grind
theorem sm_zero' {f : Nat → Rat} {n : Nat} (h : ∀ i, i < n → f i = 0) : sm n f = 0 := by
  rw [sm_congr h, sm_zero]
theorem sm_add (f g : Nat → Rat) : ∀ n : Nat, sm n (fun i => f i + g i) = sm n f + sm n g
  | 0 => by simp only [sm]; grind
  | n + 1 => by rw [sm, sm, sm, sm_add f g n]; grind
theorem sm_sub (f g : Nat → Rat) : ∀ n : Nat, sm n (fun i => f i - g i) = sm n f - sm n g
  | 0 => by simp only [sm]; grind
  | n + 1 => by rw [sm, sm, sm, sm_sub f g n]; grind
theorem sm_mul (c : Rat) (f : Nat → Rat) : ∀ n : Nat, sm n (fun i => c * f i) = c * sm n f
  | 0 => by simp only [sm]; grind
  | n + 1 => by rw [sm, sm, sm_mul c f n]; grind
theorem sm_mulr (c : Rat) (f : Nat → Rat) : ∀ n : Nat, sm n (fun i => f i * c) = sm n f * c
  | 0 => by simp only [sm]; grind
  | n + 1 => by rw [sm, sm, sm_mulr c f n]; grind
theorem sm_comm (f : Nat → Nat → Rat) (n : Nat) : ∀ m : Nat, sm m (fun i => sm n (fun k => f i k)) = sm n (fun k => sm m (fun i => f i k))
  | 0 => by simp only [sm]; rw [sm_zero]
  | m + 1 => by
    rw [sm, sm_comm f n m, ← sm_add]
    exact sm_congr fun i _ => rfl
theorem sm_single {n j : Nat} (h : j < n) {f : Nat → Rat} (hf : ∀ i, i < n → i ≠ j → f i = 0) : sm n f = f j := by
  induction n with
  | zero => omega
  | succ n ih =>
    rw [sm]
    by_cases hj : j = n
    · subst hj
      rw [sm_zero' (fun i hi => hf i (by omega) (by omega))]; grind
    · rw [ih (by omega) (fun i hi hne => hf i (by omega) hne), hf n (by omega) (by omega)]; grind
theorem sm_split (f : Nat → Rat) (m : Nat) : ∀ n : Nat, sm (m + n) f = sm m f + sm n (fun i => f (m + i))
  | 0 => by simp only [sm, Nat.add_zero]; grind
  | n + 1 => by rw [← Nat.add_assoc, sm, sm_split f m n, sm]; grind
theorem sm_nonneg {f : Nat → Rat} : ∀ {n : Nat}, (∀ i, i < n → 0 ≤ f i) → 0 ≤ sm n f
  | 0, _ => by simp only [sm]; exact Rat.le_refl
  | n + 1, h => by
    rw [sm]
    have h1 := sm_nonneg (n := n) (fun i hi => h i (by omega))
    have h2 := h n (by omega)
    grind
theorem sm_nonneg_zero {f : Nat → Rat} : ∀ {n : Nat}, (∀ i, i < n → 0 ≤ f i) → sm n f = 0 → ∀ i, i < n → f i = 0
  | 0, _, _, i, hi => by omega
  | n + 1, h, h0, i, hi => by
    rw [sm] at h0
    have h1 := sm_nonneg (n := n) (fun i hi => h i (by omega))
    have h2 := h n (by omega)
    have h3 : sm n f = 0 := by grind
    by_cases hn : i = n
    · subst hn; grind
    · exact sm_nonneg_zero (fun i hi => h i (by omega)) h3 i (by omega)

abbrev Mx := Nat → Nat → Rat

/-- This vector is sent to nothing. -/
def Nul (m n : Nat) (f : Mx) (x : Nat → Rat) : Prop := ∀ i, i < m → sm n (fun k => f i k * x k) = 0

def swp (r i : Nat) (f : Mx) : Mx := fun a => if a = r then f i else if a = i then f r else f a
def scl (r : Nat) (c : Rat) (f : Mx) : Mx := fun a k => if a = r then f r k * c else f a k
def elm (r k : Nat) (f : Mx) : Mx := fun a j => if a = r then f r j else f a j + f r j * (-(f a k))

theorem nul_swp {m n r i : Nat} (hr : r < m) (hi : i < m) (f : Mx) (x : Nat → Rat) : Nul m n (swp r i f) x ↔ Nul m n f x := by
  constructor
  · intro h a ha
    by_cases h1 : a = r
    · subst h1
      by_cases h2 : a = i
      · subst h2
        have := h a ha; unfold swp at this; simpa using this
      · have := h i hi; unfold swp at this
        rw [if_neg (fun e => h2 e.symm)] at this; simpa using this
    · by_cases h2 : a = i
      · subst h2
        have := h r hr; unfold swp at this; simpa using this
      · have := h a ha; unfold swp at this; rw [if_neg h1, if_neg h2] at this; exact this
  · intro h a ha
    unfold swp
    by_cases h1 : a = r
    · rw [if_pos h1]; exact h i hi
    · rw [if_neg h1]
      by_cases h2 : a = i
      · rw [if_pos h2]; exact h r hr
      · rw [if_neg h2]; exact h a ha
theorem nul_scl {m n r : Nat} (hr : r < m) {c : Rat} (hc : c ≠ 0) (f : Mx) (x : Nat → Rat) : Nul m n (scl r c f) x ↔ Nul m n f x := by
  have key : sm n (fun k => f r k * c * x k) = c * sm n (fun k => f r k * x k) := by
    rw [← sm_mul]; exact sm_congr fun i _ => by grind
  constructor
  · intro h a ha
    have := h a ha
    unfold scl at this
    by_cases h1 : a = r
    · subst h1
      simp only [if_true] at this
      rw [key] at this
      grind
    · simpa only [if_neg h1] using this
  · intro h a ha
    unfold scl
    by_cases h1 : a = r
    · subst h1
      simp only [if_true]
      rw [key, h a ha]; grind
    · simpa only [if_neg h1] using h a ha
theorem nul_elm {m n r : Nat} (hr : r < m) (k : Nat) (f : Mx) (x : Nat → Rat) : Nul m n (elm r k f) x ↔ Nul m n f x := by
  have key : ∀ a, sm n (fun j => (f a j + f r j * (-(f a k))) * x j) = sm n (fun j => f a j * x j) + (-(f a k)) * sm n (fun j => f r j * x j) := by
    intro a
    rw [← sm_mul, ← sm_add]; exact sm_congr fun i _ => by grind
  constructor
  · intro h a ha
    have h0 := h r hr
    unfold elm at h0
    simp only [if_true] at h0
    by_cases h1 : a = r
    · subst h1; exact h0
    · have := h a ha
      unfold elm at this
      simp only [if_neg h1] at this
      rw [key, h0] at this
      grind
  · intro h a ha
    unfold elm
    by_cases h1 : a = r
    · subst h1; simpa only [if_true] using h a ha
    · simp only [if_neg h1]
      rw [key, h a ha, h r hr]; grind

/-- The first of some numbers that has a property. -/
def fnz (p : Nat → Bool) : Nat → Nat → Option Nat
  | _, 0 => none
  | r, c + 1 => if p r = true then some r else fnz p (r + 1) c
theorem fnz_some {p : Nat → Bool} : ∀ {c r i : Nat}, fnz p r c = some i → r ≤ i ∧ i < r + c ∧ p i = true ∧ ∀ j, r ≤ j → j < i → p j = false
  | 0, _, _, h => by cases h
  | c + 1, r, i, h => by
    rw [fnz] at h
    split at h
    · rename_i hp; cases h; exact ⟨by omega, by omega, hp, fun j h1 h2 => by omega⟩
    · rename_i hp
      obtain ⟨h1, h2, h3, h4⟩ := fnz_some h
      refine ⟨by omega, by omega, h3, fun j h5 h6 => ?_⟩
      by_cases hj : j = r
      · subst hj; simpa using hp
      · exact h4 j (by omega) h6
theorem fnz_none {p : Nat → Bool} : ∀ {c r : Nat}, fnz p r c = none → ∀ j, r ≤ j → j < r + c → p j = false
  | 0, _, _, j, h1, h2 => by omega
  | c + 1, r, h, j, h1, h2 => by
    rw [fnz] at h
    split at h
    · cases h
    · rename_i hp
      by_cases hj : j = r
      · subst hj; simpa using hp
      · exact fnz_none h j (by omega) (by omega)
theorem fnz_at {p : Nat → Bool} : ∀ {c r i : Nat}, r ≤ i → i < r + c → p i = true → (∀ j, r ≤ j → j < i → p j = false) → fnz p r c = some i
  | 0, r, i, h1, h2, _, _ => by omega
  | c + 1, r, i, h1, h2, h3, h4 => by
    rw [fnz]
    by_cases hi : i = r
    · subst hi; rw [if_pos h3]
    · rw [if_neg (by rw [h4 r (by omega) (by omega)]; simp)]
      exact fnz_at (by omega) (by omega) h3 (fun j h5 h6 => h4 j (by omega) h6)
theorem fnz_no {p : Nat → Bool} : ∀ {c r : Nat}, (∀ j, r ≤ j → j < r + c → p j = false) → fnz p r c = none
  | 0, _, _ => rfl
  | c + 1, r, h => by
    rw [fnz, if_neg (by rw [h r (by omega) (by omega)]; simp)]
    exact fnz_no (fun j h1 h2 => h j (by omega) (by omega))

/-- Elimination in one column. -/
def piv (m k : Nat) (f : Mx) (r : Nat) : Option Nat := fnz (fun i => decide (f i k ≠ 0)) r (m - r)
def gnew (r i k : Nat) (f : Mx) : Mx := elm r k (scl r (f i k)⁻¹ (swp r i f))
def gstep (m k : Nat) (s : Mx × Nat) : Mx × Nat := match piv m k s.1 s.2 with
  | none => s
  | some i => (gnew s.2 i k s.1, s.2 + 1)
def gj (m : Nat) (f : Mx) : Nat → Mx × Nat
  | 0 => (f, 0)
  | k + 1 => gstep m k (gj m f k)

theorem piv_some {m k r i : Nat} {f : Mx} (h : piv m k f r = some i) : r ≤ i ∧ i < m ∧ f i k ≠ 0 ∧ ∀ j, r ≤ j → j < i → f j k = 0 := by
  obtain ⟨h1, h2, h3, h4⟩ := fnz_some h
  exact ⟨h1, by omega, by simpa using h3, fun j h5 h6 => by simpa using h4 j h5 h6⟩
theorem piv_none {m k r : Nat} {f : Mx} (h : piv m k f r = none) : ∀ j, r ≤ j → j < m → f j k = 0 := by
  intro j h1 h2
  simpa using fnz_none h j h1 (by omega)
theorem gnew_row {r i k : Nat} {f : Mx} (hk : f i k ≠ 0) : gnew r i k f r k = 1 := by
  unfold gnew elm scl swp
  simp only [if_true]
  exact Rat.mul_inv_cancel _ hk
theorem gnew_else {r i k j : Nat} {f : Mx} (hk : f i k ≠ 0) (hj : j ≠ r) : gnew r i k f j k = 0 := by
  have h : scl r (f i k)⁻¹ (swp r i f) r k = 1 := by
    unfold scl swp
    simp only [if_true]
    exact Rat.mul_inv_cancel _ hk
  unfold gnew elm
  simp only [if_neg hj]
  rw [h]; grind
theorem nul_gnew {m n r i k : Nat} {f : Mx} (hr : r < m) (hi : i < m) (hk : f i k ≠ 0) (x : Nat → Rat) : Nul m n (gnew r i k f) x ↔ Nul m n f x := by
  unfold gnew
  rw [nul_elm hr, nul_scl hr (by intro h; have := Rat.mul_inv_cancel _ hk; rw [h] at this; grind), nul_swp hr hi]

theorem gj_le (m : Nat) (f : Mx) : ∀ k, (gj m f k).2 ≤ m ∧ (gj m f k).2 ≤ k
  | 0 => ⟨Nat.zero_le _, Nat.le_refl _⟩
  | k + 1 => by
    have ih := gj_le m f k
    rw [gj, gstep]
    split
    · omega
    · rename_i i h
      have := piv_some h
      simp only
      omega
theorem nul_gj (m n : Nat) (f : Mx) (x : Nat → Rat) : ∀ k, Nul m n (gj m f k).1 x ↔ Nul m n f x
  | 0 => Iff.rfl
  | k + 1 => by
    rw [gj, gstep]
    split
    · exact nul_gj m n f x k
    · rename_i i h
      obtain ⟨h1, h2, h3, _⟩ := piv_some h
      rw [← nul_gj m n f x k]
      exact nul_gnew (by omega) h2 h3 x

/-- What elimination in the first k columns has brought about; p tells the columns of the rows. -/
structure Elim (m k : Nat) (s : Mx × Nat) (p : Nat → Nat) : Prop where
  lt : ∀ i, i < s.2 → p i < k
  inj : ∀ i j, i < s.2 → j < s.2 → p i = p j → i = j
  one : ∀ i, i < s.2 → s.1 i (p i) = 1
  zer : ∀ i j, i < s.2 → j < m → j ≠ i → s.1 j (p i) = 0
  low : ∀ i c, s.2 ≤ i → i < m → c < k → s.1 i c = 0

theorem gj_elim (m : Nat) (f : Mx) : ∀ k, ∃ p, Elim m k (gj m f k) p
  | 0 => ⟨id, fun i h => by simp [gj] at h, fun i j h => by simp [gj] at h, fun i h => by simp [gj] at h, fun i j h => by simp [gj] at h, fun i c _ _ h => by omega⟩
  | k + 1 => by
    obtain ⟨p, h1, h2, h3, h4, h5⟩ := gj_elim m f k
    rw [gj]
    unfold gstep
    have hle := gj_le m f k
    generalize gj m f k = s at *
    obtain ⟨g, r⟩ := s
    simp only at *
    split
    · rename_i hn
      refine ⟨p, fun i hi => Nat.lt_succ_of_lt (h1 i hi), h2, h3, h4, fun i c hr hm hc => ?_⟩
      by_cases hck : c = k
      · subst hck; exact piv_none hn i hr hm
      · exact h5 i c hr hm (by omega)
    · rename_i i hs
      obtain ⟨e1, e2, e3, _⟩ := piv_some hs
      have hrow : ∀ c, c < k → swp r i g r c = 0 := fun c hc => by unfold swp; simp only [if_true]; exact h5 i c e1 e2 hc
      have hold : ∀ a c, c < k → gnew r i k g a c = swp r i g a c := by
        intro a c hc
        unfold gnew elm
        by_cases ha : a = r
        · subst ha; simp only [if_true]; unfold scl; simp only [if_true]; rw [hrow c hc]; grind
        · simp only [if_neg ha]
          have : scl r (g i k)⁻¹ (swp r i g) r c = 0 := by unfold scl; simp only [if_true]; rw [hrow c hc]; grind
          rw [this]; unfold scl; simp only [if_neg ha]; grind
      refine ⟨fun a => if a = r then k else p a, ?_, ?_, ?_, ?_, ?_⟩
      · intro a ha
        simp only at ha ⊢
        split
        · omega
        · exact Nat.lt_succ_of_lt (h1 a (by omega))
      · intro a b ha hb hab
        simp only at ha hb hab
        split at hab <;> split at hab
        · omega
        · have := h1 b (by omega); omega
        · have := h1 a (by omega); omega
        · exact h2 a b (by omega) (by omega) hab
      · intro a ha
        simp only at ha ⊢
        split
        · rename_i hr; subst hr; exact gnew_row e3
        · rename_i hr
          have hpa := h1 a (by omega)
          rw [hold a _ hpa]
          unfold swp
          rw [if_neg hr, if_neg (by omega)]
          exact h3 a (by omega)
      · intro a b ha hb hne
        simp only at ha ⊢
        split
        · rename_i hr; subst hr; exact gnew_else e3 hne
        · rename_i hr
          have hpa := h1 a (by omega)
          rw [hold b _ hpa]
          unfold swp
          split
          · exact h4 a i (by omega) e2 (by omega)
          · split
            · exact h4 a r (by omega) (by omega) (by omega)
            · exact h4 a b (by omega) hb hne
      · intro a c ha hm hc
        simp only at ha
        by_cases hck : c = k
        · subst hck; exact gnew_else e3 (by omega)
        · simp only
          rw [hold a c (by omega)]
          unfold swp
          rw [if_neg (by omega)]
          split
          · exact h5 r c (by omega) (by omega) (by omega)
          · exact h5 a c (by omega) hm (by omega)

/-- A column is made of the ones before it. -/
def Dep (m n : Nat) (f : Mx) (k : Nat) : Prop := ∃ x, Nul m n f x ∧ x k ≠ 0 ∧ ∀ i, k < i → i < n → x i = 0

/-- The vector that shows that a column is made of earlier ones. -/
theorem dep_of_none {m n k : Nat} {f : Mx} (hk : k < n) (h : piv m k (gj m f k).1 (gj m f k).2 = none) : Dep m n f k := by
  obtain ⟨p, h1, h2, h3, h4, h5⟩ := gj_elim m f k
  have hz := piv_none h
  have hle := gj_le m f k
  -- x t = 1 at k; -(entry) at p i; else 0
  refine ⟨fun t => if t = k then 1 else - sm (gj m f k).2 (fun i => if p i = t then (gj m f k).1 i k else 0), ?_, by simp, ?_⟩
  · rw [← nul_gj m n f _ k]
    generalize gj m f k = s at *
    obtain ⟨g, r⟩ := s
    simp only at *
    intro a ha
    have hsum : sm n (fun c => g a c * (if c = k then 1 else - sm r (fun i => if p i = c then g i k else 0))) = sm n (fun c => (if c = k then g a c else 0) - sm r (fun i => if p i = c then g a c * g i k else 0)) := by
      apply sm_congr
      intro c hc
      split
      · rename_i hck
        rw [sm_zero' (f := fun i => if p i = c then g a c * g i k else 0) (fun i hi => if_neg (by have := h1 i hi; omega))]; grind
      · have e : sm r (fun i => if p i = c then g a c * g i k else 0) = g a c * sm r (fun i => if p i = c then g i k else 0) := by
          rw [← sm_mul]; apply sm_congr; intro i _; split <;> grind
        rw [e]; grind
    rw [hsum, sm_sub, sm_comm]
    rw [sm_single hk (fun c hc hne => if_neg hne), if_pos rfl]
    have hin : sm r (fun i => sm n (fun c => if p i = c then g a c * g i k else 0)) = sm r (fun i => g a (p i) * g i k) := by
      apply sm_congr
      intro i hi
      rw [sm_single (j := p i) (by have := h1 i hi; omega) (fun c hc hne => if_neg (fun e => hne e.symm)), if_pos rfl]
    rw [hin]
    by_cases har : a < r
    · rw [sm_single har (fun i hi hne => by rw [h4 i a hi ha (fun e => hne e.symm)]; grind), h3 a har]; grind
    · rw [sm_zero' (fun i hi => by rw [h5 a (p i) (by omega) ha (h1 i hi)]; grind), hz a (by omega) ha]; grind
  · intro i hi hn
    simp only [if_neg (Nat.ne_of_gt hi)]
    rw [sm_zero' (fun j hj => if_neg (by have := h1 j hj; omega))]; grind

theorem not_dep_of_some {m n k i : Nat} {f : Mx} (hk : k < n) (h : piv m k (gj m f k).1 (gj m f k).2 = some i) : ¬ Dep m n f k := by
  rintro ⟨x, hx, hne, hz⟩
  apply hne
  obtain ⟨p, h1, h2, h3, h4, h5⟩ := gj_elim m f k
  obtain ⟨e1, e2, e3, _⟩ := piv_some h
  rw [← nul_gj m n f _ k] at hx
  have := hx i e2
  rw [sm_single hk (fun c hc hcne => by
    rcases Nat.lt_or_ge c k with hlt | hge
    · rw [h5 i c e1 e2 hlt]; grind
    · rw [hz c (by omega) hc]; grind)] at this
  grind

theorem gj_rank_succ (m : Nat) (f : Mx) (k : Nat) : (gj m f (k + 1)).2 = (gj m f k).2 + (match piv m k (gj m f k).1 (gj m f k).2 with | none => 0 | some _ => 1) := by
  rw [gj, gstep]
  split <;> rfl

/-- The rank is told by the vectors that are sent to nothing. -/
theorem rank_nul {m m' n : Nat} {f g : Mx} (h : ∀ x, Nul m n f x ↔ Nul m' n g x) : ∀ k, k ≤ n → (gj m f k).2 = (gj m' g k).2
  | 0, _ => rfl
  | k + 1, hk => by
    have hd : Dep m n f k ↔ Dep m' n g k := by
      unfold Dep
      constructor
      · rintro ⟨x, h1, h2⟩; exact ⟨x, (h x).1 h1, h2⟩
      · rintro ⟨x, h1, h2⟩; exact ⟨x, (h x).2 h1, h2⟩
    have ih := rank_nul h k (by omega)
    rw [gj_rank_succ, gj_rank_succ]
    cases h1 : piv m k (gj m f k).1 (gj m f k).2 with
    | none =>
      cases h2 : piv m' k (gj m' g k).1 (gj m' g k).2 with
      | none => simp only; omega
      | some j => exact absurd (hd.1 (dep_of_none (by omega) h1)) (not_dep_of_some (by omega) h2)
    | some i =>
      cases h2 : piv m' k (gj m' g k).1 (gj m' g k).2 with
      | none => exact absurd (hd.2 (dep_of_none (by omega) h2)) (not_dep_of_some (by omega) h1)
      | some j => simp only; omega

/-- The rank is full if and only if only nothing is sent to nothing. -/
theorem rank_full {m n : Nat} {f : Mx} : (gj m f n).2 = n ↔ ∀ x, Nul m n f x → ∀ i, i < n → x i = 0 := by
  have key : ∀ k, k ≤ n → ((gj m f k).2 = k ↔ ∀ j, j < k → ¬ Dep m n f j) := by
    intro k
    induction k with
    | zero => intro _; simp [gj]
    | succ k ih =>
      intro hk
      have hle := (gj_le m f k).2
      rw [gj_rank_succ]
      cases h1 : piv m k (gj m f k).1 (gj m f k).2 with
      | none =>
        simp only
        constructor
        · intro h; omega
        · intro h; exact absurd (dep_of_none (by omega) h1) (h k (by omega))
      | some i =>
        simp only
        have hnd := not_dep_of_some (n := n) (by omega) h1
        constructor
        · intro h j hj
          by_cases hjk : j = k
          · subst hjk; exact hnd
          · exact (ih (by omega)).1 (by omega) j (by omega)
        · intro h
          have := (ih (by omega)).2 (fun j hj => h j (by omega))
          omega
  rw [key n (Nat.le_refl _)]
  constructor
  · intro h x hx
    have : ∀ c, c ≤ n → ∀ i, n - c ≤ i → i < n → x i = 0 := by
      intro c
      induction c with
      | zero => intro _ i h1 h2; omega
      | succ c ih =>
        intro hc i h1 h2
        by_cases hi : i = n - (c + 1)
        · apply Classical.byContradiction
          intro hne
          exact h i h2 ⟨x, hx, hne, fun j hj hjn => ih (by omega) j (by omega) hjn⟩
        · exact ih (by omega) i (by omega) h2
    intro i hi
    exact this n (Nat.le_refl _) i (by omega) hi
  · rintro h j hj ⟨x, h1, h2, _⟩
    exact h2 (h x h1 j hj)

/-- Where the rank is full, the rows are those of the identity. -/
theorem gj_full {m : Nat} {f : Mx} : ∀ {k : Nat}, (gj m f k).2 = k → ∀ i j, i < k → j < m → (gj m f k).1 j i = if j = i then 1 else 0
  | 0, _, i, _, h, _ => by omega
  | k + 1, h, i, j, hi, hj => by
    have hle := (gj_le m f k).2
    rw [gj_rank_succ] at h
    obtain ⟨p, h1, h2, h3, h4, h5⟩ := gj_elim m f k
    cases hp : piv m k (gj m f k).1 (gj m f k).2 with
    | none => rw [hp] at h; simp only at h; omega
    | some q =>
      rw [hp] at h
      have hk : (gj m f k).2 = k := by simp only at h; omega
      obtain ⟨e1, e2, e3, _⟩ := piv_some hp
      have ihf := gj_full hk
      rw [gj, gstep, hp]
      simp only
      rw [hk] at *
      by_cases hik : i = k
      · subst hik
        by_cases hji : j = i
        · rw [if_pos hji, hji]; exact gnew_row e3
        · rw [if_neg hji]; exact gnew_else e3 hji
      · have ih := fun j hj => ihf i j (by omega) hj
        have hrow : ∀ a, a < m → swp k q (gj m f k).1 a i = if a = i then 1 else 0 := by
          intro a ha
          unfold swp
          split
          · rename_i hak
            rw [ih q e2, if_neg (by omega), if_neg (by omega)]
          · split
            · rename_i haq
              rw [ih k (by omega), if_neg (by omega), if_neg (by omega)]
            · exact ih a ha
        have h0 : swp k q (gj m f k).1 k i = 0 := by rw [hrow k (by omega), if_neg (by omega)]
        unfold gnew elm
        split
        · rename_i hjk
          unfold scl; simp only [if_true]
          rw [h0, if_neg (by omega)]; grind
        · rename_i hjk
          have : scl k ((gj m f k).1 q k)⁻¹ (swp k q (gj m f k).1) k i = 0 := by unfold scl; simp only [if_true]; rw [h0]; grind
          rw [this]
          unfold scl
          simp only [if_neg hjk]
          rw [hrow j hj]; grind

/-- Columns behind the first ones do not matter for the first ones. -/
theorem gj_cols {m n : Nat} {f g : Mx} (h : ∀ i c, i < m → c < n → f i c = g i c) : ∀ k, k ≤ n → (gj m f k).2 = (gj m g k).2 ∧ ∀ i c, i < m → c < n → (gj m f k).1 i c = (gj m g k).1 i c
  | 0, _ => ⟨rfl, h⟩
  | k + 1, hk => by
    obtain ⟨h1, h2⟩ := gj_cols h k (by omega)
    have hle := gj_le m f k
    rw [gj, gj]
    unfold gstep
    generalize gj m f k = s at *
    generalize gj m g k = t at *
    obtain ⟨a, r⟩ := s
    obtain ⟨b, r'⟩ := t
    simp only at *
    subst h1
    have hp : piv m k a r = piv m k b r := by
      cases ha : piv m k a r with
      | none =>
        symm
        exact fnz_no fun j h3 h4 => by
          rw [← h2 j k (by omega) (by omega), piv_none ha j h3 (by omega)]; simp
      | some i =>
        obtain ⟨e1, e2, e3, e4⟩ := piv_some ha
        symm
        exact fnz_at e1 (by omega) (by rw [← h2 i k e2 (by omega)]; simpa using e3) (fun j h3 h4 => by rw [← h2 j k (by omega) (by omega), e4 j h3 h4]; simp)
    rw [hp]
    cases hb : piv m k b r with
    | none => exact ⟨rfl, h2⟩
    | some i =>
      obtain ⟨e1, e2, e3, e4⟩ := piv_some hb
      refine ⟨rfl, fun j c hj hc => ?_⟩
      simp only
      have hs : ∀ j c, j < m → c < n → swp r i a j c = swp r i b j c := by
        intro j c hj hc
        unfold swp
        split
        · exact h2 i c e2 hc
        · split
          · exact h2 r c (by omega) hc
          · exact h2 j c hj hc
      have hsc : ∀ j c, j < m → c < n → scl r (a i k)⁻¹ (swp r i a) j c = scl r (b i k)⁻¹ (swp r i b) j c := by
        intro j c hj hc
        unfold scl
        rw [h2 i k e2 (by omega)]
        split
        · rw [hs r c (by omega) hc]
        · exact hs j c hj hc
      unfold gnew elm
      split
      · exact hsc r c (by omega) hc
      · rw [hsc j c hj hc, hsc r c (by omega) hc, hsc j k hj (by omega)]

/-- A square system with some right sides. -/
def aug (n : Nat) (f b : Mx) : Mx := fun i k => if k < n then f i k else b i (k - n)
theorem aug_rank (n : Nat) (f b : Mx) : (gj n (aug n f b) n).2 = (gj n f n).2 :=
  (gj_cols (n := n) (fun i c _ hc => by unfold aug; rw [if_pos hc]) n (Nat.le_refl _)).1

/-- The solution is the only one. -/
theorem solve_iff {n c : Nat} {f b : Mx} (h : (gj n f n).2 = n) (j : Nat) (hj : j < c) (y : Nat → Rat) :
    (∀ i, i < n → sm n (fun k => f i k * y k) = b i j) ↔ ∀ i, i < n → y i = (gj n (aug n f b) n).1 i (n + j) := by
  have hr := h
  rw [← aug_rank n f b] at hr
  have hfull := gj_full hr
  have e := nul_gj n (n + c) (aug n f b) (fun k => if k < n then y k else if k = n + j then -1 else 0) n
  have hs : ∀ (g : Mx) i, sm (n + c) (fun k => g i k * (if k < n then y k else if k = n + j then -1 else 0)) = sm n (fun k => g i k * y k) - g i (n + j) := by
    intro g i
    rw [sm_split]
    rw [sm_congr (f := fun k => g i k * (if k < n then y k else if k = n + j then -1 else 0)) (g := fun k => g i k * y k) (fun k hk => by simp only [if_pos hk])]
    rw [sm_single (j := j) hj (fun k hk hne => by simp only [if_neg (show ¬ n + k < n by omega), if_neg (show ¬ n + k = n + j by omega)]; grind)]
    simp only [if_neg (show ¬ n + j < n by omega), if_true]
    grind
  unfold Nul at e
  simp only [hs] at e
  constructor
  · intro hy i hi
    have := e.2 (fun i hi => by
      rw [sm_congr (g := fun k => f i k * y k) (fun k hk => by unfold aug; simp only [if_pos hk]), hy i hi]
      unfold aug
      rw [if_neg (by omega), Nat.add_sub_cancel_left]; grind) i hi
    rw [sm_single hi (fun k hk hne => by rw [hfull k i hk hi, if_neg (fun e => hne e.symm)]; grind), hfull i i hi hi, if_pos rfl] at this
    grind
  · intro hy i hi
    have := e.1 (fun i hi => by
      rw [sm_single hi (fun k hk hne => by rw [hfull k i hk hi, if_neg (fun e => hne e.symm)]; grind), hfull i i hi hi, if_pos rfl, hy i hi]; grind) i hi
    rw [sm_congr (g := fun k => f i k * y k) (fun k hk => by unfold aug; simp only [if_pos hk])] at this
    unfold aug at this
    rw [if_neg (by omega), Nat.add_sub_cancel_left] at this
    grind
end Go.Proofs.YtejlpdbiacmfcaaGreatDoor
end
