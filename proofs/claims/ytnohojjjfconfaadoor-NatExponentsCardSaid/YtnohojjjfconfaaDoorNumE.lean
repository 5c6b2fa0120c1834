/-
  Plain arithmetic of texts of digits: their value, and that a text without a leading zero is the digits of its value.
  No conditions: each theorem names its own premises.
-/
import Derived.Test.YtnohojjjfconfaaDoorNumD
import Derived.Lib.ParseIntB
set_option linter.unusedVariables false
set_option linter.unusedSimpArgs false
namespace Go.Proofs.YtnohojjjfconfaaDoor
open Go.Lib

def isD (c : UInt8) : Prop := 48 ≤ c.toNat ∧ c.toNat ≤ 57
def Dgs (l : List UInt8) : Prop := ∀ c ∈ l, isD c
def dvalA (a : Nat) (l : List UInt8) : Nat := l.foldl (fun a c => a * 10 + (c.toNat - 48)) a
def dval (l : List UInt8) : Nat := dvalA 0 l

theorem dvalA_nil (a : Nat) : dvalA a [] = a := by simp only [dvalA, List.foldl_nil]
theorem dvalA_cons (a : Nat) (c : UInt8) (l : List UInt8) : dvalA a (c :: l) = dvalA (a * 10 + (c.toNat - 48)) l := by simp only [dvalA, List.foldl_cons]
theorem dvalA_append (a : Nat) (x y : List UInt8) : dvalA a (x ++ y) = dvalA (dvalA a x) y := by unfold dvalA; rw [List.foldl_append]
theorem dvalA_eq : ∀ (l : List UInt8) (a : Nat), dvalA a l = a * 10 ^ l.length + dval l
  | [], a => by simp [dval, dvalA]
  | c :: l, a => by
    have h1 : dval (c :: l) = (c.toNat - 48) * 10 ^ l.length + dval l := by
      show dvalA 0 (c :: l) = _
      rw [dvalA_cons, dvalA_eq l, Nat.zero_mul, Nat.zero_add]
    rw [dvalA_cons, dvalA_eq l, h1, List.length_cons, Nat.pow_succ, Nat.add_mul, Nat.mul_comm (10 ^ l.length) 10, ← Nat.mul_assoc]
    omega
theorem dval_append (x y : List UInt8) : dval (x ++ y) = dval x * 10 ^ y.length + dval y := by
  show dvalA 0 (x ++ y) = _; rw [dvalA_append, dvalA_eq]; rfl
theorem dval_snoc (x : List UInt8) (c : UInt8) : dval (x ++ [c]) = dval x * 10 + (c.toNat - 48) := by
  show dvalA 0 (x ++ [c]) = _; rw [dvalA_append, dvalA_cons, dvalA_nil]; rfl
theorem Dgs.left {x y : List UInt8} (h : Dgs (x ++ y)) : Dgs x := fun c hc => h c (by simp [hc])
theorem Dgs.right {x y : List UInt8} (h : Dgs (x ++ y)) : Dgs y := fun c hc => h c (by simp [hc])
theorem Dgs.take {x : List UInt8} (h : Dgs x) (k : Nat) : Dgs (x.take k) := fun c hc => h c (List.mem_of_mem_take hc)
theorem Dgs.drop {x : List UInt8} (h : Dgs x) (k : Nat) : Dgs (x.drop k) := fun c hc => h c (List.mem_of_mem_drop hc)

theorem snocL {α : Type} (xs : List α) : xs = [] ∨ ∃ ys y, xs = ys ++ [y] := by
  rcases List.eq_nil_or_concat xs with h | ⟨a, b, h⟩
  · exact .inl h
  · exact .inr ⟨a, b, by simpa using h⟩

theorem dval_lt {l : List UInt8} (h : Dgs l) : dval l < 10 ^ l.length := by
  induction hn : l.length generalizing l with
  | zero => rw [List.length_eq_zero_iff] at hn; subst hn; simp [dval, dvalA]
  | succ n ih =>
    rcases snocL l with rfl | ⟨x, c, rfl⟩
    · simp at hn
    · have h1 := ih h.left (by simpa using hn)
      have h2 := h c (by simp)
      unfold isD at h2
      rw [dval_snoc, Nat.pow_succ]
      omega

theorem parse_ok : ∀ (l : List UInt8) (a : Nat), Dgs l → (a + 1) * 10 ^ l.length ≤ 1000000000000000000 → parseUintM (2 ^ 64 - 1) a l = .ok (dvalA a l)
  | [], a, _, _ => rfl
  | c :: l, a, h, hb => by
    have h1 := h c (by simp)
    unfold isD at h1
    rw [parseUintM, if_pos h1]
    have h2 : (a * 10 + (c.toNat - 48) + 1) * 10 ^ l.length ≤ 1000000000000000000 := by
      refine Nat.le_trans (Nat.mul_le_mul_right _ (show a * 10 + (c.toNat - 48) + 1 ≤ (a + 1) * 10 by omega)) ?_
      rw [List.length_cons, Nat.pow_succ, Nat.mul_comm (10 ^ l.length), ← Nat.mul_assoc] at hb
      exact hb
    have h3 : (a * 10 + (c.toNat - 48) + 1) * 1 ≤ (a * 10 + (c.toNat - 48) + 1) * 10 ^ l.length := Nat.mul_le_mul_left _ (Nat.pow_pos (by omega))
    rw [if_neg (by omega), if_neg (by omega), dvalA_cons]
    exact parse_ok l _ (fun c hc => h c (by simp [hc])) h2

theorem parse_chunk {l : List UInt8} (h : Dgs l) (hne : l ≠ []) (hl : l.length ≤ 9) : parseUintB 64 l = .ok (dval l) := by
  unfold parseUintB
  rw [if_neg hne]
  refine parse_ok l 0 h ?_
  have := Nat.pow_le_pow_right (n := 10) (by omega) hl
  omega

theorem ofNat_d {k : Nat} (h : k < 10) : (UInt8.ofNat (48 + k)).toNat = 48 + k := by
  rw [UInt8.toNat_ofNat']; omega

theorem dec_dval (n : Nat) : Dgs (decDigits n) ∧ dval (decDigits n) = n := by
  induction n using Nat.strongRecOn with
  | _ n ih =>
    by_cases h : n < 10
    · rw [decDigits_one h]
      have := ofNat_d h
      exact ⟨fun c hc => by rw [List.mem_singleton.1 hc]; unfold isD; omega, by show dvalA 0 [_] = _; rw [dvalA_cons, dvalA_nil, this]; omega⟩
    · rw [dec_big h]
      obtain ⟨h1, h2⟩ := ih (n / 10) (by omega)
      have := ofNat_d (Nat.mod_lt n (show 0 < 10 by omega))
      refine ⟨fun c hc => ?_, by rw [dval_snoc, h2, this]; omega⟩
      simp only [List.mem_append, List.mem_singleton] at hc
      rcases hc with hc | rfl
      · exact h1 c hc
      · unfold isD; omega

/-- A text of digits without a leading zero is the digits of its value. -/
theorem dec_of {l : List UInt8} (h : Dgs l) (hne : l ≠ []) (hz : l = [48] ∨ l.head? ≠ some 48) : l = decDigits (dval l) := by
  induction hn : l.length generalizing l with
  | zero => exact absurd (List.length_eq_zero_iff.1 hn) hne
  | succ n ih =>
    rcases snocL l with rfl | ⟨x, c, rfl⟩
    · exact absurd rfl hne
    · have h2 := h c (by simp)
      unfold isD at h2
      have hc : UInt8.ofNat (48 + (c.toNat - 48)) = c := by
        apply UInt8.toNat_inj.1; rw [UInt8.toNat_ofNat']; have := c.toNat_lt; omega
      by_cases hx : x = []
      · subst hx
        simp only [List.nil_append]
        have : dval [c] = c.toNat - 48 := by show dvalA 0 [c] = _; rw [dvalA_cons, dvalA_nil]; omega
        rw [this, decDigits_one (by omega), hc]
      · have hz' : x = [48] ∨ x.head? ≠ some 48 := by
          right
          intro e
          rcases hz with hz | hz
          · have := congrArg List.length hz; simp at this; exact hx this
          · cases x with
            | nil => exact hx rfl
            | cons y r => exact hz e
        have h3 := ih h.left hx hz' (by simpa using hn)
        have h4 : 0 < dval x := by
          rcases Nat.eq_zero_or_pos (dval x) with h5 | h5
          · rw [h5, decDigits_one (by omega)] at h3
            rcases hz with hz | hz
            · have := congrArg List.length hz; simp at this; exact absurd this hx
            · rw [h3] at hz; exact absurd rfl hz
          · exact h5
        rw [dval_snoc, dec_big (by omega), show (dval x * 10 + (c.toNat - 48)) / 10 = dval x by omega, show (dval x * 10 + (c.toNat - 48)) % 10 = c.toNat - 48 by omega, hc, ← h3]

theorem dec_head {n : Nat} : decDigits n = [48] ∨ (decDigits n).head? ≠ some 48 := by
  induction n using Nat.strongRecOn with
  | _ n ih =>
    by_cases h : n < 10
    · rw [decDigits_one h]
      by_cases h0 : n = 0
      · left; subst h0; rfl
      · right
        intro e
        have := congrArg UInt8.toNat (Option.some.inj e)
        rw [ofNat_d h] at this
        have h8 : (48 : UInt8).toNat = 48 := rfl
        omega
    · right
      rw [dec_big h]
      have hne : decDigits (n / 10) ≠ [] := fun e => by have := decDigits_length (n / 10); rw [e] at this; have := nDigits_pos (n / 10); simp at *; omega
      rcases ih (n / 10) (by omega) with h1 | h1
      · exfalso
        have := (dec_dval (n / 10)).2
        rw [h1] at this
        simp [dval, dvalA] at this
        omega
      · cases hd : decDigits (n / 10) with
        | nil => exact absurd hd hne
        | cons y r => rw [hd] at h1; simpa using h1

theorem dec_inj {m n : Nat} (h : decDigits m = decDigits n) : m = n := by
  have := (dec_dval m).2
  rw [h, (dec_dval n).2] at this
  exact this.symm
end Go.Proofs.YtnohojjjfconfaaDoor
