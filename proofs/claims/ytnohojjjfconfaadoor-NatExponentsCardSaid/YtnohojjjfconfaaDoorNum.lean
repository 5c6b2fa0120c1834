/-
  Plain arithmetic of numbers written in limbs below 1,000,000,000, the lowest limb first; no program in sight.
  No conditions: each theorem names its own premises.
-/
namespace Go.Proofs.YtnohojjjfconfaaDoor

def val : List Nat → Nat
  | [] => 0
  | x :: r => x + 1000000000 * val r

def Lm (xs : List Nat) : Prop := ∀ x ∈ xs, x < 1000000000

def lim (n : Nat) : List Nat :=
  if _h : n = 0 then [] else (n % 1000000000) :: lim (n / 1000000000)
termination_by n
decreasing_by omega

def pw (k : Nat) : Nat := 1000000000 ^ k

theorem pw_zero : pw 0 = 1 := rfl
theorem pw_succ (k : Nat) : pw (k + 1) = 1000000000 * pw k := by unfold pw; rw [Nat.pow_succ]; omega
theorem pw_pos (k : Nat) : 0 < pw k := Nat.pow_pos (by omega)
theorem pw_add (j k : Nat) : pw (j + k) = pw j * pw k := by unfold pw; exact Nat.pow_add _ _ _
theorem pw_le {j k : Nat} (h : j ≤ k) : pw j ≤ pw k := Nat.pow_le_pow_right (by omega) h
theorem pw_lt {j k : Nat} (h : j < k) : pw j < pw k := Nat.pow_lt_pow_right (by omega) h
theorem lt_of_pw_lt {j k : Nat} (h : pw j < pw k) : j < k := by
  rcases Nat.lt_or_ge j k with h1 | h1
  · exact h1
  · have := pw_le h1; omega

theorem lim_zero : lim 0 = [] := by unfold lim; simp
theorem lim_pos {n : Nat} (h : n ≠ 0) : lim n = (n % 1000000000) :: lim (n / 1000000000) := by rw [lim]; simp [h]

theorem val_nil : val [] = 0 := rfl
theorem val_cons (x : Nat) (r : List Nat) : val (x :: r) = x + 1000000000 * val r := rfl

theorem val_append (xs ys : List Nat) : val (xs ++ ys) = val xs + pw xs.length * val ys := by
  induction xs with
  | nil => simp [val_nil, pw_zero]
  | cons x r ih =>
    simp only [List.cons_append, val_cons, ih, List.length_cons, pw_succ, Nat.mul_add, Nat.mul_assoc]
    omega

theorem val_snoc (xs : List Nat) (x : Nat) : val (xs ++ [x]) = val xs + pw xs.length * x := by
  rw [val_append]; simp [val_cons, val_nil]

theorem Lm.nil : Lm [] := by intro x h; cases h
theorem Lm.cons {x : Nat} {r : List Nat} (h : x < 1000000000) (hr : Lm r) : Lm (x :: r) := by
  intro y hy; rcases List.mem_cons.1 hy with rfl | hy; exact h; exact hr y hy
theorem Lm.head {x : Nat} {r : List Nat} (h : Lm (x :: r)) : x < 1000000000 := h x (by simp)
theorem Lm.tail {x : Nat} {r : List Nat} (h : Lm (x :: r)) : Lm r := fun y hy => h y (by simp [hy])
theorem Lm.append {xs ys : List Nat} (h : Lm xs) (h' : Lm ys) : Lm (xs ++ ys) := by
  intro y hy; rcases List.mem_append.1 hy with hy | hy; exact h y hy; exact h' y hy
theorem Lm.left {xs ys : List Nat} (h : Lm (xs ++ ys)) : Lm xs := fun y hy => h y (by simp [hy])
theorem Lm.right {xs ys : List Nat} (h : Lm (xs ++ ys)) : Lm ys := fun y hy => h y (by simp [hy])
theorem Lm.snoc {xs : List Nat} {x : Nat} (h : Lm xs) (hx : x < 1000000000) : Lm (xs ++ [x]) := h.append (Lm.cons hx Lm.nil)
theorem Lm.take {xs : List Nat} (h : Lm xs) (k : Nat) : Lm (xs.take k) := fun y hy => h y (List.mem_of_mem_take hy)
theorem Lm.drop {xs : List Nat} (h : Lm xs) (k : Nat) : Lm (xs.drop k) := fun y hy => h y (List.mem_of_mem_drop hy)
theorem Lm.getD {xs : List Nat} (h : Lm xs) (i : Nat) : xs.getD i 0 < 1000000000 := by
  rcases Nat.lt_or_ge i xs.length with h1 | h1
  · rw [List.getD_eq_getElem?_getD, List.getElem?_eq_getElem h1]; exact h _ (List.getElem_mem h1)
  · rw [List.getD_eq_getElem?_getD, List.getElem?_eq_none h1]; simp
theorem Lm.set {xs : List Nat} (h : Lm xs) (i : Nat) {x : Nat} (hx : x < 1000000000) : Lm (xs.set i x) := by
  intro y hy
  rcases List.mem_or_eq_of_mem_set hy with hy | rfl
  · exact h y hy
  · exact hx
theorem Lm.replicate (k : Nat) : Lm (List.replicate k 0) := by intro y hy; rw [List.mem_replicate] at hy; omega

theorem val_lt {xs : List Nat} (h : Lm xs) : val xs < pw xs.length := by
  induction xs with
  | nil => simp [val_nil, pw_zero]
  | cons x r ih =>
    have h1 := ih h.tail
    have h2 := h.head
    simp only [val_cons, List.length_cons, pw_succ]
    omega

theorem lim_Lm (n : Nat) : Lm (lim n) := by
  induction n using Nat.strongRecOn with
  | _ n ih =>
    by_cases h : n = 0
    · subst h; rw [lim_zero]; exact Lm.nil
    · rw [lim_pos h]; exact Lm.cons (Nat.mod_lt _ (by omega)) (ih _ (by omega))

theorem val_lim (n : Nat) : val (lim n) = n := by
  induction n using Nat.strongRecOn with
  | _ n ih =>
    by_cases h : n = 0
    · subst h; rw [lim_zero]; rfl
    · rw [lim_pos h, val_cons, ih _ (by omega)]; omega

theorem lim_eq_nil {n : Nat} : lim n = [] ↔ n = 0 := by
  constructor
  · intro h; have := val_lim n; rw [h] at this; simpa [val] using this.symm
  · rintro rfl; exact lim_zero

/-- A list without a zero at its end is the list of its value. -/
theorem lim_val {xs : List Nat} (h : Lm xs) (hl : ∀ k, xs.length = k + 1 → pw k ≤ val xs) : lim (val xs) = xs := by
  induction xs with
  | nil => exact lim_zero
  | cons x r ih =>
    have hx := h.head
    have hne : val (x :: r) ≠ 0 := by
      have := hl r.length rfl
      have := pw_pos r.length
      omega
    rw [lim_pos hne]
    have h1 : val (x :: r) % 1000000000 = x := by rw [val_cons]; omega
    have h2 : val (x :: r) / 1000000000 = val r := by rw [val_cons]; omega
    rw [h1, h2, ih h.tail ?_]
    intro k hk
    have h3 := hl (k + 1) (by simp [hk])
    rw [pw_succ, val_cons] at h3
    have := pw_pos k
    omega

theorem lim_len_lt (n : Nat) : n < pw (lim n).length := by
  have := val_lt (lim_Lm n); rwa [val_lim] at this

theorem lim_len_ge {n k : Nat} (h : (lim n).length = k + 1) : pw k ≤ n := by
  induction n using Nat.strongRecOn generalizing k with
  | _ n ih =>
    by_cases hn : n = 0
    · subst hn; rw [lim_zero] at h; simp at h
    · rw [lim_pos hn] at h
      simp at h
      cases k with
      | zero => rw [pw_zero]; omega
      | succ k =>
        have := ih (n / 1000000000) (by omega) h
        rw [pw_succ]
        omega

theorem lim_len_le {n k : Nat} (h : n < pw k) : (lim n).length ≤ k := by
  cases hl : (lim n).length with
  | zero => omega
  | succ j =>
    have h1 := lim_len_ge hl
    have : pw j < pw k := by omega
    have := lt_of_pw_lt this
    omega

theorem lim_len_mono {m n : Nat} (h : m ≤ n) : (lim m).length ≤ (lim n).length := lim_len_le (by have := lim_len_lt n; omega)

theorem lim_len_add (m n : Nat) : (lim (m + n)).length ≤ max (lim m).length (lim n).length + 1 := by
  refine lim_len_le ?_
  have h1 := lim_len_lt m
  have h2 := lim_len_lt n
  have h3 := pw_le (Nat.le_max_left (lim m).length (lim n).length)
  have h4 := pw_le (Nat.le_max_right (lim m).length (lim n).length)
  rw [pw_succ]
  omega

theorem lim_len_mul (m n : Nat) : (lim (m * n)).length ≤ (lim m).length + (lim n).length := by
  refine lim_len_le ?_
  rw [pw_add]
  exact Nat.mul_lt_mul'' (lim_len_lt m) (lim_len_lt n)

theorem lim_one : lim 1 = [1] := by rw [lim_pos (by omega)]; simp [lim_zero]
theorem lim_small {n : Nat} (h0 : n ≠ 0) (h : n < 1000000000) : lim n = [n] := by
  rw [lim_pos h0, Nat.mod_eq_of_lt h, Nat.div_eq_of_lt h, lim_zero]

/-- Zeros at the end are cut off. -/
def trimN (xs : List Nat) : List Nat := (xs.reverse.dropWhile (· == 0)).reverse

theorem trimN_snoc0 (xs : List Nat) (x : Nat) (h : x = 0) : trimN (xs ++ [x]) = trimN xs := by subst h; simp [trimN]
theorem trimN_snoc (xs : List Nat) (x : Nat) (h : x ≠ 0) : trimN (xs ++ [x]) = xs ++ [x] := by simp [trimN, h]
theorem trimN_nil : trimN [] = [] := rfl

theorem snoc_cases (xs : List Nat) : xs = [] ∨ ∃ ys y, xs = ys ++ [y] := by
  rcases List.eq_nil_or_concat xs with h | ⟨ys, y, h⟩
  · exact .inl h
  · exact .inr ⟨ys, y, by simpa using h⟩

theorem trimN_eq {xs : List Nat} (h : Lm xs) : trimN xs = lim (val xs) := by
  induction hn : xs.length generalizing xs with
  | zero => rw [List.length_eq_zero_iff.1 hn]; rw [val_nil, lim_zero]; rfl
  | succ n ih =>
    rcases snoc_cases xs with rfl | ⟨ys, y, rfl⟩
    · simp at hn
    · by_cases hy : y = 0
      · rw [trimN_snoc0 _ _ hy, ih h.left (by simpa using hn), val_snoc, hy]; simp
      · rw [trimN_snoc _ _ hy, lim_val h]
        intro k hk
        simp at hk
        rw [val_snoc, hk]
        have : pw k * 1 ≤ pw k * y := Nat.mul_le_mul_left _ (by omega)
        omega

theorem trimN_prefix (xs : List Nat) : ∃ t, xs = trimN xs ++ t := by
  induction hn : xs.length generalizing xs with
  | zero => rw [List.length_eq_zero_iff.1 hn]; exact ⟨[], rfl⟩
  | succ n ih =>
    rcases snoc_cases xs with rfl | ⟨ys, y, rfl⟩
    · simp at hn
    · by_cases hy : y = 0
      · obtain ⟨t, ht⟩ := ih ys (by simpa using hn)
        rw [trimN_snoc0 _ _ hy]
        exact ⟨t ++ [y], by rw [← List.append_assoc, ← ht]⟩
      · rw [trimN_snoc _ _ hy]; exact ⟨[], by simp⟩

theorem take_snoc (xs : List Nat) (j : Nat) (h : j < xs.length) : xs.take (j + 1) = xs.take j ++ [xs.getD j 0] := by
  rw [List.take_succ_eq_append_getElem h]; simp [List.getD, h]

theorem val_take_succ (xs : List Nat) (j : Nat) (h : j < xs.length) : val (xs.take (j + 1)) = val (xs.take j) + pw j * xs.getD j 0 := by
  rw [take_snoc xs j h, val_snoc]; simp [Nat.min_eq_left (Nat.le_of_lt h)]

/-- Comparing from the top. -/
theorem val_cmp_top {xs ys : List Nat} (hx : Lm xs) (_ : Lm ys) (hl : xs.length = ys.length) {x y : Nat} (h : x < y) (zs : List Nat) : val (xs ++ x :: zs) < val (ys ++ y :: zs) := by
  rw [val_append, val_append, val_cons, val_cons, hl]
  have h1 := val_lt hx
  rw [hl] at h1
  have h2 : pw ys.length * (x + 1) ≤ pw ys.length * y := Nat.mul_le_mul_left _ h
  simp only [Nat.mul_add, Nat.mul_one] at *
  omega

theorem val_take_drop (xs : List Nat) (k : Nat) (h : k ≤ xs.length) : val xs = val (xs.take k) + pw k * val (xs.drop k) := by
  have h1 := val_append (xs.take k) (xs.drop k)
  rw [List.take_append_drop] at h1
  rw [h1]; simp [Nat.min_eq_left h]

theorem val_replicate (k : Nat) : val (List.replicate k 0) = 0 := by
  induction k with
  | zero => rfl
  | succ k ih => simp [List.replicate_succ, val_cons, ih]
end Go.Proofs.YtnohojjjfconfaaDoor
