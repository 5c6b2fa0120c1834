/-
  Plain arithmetic of numbers written in limbs below 1,000,000,000, the lowest limb first; no program in sight.
  No conditions: each theorem names its own premises.

  Plain arithmetic: the steps of addition, subtraction, multiplication and short division on limbs; no program in sight.
  No conditions: each theorem names its own premises.

  Plain arithmetic of long division: what the estimate of one digit of a quotient is worth.
  No conditions: each theorem names its own premises.

  Plain arithmetic of decimal digits: how the digits of a number are made of the digits of its limbs.
  No conditions: each theorem names its own premises.

  Plain arithmetic of texts of digits: their value, and that a text without a leading zero is the digits of its value.
  No conditions: each theorem names its own premises.
-/
import Derived.Lib.ItoaNum
import Derived.Lib.ParseIntB
section
namespace Go.Proofs.YtfdekppnilffeaaGreatDoor

def val : List Nat → Nat
  | [] => 0
  | x :: r => x + 1000000000 * val r

def Lm (xs : List Nat) : Prop := ∀ x ∈ xs, x < 1000000000

def lim (n : Nat) : List Nat :=
  if _h : n = 0 then [] else (n % 1000000000) :: lim (n / 1000000000)
termination_by n
decreasing_by omega

def pw (k : Nat) : Nat := 1000000000 ^ k

theorem pw_zero : pw 0 = 1 := rfl
theorem pw_succ (k : Nat) : pw (k + 1) = 1000000000 * pw k := by unfold pw; rw [Nat.pow_succ]; omega
theorem pw_pos (k : Nat) : 0 < pw k := Nat.pow_pos (by omega)
theorem pw_add (j k : Nat) : pw (j + k) = pw j * pw k := by unfold pw; exact Nat.pow_add _ _ _
theorem pw_le {j k : Nat} (h : j ≤ k) : pw j ≤ pw k := Nat.pow_le_pow_right (by omega) h
theorem lt_of_pw_lt {j k : Nat} (h : pw j < pw k) : j < k := by
  rcases Nat.lt_or_ge j k with h1 | h1
  · exact h1
  · have := pw_le h1; omega

theorem lim_zero : lim 0 = [] := by unfold lim; simp
theorem lim_pos {n : Nat} (h : n ≠ 0) : lim n = (n % 1000000000) :: lim (n / 1000000000) := by rw [lim]; simp [h]

theorem val_nil : val [] = 0 := rfl
theorem val_cons (x : Nat) (r : List Nat) : val (x :: r) = x + 1000000000 * val r := rfl

theorem val_append (xs ys : List Nat) : val (xs ++ ys) = val xs + pw xs.length * val ys := by
  induction xs with
  | nil => simp [val_nil, pw_zero]
  | cons x r ih =>
    simp only [List.cons_append, val_cons, ih, List.length_cons, pw_succ, Nat.mul_add, Nat.mul_assoc]
    omega

theorem val_snoc (xs : List Nat) (x : Nat) : val (xs ++ [x]) = val xs + pw xs.length * x := by
  rw [val_append]; simp [val_cons, val_nil]

theorem Lm.nil : Lm [] := by intro x h; cases h
theorem Lm.cons {x : Nat} {r : List Nat} (h : x < 1000000000) (hr : Lm r) : Lm (x :: r) := by
  intro y hy; rcases List.mem_cons.1 hy with rfl | hy; exact h; exact hr y hy
theorem Lm.head {x : Nat} {r : List Nat} (h : Lm (x :: r)) : x < 1000000000 := h x (by simp)
theorem Lm.tail {x : Nat} {r : List Nat} (h : Lm (x :: r)) : Lm r := fun y hy => h y (by simp [hy])
theorem Lm.append {xs ys : List Nat} (h : Lm xs) (h' : Lm ys) : Lm (xs ++ ys) := by
  intro y hy; rcases List.mem_append.1 hy with hy | hy; exact h y hy; exact h' y hy
theorem Lm.left {xs ys : List Nat} (h : Lm (xs ++ ys)) : Lm xs := fun y hy => h y (by simp [hy])
theorem Lm.right {xs ys : List Nat} (h : Lm (xs ++ ys)) : Lm ys := fun y hy => h y (by simp [hy])
theorem Lm.snoc {xs : List Nat} {x : Nat} (h : Lm xs) (hx : x < 1000000000) : Lm (xs ++ [x]) := h.append (Lm.cons hx Lm.nil)
theorem Lm.take {xs : List Nat} (h : Lm xs) (k : Nat) : Lm (xs.take k) := fun y hy => h y (List.mem_of_mem_take hy)
theorem Lm.drop {xs : List Nat} (h : Lm xs) (k : Nat) : Lm (xs.drop k) := fun y hy => h y (List.mem_of_mem_drop hy)
theorem Lm.getD {xs : List Nat} (h : Lm xs) (i : Nat) : xs.getD i 0 < 1000000000 := by
  rcases Nat.lt_or_ge i xs.length with h1 | h1
  · rw [List.getD_eq_getElem?_getD, List.getElem?_eq_getElem h1]; exact h _ (List.getElem_mem h1)
  · rw [List.getD_eq_getElem?_getD, List.getElem?_eq_none h1]; simp
theorem Lm.set {xs : List Nat} (h : Lm xs) (i : Nat) {x : Nat} (hx : x < 1000000000) : Lm (xs.set i x) := by
  intro y hy
  rcases List.mem_or_eq_of_mem_set hy with hy | rfl
  · exact h y hy
  · exact hx
theorem Lm.replicate (k : Nat) : Lm (List.replicate k 0) := by intro y hy; rw [List.mem_replicate] at hy; omega

theorem val_lt {xs : List Nat} (h : Lm xs) : val xs < pw xs.length := by
  induction xs with
  | nil => simp [val_nil, pw_zero]
  | cons x r ih =>
    have h1 := ih h.tail
    have h2 := h.head
    simp only [val_cons, List.length_cons, pw_succ]
    omega

theorem lim_Lm (n : Nat) : Lm (lim n) := by
  induction n using Nat.strongRecOn with
  | _ n ih =>
    by_cases h : n = 0
    · subst h; rw [lim_zero]; exact Lm.nil
    · rw [lim_pos h]; exact Lm.cons (Nat.mod_lt _ (by omega)) (ih _ (by omega))

theorem val_lim (n : Nat) : val (lim n) = n := by
  induction n using Nat.strongRecOn with
  | _ n ih =>
    by_cases h : n = 0
    · subst h; rw [lim_zero]; rfl
    · rw [lim_pos h, val_cons, ih _ (by omega)]; omega

theorem lim_eq_nil {n : Nat} : lim n = [] ↔ n = 0 := by
  constructor
  · intro h; have := val_lim n; rw [h] at this; simpa [val] using this.symm
  · rintro rfl; exact lim_zero

/-- A list without a zero at its end is the list of its value. -/
theorem lim_val {xs : List Nat} (h : Lm xs) (hl : ∀ k, xs.length = k + 1 → pw k ≤ val xs) : lim (val xs) = xs := by
  induction xs with
  | nil => exact lim_zero
  | cons x r ih =>
    have hx := h.head
    have hne : val (x :: r) ≠ 0 := by
      have := hl r.length rfl
      have := pw_pos r.length
      omega
    rw [lim_pos hne]
    have h1 : val (x :: r) % 1000000000 = x := by rw [val_cons]; omega
    have h2 : val (x :: r) / 1000000000 = val r := by rw [val_cons]; omega
    rw [h1, h2, ih h.tail ?_]
    intro k hk
    have h3 := hl (k + 1) (by simp [hk])
    rw [pw_succ, val_cons] at h3
    have := pw_pos k
    omega

theorem lim_len_lt (n : Nat) : n < pw (lim n).length := by
  have := val_lt (lim_Lm n); rwa [val_lim] at this

theorem lim_len_ge {n k : Nat} (h : (lim n).length = k + 1) : pw k ≤ n := by
  induction n using Nat.strongRecOn generalizing k with
  | _ n ih =>
    by_cases hn : n = 0
    · subst hn; rw [lim_zero] at h; simp at h
    · rw [lim_pos hn] at h
      simp at h
      cases k with
      | zero => rw [pw_zero]; omega
      | succ k =>
        have := ih (n / 1000000000) (by omega) h
        rw [pw_succ]
        omega

theorem lim_len_le {n k : Nat} (h : n < pw k) : (lim n).length ≤ k := by
  cases hl : (lim n).length with
  | zero => omega
  | succ j =>
    have h1 := lim_len_ge hl
    have : pw j < pw k := by omega
    have := lt_of_pw_lt this
    omega

theorem lim_len_mono {m n : Nat} (h : m ≤ n) : (lim m).length ≤ (lim n).length := lim_len_le (by have := lim_len_lt n; omega)

theorem lim_len_add (m n : Nat) : (lim (m + n)).length ≤ max (lim m).length (lim n).length + 1 := by
  refine lim_len_le ?_
  have h1 := lim_len_lt m
  have h2 := lim_len_lt n
  have h3 := pw_le (Nat.le_max_left (lim m).length (lim n).length)
  have h4 := pw_le (Nat.le_max_right (lim m).length (lim n).length)
  rw [pw_succ]
  omega

theorem lim_len_mul (m n : Nat) : (lim (m * n)).length ≤ (lim m).length + (lim n).length := by
  refine lim_len_le ?_
  rw [pw_add]
  exact Nat.mul_lt_mul'' (lim_len_lt m) (lim_len_lt n)

theorem lim_one : lim 1 = [1] := by rw [lim_pos (by omega)]; simp [lim_zero]
theorem lim_small {n : Nat} (h0 : n ≠ 0) (h : n < 1000000000) : lim n = [n] := by
  rw [lim_pos h0, Nat.mod_eq_of_lt h, Nat.div_eq_of_lt h, lim_zero]

/-- Zeros at the end are cut off. -/
def trimN (xs : List Nat) : List Nat := (xs.reverse.dropWhile (· == 0)).reverse

theorem trimN_snoc0 (xs : List Nat) (x : Nat) (h : x = 0) : trimN (xs ++ [x]) = trimN xs := by subst h; simp [trimN]
theorem trimN_snoc (xs : List Nat) (x : Nat) (h : x ≠ 0) : trimN (xs ++ [x]) = xs ++ [x] := by simp [trimN, h]
theorem snoc_cases (xs : List Nat) : xs = [] ∨ ∃ ys y, xs = ys ++ [y] := by
  rcases List.eq_nil_or_concat xs with h | ⟨ys, y, h⟩
  · exact .inl h
  · exact .inr ⟨ys, y, by simpa using h⟩

theorem trimN_eq {xs : List Nat} (h : Lm xs) : trimN xs = lim (val xs) := by
  induction hn : xs.length generalizing xs with
  | zero => rw [List.length_eq_zero_iff.1 hn]; rw [val_nil, lim_zero]; rfl
  | succ n ih =>
    rcases snoc_cases xs with rfl | ⟨ys, y, rfl⟩
    · simp at hn
    · by_cases hy : y = 0
      · rw [trimN_snoc0 _ _ hy, ih h.left (by simpa using hn), val_snoc, hy]; simp
      · rw [trimN_snoc _ _ hy, lim_val h]
        intro k hk
        simp at hk
        rw [val_snoc, hk]
        have : pw k * 1 ≤ pw k * y := Nat.mul_le_mul_left _ (by omega)
        omega

theorem trimN_prefix (xs : List Nat) : ∃ t, xs = trimN xs ++ t := by
  induction hn : xs.length generalizing xs with
  | zero => rw [List.length_eq_zero_iff.1 hn]; exact ⟨[], rfl⟩
  | succ n ih =>
    rcases snoc_cases xs with rfl | ⟨ys, y, rfl⟩
    · simp at hn
    · by_cases hy : y = 0
      · obtain ⟨t, ht⟩ := ih ys (by simpa using hn)
        rw [trimN_snoc0 _ _ hy]
        exact ⟨t ++ [y], by rw [← List.append_assoc, ← ht]⟩
      · rw [trimN_snoc _ _ hy]; exact ⟨[], by simp⟩

theorem take_snoc (xs : List Nat) (j : Nat) (h : j < xs.length) : xs.take (j + 1) = xs.take j ++ [xs.getD j 0] := by
  rw [List.take_succ_eq_append_getElem h]; simp [List.getD, h]

theorem val_take_succ (xs : List Nat) (j : Nat) (h : j < xs.length) : val (xs.take (j + 1)) = val (xs.take j) + pw j * xs.getD j 0 := by
  rw [take_snoc xs j h, val_snoc]; simp [Nat.min_eq_left (Nat.le_of_lt h)]

/-- Comparing from the top. -/
theorem val_cmp_top {xs ys : List Nat} (hx : Lm xs) (_ : Lm ys) (hl : xs.length = ys.length) {x y : Nat} (h : x < y) (zs : List Nat) : val (xs ++ x :: zs) < val (ys ++ y :: zs) := by
  rw [val_append, val_append, val_cons, val_cons, hl]
  have h1 := val_lt hx
  rw [hl] at h1
  have h2 : pw ys.length * (x + 1) ≤ pw ys.length * y := Nat.mul_le_mul_left _ h
  simp only [Nat.mul_add, Nat.mul_one] at *
  omega

theorem val_take_drop (xs : List Nat) (k : Nat) (h : k ≤ xs.length) : val xs = val (xs.take k) + pw k * val (xs.drop k) := by
  have h1 := val_append (xs.take k) (xs.drop k)
  rw [List.take_append_drop] at h1
  rw [h1]; simp [Nat.min_eq_left h]

theorem val_replicate (k : Nat) : val (List.replicate k 0) = 0 := by
  induction k with
  | zero => rfl
  | succ k ih => simp [List.replicate_succ, val_cons, ih]
end Go.Proofs.YtfdekppnilffeaaGreatDoor
end
section
set_option linter.unusedVariables false
namespace Go.Proofs.YtfdekppnilffeaaGreatDoor

theorem add_can0 {zs : List Nat} {m n : Nat} (h : Lm zs) (hl : zs.length = (lim m).length) (hv : val zs = m + n) : zs = lim (m + n) := by
  rw [← hv, lim_val h]
  intro k hk
  rw [hv]
  have := lim_len_ge (n := m) (k := k) (by omega)
  omega

theorem add_can1 {zs : List Nat} {m n : Nat} (h : Lm zs) (hl : zs.length = (lim m).length) (hv : val zs + 1 * pw (lim m).length = m + n) : zs ++ [1] = lim (m + n) := by
  have h1 : val (zs ++ [1]) = m + n := by rw [val_snoc, hl]; omega
  rw [← h1, lim_val (h.snoc (by omega))]
  intro k hk
  simp at hk
  rw [val_snoc, ← hk]
  have := pw_pos zs.length
  omega

/-- One step of an addition. -/
theorem add_step {zs xs ys : List Nat} {i cy : Nat} (hi : i < xs.length) (hz : zs.length = i) (y : Nat) (hy : val (ys.take (i + 1)) = val (ys.take i) + pw i * y)
    (h : val zs + cy * pw i = val (xs.take i) + val (ys.take i)) :
    val (zs ++ [(xs.getD i 0 + cy + y) % 1000000000]) + (xs.getD i 0 + cy + y) / 1000000000 * pw (i + 1) = val (xs.take (i + 1)) + val (ys.take (i + 1)) := by
  rw [val_snoc, hz, hy, val_take_succ xs i hi, pw_succ]
  generalize xs.getD i 0 = x at *
  have e : pw i * ((x + cy + y) % 1000000000) + (x + cy + y) / 1000000000 * (1000000000 * pw i) = pw i * x + cy * pw i + pw i * y := by
    have h1 : (x + cy + y) / 1000000000 * (1000000000 * pw i) = pw i * (1000000000 * ((x + cy + y) / 1000000000)) := by
      rw [← Nat.mul_assoc, Nat.mul_comm, Nat.mul_comm ((x + cy + y) / 1000000000)]
    rw [h1, ← Nat.mul_add, Nat.mod_add_div]
    simp only [Nat.mul_add, Nat.mul_comm cy]
  omega

theorem take_all {xs : List Nat} {i : Nat} (h : xs.length ≤ i) : xs.take i = xs := List.take_of_length_le h

theorem val_take_beyond (ys : List Nat) (i : Nat) (h : ys.length ≤ i) : val (ys.take (i + 1)) = val (ys.take i) + pw i * 0 := by
  rw [take_all h, take_all (by omega)]; simp

/-- One step of a subtraction. -/
theorem sub_step {zs xs ys : List Nat} {i bo : Nat} (hi : i < xs.length) (hz : zs.length = i) (hx : Lm xs) (y : Nat) (hy1 : y < 1000000000) (hbo : bo ≤ 1) (hy : val (ys.take (i + 1)) = val (ys.take i) + pw i * y)
    (h : val zs + val (ys.take i) = val (xs.take i) + bo * pw i) (z bo' : Nat) (hzv : z + (bo + y) = xs.getD i 0 + bo' * 1000000000) :
    val (zs ++ [z]) + val (ys.take (i + 1)) = val (xs.take (i + 1)) + bo' * pw (i + 1) := by
  rw [val_snoc, hz, hy, val_take_succ xs i hi, pw_succ]
  generalize xs.getD i 0 = x at *
  have e : pw i * z + (pw i * bo + pw i * y) = pw i * x + bo' * (1000000000 * pw i) := by
    have h1 : bo' * (1000000000 * pw i) = pw i * (bo' * 1000000000) := by
      rw [← Nat.mul_assoc, Nat.mul_comm]
    rw [h1, ← Nat.mul_add, ← Nat.mul_add, ← Nat.mul_add, hzv]
  rw [Nat.mul_comm bo] at h
  omega

theorem set_snoc (zs : List Nat) (r : Nat) (z : Nat) (hr : 0 < r) : (zs ++ List.replicate r 0).set zs.length z = (zs ++ [z]) ++ List.replicate (r - 1) 0 := by
  obtain ⟨s, rfl⟩ : ∃ s, r = s + 1 := ⟨r - 1, by omega⟩
  simp [List.replicate_succ]

theorem set_take_succ (cs : List Nat) (j z : Nat) (h : j < cs.length) : (cs.set j z).take (j + 1) = cs.take j ++ [z] := by
  rw [List.take_succ_eq_append_getElem (by simpa using h)]; simp [List.take_set_of_le]
theorem set_drop_succ (cs : List Nat) (j z : Nat) : (cs.set j z).drop (j + 1) = cs.drop (j + 1) := by
  rw [List.drop_set_of_lt (by omega)]

theorem getD_of_drop {cs ds : List Nat} {j : Nat} (h : cs.drop j = ds.drop j) : cs.getD j 0 = ds.getD j 0 := by
  have h1 : (cs.drop j)[0]? = (ds.drop j)[0]? := by rw [h]
  simp at h1
  simp [List.getD, h1]

theorem drop_succ_of_drop {cs ds : List Nat} {j : Nat} (h : cs.drop j = ds.drop j) : cs.drop (j + 1) = ds.drop (j + 1) := by
  rw [← List.drop_drop (i := 1) (j := j), ← List.drop_drop (i := 1) (j := j), h]

/-- One step of the inner loop of a multiplication. -/
theorem mul_step {cs out ys : List Nat} {i k cy x : Nat} (hk : k < ys.length) (hj : i + k < cs.length) (hl : cs.length = out.length) (hd : cs.drop (i + k) = out.drop (i + k))
    (h : val (cs.take (i + k)) + cy * pw (i + k) = val (out.take (i + k)) + x * (pw i * val (ys.take k))) :
    val ((cs.set (i + k) ((cs.getD (i + k) 0 + x * ys.getD k 0 + cy) % 1000000000)).take (i + k + 1)) + (cs.getD (i + k) 0 + x * ys.getD k 0 + cy) / 1000000000 * pw (i + k + 1) =
      val (out.take (i + k + 1)) + x * (pw i * val (ys.take (k + 1))) := by
  rw [set_take_succ _ _ _ hj, val_snoc, val_take_succ out (i + k) (by omega), val_take_succ ys k hk, getD_of_drop hd, pw_succ]
  have hlen : (cs.take (i + k)).length = i + k := by simp; omega
  rw [hlen]
  generalize out.getD (i + k) 0 = o
  generalize ys.getD k 0 = y
  have e : pw (i + k) * ((o + x * y + cy) % 1000000000) + (o + x * y + cy) / 1000000000 * (1000000000 * pw (i + k)) = pw (i + k) * o + pw (i + k) * (x * y) + cy * pw (i + k) := by
    have h1 : (o + x * y + cy) / 1000000000 * (1000000000 * pw (i + k)) = pw (i + k) * (1000000000 * ((o + x * y + cy) / 1000000000)) := by
      rw [← Nat.mul_assoc, Nat.mul_comm, Nat.mul_comm ((o + x * y + cy) / 1000000000)]
    rw [h1, ← Nat.mul_add, Nat.mod_add_div]
    simp only [Nat.mul_add, Nat.mul_comm cy]
  have e2 : x * (pw i * (val (ys.take k) + pw k * y)) = x * (pw i * val (ys.take k)) + pw (i + k) * (x * y) := by
    rw [pw_add, Nat.mul_add, Nat.mul_add]
    congr 1
    rw [← Nat.mul_assoc (pw i), Nat.mul_left_comm]
  omega

/-- The end of the inner loop: the carry takes the next limb. -/
theorem mul_round {cs zs xs ys : List Nat} {i r cy : Nat} (hi : i < xs.length) (hz : zs.length = i + ys.length) (hr : 0 < r) (hl : cs.length = (zs ++ List.replicate r 0).length)
    (hd : cs.drop (i + ys.length) = (zs ++ List.replicate r 0).drop (i + ys.length)) (hv : val zs = val (xs.take i) * val ys)
    (h : val (cs.take (i + ys.length)) + cy * pw (i + ys.length) = val ((zs ++ List.replicate r 0).take (i + ys.length)) + xs.getD i 0 * (pw i * val (ys.take ys.length))) :
    ∃ zs', cs.set (i + ys.length) cy = zs' ++ List.replicate (r - 1) 0 ∧ zs'.length = i + 1 + ys.length ∧ val zs' = val (xs.take (i + 1)) * val ys := by
  have hlen : (cs.take (i + ys.length)).length = i + ys.length := by
    simp at hl ⊢; omega
  refine ⟨cs.take (i + ys.length) ++ [cy], ?_, by simp [hlen]; omega, ?_⟩
  · have h1 : i + ys.length < cs.length := by simp at hl; omega
    rw [← List.take_append_drop (i + ys.length + 1) (cs.set (i + ys.length) cy), set_take_succ _ _ _ h1, set_drop_succ, drop_succ_of_drop hd]
    congr 1
    rw [← hz]
    simp [List.drop_append]
  · rw [val_snoc, hlen, val_take_succ xs i hi, Nat.add_mul, ← hv]
    rw [← hz, List.take_left, take_all (Nat.le_refl _)] at h
    rw [hz] at h
    rw [Nat.mul_comm (pw (i + ys.length)), Nat.mul_comm (pw i), Nat.mul_assoc]
    exact h
end Go.Proofs.YtfdekppnilffeaaGreatDoor
end
section
set_option linter.unusedVariables false
namespace Go.Proofs.YtfdekppnilffeaaGreatDoor

section
variable {P b1 b2 Vl u2 T Ul U V : Nat}

theorem est_up (hU : U = (T * 1000000000 + u2) * P + Ul) (hUl : Ul < P) (hu2 : u2 < 1000000000) : U < (T + 1) * (1000000000 * P) := by
  have h : (T * 1000000000 + u2 + 1) * P ≤ ((T + 1) * 1000000000) * P := Nat.mul_le_mul_right _ (by omega)
  rw [Nat.add_mul _ 1, Nat.one_mul, Nat.mul_assoc] at h
  omega
theorem est_lo (hV : V = (b1 * 1000000000 + b2) * P + Vl) : b1 * (1000000000 * P) ≤ V := by
  rw [hV, Nat.add_mul, Nat.mul_assoc]; omega

theorem est_init (hV : V = (b1 * 1000000000 + b2) * P + Vl) (hU : U = (T * 1000000000 + u2) * P + Ul) (hUl : Ul < P) (hu2 : u2 < 1000000000) (hb : 0 < b1) : U / V ≤ T / b1 := by
  rcases Nat.lt_or_ge (T / b1) (U / V) with h | h
  · rw [Nat.div_lt_iff_lt_mul hb] at h
    have h1 : (T + 1) * (1000000000 * P) ≤ U / V * b1 * (1000000000 * P) := Nat.mul_le_mul_right _ h
    have h2 : U / V * (b1 * (1000000000 * P)) ≤ U / V * V := Nat.mul_le_mul_left _ (est_lo hV)
    rw [Nat.mul_assoc] at h1
    have h3 := Nat.div_mul_le_self U V
    have h4 := est_up hU hUl hu2
    omega
  · exact h

theorem est_more {g r : Nat} (hV : V = (b1 * 1000000000 + b2) * P + Vl) (hU : U = (T * 1000000000 + u2) * P + Ul) (hUl : Ul < P) (hV0 : 0 < V) (hUV : U < V * 1000000000)
    (hg : g * b1 + r = T) (h : 1000000000 ≤ g ∨ r * 1000000000 + u2 < g * b2) : U / V < g := by
  rcases h with h | h
  · exact Nat.lt_of_lt_of_le (Nat.div_lt_of_lt_mul hUV) h
  · rw [Nat.div_lt_iff_lt_mul hV0]
    have h1 : T * 1000000000 + u2 + 1 ≤ g * (b1 * 1000000000 + b2) := by
      rw [Nat.mul_add, ← Nat.mul_assoc, ← hg, Nat.add_mul]; omega
    have h2 : (T * 1000000000 + u2 + 1) * P ≤ g * (b1 * 1000000000 + b2) * P := Nat.mul_le_mul_right _ h1
    rw [Nat.add_mul _ 1, Nat.one_mul] at h2
    have h3 : g * V = g * (b1 * 1000000000 + b2) * P + g * Vl := by rw [hV, Nat.mul_add, Nat.mul_assoc]
    omega

theorem est_T (hV : V = (b1 * 1000000000 + b2) * P + Vl) (hVl : Vl < P) (hb2 : b2 < 1000000000) (hU : U = (T * 1000000000 + u2) * P + Ul) (hUV : U < V * 1000000000) : T < (b1 + 1) * 1000000000 := by
  have h1 := est_up hV hVl hb2
  have h2 : T * (1000000000 * P) ≤ U := est_lo hU
  have h3 : T * (1000000000 * P) < (b1 + 1) * 1000000000 * (1000000000 * P) := by
    rw [Nat.mul_right_comm]; omega
  exact Nat.lt_of_mul_lt_mul_right h3

theorem est_done {g r : Nat} (hV : V = (b1 * 1000000000 + b2) * P + Vl) (hVl : Vl < P) (hb2 : b2 < 1000000000) (hU : U = (T * 1000000000 + u2) * P + Ul) (hUV : U < V * 1000000000) (hb : 0 < b1)
    (hg : g * b1 + r = T) (h : 1000000000 ≤ r ∨ (g < 1000000000 ∧ g * b2 ≤ r * 1000000000 + u2)) : g < 1000000000 ∧ g ≤ U / V + 1 := by
  have hV0 : 0 < V := by rw [hV]; have : 0 < (b1 * 1000000000 + b2) * P := Nat.mul_pos (by omega) (by omega); omega
  have hgV : g * V = (g * b1 * 1000000000 + g * b2) * P + g * Vl := by rw [hV, Nat.mul_add, ← Nat.mul_assoc, Nat.mul_add, ← Nat.mul_assoc]
  have hglt : g < 1000000000 := by
    rcases h with h | h
    · have hT := est_T hV hVl hb2 hU hUV
      rcases Nat.lt_or_ge g 1000000000 with h' | h'
      · exact h'
      · have : 1000000000 * b1 ≤ g * b1 := Nat.mul_le_mul_right _ h'
        rw [Nat.add_mul, Nat.mul_comm b1] at hT
        omega
    · exact h.1
  refine ⟨hglt, ?_⟩
  have hVP : g * Vl ≤ g * P := Nat.mul_le_mul_left _ (Nat.le_of_lt hVl)
  rcases h with h | ⟨_, h⟩
  · have h1 : g * b2 + g ≤ 1000000000 * 1000000000 := by
      have : g * (b2 + 1) ≤ 1000000000 * 1000000000 := Nat.mul_le_mul (by omega) (by omega)
      rw [Nat.mul_add] at this; omega
    have h2 : (g * b1 * 1000000000 + g * b2 + g) * P ≤ (T * 1000000000 + u2) * P := Nat.mul_le_mul_right _ (by omega)
    rw [Nat.add_mul _ g] at h2
    have h3 : g * V ≤ U := by omega
    have := (Nat.le_div_iff_mul_le hV0).2 h3
    omega
  · have h1 : g * P ≤ V := by
      have h2 : g * P ≤ 1000000000 * P := Nat.mul_le_mul_right _ (Nat.le_of_lt hglt)
      have h3 : 1 * (1000000000 * P) ≤ b1 * (1000000000 * P) := Nat.mul_le_mul_right _ hb
      have h4 := est_lo hV
      omega
    have h2 : (g * b1 * 1000000000 + g * b2) * P ≤ (T * 1000000000 + u2) * P := Nat.mul_le_mul_right _ (by omega)
    have h3 : g * V ≤ U + V := by omega
    have h4 : (g - 1) * V ≤ U := by rw [Nat.mul_comm, Nat.mul_sub, Nat.mul_comm]; omega
    have := (Nat.le_div_iff_mul_le hV0).2 h4
    omega
end

/-- One step of the subtraction of a multiple. -/
theorem msub_step {cs us vs : List Nat} {i g cy bo : Nat} (hv : i < vs.length) (hi : i < cs.length) (hl : cs.length = us.length) (hd : cs.drop i = us.drop i)
    (h : val (cs.take i) + g * val (vs.take i) = val (us.take i) + (cy + bo) * pw i) (z bo' : Nat) (hz : z + ((g * vs.getD i 0 + cy) % 1000000000 + bo) = us.getD i 0 + bo' * 1000000000) :
    val ((cs.set i z).take (i + 1)) + g * val (vs.take (i + 1)) = val (us.take (i + 1)) + ((g * vs.getD i 0 + cy) / 1000000000 + bo') * pw (i + 1) := by
  rw [set_take_succ _ _ _ hi, val_snoc, val_take_succ vs i hv, val_take_succ us i (by omega), pw_succ]
  have hlen : (cs.take i).length = i := by simp; omega
  rw [hlen]
  generalize us.getD i 0 = x at *
  generalize vs.getD i 0 = y at *
  have hp := Nat.div_add_mod (g * y + cy) 1000000000
  generalize (g * y + cy) / 1000000000 = k at *
  generalize (g * y + cy) % 1000000000 = m at *
  have e : z + (g * y + cy) + bo = x + (k + bo') * 1000000000 := by omega
  have e2 : pw i * z + pw i * (g * y) + pw i * cy + pw i * bo = pw i * x + (k + bo') * (1000000000 * pw i) := by
    have h1 : (k + bo') * (1000000000 * pw i) = pw i * ((k + bo') * 1000000000) := by rw [← Nat.mul_assoc, Nat.mul_comm]
    rw [h1, ← Nat.mul_add, ← Nat.mul_add, ← Nat.mul_add, ← Nat.mul_add]
    congr 1
    omega
  have e3 : g * (val (vs.take i) + pw i * y) = g * val (vs.take i) + pw i * (g * y) := by rw [Nat.mul_add, Nat.mul_left_comm]
  rw [Nat.add_mul, Nat.mul_comm cy, Nat.mul_comm bo] at h
  omega

/-- One step of adding back. -/
theorem addb_step {cs us vs : List Nat} {i cy : Nat} (hv : i < vs.length) (hi : i < cs.length) (hl : cs.length = us.length) (hd : cs.drop i = us.drop i)
    (h : val (cs.take i) + cy * pw i = val (us.take i) + val (vs.take i)) :
    val ((cs.set i ((us.getD i 0 + vs.getD i 0 + cy) % 1000000000)).take (i + 1)) + (us.getD i 0 + vs.getD i 0 + cy) / 1000000000 * pw (i + 1) = val (us.take (i + 1)) + val (vs.take (i + 1)) := by
  rw [set_take_succ _ _ _ hi, val_snoc, val_take_succ vs i hv, val_take_succ us i (by omega), pw_succ]
  have hlen : (cs.take i).length = i := by simp; omega
  rw [hlen]
  generalize us.getD i 0 = x at *
  generalize vs.getD i 0 = y at *
  have hp := Nat.div_add_mod (x + y + cy) 1000000000
  generalize (x + y + cy) / 1000000000 = k at *
  generalize (x + y + cy) % 1000000000 = m at *
  have e2 : pw i * m + k * (1000000000 * pw i) = pw i * x + pw i * y + pw i * cy := by
    have h1 : k * (1000000000 * pw i) = pw i * (k * 1000000000) := by rw [← Nat.mul_assoc, Nat.mul_comm]
    rw [h1, ← Nat.mul_add, ← Nat.mul_add, ← Nat.mul_add]
    congr 1
    omega
  rw [Nat.mul_comm cy] at h
  omega

/-- The end: nothing was missing. -/
theorem est_fit {us cs : List Nat} {n g V t un : Nat} (hu : val us = val (us.take n) + pw n * un) (h : val (cs.take n) + g * V = val (us.take n) + t * pw n) (hle : t ≤ un) (hV : 0 < V) (hg : val us / V ≤ g) :
    g = val us / V ∧ val (cs.take n) + pw n * (un - t) = val us % V := by
  have h1 : pw n * (un - t) + t * pw n = pw n * un := by rw [Nat.mul_comm t, ← Nat.mul_add]; congr 1; omega
  have h2 : val us = g * V + (val (cs.take n) + pw n * (un - t)) := by omega
  have h3 : g ≤ val us / V := (Nat.le_div_iff_mul_le hV).2 (by omega)
  have h4 : g = val us / V := by omega
  refine ⟨h4, ?_⟩
  have h5 := Nat.div_add_mod (val us) V
  rw [← h4, Nat.mul_comm] at h5
  omega

/-- The end: one too many was subtracted. -/
theorem est_over {us cs ds : List Nat} {n g V t un cy : Nat} (hu : val us = val (us.take n) + pw n * un) (h : val (cs.take n) + g * V = val (us.take n) + t * pw n) (hlt : un < t) (hV : 0 < V)
    (hg : val us / V ≤ g) (hg2 : g ≤ val us / V + 1) (hc : val (cs.take n) < pw n) (hd : val (ds.take n) < pw n) (hVn : V < pw n) (ha : val (ds.take n) + cy * pw n = val (cs.take n) + V) :
    g - 1 = val us / V ∧ 0 < g ∧ val (ds.take n) = val us % V ∧ un + cy = t := by
  have h1 : pw n * un + (t - un) * pw n = t * pw n := by rw [Nat.mul_comm (t - un), ← Nat.mul_add, Nat.mul_comm]; congr 1; omega
  have h0 : pw n ≤ (t - un) * pw n := by
    have : 1 * pw n ≤ (t - un) * pw n := Nat.mul_le_mul_right _ (by omega)
    omega
  have h2 : val us < g * V := by omega
  have h3 : val us / V < g := (Nat.div_lt_iff_lt_mul hV).2 h2
  have h4 : g = val us / V + 1 := by omega
  refine ⟨by rw [h4]; rfl, by rw [h4]; exact Nat.succ_pos _, ?_⟩
  have h5 := Nat.div_add_mod (val us) V
  have h6 := Nat.mod_lt (val us) hV
  have h7 : g * V = V * (val us / V) + V := by rw [h4, Nat.add_mul, Nat.mul_comm]; omega
  have h9 : val us % V + (t - un) * pw n = val (ds.take n) + cy * pw n := by omega
  have h10 : (t - un) = cy := by
    rcases Nat.lt_trichotomy (t - un) cy with h' | h' | h'
    · have : (t - un + 1) * pw n ≤ cy * pw n := Nat.mul_le_mul_right _ h'
      rw [Nat.add_mul] at this; omega
    · exact h'
    · have : (cy + 1) * pw n ≤ (t - un) * pw n := Nat.mul_le_mul_right _ h'
      rw [Nat.add_mul] at this; omega
  rw [h10] at h9
  exact ⟨by omega, by omega⟩

theorem last0 {us : List Nat} {n V : Nat} (hl : us.length = n + 1) (hv : val us < V) (hV : V ≤ pw n) : us = us.take n ++ [0] ∧ val (us.take n) = val us := by
  have h1 := val_take_succ us n (by omega)
  have h2 := take_snoc us n (by omega)
  rw [take_all (by omega)] at h1 h2
  have h3 : us.getD n 0 = 0 := by
    rcases Nat.eq_zero_or_pos (us.getD n 0) with h | h
    · exact h
    · have : pw n * 1 ≤ pw n * us.getD n 0 := Nat.mul_le_mul_left _ h
      omega
  rw [h3] at h1 h2
  exact ⟨h2, by omega⟩

/-- A round of a long division. -/
theorem dm_step {u0 rs qd : List Nat} {V i x : Nat} (hi : i < u0.length) (hx : u0.getD i 0 = x) (h : val (u0.drop (i + 1)) = val qd * V + val rs) :
    val (u0.drop i) = val (val (x :: rs) / V :: qd) * V + val (x :: rs) % V := by
  rw [List.drop_eq_getElem_cons hi, val_cons, h, val_cons (val (x :: rs) / V)]
  simp [List.getD, hi] at hx
  rw [hx]
  have h1 := Nat.div_add_mod (val (x :: rs)) V
  have h2 : val (x :: rs) = x + 1000000000 * val rs := val_cons _ _
  generalize val (x :: rs) / V = k at *
  generalize val (x :: rs) % V = l at *
  rw [Nat.add_mul, Nat.mul_add, Nat.mul_comm k, Nat.mul_assoc]
  omega

theorem dm_lt {rs : List Nat} {V x : Nat} (hx : x < 1000000000) (hr : val rs < V) : val (x :: rs) < V * 1000000000 := by
  rw [val_cons]; omega

/-- How a product with a small number that keeps the highest limb below the base is. -/
theorem scale_pos {b1 : Nat} (h : b1 < 1000000000) : 0 < 1000000000 / (b1 + 1) ∧ (1 ≤ b1 → 1000000000 / (b1 + 1) < 1000000000) := by
  refine ⟨Nat.div_pos (by omega) (by omega), fun h1 => Nat.div_lt_self (by omega) (by omega)⟩

theorem lim_top {n : Nat} (h : n ≠ 0) : 0 < (lim n).getD ((lim n).length - 1) 0 := by
  have hl : (lim n).length = ((lim n).length - 1) + 1 := by
    have : lim n ≠ [] := fun e => h (lim_eq_nil.1 e)
    have := List.length_pos_iff.2 this
    omega
  have h1 := lim_len_ge hl
  have h2 := val_take_succ (lim n) ((lim n).length - 1) (by omega)
  rw [take_all (by omega), val_lim] at h2
  have h3 := val_lt ((lim_Lm n).take ((lim n).length - 1))
  simp only [List.length_take] at h3
  rw [Nat.min_eq_left (by omega)] at h3
  rcases Nat.eq_zero_or_pos ((lim n).getD ((lim n).length - 1) 0) with h4 | h4
  · rw [h4] at h2; omega
  · exact h4
end Go.Proofs.YtfdekppnilffeaaGreatDoor
end
section
set_option linter.unusedVariables false
set_option linter.unusedSimpArgs false
namespace Go.Proofs.YtfdekppnilffeaaGreatDoor
open Go.Lib

/-- m digits, zeros first. -/
def padD : Nat → Nat → List UInt8
  | 0, _ => []
  | m + 1, r => padD m (r / 10) ++ [UInt8.ofNat (48 + r % 10)]

theorem padD_length : ∀ (m r : Nat), (padD m r).length = m
  | 0, _ => rfl
  | m + 1, r => by simp [padD, padD_length m]

theorem dec_big {u : Nat} (h : ¬ u < 10) : decDigits u = decDigits (u / 10) ++ [UInt8.ofNat (48 + u % 10)] := by rw [decDigits, dif_neg h]

theorem shift10 (x m r : Nat) : (x * 10 ^ (m + 1) + r) / 10 = x * 10 ^ m + r / 10 := by
  rw [Nat.pow_succ, ← Nat.mul_assoc]; omega

theorem dec_pad : ∀ (m x r : Nat), 0 < x → r < 10 ^ m → decDigits (x * 10 ^ m + r) = decDigits x ++ padD m r
  | 0, x, r, _, h => by simp at h; subst h; simp [padD]
  | m + 1, x, r, hx, h => by
    have h1 : 10 ^ (m + 1) ≤ x * 10 ^ (m + 1) := Nat.le_mul_of_pos_left _ hx
    have h2 : 10 ≤ 10 ^ (m + 1) := by rw [Nat.pow_succ]; have := Nat.pow_pos (n := m) (show 0 < 10 by omega); omega
    rw [dec_big (by omega), shift10, dec_pad m x (r / 10) hx (by rw [Nat.pow_succ] at h; omega), padD, List.append_assoc]
    congr 4
    rw [Nat.pow_succ, ← Nat.mul_assoc]; omega

theorem nD_pad (m x r : Nat) (hx : 0 < x) (h : r < 10 ^ m) : nDigits (x * 10 ^ m + r) = nDigits x + m := by
  rw [← decDigits_length, dec_pad m x r hx h]; simp [padD_length, decDigits_length]

theorem rep_pad (m r : Nat) (h : r < 10 ^ m) : r = 0 → padD m r = List.replicate m 48 := by
  rintro rfl
  induction m with
  | zero => rfl
  | succ m ih => rw [padD, Nat.zero_div, ih (Nat.pow_pos (by omega)), List.replicate_succ']; rfl

theorem nD_le : ∀ (m r : Nat), 0 < m → r < 10 ^ m → nDigits r ≤ m
  | 0, _, h, _ => by omega
  | m + 1, r, _, h => by
    by_cases h1 : r < 10
    · rw [nDigits_small h1]; omega
    · rw [nDigits_big h1]
      have h2 : r / 10 < 10 ^ m := by rw [Nat.pow_succ] at h; omega
      rcases Nat.eq_zero_or_pos m with rfl | hm
      · simp at h2; omega
      · have := nD_le m (r / 10) hm h2; omega

/-- The digits of a number, filled up with zeros. -/
theorem fill_pad : ∀ (m r : Nat), 0 < m → r < 10 ^ m → List.replicate (m - nDigits r) 48 ++ decDigits r = padD m r
  | 0, _, h, _ => by omega
  | m + 1, r, _, h => by
    by_cases h1 : r < 10
    · rw [nDigits_small h1, decDigits_one h1, padD, rep_pad m (r / 10) (by rw [Nat.div_eq_of_lt h1]; exact Nat.pow_pos (by omega)) (Nat.div_eq_of_lt h1), Nat.mod_eq_of_lt h1]; rfl
    · have h2 : r / 10 < 10 ^ m := by rw [Nat.pow_succ] at h; omega
      rcases Nat.eq_zero_or_pos m with rfl | hm
      · simp at h2; omega
      · have := fill_pad m (r / 10) hm h2
        rw [nDigits_big h1, dec_big h1, padD, ← this, Nat.add_sub_add_right, List.append_assoc]

theorem pw10 (k : Nat) : pw k = 10 ^ (9 * k) := by unfold pw; rw [Nat.pow_mul]

/-- How many digits a number has. -/
theorem nD_lim {n : Nat} (h : n ≠ 0) : nDigits n = 9 * ((lim n).length - 1) + nDigits ((lim n).getD ((lim n).length - 1) 0) := by
  have ht := lim_top h
  have hl : 0 < (lim n).length := List.length_pos_iff.2 (fun e => h (lim_eq_nil.1 e))
  have h2 := val_take_succ (lim n) ((lim n).length - 1) (by omega)
  rw [take_all (by omega), val_lim] at h2
  have h3 := val_lt ((lim_Lm n).take ((lim n).length - 1))
  simp only [List.length_take] at h3
  rw [Nat.min_eq_left (by omega), pw10] at h3
  rw [pw10, Nat.add_comm, Nat.mul_comm] at h2
  generalize (lim n).getD ((lim n).length - 1) 0 = x at *
  generalize (lim n).length - 1 = k at *
  rw [h2, nD_pad _ _ _ ht h3, Nat.add_comm]

theorem nD_zero : nDigits 0 = 1 := nDigits_small (by omega)

/-- The digits from one limb on. -/
theorem dec_cons {x : Nat} {r : List Nat} (hx : x < 1000000000) (hr : 0 < val r) : decDigits (val (x :: r)) = decDigits (val r) ++ (List.replicate (9 - nDigits x) 48 ++ decDigits x) := by
  rw [fill_pad 9 x (by omega) hx, val_cons, Nat.add_comm, Nat.mul_comm]
  exact dec_pad 9 (val r) x hr hx

theorem lim_le_nD (n : Nat) : (lim n).length ≤ nDigits n := by
  by_cases h : n = 0
  · subst h; rw [lim_zero]; simp
  · rw [nD_lim h]; have := nDigits_pos ((lim n).getD ((lim n).length - 1) 0); omega

theorem nD_mul (m n : Nat) : nDigits (m * n) ≤ nDigits m + nDigits n := by
  refine nD_le _ _ (by have := nDigits_pos m; omega) ?_
  rw [Nat.pow_add]
  exact Nat.mul_lt_mul'' (lt_pow_nDigits m) (lt_pow_nDigits n)

theorem nD_mono {m n : Nat} (h : m ≤ n) : nDigits m ≤ nDigits n :=
  nD_le _ _ (nDigits_pos n) (Nat.lt_of_le_of_lt h (lt_pow_nDigits n))
end Go.Proofs.YtfdekppnilffeaaGreatDoor
end
section
set_option linter.unusedVariables false
set_option linter.unusedSimpArgs false
namespace Go.Proofs.YtfdekppnilffeaaGreatDoor
open Go.Lib

def isD (c : UInt8) : Prop := 48 ≤ c.toNat ∧ c.toNat ≤ 57
def Dgs (l : List UInt8) : Prop := ∀ c ∈ l, isD c
def dvalA (a : Nat) (l : List UInt8) : Nat := l.foldl (fun a c => a * 10 + (c.toNat - 48)) a
def dval (l : List UInt8) : Nat := dvalA 0 l

theorem dvalA_nil (a : Nat) : dvalA a [] = a := by simp only [dvalA, List.foldl_nil]
theorem dvalA_cons (a : Nat) (c : UInt8) (l : List UInt8) : dvalA a (c :: l) = dvalA (a * 10 + (c.toNat - 48)) l := by simp only [dvalA, List.foldl_cons]
theorem dvalA_append (a : Nat) (x y : List UInt8) : dvalA a (x ++ y) = dvalA (dvalA a x) y := by unfold dvalA; rw [List.foldl_append]
theorem dvalA_eq : ∀ (l : List UInt8) (a : Nat), dvalA a l = a * 10 ^ l.length + dval l
  | [], a => by simp [dval, dvalA]
  | c :: l, a => by
    have h1 : dval (c :: l) = (c.toNat - 48) * 10 ^ l.length + dval l := by
      show dvalA 0 (c :: l) = _
      rw [dvalA_cons, dvalA_eq l, Nat.zero_mul, Nat.zero_add]
    rw [dvalA_cons, dvalA_eq l, h1, List.length_cons, Nat.pow_succ, Nat.add_mul, Nat.mul_comm (10 ^ l.length) 10, ← Nat.mul_assoc]
    omega
theorem dval_append (x y : List UInt8) : dval (x ++ y) = dval x * 10 ^ y.length + dval y := by
  show dvalA 0 (x ++ y) = _; rw [dvalA_append, dvalA_eq]; rfl
theorem dval_snoc (x : List UInt8) (c : UInt8) : dval (x ++ [c]) = dval x * 10 + (c.toNat - 48) := by
  show dvalA 0 (x ++ [c]) = _; rw [dvalA_append, dvalA_cons, dvalA_nil]; rfl
theorem Dgs.left {x y : List UInt8} (h : Dgs (x ++ y)) : Dgs x := fun c hc => h c (by simp [hc])
theorem Dgs.right {x y : List UInt8} (h : Dgs (x ++ y)) : Dgs y := fun c hc => h c (by simp [hc])
theorem Dgs.take {x : List UInt8} (h : Dgs x) (k : Nat) : Dgs (x.take k) := fun c hc => h c (List.mem_of_mem_take hc)
theorem Dgs.drop {x : List UInt8} (h : Dgs x) (k : Nat) : Dgs (x.drop k) := fun c hc => h c (List.mem_of_mem_drop hc)

theorem snocL {α : Type} (xs : List α) : xs = [] ∨ ∃ ys y, xs = ys ++ [y] := by
  rcases List.eq_nil_or_concat xs with h | ⟨a, b, h⟩
  · exact .inl h
  · exact .inr ⟨a, b, by simpa using h⟩

theorem dval_lt {l : List UInt8} (h : Dgs l) : dval l < 10 ^ l.length := by
  induction hn : l.length generalizing l with
  | zero => rw [List.length_eq_zero_iff] at hn; subst hn; simp [dval, dvalA]
  | succ n ih =>
    rcases snocL l with rfl | ⟨x, c, rfl⟩
    · simp at hn
    · have h1 := ih h.left (by simpa using hn)
      have h2 := h c (by simp)
      unfold isD at h2
      rw [dval_snoc, Nat.pow_succ]
      omega

theorem parse_ok : ∀ (l : List UInt8) (a : Nat), Dgs l → (a + 1) * 10 ^ l.length ≤ 1000000000000000000 → parseUintM (2 ^ 64 - 1) a l = .ok (dvalA a l)
  | [], a, _, _ => rfl
  | c :: l, a, h, hb => by
    have h1 := h c (by simp)
    unfold isD at h1
    rw [parseUintM, if_pos h1]
    have h2 : (a * 10 + (c.toNat - 48) + 1) * 10 ^ l.length ≤ 1000000000000000000 := by
      refine Nat.le_trans (Nat.mul_le_mul_right _ (show a * 10 + (c.toNat - 48) + 1 ≤ (a + 1) * 10 by omega)) ?_
      rw [List.length_cons, Nat.pow_succ, Nat.mul_comm (10 ^ l.length), ← Nat.mul_assoc] at hb
      exact hb
    have h3 : (a * 10 + (c.toNat - 48) + 1) * 1 ≤ (a * 10 + (c.toNat - 48) + 1) * 10 ^ l.length := Nat.mul_le_mul_left _ (Nat.pow_pos (by omega))
    rw [if_neg (by omega), if_neg (by omega), dvalA_cons]
    exact parse_ok l _ (fun c hc => h c (by simp [hc])) h2

theorem parse_chunk {l : List UInt8} (h : Dgs l) (hne : l ≠ []) (hl : l.length ≤ 9) : parseUintB 64 l = .ok (dval l) := by
  unfold parseUintB
  rw [if_neg hne]
  refine parse_ok l 0 h ?_
  have := Nat.pow_le_pow_right (n := 10) (by omega) hl
  omega

theorem ofNat_d {k : Nat} (h : k < 10) : (UInt8.ofNat (48 + k)).toNat = 48 + k := by
  rw [UInt8.toNat_ofNat']; omega

theorem dec_dval (n : Nat) : Dgs (decDigits n) ∧ dval (decDigits n) = n := by
  induction n using Nat.strongRecOn with
  | _ n ih =>
    by_cases h : n < 10
    · rw [decDigits_one h]
      have := ofNat_d h
      exact ⟨fun c hc => by rw [List.mem_singleton.1 hc]; unfold isD; omega, by show dvalA 0 [_] = _; rw [dvalA_cons, dvalA_nil, this]; omega⟩
    · rw [dec_big h]
      obtain ⟨h1, h2⟩ := ih (n / 10) (by omega)
      have := ofNat_d (Nat.mod_lt n (show 0 < 10 by omega))
      refine ⟨fun c hc => ?_, by rw [dval_snoc, h2, this]; omega⟩
      simp only [List.mem_append, List.mem_singleton] at hc
      rcases hc with hc | rfl
      · exact h1 c hc
      · unfold isD; omega

/-- A text of digits without a leading zero is the digits of its value. -/
theorem dec_of {l : List UInt8} (h : Dgs l) (hne : l ≠ []) (hz : l = [48] ∨ l.head? ≠ some 48) : l = decDigits (dval l) := by
  induction hn : l.length generalizing l with
  | zero => exact absurd (List.length_eq_zero_iff.1 hn) hne
  | succ n ih =>
    rcases snocL l with rfl | ⟨x, c, rfl⟩
    · exact absurd rfl hne
    · have h2 := h c (by simp)
      unfold isD at h2
      have hc : UInt8.ofNat (48 + (c.toNat - 48)) = c := by
        apply UInt8.toNat_inj.1; rw [UInt8.toNat_ofNat']; have := c.toNat_lt; omega
      by_cases hx : x = []
      · subst hx
        simp only [List.nil_append]
        have : dval [c] = c.toNat - 48 := by show dvalA 0 [c] = _; rw [dvalA_cons, dvalA_nil]; omega
        rw [this, decDigits_one (by omega), hc]
      · have hz' : x = [48] ∨ x.head? ≠ some 48 := by
          right
          intro e
          rcases hz with hz | hz
          · have := congrArg List.length hz; simp at this; exact hx this
          · cases x with
            | nil => exact hx rfl
            | cons y r => exact hz e
        have h3 := ih h.left hx hz' (by simpa using hn)
        have h4 : 0 < dval x := by
          rcases Nat.eq_zero_or_pos (dval x) with h5 | h5
          · rw [h5, decDigits_one (by omega)] at h3
            rcases hz with hz | hz
            · have := congrArg List.length hz; simp at this; exact absurd this hx
            · rw [h3] at hz; exact absurd rfl hz
          · exact h5
        rw [dval_snoc, dec_big (by omega), show (dval x * 10 + (c.toNat - 48)) / 10 = dval x by omega, show (dval x * 10 + (c.toNat - 48)) % 10 = c.toNat - 48 by omega, hc, ← h3]

theorem dec_head {n : Nat} : decDigits n = [48] ∨ (decDigits n).head? ≠ some 48 := by
  induction n using Nat.strongRecOn with
  | _ n ih =>
    by_cases h : n < 10
    · rw [decDigits_one h]
      by_cases h0 : n = 0
      · left; subst h0; rfl
      · right
        intro e
        have := congrArg UInt8.toNat (Option.some.inj e)
        rw [ofNat_d h] at this
        have h8 : (48 : UInt8).toNat = 48 := rfl
        omega
    · right
      rw [dec_big h]
      have hne : decDigits (n / 10) ≠ [] := fun e => by have := decDigits_length (n / 10); rw [e] at this; have := nDigits_pos (n / 10); simp at *; omega
      rcases ih (n / 10) (by omega) with h1 | h1
      · exfalso
        have := (dec_dval (n / 10)).2
        rw [h1] at this
        simp [dval, dvalA] at this
        omega
      · cases hd : decDigits (n / 10) with
        | nil => exact absurd hd hne
        | cons y r => rw [hd] at h1; simpa using h1

theorem dec_inj {m n : Nat} (h : decDigits m = decDigits n) : m = n := by
  have := (dec_dval m).2
  rw [h, (dec_dval n).2] at this
  exact this.symm
end Go.Proofs.YtfdekppnilffeaaGreatDoor
end
