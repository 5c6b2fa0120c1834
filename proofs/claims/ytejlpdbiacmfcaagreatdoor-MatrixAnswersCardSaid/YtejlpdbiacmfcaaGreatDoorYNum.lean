/-
  Plain arithmetic of numbers written in limbs below 1,000,000,000, the lowest limb first; no program in sight.
  No conditions: each theorem names its own premises.
  Walks of package limbs: trim, Of, Zero, One, Add, Sub, Mul return what the arithmetic of limbs says, and leave all older memory alone.
  Conditions: the numbers take fewer than 2^40 limbs.
  Plain arithmetic: the steps of addition, subtraction, multiplication and short division on limbs; no program in sight.
  Walks of package limbs: Add, Sub, Mul, Of return what the arithmetic of limbs says, and leave all older memory alone.
-/
import Derived.Test.YtejlpdbiacmfcaaGreatDoorYTab
set_option linter.unusedSimpArgs false
set_option linter.unusedVariables false
namespace Go.Proofs.YtejlpdbiacmfcaaGreatDoor
section

def val : List Nat → Nat
 | [] => 0
 | x :: r => x + 1000000000 * val r

def Lm (xs : List Nat) : Prop := ∀ x ∈ xs, x < 1000000000

def lim (n : Nat) : List Nat :=
 if _h : n = 0 then [] else (n % 1000000000) :: lim (n / 1000000000)
termination_by n
decreasing_by omega

def pw (k : Nat) : Nat := 1000000000 ^ k

theorem pw_zero : pw 0 = 1 := rfl
theorem pw_succ (k : Nat) : pw (k + 1) = 1000000000 * pw k := by unfold pw; rw [Nat.pow_succ]; omega
theorem pw_pos (k : Nat) : 0 < pw k := Nat.pow_pos (by omega)
theorem pw_add (j k : Nat) : pw (j + k) = pw j * pw k := by unfold pw; exact Nat.pow_add _ _ _
theorem pw_le {j k : Nat} (h : j ≤ k) : pw j ≤ pw k := Nat.pow_le_pow_right (by omega) h
theorem lt_of_pw_lt {j k : Nat} (h : pw j < pw k) : j < k := by
 rcases Nat.lt_or_ge j k with h1 | h1
 ·exact h1
 ·have := pw_le h1; omega

theorem lim_zero : lim 0 = [] := by unfold lim; simp
theorem lim_pos {n : Nat} (h : n ≠ 0) : lim n = (n % 1000000000) :: lim (n / 1000000000) := by rw [lim]; simp [h]

theorem val_nil : val [] = 0 := rfl
theorem val_cons (x : Nat) (r : List Nat) : val (x :: r) = x + 1000000000 * val r := rfl

theorem val_append (xs ys : List Nat) : val (xs ++ ys) = val xs + pw xs.length * val ys := by
 induction xs with
 | nil => simp [val_nil, pw_zero]
 | cons x r ih =>
  simp only [List.cons_append, val_cons, ih, List.length_cons, pw_succ, Nat.mul_add, Nat.mul_assoc]
  omega

theorem val_snoc (xs : List Nat) (x : Nat) : val (xs ++ [x]) = val xs + pw xs.length * x := by
 rw [val_append]; simp [val_cons, val_nil]

theorem Lm.nil : Lm [] := by intro x h; cases h
theorem Lm.cons {x : Nat} {r : List Nat} (h : x < 1000000000) (hr : Lm r) : Lm (x :: r) := by
 intro y hy; rcases List.mem_cons.1 hy with rfl | hy; exact h; exact hr y hy
theorem Lm.head {x : Nat} {r : List Nat} (h : Lm (x :: r)) : x < 1000000000 := h x (by simp)
theorem Lm.tail {x : Nat} {r : List Nat} (h : Lm (x :: r)) : Lm r := fun y hy => h y (by simp [hy])
theorem Lm.append {xs ys : List Nat} (h : Lm xs) (h' : Lm ys) : Lm (xs ++ ys) := by
 intro y hy; rcases List.mem_append.1 hy with hy | hy; exact h y hy; exact h' y hy
theorem Lm.left {xs ys : List Nat} (h : Lm (xs ++ ys)) : Lm xs := fun y hy => h y (by simp [hy])
theorem Lm.right {xs ys : List Nat} (h : Lm (xs ++ ys)) : Lm ys := fun y hy => h y (by simp [hy])
theorem Lm.snoc {xs : List Nat} {x : Nat} (h : Lm xs) (hx : x < 1000000000) : Lm (xs ++ [x]) := h.append (Lm.cons hx Lm.nil)
theorem Lm.take {xs : List Nat} (h : Lm xs) (k : Nat) : Lm (xs.take k) := fun y hy => h y (List.mem_of_mem_take hy)
theorem Lm.drop {xs : List Nat} (h : Lm xs) (k : Nat) : Lm (xs.drop k) := fun y hy => h y (List.mem_of_mem_drop hy)
theorem Lm.getD {xs : List Nat} (h : Lm xs) (i : Nat) : xs.getD i 0 < 1000000000 := by
 rcases Nat.lt_or_ge i xs.length with h1 | h1
 ·rw [List.getD_eq_getElem?_getD, List.getElem?_eq_getElem h1]; exact h _ (List.getElem_mem h1)
 ·rw [List.getD_eq_getElem?_getD, List.getElem?_eq_none h1]; simp
theorem Lm.set {xs : List Nat} (h : Lm xs) (i : Nat) {x : Nat} (hx : x < 1000000000) : Lm (xs.set i x) := by
 intro y hy
 rcases List.mem_or_eq_of_mem_set hy with hy | rfl
 ·exact h y hy
 ·exact hx
theorem Lm.replicate (k : Nat) : Lm (List.replicate k 0) := by intro y hy; rw [List.mem_replicate] at hy; omega

theorem val_lt {xs : List Nat} (h : Lm xs) : val xs < pw xs.length := by
 induction xs with
 | nil => simp [val_nil, pw_zero]
 | cons x r ih =>
  have h1 := ih h.tail
  have h2 := h.head
  simp only [val_cons, List.length_cons, pw_succ]
  omega

theorem lim_Lm (n : Nat) : Lm (lim n) := by
 induction n using Nat.strongRecOn with
 | _ n ih =>
  by_cases h : n = 0
  ·subst h; rw [lim_zero]; exact Lm.nil
  ·rw [lim_pos h]; exact Lm.cons (Nat.mod_lt _ (by omega)) (ih _ (by omega))

theorem val_lim (n : Nat) : val (lim n) = n := by
 induction n using Nat.strongRecOn with
 | _ n ih =>
  by_cases h : n = 0
  ·subst h; rw [lim_zero]; rfl
  ·rw [lim_pos h, val_cons, ih _ (by omega)]; omega

theorem lim_eq_nil {n : Nat} : lim n = [] ↔ n = 0 := by
 constructor
 ·intro h; have := val_lim n; rw [h] at this; simpa [val] using this.symm
 ·rintro rfl; exact lim_zero

theorem lim_val {xs : List Nat} (h : Lm xs) (hl : ∀ k, xs.length = k + 1 → pw k ≤ val xs) : lim (val xs) = xs := by
 induction xs with
 | nil => exact lim_zero
 | cons x r ih =>
  have hx := h.head
  have hne : val (x :: r) ≠ 0 := by
   have := hl r.length rfl
   have := pw_pos r.length
   omega
  rw [lim_pos hne]
  have h1 : val (x :: r) % 1000000000 = x := by rw [val_cons]; omega
  have h2 : val (x :: r) / 1000000000 = val r := by rw [val_cons]; omega
  rw [h1, h2, ih h.tail ?_]
  intro k hk
  have h3 := hl (k + 1) (by simp [hk])
  rw [pw_succ, val_cons] at h3
  have := pw_pos k
  omega

theorem lim_len_lt (n : Nat) : n < pw (lim n).length := by
 have := val_lt (lim_Lm n); rwa [val_lim] at this

theorem lim_len_ge {n k : Nat} (h : (lim n).length = k + 1) : pw k ≤ n := by
 induction n using Nat.strongRecOn generalizing k with
 | _ n ih =>
  by_cases hn : n = 0
  ·subst hn; rw [lim_zero] at h; simp at h
  ·rw [lim_pos hn] at h
   simp at h
   cases k with
   | zero => rw [pw_zero]; omega
   | succ k =>
    have := ih (n / 1000000000) (by omega) h
    rw [pw_succ]
    omega

theorem lim_len_le {n k : Nat} (h : n < pw k) : (lim n).length ≤ k := by
 cases hl : (lim n).length with
 | zero => omega
 | succ j =>
  have h1 := lim_len_ge hl
  have : pw j < pw k := by omega
  have := lt_of_pw_lt this
  omega

theorem lim_len_mono {m n : Nat} (h : m ≤ n) : (lim m).length ≤ (lim n).length := lim_len_le (by have := lim_len_lt n; omega)

theorem lim_len_add (m n : Nat) : (lim (m + n)).length ≤ max (lim m).length (lim n).length + 1 := by
 refine lim_len_le ?_
 have h1 := lim_len_lt m
 have h2 := lim_len_lt n
 have h3 := pw_le (Nat.le_max_left (lim m).length (lim n).length)
 have h4 := pw_le (Nat.le_max_right (lim m).length (lim n).length)
 rw [pw_succ]
 omega

theorem lim_len_mul (m n : Nat) : (lim (m * n)).length ≤ (lim m).length + (lim n).length := by
 refine lim_len_le ?_
 rw [pw_add]
 exact Nat.mul_lt_mul'' (lim_len_lt m) (lim_len_lt n)

theorem lim_one : lim 1 = [1] := by rw [lim_pos (by omega)]; simp [lim_zero]
theorem lim_small {n : Nat} (h0 : n ≠ 0) (h : n < 1000000000) : lim n = [n] := by
 rw [lim_pos h0, Nat.mod_eq_of_lt h, Nat.div_eq_of_lt h, lim_zero]

def trimN (xs : List Nat) : List Nat := (xs.reverse.dropWhile (· == 0)).reverse

theorem trimN_snoc0 (xs : List Nat) (x : Nat) (h : x = 0) : trimN (xs ++ [x]) = trimN xs := by subst h; simp [trimN]
theorem trimN_snoc (xs : List Nat) (x : Nat) (h : x ≠ 0) : trimN (xs ++ [x]) = xs ++ [x] := by simp [trimN, h]
theorem snoc_cases (xs : List Nat) : xs = [] ∨ ∃ ys y, xs = ys ++ [y] := by
 rcases List.eq_nil_or_concat xs with h | ⟨ys, y, h⟩
 ·exact .inl h
 ·exact .inr ⟨ys, y, by simpa using h⟩

theorem trimN_eq {xs : List Nat} (h : Lm xs) : trimN xs = lim (val xs) := by
 induction hn : xs.length generalizing xs with
 | zero => rw [List.length_eq_zero_iff.1 hn]; rw [val_nil, lim_zero]; rfl
 | succ n ih =>
  rcases snoc_cases xs with rfl | ⟨ys, y, rfl⟩
  ·simp at hn
  ·by_cases hy : y = 0
   ·rw [trimN_snoc0 _ _ hy, ih h.left (by simpa using hn), val_snoc, hy]; simp
   ·rw [trimN_snoc _ _ hy, lim_val h]
    intro k hk
    simp at hk
    rw [val_snoc, hk]
    have : pw k * 1 ≤ pw k * y := Nat.mul_le_mul_left _ (by omega)
    omega

theorem trimN_prefix (xs : List Nat) : ∃ t, xs = trimN xs ++ t := by
 induction hn : xs.length generalizing xs with
 | zero => rw [List.length_eq_zero_iff.1 hn]; exact ⟨[], rfl⟩
 | succ n ih =>
  rcases snoc_cases xs with rfl | ⟨ys, y, rfl⟩
  ·simp at hn
  ·by_cases hy : y = 0
   ·obtain ⟨t, ht⟩ := ih ys (by simpa using hn)
    rw [trimN_snoc0 _ _ hy]
    exact ⟨t ++ [y], by rw [← List.append_assoc, ← ht]⟩
   ·rw [trimN_snoc _ _ hy]; exact ⟨[], by simp⟩

theorem take_snoc (xs : List Nat) (j : Nat) (h : j < xs.length) : xs.take (j + 1) = xs.take j ++ [xs.getD j 0] := by
 rw [List.take_succ_eq_append_getElem h]; simp [List.getD, h]

theorem val_take_succ (xs : List Nat) (j : Nat) (h : j < xs.length) : val (xs.take (j + 1)) = val (xs.take j) + pw j * xs.getD j 0 := by
 rw [take_snoc xs j h, val_snoc]; simp [Nat.min_eq_left (Nat.le_of_lt h)]

theorem val_cmp_top {xs ys : List Nat} (hx : Lm xs) (_ : Lm ys) (hl : xs.length = ys.length) {x y : Nat} (h : x < y) (zs : List Nat) : val (xs ++ x :: zs) < val (ys ++ y :: zs) := by
 rw [val_append, val_append, val_cons, val_cons, hl]
 have h1 := val_lt hx
 rw [hl] at h1
 have h2 : pw ys.length * (x + 1) ≤ pw ys.length * y := Nat.mul_le_mul_left _ h
 simp only [Nat.mul_add, Nat.mul_one] at *
 omega

theorem val_take_drop (xs : List Nat) (k : Nat) (h : k ≤ xs.length) : val xs = val (xs.take k) + pw k * val (xs.drop k) := by
 have h1 := val_append (xs.take k) (xs.drop k)
 rw [List.take_append_drop] at h1
 rw [h1]; simp [Nat.min_eq_left h]

theorem val_replicate (k : Nat) : val (List.replicate k 0) = 0 := by
 induction k with
 | zero => rfl
 | succ k ih => simp [List.replicate_succ, val_cons, ih]
end
section
open Go Go.Proofs Go.RowKit

theorem iv {k : IntKind} {a b : Int} (h : a = b) : some (Value.int k a) = some (Value.int k b) := by rw [h]

def Rd (w : World) (a : Option Addr) (c : Nat) (xs : List Nat) : Prop := Sl w a (xs.map u64) ∧ xs.length ≤ c ∧ ∀ g, ab a = some g → Tg w 79 g

theorem Rd.below {w w' : World} {a : Option Addr} {c : Nat} {xs : List Nat} (h : Rd w a c xs) (hb : Below w.heap.size w w') : Rd w' a c xs :=
 ⟨h.1.below hb (fun g hg => (h.2.2 g hg).lt), h.2.1, fun g hg => (h.2.2 g hg).below hb⟩

theorem getU {xs : List Nat} {j : Nat} (h : j < xs.length) : (xs.map u64)[j]? = some (u64 (xs.getD j 0)) := by simp [h, List.getD]

def Own (w w' : World) (v : Value) (zs : List Nat) : Prop := ∃ a c, v = .slice a zs.length c ∧ w'.ownsRow w.heap.size 79 1 (.slice a zs.length c) zs.length (zs.map u64) ∧ Below w.heap.size w w'

theorem own_rd {w : World} {base : Nat} {a : Option Addr} {m c : Nat} {xs : List Nat} (h : w.ownsRow base 79 1 (.slice a m c) m (xs.map u64)) : Rd w a c xs := by
 have hl := own_len h
 simp at hl
 refine ⟨own_sl h, ?_, own_tag h⟩
 rcases h.2 with ⟨h1, h2⟩ | ⟨g, cap, cur, h1, _, _, h4, _⟩
 ·omega
 ·simp at h1; omega

theorem own_take {w : World} {base e : Nat} {a : Option Addr} {m c k : Nat} {cs : List Value} (h : w.ownsRow base e 1 (.slice a m c) m cs) (hk : k ≤ m) : w.ownsRow base e 1 (.slice a k c) k (cs.take k) := by
 have hl := own_len h
 refine ⟨by simp; omega, ?_⟩
 rcases h.2 with ⟨h1, h2⟩ | ⟨g, cap, cur, h1, h2, h3, h4, h5, h6, h7⟩
 ·simp at h1; obtain ⟨rfl, rfl, rfl⟩ := h1
  exact .inl ⟨by simp; omega, by omega⟩
 ·simp at h1; obtain ⟨rfl, rfl⟩ := h1
  refine .inr ⟨g, c, cur, rfl, h2, h3, by omega, h5, h6, ?_⟩
  rw [← h7, List.take_take]; simp [Nat.min_eq_left hk]

theorem trim_calls (xs : List Nat) (a : Option Addr) (c : Nat) (w : World) (h : Rd w a c xs) (hl : xs.length ≤ 1099511627776) :
  Calls Tryz.prog 121 #[.slice a xs.length c] w (Ret fun v w' => v = .slice a (trimN xs).length c ∧ w = w') := by
 obtain ⟨hs, hc, _⟩ := h
 refine enter Tryz.func121 rfl Tryz.ntmps121 (Nat.le_of_ble_eq_true rfl) ?_
 refine dT rfl ?_
 refine loopR (fun l w' m => ∃ j, l = [(0, .slice a j c)] ∧ w = w' ∧ j ≤ xs.length ∧ trimN (xs.take j) = trimN xs ∧ j = m) ⟨xs.length, rfl, rfl, Nat.le_refl _, by simp, rfl⟩ ⟨rfl, trivial⟩ ?_
 rintro l w' m ⟨j, rfl, rfl, hj, ht, rfl⟩
 refine dS rfl ?_
 refine cS rfl rfl rfl rfl (fun hq => ?_) (fun hq => ?_)
 ·refine dS rfl ?_
  obtain ⟨i, rfl⟩ : ∃ i, j = i + 1 := ⟨j - 1, by omega⟩
  rw [take_snoc xs i hj] at ht
  refine il U rfl rfl rfl rfl rfl rfl rfl (fun _ => rfl) rfl i (by omega) (by omega) hs (getU hj) ?_
  refine cS rfl rfl rfl rfl (fun hq => ?_) (fun hq => ?_)
  ·refine dS rfl ?_
   rw [trimN_snoc0 _ _ (by omega)] at ht
   exact rend _ _ ⟨_, rfl, rfl, by omega, by rw [show (((i + 1 : Nat) : Int) - 1).toNat = i from by omega]; exact ht, rfl⟩ (by omega) ⟨rfl, trivial⟩
  ·refine dS rfl ?_
   rw [trimN_snoc _ _ (by omega), ← take_snoc xs i hj] at ht
   refine ret Tryz.results121 rfl ⟨_, rfl, ?_, rfl⟩
   rw [← ht]; simp [pack]; omega
 ·refine dS rfl ?_
  obtain rfl : j = 0 := by omega
  refine ret Tryz.results121 rfl ⟨_, rfl, ?_, rfl⟩
  rw [← ht]; rfl

theorem trim_own (xs : List Nat) (a : Option Addr) (c base : Nat) (w : World) (h : w.ownsRow base 79 1 (.slice a xs.length c) xs.length (xs.map u64)) (hx : Lm xs) (hl : xs.length ≤ 1099511627776) :
  Calls Tryz.prog 121 #[.slice a xs.length c] w (Ret fun v w' => v = .slice a (lim (val xs)).length c ∧ w = w' ∧ w.ownsRow base 79 1 (.slice a (lim (val xs)).length c) (lim (val xs)).length ((lim (val xs)).map u64)) := by
 refine (trim_calls xs a c w (own_rd h) hl).mono ?_
 rintro e w' ⟨v, rfl, rfl, rfl⟩
 rw [trimN_eq hx]
 refine ⟨_, rfl, rfl, rfl, ?_⟩
 obtain ⟨t, ht⟩ := trimN_prefix xs
 rw [trimN_eq hx] at ht
 generalize lim (val xs) = zs at ht
 have h1 := own_take h (k := zs.length) (by rw [ht]; simp)
 have h2 : (xs.map u64).take zs.length = zs.map u64 := by
  rw [ht, List.map_append, List.take_left' (by simp)]
 rw [h2] at h1
 exact h1

theorem zero_calls (xs : List Nat) (a : Option Addr) (c : Nat) (w : World) : Calls Tryz.prog 125 #[.slice a xs.length c] w (Ret fun v w' => v = .bool (decide (xs = [])) ∧ w = w') := by
 refine enter Tryz.func125 rfl Tryz.ntmps125 (Nat.le_of_ble_eq_true rfl) ?_
 refine dT rfl ?_
 refine cS rfl rfl rfl rfl (fun hq => ?_) (fun hq => ?_)
 ·refine dT rfl ?_
  refine ret Tryz.results125 rfl ⟨_, rfl, ?_, rfl⟩
  have : xs = [] := List.length_eq_zero_iff.1 (by omega)
  simp [this, pack]
 ·refine dT rfl ?_
  refine ret Tryz.results125 rfl ⟨_, rfl, ?_, rfl⟩
  have : ¬ xs = [] := fun e => hq (by rw [e]; rfl)
  simp [this, pack]

theorem one_calls (n : Nat) (a : Option Addr) (c : Nat) (w : World) (h : Rd w a c (lim n)) : Calls Tryz.prog 99 #[.slice a (lim n).length c] w (Ret fun v w' => v = .bool (decide (n = 1)) ∧ w = w') := by
 have hv := val_lim n
 refine enter Tryz.func99 rfl Tryz.ntmps99 (Nat.le_of_ble_eq_true rfl) ?_
 refine dT rfl ?_
 refine cS rfl rfl rfl rfl (fun hq => ?_) (fun hq => ?_)
 ·refine dS rfl ?_
  have h0 : 0 < (lim n).length := by omega
  refine il U rfl rfl rfl rfl rfl rfl rfl (fun _ => rfl) rfl 0 (by omega) (by omega) h.1 (getU h0) ?_
  obtain ⟨x, hl⟩ := List.length_eq_one_iff.1 (show (lim n).length = 1 by omega)
  rw [hl] at hv
  simp [val] at hv
  refine cS rfl rfl rfl rfl (fun hq => ?_) (fun hq => ?_)
  ·refine dT rfl ?_
   refine ret Tryz.results99 rfl ⟨_, rfl, ?_, rfl⟩
   have : n = 1 := by simp [hl] at hq; omega
   simp [this, pack]
  ·refine dT rfl ?_
   refine ret Tryz.results99 rfl ⟨_, rfl, ?_, rfl⟩
   have : ¬ n = 1 := by simp [hl] at hq; omega
   simp [this, pack]
 ·refine dT rfl ?_
  refine ret Tryz.results99 rfl ⟨_, rfl, ?_, rfl⟩
  have : ¬ n = 1 := by rintro rfl; rw [lim_one] at hq; exact hq rfl
  simp [this, pack]
end
section

theorem add_can0 {zs : List Nat} {m n : Nat} (h : Lm zs) (hl : zs.length = (lim m).length) (hv : val zs = m + n) : zs = lim (m + n) := by
 rw [← hv, lim_val h]
 intro k hk
 rw [hv]
 have := lim_len_ge (n := m) (k := k) (by omega)
 omega

theorem add_can1 {zs : List Nat} {m n : Nat} (h : Lm zs) (hl : zs.length = (lim m).length) (hv : val zs + 1 * pw (lim m).length = m + n) : zs ++ [1] = lim (m + n) := by
 have h1 : val (zs ++ [1]) = m + n := by rw [val_snoc, hl]; omega
 rw [← h1, lim_val (h.snoc (by omega))]
 intro k hk
 simp at hk
 rw [val_snoc, ← hk]
 have := pw_pos zs.length
 omega

theorem add_step {zs xs ys : List Nat} {i cy : Nat} (hi : i < xs.length) (hz : zs.length = i) (y : Nat) (hy : val (ys.take (i + 1)) = val (ys.take i) + pw i * y)
  (h : val zs + cy * pw i = val (xs.take i) + val (ys.take i)) :
  val (zs ++ [(xs.getD i 0 + cy + y) % 1000000000]) + (xs.getD i 0 + cy + y) / 1000000000 * pw (i + 1) = val (xs.take (i + 1)) + val (ys.take (i + 1)) := by
 rw [val_snoc, hz, hy, val_take_succ xs i hi, pw_succ]
 generalize xs.getD i 0 = x at *
 have e : pw i * ((x + cy + y) % 1000000000) + (x + cy + y) / 1000000000 * (1000000000 * pw i) = pw i * x + cy * pw i + pw i * y := by
  have h1 : (x + cy + y) / 1000000000 * (1000000000 * pw i) = pw i * (1000000000 * ((x + cy + y) / 1000000000)) := by
   rw [← Nat.mul_assoc, Nat.mul_comm, Nat.mul_comm ((x + cy + y) / 1000000000)]
  rw [h1, ← Nat.mul_add, Nat.mod_add_div]
  simp only [Nat.mul_add, Nat.mul_comm cy]
 omega

theorem take_all {xs : List Nat} {i : Nat} (h : xs.length ≤ i) : xs.take i = xs := List.take_of_length_le h

theorem val_take_beyond (ys : List Nat) (i : Nat) (h : ys.length ≤ i) : val (ys.take (i + 1)) = val (ys.take i) + pw i * 0 := by
 rw [take_all h, take_all (by omega)]; simp

theorem sub_step {zs xs ys : List Nat} {i bo : Nat} (hi : i < xs.length) (hz : zs.length = i) (hx : Lm xs) (y : Nat) (hy1 : y < 1000000000) (hbo : bo ≤ 1) (hy : val (ys.take (i + 1)) = val (ys.take i) + pw i * y)
  (h : val zs + val (ys.take i) = val (xs.take i) + bo * pw i) (z bo' : Nat) (hzv : z + (bo + y) = xs.getD i 0 + bo' * 1000000000) :
  val (zs ++ [z]) + val (ys.take (i + 1)) = val (xs.take (i + 1)) + bo' * pw (i + 1) := by
 rw [val_snoc, hz, hy, val_take_succ xs i hi, pw_succ]
 generalize xs.getD i 0 = x at *
 have e : pw i * z + (pw i * bo + pw i * y) = pw i * x + bo' * (1000000000 * pw i) := by
  have h1 : bo' * (1000000000 * pw i) = pw i * (bo' * 1000000000) := by
   rw [← Nat.mul_assoc, Nat.mul_comm]
  rw [h1, ← Nat.mul_add, ← Nat.mul_add, ← Nat.mul_add, hzv]
 rw [Nat.mul_comm bo] at h
 omega

theorem set_snoc (zs : List Nat) (r : Nat) (z : Nat) (hr : 0 < r) : (zs ++ List.replicate r 0).set zs.length z = (zs ++ [z]) ++ List.replicate (r - 1) 0 := by
 obtain ⟨s, rfl⟩ : ∃ s, r = s + 1 := ⟨r - 1, by omega⟩
 simp [List.replicate_succ]

theorem set_take_succ (cs : List Nat) (j z : Nat) (h : j < cs.length) : (cs.set j z).take (j + 1) = cs.take j ++ [z] := by
 rw [List.take_succ_eq_append_getElem (by simpa using h)]; simp [List.take_set_of_le]
theorem set_drop_succ (cs : List Nat) (j z : Nat) : (cs.set j z).drop (j + 1) = cs.drop (j + 1) := by
 rw [List.drop_set_of_lt (by omega)]

theorem getD_of_drop {cs ds : List Nat} {j : Nat} (h : cs.drop j = ds.drop j) : cs.getD j 0 = ds.getD j 0 := by
 have h1 : (cs.drop j)[0]? = (ds.drop j)[0]? := by rw [h]
 simp at h1
 simp [List.getD, h1]

theorem drop_succ_of_drop {cs ds : List Nat} {j : Nat} (h : cs.drop j = ds.drop j) : cs.drop (j + 1) = ds.drop (j + 1) := by
 rw [← List.drop_drop (i := 1) (j := j), ← List.drop_drop (i := 1) (j := j), h]

theorem mul_step {cs out ys : List Nat} {i k cy x : Nat} (hk : k < ys.length) (hj : i + k < cs.length) (hl : cs.length = out.length) (hd : cs.drop (i + k) = out.drop (i + k))
  (h : val (cs.take (i + k)) + cy * pw (i + k) = val (out.take (i + k)) + x * (pw i * val (ys.take k))) :
  val ((cs.set (i + k) ((cs.getD (i + k) 0 + x * ys.getD k 0 + cy) % 1000000000)).take (i + k + 1)) + (cs.getD (i + k) 0 + x * ys.getD k 0 + cy) / 1000000000 * pw (i + k + 1) =
   val (out.take (i + k + 1)) + x * (pw i * val (ys.take (k + 1))) := by
 rw [set_take_succ _ _ _ hj, val_snoc, val_take_succ out (i + k) (by omega), val_take_succ ys k hk, getD_of_drop hd, pw_succ]
 have hlen : (cs.take (i + k)).length = i + k := by simp; omega
 rw [hlen]
 generalize out.getD (i + k) 0 = o
 generalize ys.getD k 0 = y
 have e : pw (i + k) * ((o + x * y + cy) % 1000000000) + (o + x * y + cy) / 1000000000 * (1000000000 * pw (i + k)) = pw (i + k) * o + pw (i + k) * (x * y) + cy * pw (i + k) := by
  have h1 : (o + x * y + cy) / 1000000000 * (1000000000 * pw (i + k)) = pw (i + k) * (1000000000 * ((o + x * y + cy) / 1000000000)) := by
   rw [← Nat.mul_assoc, Nat.mul_comm, Nat.mul_comm ((o + x * y + cy) / 1000000000)]
  rw [h1, ← Nat.mul_add, Nat.mod_add_div]
  simp only [Nat.mul_add, Nat.mul_comm cy]
 have e2 : x * (pw i * (val (ys.take k) + pw k * y)) = x * (pw i * val (ys.take k)) + pw (i + k) * (x * y) := by
  rw [pw_add, Nat.mul_add, Nat.mul_add]
  congr 1
  rw [← Nat.mul_assoc (pw i), Nat.mul_left_comm]
 omega

theorem mul_round {cs zs xs ys : List Nat} {i r cy : Nat} (hi : i < xs.length) (hz : zs.length = i + ys.length) (hr : 0 < r) (hl : cs.length = (zs ++ List.replicate r 0).length)
  (hd : cs.drop (i + ys.length) = (zs ++ List.replicate r 0).drop (i + ys.length)) (hv : val zs = val (xs.take i) * val ys)
  (h : val (cs.take (i + ys.length)) + cy * pw (i + ys.length) = val ((zs ++ List.replicate r 0).take (i + ys.length)) + xs.getD i 0 * (pw i * val (ys.take ys.length))) :
  ∃ zs', cs.set (i + ys.length) cy = zs' ++ List.replicate (r - 1) 0 ∧ zs'.length = i + 1 + ys.length ∧ val zs' = val (xs.take (i + 1)) * val ys := by
 have hlen : (cs.take (i + ys.length)).length = i + ys.length := by
  simp at hl ⊢; omega
 refine ⟨cs.take (i + ys.length) ++ [cy], ?_, by simp [hlen]; omega, ?_⟩
 ·have h1 : i + ys.length < cs.length := by simp at hl; omega
  rw [← List.take_append_drop (i + ys.length + 1) (cs.set (i + ys.length) cy), set_take_succ _ _ _ h1, set_drop_succ, drop_succ_of_drop hd]
  congr 1
  rw [← hz]
  simp [List.drop_append]
 ·rw [val_snoc, hlen, val_take_succ xs i hi, Nat.add_mul, ← hv]
  rw [← hz, List.take_left, take_all (Nat.le_refl _)] at h
  rw [hz] at h
  rw [Nat.mul_comm (pw (i + ys.length)), Nat.mul_comm (pw i), Nat.mul_assoc]
  exact h
end
section
open Go Go.Proofs Go.RowKit


theorem add_calls (p q : Nat) (a b : Option Addr) (c d : Nat) (w : World) (ha : Rd w a c (lim p)) (hb : Rd w b d (lim q)) (hpl : (lim p).length ≤ 1099511627776) (hql : (lim q).length ≤ 1099511627776) :
  Calls Tryz.prog 94 #[.slice a (lim p).length c, .slice b (lim q).length d] w (Ret fun v w' => Own w w' v (lim (p + q))) := by
 have hxl := lim_Lm p
 have hyl := lim_Lm q
 have hvp := val_lim p
 have hvq := val_lim q
 have hres1 : ∀ zs, Lm zs → zs.length = (lim p).length → val zs + 1 * pw (lim p).length = val (lim p) + val (lim q) → zs ++ [1] = lim (p + q) := fun zs h1 h2 h3 => add_can1 h1 h2 (by omega)
 have hres0 : ∀ zs, Lm zs → zs.length = (lim p).length → val zs = val (lim p) + val (lim q) → zs = lim (p + q) := fun zs h1 h2 h3 => add_can0 h1 h2 (by omega)
 have hrs1 : ∀ zs, Lm zs → zs.length = (lim q).length → val zs + 1 * pw (lim q).length = val (lim q) + val (lim p) → zs ++ [1] = lim (p + q) := fun zs h1 h2 h3 => by rw [Nat.add_comm]; exact add_can1 h1 h2 (by omega)
 have hrs0 : ∀ zs, Lm zs → zs.length = (lim q).length → val zs = val (lim q) + val (lim p) → zs = lim (p + q) := fun zs h1 h2 h3 => by rw [Nat.add_comm]; exact add_can0 h1 h2 (by omega)
 generalize hxs : lim p = xs at *
 generalize hys : lim q = ys at *
 refine enter Tryz.func94 rfl Tryz.ntmps94 (Nat.le_of_ble_eq_true rfl) ?_
 refine dT rfl ?_
 refine cS rfl rfl rfl rfl (fun hq => ?_) (fun hq => ?_)
 ·skip
  refine dS rfl ?_
  refine mk0 U rfl rfl rfl rfl rfl rfl (ys.length + 1) rfl (by omega) (by omega) (by omega) w.heap.size (Nat.le_refl _) ?_
  intro a0 w0 ho0 hg0
  refine dT rfl ?_
  refine loopR (fun l w' m => ∃ i zs cy ao co, l = [(20, .slice b ys.length d), (21, .int .i64 ys.length), (22, .int .i64 (i : Nat)), (1, .slice a xs.length c), (5, .slice ao i co), (6, .int .u64 (cy : Nat))] ∧ i ≤ ys.length ∧ zs.length = i ∧ Lm zs ∧ cy ≤ 1 ∧
   val zs + cy * pw i = val (ys.take i) + val (xs.take i) ∧ w'.ownsRow w.heap.size 79 1 (.slice ao i co) i (zs.map u64) ∧ Below w.heap.size w w' ∧ m = ys.length - i)
   ⟨0, [], 0, a0, ys.length + 1, rfl, by omega, rfl, Lm.nil, by omega, by simp [val], ho0, (Below.refl _ _).grown hg0 (Nat.le_refl _) (fun k e => by cases e), rfl⟩ ⟨rfl, rfl, rfl, rfl, rfl, rfl, trivial⟩ ?_
  rintro l w' m ⟨i, zs, cy, ao, co, rfl, hi, hz, hzl, hcy, hv, ho, hB, rfl⟩
  refine dT rfl ?_
  refine cS rfl rfl rfl rfl (fun hq => ?_) (fun hq => ?_)
  ·refine dS rfl ?_
   have hi' : i < ys.length := by omega
   have hx1 := hyl.getD i
   have hs := @add_step zs ys xs i cy hi' hz
   refine il U rfl rfl rfl rfl rfl rfl rfl (fun _ => rfl) rfl i (by omega) (by omega) (hb.below hB).1 (getU hi') ?_
   refine dS rfl ?_
   refine cS rfl rfl rfl rfl (fun hq => ?_) (fun hq => ?_)
   ·refine dS rfl ?_
    have hj : i < xs.length := by omega
    have hy1 := hxl.getD i
    have hs := hs _ (val_take_succ xs i hj) hv
    refine il U rfl rfl rfl rfl rfl rfl rfl (fun _ => rfl) rfl i (by omega) (by omega) (ha.below hB).1 (getU hj) ?_
    generalize hx2 : ys.getD i 0 = x at *
    generalize hy2 : xs.getD i 0 = y at *
    refine dS rfl ?_
    refine ap U (v := (u64 ((x + cy + y) % 1000000000))) (iv (by omega)) rfl rfl rfl rfl rfl (fun _ => rfl) rfl (fun _ => rfl) rfl rfl rfl ho hB.size (by omega) (by decide) ?_
    intro a1 c1 w1 ho1 hg1
    refine dS rfl ?_
    refine rend _ _ ⟨i + 1, zs ++ [(x + cy + y) % 1000000000], (x + cy + y) / 1000000000, a1, c1, rfl, by omega, by simp [hz], hzl.snoc (by omega), by omega, hs, by simpa using ho1, hB.grown hg1 hB.size (fun g hg => (own_block ho g hg).1), rfl⟩ (by omega) ⟨rfl, rfl, iv (by omega), rfl, rfl, iv (by omega), trivial⟩
   ·have hs := hs _ (val_take_beyond xs i (by omega)) hv
    generalize hx2 : ys.getD i 0 = x at *
    refine dS rfl ?_
    refine ap U (v := (u64 ((x + cy + 0) % 1000000000))) (iv (by omega)) rfl rfl rfl rfl rfl (fun _ => rfl) rfl (fun _ => rfl) rfl rfl rfl ho hB.size (by omega) (by decide) ?_
    intro a1 c1 w1 ho1 hg1
    refine dS rfl ?_
    refine rend _ _ ⟨i + 1, zs ++ [(x + cy + 0) % 1000000000], (x + cy + 0) / 1000000000, a1, c1, rfl, by omega, by simp [hz], hzl.snoc (by omega), by omega, hs, by simpa using ho1, hB.grown hg1 hB.size (fun g hg => (own_block ho g hg).1), rfl⟩ (by omega) ⟨rfl, rfl, iv (by omega), rfl, rfl, iv (by omega), trivial⟩
  ·obtain rfl : i = ys.length := by omega
   rw [take_all (Nat.le_refl _), take_all (show xs.length ≤ ys.length by omega)] at hv
   refine dT rfl ?_
   refine cS rfl rfl rfl rfl (fun hq => ?_) (fun hq => ?_)
   ·obtain rfl : cy = 1 := by omega
    refine dS rfl ?_
    refine ap U (v := (u64 1)) rfl rfl rfl rfl rfl rfl (fun _ => rfl) rfl (fun _ => rfl) rfl rfl rfl ho hB.size (by omega) (by decide) ?_
    intro a1 c1 w1 ho1 hg1
    refine dS rfl ?_
    refine ret Tryz.results94 rfl ⟨_, rfl, ?_⟩
    have e := hrs1 zs hzl hz hv
    have e2 : (lim (p + q)).length = ys.length + 1 := by rw [← e]; simp [hz]
    refine ⟨a1, c1, by rw [e2]; rfl, ?_, hB.grown hg1 hB.size (fun g hg => (own_block ho g hg).1)⟩
    rw [e2, ← e]; simpa using ho1
   ·obtain rfl : cy = 0 := by omega
    refine dS rfl ?_
    refine ret Tryz.results94 rfl ⟨_, rfl, ?_⟩
    have e := hrs0 zs hzl hz (by simpa using hv)
    have e2 : (lim (p + q)).length = ys.length := by rw [← e]; simp [hz]
    refine ⟨ao, co, by rw [e2]; rfl, ?_, hB⟩
    rw [e2, ← e]; exact ho
 ·skip
  refine dS rfl ?_
  refine mk0 U rfl rfl rfl rfl rfl rfl (xs.length + 1) rfl (by omega) (by omega) (by omega) w.heap.size (Nat.le_refl _) ?_
  intro a0 w0 ho0 hg0
  refine dT rfl ?_
  refine loopR (fun l w' m => ∃ i zs cy ao co, l = [(20, .slice a xs.length c), (21, .int .i64 xs.length), (22, .int .i64 (i : Nat)), (1, .slice b ys.length d), (5, .slice ao i co), (6, .int .u64 (cy : Nat))] ∧ i ≤ xs.length ∧ zs.length = i ∧ Lm zs ∧ cy ≤ 1 ∧
   val zs + cy * pw i = val (xs.take i) + val (ys.take i) ∧ w'.ownsRow w.heap.size 79 1 (.slice ao i co) i (zs.map u64) ∧ Below w.heap.size w w' ∧ m = xs.length - i)
   ⟨0, [], 0, a0, xs.length + 1, rfl, by omega, rfl, Lm.nil, by omega, by simp [val], ho0, (Below.refl _ _).grown hg0 (Nat.le_refl _) (fun k e => by cases e), rfl⟩ ⟨rfl, rfl, rfl, rfl, rfl, rfl, trivial⟩ ?_
  rintro l w' m ⟨i, zs, cy, ao, co, rfl, hi, hz, hzl, hcy, hv, ho, hB, rfl⟩
  refine dT rfl ?_
  refine cS rfl rfl rfl rfl (fun hq => ?_) (fun hq => ?_)
  ·refine dS rfl ?_
   have hi' : i < xs.length := by omega
   have hx1 := hxl.getD i
   have hs := @add_step zs xs ys i cy hi' hz
   refine il U rfl rfl rfl rfl rfl rfl rfl (fun _ => rfl) rfl i (by omega) (by omega) (ha.below hB).1 (getU hi') ?_
   refine dS rfl ?_
   refine cS rfl rfl rfl rfl (fun hq => ?_) (fun hq => ?_)
   ·refine dS rfl ?_
    have hj : i < ys.length := by omega
    have hy1 := hyl.getD i
    have hs := hs _ (val_take_succ ys i hj) hv
    refine il U rfl rfl rfl rfl rfl rfl rfl (fun _ => rfl) rfl i (by omega) (by omega) (hb.below hB).1 (getU hj) ?_
    generalize hx2 : xs.getD i 0 = x at *
    generalize hy2 : ys.getD i 0 = y at *
    refine dS rfl ?_
    refine ap U (v := (u64 ((x + cy + y) % 1000000000))) (iv (by omega)) rfl rfl rfl rfl rfl (fun _ => rfl) rfl (fun _ => rfl) rfl rfl rfl ho hB.size (by omega) (by decide) ?_
    intro a1 c1 w1 ho1 hg1
    refine dS rfl ?_
    refine rend _ _ ⟨i + 1, zs ++ [(x + cy + y) % 1000000000], (x + cy + y) / 1000000000, a1, c1, rfl, by omega, by simp [hz], hzl.snoc (by omega), by omega, hs, by simpa using ho1, hB.grown hg1 hB.size (fun g hg => (own_block ho g hg).1), rfl⟩ (by omega) ⟨rfl, rfl, iv (by omega), rfl, rfl, iv (by omega), trivial⟩
   ·have hs := hs _ (val_take_beyond ys i (by omega)) hv
    generalize hx2 : xs.getD i 0 = x at *
    refine dS rfl ?_
    refine ap U (v := (u64 ((x + cy + 0) % 1000000000))) (iv (by omega)) rfl rfl rfl rfl rfl (fun _ => rfl) rfl (fun _ => rfl) rfl rfl rfl ho hB.size (by omega) (by decide) ?_
    intro a1 c1 w1 ho1 hg1
    refine dS rfl ?_
    refine rend _ _ ⟨i + 1, zs ++ [(x + cy + 0) % 1000000000], (x + cy + 0) / 1000000000, a1, c1, rfl, by omega, by simp [hz], hzl.snoc (by omega), by omega, hs, by simpa using ho1, hB.grown hg1 hB.size (fun g hg => (own_block ho g hg).1), rfl⟩ (by omega) ⟨rfl, rfl, iv (by omega), rfl, rfl, iv (by omega), trivial⟩
  ·obtain rfl : i = xs.length := by omega
   rw [take_all (Nat.le_refl _), take_all (show ys.length ≤ xs.length by omega)] at hv
   refine dT rfl ?_
   refine cS rfl rfl rfl rfl (fun hq => ?_) (fun hq => ?_)
   ·obtain rfl : cy = 1 := by omega
    refine dS rfl ?_
    refine ap U (v := (u64 1)) rfl rfl rfl rfl rfl rfl (fun _ => rfl) rfl (fun _ => rfl) rfl rfl rfl ho hB.size (by omega) (by decide) ?_
    intro a1 c1 w1 ho1 hg1
    refine dS rfl ?_
    refine ret Tryz.results94 rfl ⟨_, rfl, ?_⟩
    have e := hres1 zs hzl hz hv
    have e2 : (lim (p + q)).length = xs.length + 1 := by rw [← e]; simp [hz]
    refine ⟨a1, c1, by rw [e2]; rfl, ?_, hB.grown hg1 hB.size (fun g hg => (own_block ho g hg).1)⟩
    rw [e2, ← e]; simpa using ho1
   ·obtain rfl : cy = 0 := by omega
    refine dS rfl ?_
    refine ret Tryz.results94 rfl ⟨_, rfl, ?_⟩
    have e := hres0 zs hzl hz (by simpa using hv)
    have e2 : (lim (p + q)).length = xs.length := by rw [← e]; simp [hz]
    refine ⟨ao, co, by rw [e2]; rfl, ?_, hB⟩
    rw [e2, ← e]; exact ho
end
end Go.Proofs.YtejlpdbiacmfcaaGreatDoor
