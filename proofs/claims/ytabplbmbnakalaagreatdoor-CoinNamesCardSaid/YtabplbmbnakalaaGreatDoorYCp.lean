/-
  When a bit string decides a coin, in plain arithmetic.
  No conditions: each theorem names its own premises.
-/
import Derived.Test.YtabplbmbnakalaaGreatDoorYQ
import Derived.Test.YtabplbmbnakalaaGreatDoorYLa
set_option linter.unusedSimpArgs false
set_option linter.unusedVariables false
namespace Go.Proofs.YtabplbmbnakalaaGreatDoor
open Go.Lib

theorem bvalA_eq : ∀ (l : List UInt8) (a : Nat), bvalA a l = a * 2 ^ l.length + bval l
  | [], a => by simp [bvalA, bval]
  | c :: r, a => by
    have h1 : bvalA a (c :: r) = bvalA (2 * a + bv1 c) r := rfl
    have h2 : bval (c :: r) = bvalA (2 * 0 + bv1 c) r := rfl
    rw [h1, h2, bvalA_eq r, bvalA_eq r (2 * 0 + bv1 c), List.length_cons, Nat.pow_succ]
    generalize 2 ^ r.length = p
    generalize bval r = q
    generalize bv1 c = e
    grind
theorem bval_app (x y : List UInt8) : bval (x ++ y) = bval x * 2 ^ y.length + bval y := by
  rw [← bvalA_eq]; exact bvalA_append 0 x y

/-- On which side of N/D the cell from k to k+1 of two lies. -/
def dcd (N D k two : Nat) : Option Nat := if N * two ≤ k * D then some 0 else if k * D + D ≤ N * two then some 1 else none
def dcz (N D : Nat) (l : List UInt8) : Option Nat := dcd N D (bval l) (2 ^ l.length)
theorem dcd_zero {N D k two : Nat} : dcd N D k two = some 0 ↔ N * two ≤ k * D := by
  unfold dcd
  split
  · rename_i h; simp [h]
  · rename_i h
    split
    · simp [h]
    · simp [h]
theorem dcd_one {N D k two : Nat} (hD : 0 < D) : dcd N D k two = some 1 ↔ k * D + D ≤ N * two := by
  unfold dcd
  split
  · rename_i h; simp; omega
  · rename_i h
    split
    · rename_i h; simp [h]
    · rename_i h; simp [h]
theorem dcd_val {N D k two v : Nat} (h : dcd N D k two = some v) : v = 0 ∨ v = 1 := by
  unfold dcd at h
  split at h
  · cases h; exact .inl rfl
  · split at h
    · cases h; exact .inr rfl
    · cases h
theorem dec_app {N D v : Nat} (hD : 0 < D) {l : List UInt8} (m : List UInt8) (h : dcz N D l = some v) : dcz N D (l ++ m) = some v := by
  have hm := bval_lt m.length m rfl
  unfold dcz at h ⊢
  rw [bval_app, List.length_append, Nat.pow_add]
  generalize 2 ^ l.length = t at *
  generalize bval l = k at *
  generalize 2 ^ m.length = s at *
  generalize bval m = b at *
  rcases dcd_val h with rfl | rfl
  · rw [dcd_zero] at h ⊢
    have := Nat.mul_le_mul_right s h
    calc N * (t * s) = N * t * s := by rw [Nat.mul_assoc]
      _ ≤ k * D * s := this
      _ = k * s * D := by rw [Nat.mul_right_comm]
      _ ≤ (k * s + b) * D := Nat.mul_le_mul_right D (by omega)
  · rw [dcd_one hD] at h ⊢
    have h1 := Nat.mul_le_mul_right s h
    calc (k * s + b) * D + D = (k * s + b + 1) * D := by rw [Nat.succ_mul]
      _ ≤ (k * s + s) * D := Nat.mul_le_mul_right D (by omega)
      _ = (k * D + D) * s := by grind
      _ ≤ N * t * s := h1
      _ = N * (t * s) := by rw [Nat.mul_assoc]
theorem dec_take {N D v : Nat} (hD : 0 < D) {l : List UInt8} {i j : Nat} (hij : i ≤ j) (h : dcz N D (l.take i) = some v) : dcz N D (l.take j) = some v := by
  have := dec_app hD ((l.drop i).take (j - i)) h
  rwa [← List.take_add, show i + (j - i) = j by omega] at this

/-- A toss: whether the bits decide, the value, how many bits are used. -/
def tos (N D : Nat) (l : List UInt8) : Bool × Nat × Nat := match fnz (fun j => (dcz N D (l.take j)).isSome) 0 (l.length + 1) with
  | none => (false, 0, l.length)
  | some j => (true, (dcz N D (l.take j)).getD 0, j)
theorem tos_is {N D v j : Nat} {l : List UInt8} (hj : j ≤ l.length) (hv : dcz N D (l.take j) = some v) (hn : ∀ i, i < j → dcz N D (l.take i) = none) : tos N D l = (true, v, j) := by
  unfold tos
  rw [fnz_at (i := j) (Nat.zero_le _) (by omega) (by rw [hv]; rfl) (fun i _ hi => by rw [hn i hi]; rfl)]
  simp [hv]
theorem tos_not {N D : Nat} {l : List UInt8} (hn : ∀ i, i ≤ l.length → dcz N D (l.take i) = none) : tos N D l = (false, 0, l.length) := by
  unfold tos
  rw [fnz_no (fun i _ hi => by rw [hn i (by omega)]; rfl)]
theorem tos_cases (N D : Nat) (l : List UInt8) : (∃ v j, tos N D l = (true, v, j) ∧ j ≤ l.length ∧ dcz N D (l.take j) = some v ∧ ∀ i, i < j → dcz N D (l.take i) = none) ∨
    (tos N D l = (false, 0, l.length) ∧ ∀ i, i ≤ l.length → dcz N D (l.take i) = none) := by
  cases h : fnz (fun j => (dcz N D (l.take j)).isSome) 0 (l.length + 1) with
  | none =>
    have hn := fnz_none h
    have : ∀ i, i ≤ l.length → dcz N D (l.take i) = none := fun i hi => by simpa using hn i (Nat.zero_le _) (by omega)
    exact .inr ⟨tos_not this, this⟩
  | some j =>
    obtain ⟨h1, h2, h3, h4⟩ := fnz_some h
    obtain ⟨v, hv⟩ := Option.isSome_iff_exists.1 h3
    have hn : ∀ i, i < j → dcz N D (l.take i) = none := fun i hi => by simpa using h4 i (Nat.zero_le _) hi
    exact .inl ⟨v, j, tos_is (by omega) hv hn, by omega, hv, hn⟩
/-- What a toss says is what the whole string says. -/
theorem tos_dec {N D : Nat} (hD : 0 < D) (l : List UInt8) : (∀ v, dcz N D l = some v → ∃ j, tos N D l = (true, v, j) ∧ j ≤ l.length) ∧ (dcz N D l = none → tos N D l = (false, 0, l.length)) := by
  rcases tos_cases N D l with ⟨v, j, h1, h2, h3, h4⟩ | ⟨h1, h2⟩
  · have := dec_take hD (l := l) h2 h3
    rw [List.take_length] at this
    refine ⟨fun u hu => ?_, fun hu => ?_⟩
    · rw [this] at hu; cases hu; exact ⟨j, h1, h2⟩
    · rw [this] at hu; cases hu
  · have := h2 l.length (Nat.le_refl _)
    rw [List.take_length] at this
    refine ⟨fun u hu => ?_, fun hu => h1⟩
    rw [this] at hu; cases hu

/-- A longer string. -/
theorem tos_longer {N D v j : Nat} {b : List UInt8} (h : tos N D b = (true, v, j)) (m : List UInt8) : j ≤ b.length ∧ tos N D (b ++ m) = (true, v, j) ∧ tos N D (b.take j) = (true, v, j) ∧ (0 < j → ∃ u, tos N D (b.take (j - 1)) = (false, 0, u)) ∧ dcz N D (b.take j) = some v ∧ (v = 0 ∨ v = 1) := by
  rcases tos_cases N D b with ⟨v', j', h1, h2, h3, h4⟩ | ⟨h1, _⟩
  · rw [h] at h1
    simp only [Prod.mk.injEq, true_and] at h1
    obtain ⟨rfl, rfl⟩ := h1
    refine ⟨h2, tos_is (by rw [List.length_append]; omega) (by rw [List.take_append_of_le_length h2]; exact h3) (fun i hi => by rw [List.take_append_of_le_length (by omega)]; exact h4 i hi),
      tos_is (by rw [List.length_take]; omega) (by rw [List.take_take, Nat.min_self]; exact h3) (fun i hi => by rw [List.take_take, Nat.min_eq_left (by omega)]; exact h4 i hi), fun hj => ⟨_, tos_not (fun i hi => ?_)⟩, h3, dcd_val h3⟩
    rw [List.length_take] at hi
    rw [List.take_take, Nat.min_eq_left (by omega)]
    exact h4 i (by omega)
  · rw [h] at h1; simp at h1
theorem tos_open {N D v j : Nat} {b : List UInt8} (h : tos N D b = (false, v, j)) (m : List UInt8) : v = 0 ∧ j = b.length ∧ (∀ v' j', tos N D (b ++ m) = (true, v', j') → b.length < j') := by
  rcases tos_cases N D b with ⟨v', j', h1, _⟩ | ⟨h1, h2⟩
  · rw [h] at h1; simp at h1
  · rw [h] at h1
    simp only [Prod.mk.injEq, true_and] at h1
    refine ⟨h1.1, h1.2, fun v' j' h' => ?_⟩
    obtain ⟨g1, g2, g3, g4, g5, _⟩ := tos_longer h' []
    rcases Nat.lt_or_ge b.length j' with hlt | hge
    · exact hlt
    · rw [List.take_append_of_le_length hge, h2 j' hge] at g5; cases g5
theorem tos_short {N D v : Nat} {b : List UInt8} (hD : 0 < D) (hle : N ≤ D) (h : tos N D b = (true, v, 0)) : N = 0 ∨ N = D := by
  obtain ⟨_, _, _, _, h5, h6⟩ := tos_longer h []
  have : dcd N D 0 1 = some v := h5
  rcases h6 with rfl | rfl
  · rw [dcd_zero] at this; omega
  · rw [dcd_one hD] at this; omega

/-- Counts. -/
theorem dec_count {N D n k : Nat} (hD : 0 < D) (hk : k < 2 ^ n) : dcz N D (bitsOf n k) = if k < N * 2 ^ n / D then some 1 else if N * 2 ^ n % D ≠ 0 ∧ k = N * 2 ^ n / D then none else some 0 := by
  have hdm := Nat.div_add_mod (N * 2 ^ n) D
  have hml := Nat.mod_lt (N * 2 ^ n) hD
  have hb : bval (bitsOf n k) = k := by rw [bitsOf_bval, Nat.mod_eq_of_lt hk]
  unfold dcz
  rw [hb, bitsOf_length]
  generalize N * 2 ^ n / D = q at *
  generalize N * 2 ^ n % D = r at *
  split
  · rename_i hkq
    rw [dcd_one hD, ← hdm]
    have : (k + 1) * D ≤ q * D := Nat.mul_le_mul_right D hkq
    rw [Nat.succ_mul] at this
    rw [Nat.mul_comm D q]; omega
  · rename_i hkq
    split
    · rename_i h
      obtain ⟨hr, rfl⟩ := h
      have h0 : ¬ N * 2 ^ n ≤ k * D := by rw [← hdm, Nat.mul_comm D k]; omega
      have h1 : ¬ k * D + D ≤ N * 2 ^ n := by rw [← hdm, Nat.mul_comm D k]; omega
      unfold dcd
      rw [if_neg h0, if_neg h1]
    · rename_i h
      rw [dcd_zero, ← hdm, Nat.mul_comm D q]
      by_cases hr : r = 0
      · have : q * D ≤ k * D := Nat.mul_le_mul_right D (by omega)
        omega
      · have : (q + 1) * D ≤ k * D := Nat.mul_le_mul_right D (by
          have : k ≠ q := fun e => h ⟨hr, e⟩
          omega)
        rw [Nat.succ_mul] at this
        omega
end Go.Proofs.YtabplbmbnakalaaGreatDoor
