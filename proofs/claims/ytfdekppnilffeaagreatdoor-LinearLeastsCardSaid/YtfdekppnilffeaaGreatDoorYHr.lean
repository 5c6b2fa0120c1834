/-
  What the solver answers at small systems of numbers.
  Conditions: each theorem names its own.

  Numbers' texts under the reference's arithmetic; inverses and ranks of small matrices.
  Conditions: each theorem names its own.

  The digits of what least squares leave: one denominator for all differences.
  No conditions: each theorem names its own premises.

  Walk of the law package's squares; comparing sums of squares.
  Conditions: the numbers' digits fit.
-/
import Derived.Test.YtfdekppnilffeaaGreatDoorYLd
import Derived.Test.YtfdekppnilffeaaGreatDoorYHk
import Derived.Test.YtfdekppnilffeaaGreatDoorYPick
section
set_option linter.unusedSimpArgs false
set_option linter.unusedVariables false
set_option maxHeartbeats 1000000
namespace Go.Proofs.YtfdekppnilffeaaGreatDoor
open Go Go.Proofs Go.RowKit Go.Lib

theorem SolvedR.full {n : Nat} {f : Mx} {b : Nat → Rat} {v : Value} {w : World} (h : SolvedR n f b v w) (hF : (gj n f n).2 = n) :
    ∃ x a c, (∀ i, i < n → mapp n f x i = b i) ∧ (∀ i, i < n → Small 4000 (x i)) ∧ v = .tuple ⟨[.slice a n c, .int .i64 0]⟩ ∧ Lit w (.slice a n c) (txs n x) := by
  rcases h with ⟨h, _⟩ | ⟨_, h⟩
  · exact absurd hF h
  · exact h
theorem SolvedR.none {n : Nat} {f : Mx} {b : Nat → Rat} {v : Value} {w : World} (h : SolvedR n f b v w) (hF : (gj n f n).2 ≠ n) :
    ∃ a c, v = .tuple ⟨[.slice a 0 c, .int .i64 17]⟩ := by
  rcases h with ⟨_, h⟩ | ⟨h, _⟩
  · exact h
  · exact absurd h hF
theorem fct_le {n : Nat} (hn : n ≤ 5) : fct n ≤ 120 := by
  have : n = 0 ∨ n = 1 ∨ n = 2 ∨ n = 3 ∨ n = 4 ∨ n = 5 := by omega
  rcases this with rfl | rfl | rfl | rfl | rfl | rfl <;> decide
theorem pow_lift {a K E : Nat} (ha : a < 10 ^ 3) (hE : 3 + K ≤ E) : a * 10 ^ K < 10 ^ E := by
  have h1 : a * 10 ^ K < 10 ^ 3 * 10 ^ K := Nat.mul_lt_mul_of_pos_right ha (Nat.pow_pos (by omega))
  rw [← Nat.pow_add] at h1
  exact Nat.lt_of_lt_of_le h1 (Nat.pow_le_pow_right (by omega) hE)
theorem sol_bound5 {n S : Nat} (hn : n ≤ 5) (hS : S ≤ 126) : fct n * (10 ^ S * (10 ^ S) ^ n) ^ n < 10 ^ 4000 := by
  rw [← Nat.pow_mul, ← Nat.pow_add, ← Nat.pow_mul]
  have h0 : S * n ≤ 126 * 5 := Nat.mul_le_mul hS hn
  have h2 : (S + S * n) * n ≤ 756 * 5 := Nat.mul_le_mul (by omega) hn
  exact pow_lift (a := fct n) (K := (S + S * n) * n) (E := 4000) (Nat.lt_of_le_of_lt (fct_le hn) (by decide)) (by omega)
theorem sol_small5 {n S : Nat} {f : Mx} {b : Nat → Rat} (h0 : 0 < n) (hn : n ≤ 5) (hS : S ≤ 126) (hf : ∀ i, i < n → ∀ k, k < n → Small S (f i k)) (hb : ∀ i, i < n → Small S (b i)) :
    ∀ x, (∀ i, i < n → mapp n f x i = b i) → (gj n f n).2 = n → ∀ i, i < n → Small 4000 (x i) := fun x hx hF =>
  sol_small h0 (fun i k hi hk => hf i hi k hk) hb hF hx (sol_bound5 hn hS) (by omega)
theorem grw5 {n S : Nat} (hn : n ≤ 5) (hS : S ≤ 126) : grw n S ≤ 1000000 :=
  Nat.le_trans (grw_mono2 hS n) (grw_at hn (by decide))
theorem app_small5 {n S R : Nat} {m : Nat} {f : Mx} {y : Nat → Rat} (hn : n ≤ 5) (hf : ∀ i, i < m → ∀ k, k < n → Small S (f i k)) (hy : ∀ i, i < n → Small R (y i)) : ∀ i, i < m → Small (5 * (S + R + 1) + 1) (mapp n f y i) := fun i hi =>
  small_mono (sm_small2 (fun t ht => hf i hi t ht) (fun t ht => hy t ht) n (Nat.le_refl _)) (by have := Nat.mul_le_mul_right (S + R + 1) hn; omega)
end Go.Proofs.YtfdekppnilffeaaGreatDoor
end
section
set_option linter.unusedSimpArgs false
set_option linter.unusedVariables false
set_option maxHeartbeats 1000000
namespace Go.Proofs.YtfdekppnilffeaaGreatDoor
open Go Go.Proofs Go.RowKit Go.Lib

section
variable {p q : Rat}
theorem radd_q (hp : Small 4000 p) (hq : Small 4000 q) (hr : Small 4000 (p + q)) (w : World) :
    Calls Tryz.prog 20 #[.string ⟨⟨qtext p⟩⟩, .string ⟨⟨qtext q⟩⟩] w (Ret fun v w' => v = .tuple ⟨[.string ⟨⟨qtext (p + q)⟩⟩, .int .i64 0]⟩ ∧ Below w.heap.size w w') :=
  (radd_calls _ _ (Nat.le_trans (qtext_len hp) (by omega)) (Nat.le_trans (qtext_len hq) (by omega)) w).mono (by rintro _ w' ⟨v, rfl, h, hB⟩; exact ⟨v, rfl, (h.text hp hq).ok hr, hB⟩)
theorem rsub_q (hp : Small 4000 p) (hq : Small 4000 q) (hr : Small 4000 (p + -q)) (w : World) :
    Calls Tryz.prog 18 #[.string ⟨⟨qtext p⟩⟩, .string ⟨⟨qtext q⟩⟩] w (Ret fun v w' => v = .tuple ⟨[.string ⟨⟨qtext (p + -q)⟩⟩, .int .i64 0]⟩ ∧ Below w.heap.size w w') :=
  (rsub_calls _ _ (Nat.le_trans (qtext_len hp) (by omega)) (Nat.le_trans (qtext_len hq) (by omega)) w).mono (by rintro _ w' ⟨v, rfl, h, hB⟩; exact ⟨v, rfl, (h.text hp hq).ok hr, hB⟩)
theorem rmul_q (hp : Small 4000 p) (hq : Small 4000 q) (hr : Small 4000 (p * q)) (w : World) :
    Calls Tryz.prog 19 #[.string ⟨⟨qtext p⟩⟩, .string ⟨⟨qtext q⟩⟩] w (Ret fun v w' => v = .tuple ⟨[.string ⟨⟨qtext (p * q)⟩⟩, .int .i64 0]⟩ ∧ Below w.heap.size w w') :=
  (rmul_calls _ _ (Nat.le_trans (qtext_len hp) (by omega)) (Nat.le_trans (qtext_len hq) (by omega)) w).mono (by rintro _ w' ⟨v, rfl, h, hB⟩; exact ⟨v, rfl, (h.text hp hq).ok hr, hB⟩)
theorem rcmp_q (hp : Small 4000 p) (hq : Small 4000 q) (w : World) :
    Calls Tryz.prog 21 #[.string ⟨⟨qtext p⟩⟩, .string ⟨⟨qtext q⟩⟩] w (Ret fun v w' => v = .tuple ⟨[.int .i64 (cmpQ p q), .int .i64 0]⟩ ∧ Below w.heap.size w w') :=
  (rcmp_calls _ _ (Nat.le_trans (qtext_len hp) (by omega)) (Nat.le_trans (qtext_len hq) (by omega)) w).mono (by rintro _ w' ⟨v, rfl, h, hB⟩; exact ⟨v, rfl, h.text hp hq, hB⟩)
end
theorem txs_get {n i : Nat} {f : Nat → Rat} (hi : i < n) : (strs (txs n f))[i]? = some (.string ⟨⟨qtext (f i)⟩⟩) := by
  rw [getS (by rw [txs_length]; exact hi), txs_getD hi]
/-- What the inverter answers, told by its error. -/
def InvC (n : Nat) (f : Mx) (v : Value) (e : Int) (w : World) : Prop :=
  ((gj n f n).2 ≠ n ∧ e = 17) ∨ ((gj n f n).2 = n ∧ e = 0 ∧ ∃ (x : Mx) (a : Option Addr) (c : Nat), (∀ i, i < n → ∀ j, j < n → mmul n f x i j = idn i j) ∧ (∀ i, i < n → ∀ j, j < n → Small 4000 (x i j)) ∧ v = .slice a n c ∧ SM w a (mtx n n x))
theorem InvC.stay {n : Nat} {f : Mx} {v : Value} {e : Int} {w w' : World} (h : InvC n f v e w) (hb : Below w.heap.size w w') : InvC n f v e w' := by
  rcases h with h | ⟨h1, h2, x, a, c, h3, h4, h5, h6⟩
  · exact .inl h
  · exact .inr ⟨h1, h2, x, a, c, h3, h4, h5, h6.stay hb⟩
end Go.Proofs.YtfdekppnilffeaaGreatDoor
end
section
set_option linter.unusedSimpArgs false
set_option linter.unusedVariables false
set_option maxHeartbeats 1000000
namespace Go.Proofs.YtfdekppnilffeaaGreatDoor
open Go.Lib

/-- The rows' scale: the product of a row's denominators. -/
def rsc (p : Nat) (f : Mx) (y : Nat → Rat) (i : Nat) : Rat := ((dprd (fun k => if k < p then f i k else y i) (p + 1) : Nat) : Rat)
/-- The system that the differences and the solution solve together. -/
def augm (n p : Nat) (P : Nat → Rat) (f : Mx) : Mx := fun i k =>
  if i < n then (if k < n then (if k = i then P i * P i else 0) else P i * f i (k - n)) else (if k < n then P k * f k (i - n) else 0)
theorem augm_top {n p : Nat} {P : Nat → Rat} {f : Mx} {X : Nat → Rat} {i : Nat} (hi : i < n) :
    sm (n + p) (fun k => augm n p P f i k * X k) = P i * P i * X i + P i * sm p (fun j => f i j * X (n + j)) := by
  rw [sm_split]
  congr 1
  · rw [sm_single hi (fun k hk hne => by unfold augm; rw [if_pos hi, if_pos hk, if_neg hne]; grind)]
    unfold augm; rw [if_pos hi, if_pos hi, if_pos rfl]
  · rw [← sm_mul]
    apply sm_congr
    intro j _
    unfold augm
    rw [if_pos hi, if_neg (by omega), Nat.add_sub_cancel_left]
    grind
theorem augm_low {n p : Nat} {P : Nat → Rat} {f : Mx} {X : Nat → Rat} {j : Nat} :
    sm (n + p) (fun k => augm n p P f (n + j) k * X k) = sm n (fun k => f k j * (P k * X k)) := by
  rw [sm_split, sm_zero' (n := p) (fun k hk => by unfold augm; rw [if_neg (by omega), if_neg (by omega)]; grind), Rat.add_zero]
  apply sm_congr
  intro k hk
  unfold augm
  rw [if_neg (by omega), if_pos hk, Nat.add_sub_cancel_left]
  grind
theorem augm_nul {n p : Nat} {P : Nat → Rat} {f : Mx} {X : Nat → Rat} (hP : ∀ i, i < n → P i ≠ 0) (hF : (gj p (mmul n (trp f) f) p).2 = p)
    (h : ∀ i, i < n + p → sm (n + p) (fun k => augm n p P f i k * X k) = 0) : ∀ k, k < n + p → X k = 0 := by
  have h1 : ∀ i, i < n → P i * X i = -(mapp p f (fun j => X (n + j)) i) := fun i hi => by
    have := h i (by omega)
    rw [augm_top hi] at this
    have h2 : P i * (P i * X i + mapp p f (fun j => X (n + j)) i) = 0 := by unfold mapp; grind
    rcases Rat.mul_eq_zero.1 h2 with h3 | h3
    · exact absurd h3 (hP i hi)
    · grind
  have h2 : ∀ j, j < p → X (n + j) = 0 := by
    refine rank_full.1 hF (fun j => X (n + j)) (fun j hj => ?_)
    have h3 := h (n + j) (by omega)
    rw [augm_low, sm_congr (g := fun k => (-1) * (f k j * mapp p f (fun j => X (n + j)) k)) (fun k hk => by rw [h1 k hk]; grind), sm_mul] at h3
    have h4 := app_mul n p (trp f) f (fun j => X (n + j)) j
    unfold mapp at h4 h3
    rw [h4]
    unfold trp
    grind
  intro k hk
  by_cases e : k < n
  · have h3 := h1 k e
    have h4 : mapp p f (fun j => X (n + j)) k = 0 := sm_zero' fun j hj => by show f k j * X (n + j) = 0; rw [h2 j hj]; grind
    rw [h4] at h3
    have h5 : P k * X k = 0 := by rw [h3]; grind
    rcases Rat.mul_eq_zero.1 h5 with h6 | h6
    · exact absurd h6 (hP k e)
    · exact h6
  · obtain ⟨j, rfl⟩ : ∃ j, k = n + j := ⟨k - n, by omega⟩
    exact h2 j (by omega)
theorem pow10_pos (K : Nat) : 0 < 10 ^ K := Nat.pow_pos (by omega)
theorem pow10_le {K M : Nat} (h : K ≤ M) : 10 ^ K ≤ 10 ^ M := Nat.pow_le_pow_right (by omega) h
theorem fct_le10 {m : Nat} (h : m ≤ 10) : fct m ≤ 10 ^ 7 := by
  have : m = 0 ∨ m = 1 ∨ m = 2 ∨ m = 3 ∨ m = 4 ∨ m = 5 ∨ m = 6 ∨ m = 7 ∨ m = 8 ∨ m = 9 ∨ m = 10 := by omega
  rcases this with rfl | rfl | rfl | rfl | rfl | rfl | rfl | rfl | rfl | rfl | rfl <;> decide
theorem crm_bound {m K : Nat} (h : m ≤ 10) (hK : K = 1447) : fct m * (10 ^ 144) ^ m ≤ 10 ^ K := by
  rw [← Nat.pow_mul]
  have h1 : fct m * 10 ^ (144 * m) ≤ 10 ^ 7 * 10 ^ (K - 7) := Nat.mul_le_mul (fct_le10 h) (pow10_le (by omega))
  rw [← Nat.pow_add] at h1
  exact Nat.le_trans h1 (pow10_le (by omega))
section
variable {n p : Nat} {f : Mx} {y z : Nat → Rat}
theorem rsc_ne (i : Nat) : rsc p f y i ≠ 0 := dprd_ne _ _
theorem rsc_small (hp : p ≤ 5) (hf : ∀ i, i < n → ∀ k, k < p → Small 12 (f i k)) (hy : ∀ i, i < n → Small 12 (y i)) {i : Nat} (hi : i < n) :
    Isn (10 ^ 72) (rsc p f y i) ∧ (∀ k, k < p → Isn (10 ^ 72) (rsc p f y i * f i k)) ∧ Isn (10 ^ 72) (rsc p f y i * y i) := by
  have hrow : ∀ k, k < p + 1 → Small 12 ((fun k => if k < p then f i k else y i) k) := fun k hk => by
    show Small 12 (if k < p then f i k else y i)
    split
    · exact hf i hi k (by assumption)
    · exact hy i hi
  have hd : ∀ k, k < p + 1 → Isn (10 ^ 72) (rsc p f y i * (if k < p then f i k else y i)) := fun k hk => by
    refine (isn_dprd (f := fun k => if k < p then f i k else y i) (fun q hq => (small_num (hrow q hq)).2) k hk (small_num (hrow k hk)).1).mono ?_
    rw [← Nat.pow_mul, ← Nat.pow_add]
    exact pow10_le (by omega)
  refine ⟨⟨(dprd (fun k => if k < p then f i k else y i) (p + 1) : Nat), (Rat.intCast_natCast _).symm, ?_⟩, fun k hk => ?_, ?_⟩
  · rw [Int.natAbs_natCast]
    refine Nat.le_trans (dprd_le (fun q hq => (small_num (hrow q hq)).2)) ?_
    rw [← Nat.pow_mul]
    exact pow10_le (by omega)
  · have := hd k (by omega)
    rwa [if_pos hk] at this
  · have := hd p (by omega)
    rwa [if_neg (by omega)] at this
/-- All differences over one denominator. -/
theorem resid (hn0 : 0 < n) (hn5 : n ≤ 5) (hp : p ≤ 5) (hf : ∀ i, i < n → ∀ k, k < p → Small 12 (f i k)) (hy : ∀ i, i < n → Small 12 (y i))
    (hF : (gj p (mmul n (trp f) f) p).2 = p) (hz : ∀ k, k < p → mapp p (mmul n (trp f) f) z k = mapp n (trp f) y k) {K : Nat} (hK : K = 1447) :
    ∃ D, D ≠ 0 ∧ Isn (10 ^ K) D ∧ ∀ i, i < n → ∃ N, Isn (10 ^ K) N ∧ (y i - mapp p f z i) * D = rsc p f y i * N := by
  obtain ⟨m, hm⟩ : ∃ m, n + p = m + 1 := ⟨n + p - 1, by omega⟩
  have hsp := fun i (hi : i < n) => rsc_small (p := p) (n := n) hp hf hy hi
  have hB : (10 : Nat) ^ 72 ≤ 10 ^ 144 := pow10_le (by omega)
  have hA : ∀ i k, i < n + p → k < n + p → Isn (10 ^ 144) (augm n p (rsc p f y) f i k) := fun i k hi hk => by
    unfold augm
    split
    · rename_i h1
      split
      · split
        · refine ((hsp i h1).1.mul (hsp i h1).1).mono ?_
          rw [← Nat.pow_add]; exact pow10_le (by omega)
        · exact isn_zero _
      · exact ((hsp i h1).2.1 (k - n) (by omega)).mono hB
    · split
      · rename_i h1 h2
        exact ((hsp k h2).2.1 (i - n) (by omega)).mono hB
      · exact isn_zero _
  have key := cramer m (augm n p (rsc p f y) f) (fun i => if i < n then rsc p f y i * y i else 0) (fun k => if k < n then (y k - mapp p f z k) / rsc p f y k else z (k - n)) (10 ^ 144)
    (fun i k hi hk => hA i k (by omega) (by omega)) (fun i hi => by
      show Isn _ (if i < n then rsc p f y i * y i else 0)
      split
      · rename_i h; exact ((hsp i h).2.2).mono hB
      · exact isn_zero _) (fun i hi => by
      rw [← hm]
      have hr : ∀ k, rsc p f y k * ((y k - mapp p f z k) / rsc p f y k) = y k - mapp p f z k := fun k => by
        rw [Rat.div_def]
        have := Rat.mul_inv_cancel _ (rsc_ne (p := p) (f := f) (y := y) k)
        grind
      by_cases h : i < n
      · rw [augm_top h, if_pos h, sm_congr (g := fun j => f i j * z j) (fun j _ => by rw [if_neg (by omega), Nat.add_sub_cancel_left]), if_pos h]
        have h1 := hr i
        have h2 : sm p (fun j => f i j * z j) = mapp p f z i := rfl
        rw [h2]
        grind
      · obtain ⟨j, rfl⟩ : ∃ j, i = n + j := ⟨i - n, by omega⟩
        rw [augm_low, if_neg h, sm_congr (g := fun k => (y k - mapp p f z k) * f k j) (fun k hk => by rw [if_pos hk, hr k]; grind)]
        exact normal_orth hz j (by omega)) (fun X hX => by
      rw [← hm] at hX ⊢
      exact augm_nul (fun i _ => rsc_ne i) hF hX)
  obtain ⟨D, h1, h2, h3⟩ := key
  have hbd := crm_bound (m := m + 1) (K := K) (by omega) hK
  refine ⟨D, h1, h2.mono hbd, fun i hi => ?_⟩
  obtain ⟨N, h4, h5⟩ := h3 i (by omega)
  rw [if_pos hi] at h5
  refine ⟨N, h4.mono hbd, ?_⟩
  rw [← h5, Rat.div_def]
  have := Rat.mul_inv_cancel _ (rsc_ne (p := p) (f := f) (y := y) i)
  grind
end
/-- What the differences' numbers take. -/
theorem resid_small {n p : Nat} {f : Mx} {y z : Nat → Rat} (hn0 : 0 < n) (hn5 : n ≤ 5) (hp : p ≤ 5) (hf : ∀ i, i < n → ∀ k, k < p → Small 12 (f i k)) (hy : ∀ i, i < n → Small 12 (y i))
    (hF : (gj p (mmul n (trp f) f) p).2 = p) (hz : ∀ k, k < p → mapp p (mmul n (trp f) f) z k = mapp n (trp f) y k) :
    (∀ i, i < n → Small 1600 (y i - mapp p f z i)) ∧ (∀ k, k < p → ∀ t, t ≤ n → Small 1600 (sm t (fun i => (y i - mapp p f z i) * f i k))) ∧
    (∀ t, t ≤ n → Small 3100 (sm t (fun i => (mapp p f z i - y i) * (mapp p f z i - y i)))) := by
  obtain ⟨K, hK⟩ : ∃ K : Nat, K = 1447 := ⟨_, rfl⟩
  obtain ⟨D, h1, h2, h3⟩ := resid hn0 hn5 hp hf hy hF hz hK
  have hsp := fun i (hi : i < n) => rsc_small (p := p) (n := n) hp hf hy hi
  have hlt : ∀ {a b : Nat}, a < b → (10 : Nat) ^ a < 10 ^ b := fun h => Nat.pow_lt_pow_right (by omega) h
  have h5 : ∀ {t M L : Nat}, t ≤ 5 → M < L → t * 10 ^ M < 10 ^ L := fun {t M L} h h' => by
    have : t * 10 ^ M < 10 * 10 ^ M := Nat.mul_lt_mul_of_pos_right (by omega) (pow10_pos M)
    have e : 10 * 10 ^ M = 10 ^ (M + 1) := by rw [Nat.pow_succ, Nat.mul_comm]
    rw [e] at this
    exact Nat.lt_of_lt_of_le this (pow10_le h')
  refine ⟨fun i hi => ?_, fun k hk t ht => ?_, fun t ht => ?_⟩
  · obtain ⟨N, h6, h7⟩ := h3 i hi
    refine frc_small (M := 10 ^ (72 + K)) h1 (h2.mono (pow10_le (by omega))) (((hsp i hi).1.mul h6).mono (by rw [Nat.pow_add]; exact Nat.le_refl _)) h7 (hlt (a := 72 + K) (b := 1600) (by omega)) (by omega)
  · refine frc_small (M := 5 * 10 ^ (72 + K)) h1 (h2.mono (Nat.le_trans (pow10_le (by omega : K ≤ 72 + K)) (Nat.le_mul_of_pos_left _ (by omega)))) (N := sm t (fun i => (y i - mapp p f z i) * f i k * D)) ?_ (sm_mulr D _ t).symm (h5 (M := 72 + K) (L := 1600) (by omega) (by omega)) (by omega)
    refine (isn_sm (B := 10 ^ (72 + K)) (fun i hi => ?_)).mono (Nat.mul_le_mul_right _ (by omega))
    obtain ⟨N, h6, h7⟩ := h3 i (by omega)
    have e : (y i - mapp p f z i) * f i k * D = rsc p f y i * f i k * N := by grind
    rw [e, Nat.pow_add]
    exact ((hsp i (by omega)).2.1 k hk).mul h6
  · have hDD : D * D ≠ 0 := fun h => by rcases Rat.mul_eq_zero.1 h with h | h <;> exact h1 h
    refine frc_small (D := D * D) (M := 5 * 10 ^ (72 + K + (72 + K))) hDD ((h2.mul h2).mono ?_) (N := sm t (fun i => (mapp p f z i - y i) * (mapp p f z i - y i) * (D * D))) ?_ (sm_mulr (D * D) _ t).symm (h5 (M := 72 + K + (72 + K)) (L := 3100) (by omega) (by omega)) (by omega)
    · rw [← Nat.pow_add]
      exact Nat.le_trans (pow10_le (by omega)) (Nat.le_mul_of_pos_left _ (by omega))
    · refine (isn_sm (B := 10 ^ (72 + K + (72 + K))) (fun i hi => ?_)).mono (Nat.mul_le_mul_right _ (by omega))
      obtain ⟨N, h6, h7⟩ := h3 i (by omega)
      have e : (mapp p f z i - y i) * (mapp p f z i - y i) * (D * D) = (rsc p f y i * N) * (rsc p f y i * N) := by grind
      rw [e, Nat.pow_add (m := 72 + K), Nat.pow_add]
      exact ((hsp i (by omega)).1.mul h6).mul ((hsp i (by omega)).1.mul h6)
end Go.Proofs.YtfdekppnilffeaaGreatDoor
end
section
set_option linter.unusedSimpArgs false
set_option linter.unusedVariables false
set_option maxHeartbeats 2000000
namespace Go.Proofs.YtfdekppnilffeaaGreatDoor
open Go Go.Proofs Go.RowKit Go.Lib

theorem squares_calls (n : Nat) (u v : Nat → Rat) (hn0 : 0 < n) (hn : n ≤ 64) (hu : ∀ i, i < n → Small 4000 (u i)) (hv : ∀ i, i < n → Small 4000 (v i)) (hd : ∀ i, i < n → Small 4000 (u i + -v i)) (hsq : ∀ i, i < n → Small 4000 ((u i + -v i) * (u i + -v i)))
    (hs : ∀ t, t ≤ n → Small 4000 (sm t (fun i => (u i + -v i) * (u i + -v i)))) (a b : Option Addr) (c d : Nat) (w : World) (h1 : Lit w (.slice a n c) (txs n u)) (h2 : Lit w (.slice b n d) (txs n v)) :
    Calls Tryz.prog 22 #[.slice a n c, .slice b n d] w (Ret fun r w' => r = .string ⟨⟨qtext (sm n (fun i => (u i + -v i) * (u i + -v i)))⟩⟩ ∧ Below w.heap.size w w') := by
  have hsa := h1.sl.1
  have hsb := h2.sl.1
  obtain ⟨ga, oa, rfl, _⟩ := hsa 0 _ (txs_get hn0)
  obtain ⟨gb, ob, rfl, _⟩ := hsb 0 _ (txs_get hn0)
  refine enter Tryz.func22 rfl Tryz.ntmps22 (Nat.le_of_ble_eq_true rfl) ?_
  refine dr U 600 rfl trivial ?_
  refine loopR (fun fr w' mm => ∃ (i : Nat), fr = [(0, .slice (some ⟨ga, oa, none⟩) n c), (1, .slice (some ⟨gb, ob, none⟩) n d), (5, .string ⟨⟨qtext (sm i (fun i => (u i + -v i) * (u i + -v i)))⟩⟩), (6, .int .i64 (i : Nat))] ∧ i ≤ n ∧ Below w.heap.size w w' ∧ mm = n - i)
    ⟨0, rfl, by omega, Below.refl _ _, rfl⟩ ⟨rfl, rfl, by rw [sm, qtext_zero]; rfl, rfl, trivial⟩ ?_
  rintro fr w1 mm ⟨i, rfl, hi, hB, rfl⟩
  refine dr U 600 rfl trivial ?_
  refine cS rfl rfl rfl rfl (fun hq => ?_) (fun hq => ?_)
  · have hin : i < n := by omega
    have ht1 := txs_get (f := u) hin
    have ht2 := txs_get (f := v) hin
    refine dr U 600 rfl trivial ?_
    refine dwn 13 (fun W => Sl W (some ⟨ga, oa, none⟩) (strs (txs n u)) ∧ Sl W (some ⟨gb, ob, none⟩) (strs (txs n v))) hmo ?_
    intro w5 hh5 hg5
    have hB5 := hB.grown hg5 hB.size (fun k e => by cases e)
    refine dq U [0,1,2,3,4,5,6,7] [(3, .string ⟨⟨qtext (u i)⟩⟩), (7, .string ⟨⟨qtext (v i)⟩⟩)] (by kernel_rfl) rfl rfl ⟨hsa.stay hB5, hsb.stay hB5⟩ (by simp only [AllP, InR, List.nil_append, List.cons_append]; (repeat' apply And.intro); all_goals first | exact True.intro | omega | exact fun w h => run_load_cell U rfl (by simpa [add_plain] using slc2 h.1 ht1) | exact fun w h => run_load_cell U rfl (by simpa [add_plain] using slc2 h.2 ht2)) ?_
    refine d1 rfl rfl (fun _ => ⟨hsa.stay hB5, hsb.stay hB5⟩) ?_
    refine call (f := 18) rfl rfl cb18 (rsub_q (hu i hin) (hv i hin) (hd i hin) w5) ?_
    rintro v w6 ⟨rfl, hB56⟩
    have hB6 := bl_tr hB5 hB56 hB5.size
    refine ⟨_, rfl, d2 ?_⟩
    refine dq U [9,10,11,12] [] (by kernel_rfl) rfl rfl ⟨hsa.stay hB6, hsb.stay hB6⟩ (by simp only [AllP, InR, List.nil_append, List.cons_append]; (repeat' apply And.intro); all_goals first | exact True.intro | omega | (simp only [List.length_cons, List.length_nil]; omega) | (intro w_ hw_; refine ldC U rfl hw_ ?_; first | assumption | (simp [add_plain]; assumption)) | (intro w_ hw_; refine run_load_cell U rfl ?_; first | exact hw_ | exact hw_.1 | exact hw_.2 | exact hw_.2.1 | exact hw_.2.2 | exact hw_.2.2.1 | exact hw_.2.2.2 | (simp [add_plain]; first | exact hw_.1 | exact hw_.2.1 | exact hw_.2.2))) ?_
    refine d1 rfl rfl (fun _ => ⟨hsa.stay hB6, hsb.stay hB6⟩) ?_
    refine dr U 600 rfl trivial ?_
    refine d3 ?_; refine dend rfl (fun h => by cases h) ?_
    refine dr U 600 rfl trivial ?_
    refine call (f := 19) rfl rfl cb19 (rmul_q (hd i hin) (hd i hin) (hsq i hin) w6) ?_
    rintro v w7 ⟨rfl, hB67⟩
    have hB7 := bl_tr hB6 hB67 hB6.size
    refine ⟨_, rfl, ?_⟩
    refine dr U 600 rfl trivial ?_
    refine call (f := 20) rfl rfl cb20 (radd_q (hs i hi) (hsq i hin) (hs (i + 1) hin) w7) ?_
    rintro v w8 ⟨rfl, hB78⟩
    have hB8 := bl_tr hB7 hB78 hB7.size
    refine ⟨_, rfl, ?_⟩
    refine dr U 600 rfl (by first | exact True.intro | (simp only [AllP, InR, List.nil_append, List.cons_append, and_true]; omega)) ?_
    exact rend _ _ ⟨i + 1, rfl, by omega, hB8, rfl⟩ (by omega) ⟨rfl, rfl, rfl, iv (by omega), trivial⟩
  · obtain rfl : n = i := by omega
    refine dr U 600 rfl trivial ?_
    exact ret Tryz.results22 rfl ⟨_, rfl, rfl, hB⟩
theorem cmp_le {p q : Rat} (h : p ≤ q) : cmpQ p q = -1 ∨ (cmpQ p q = 0 ∧ p = q) := by
  unfold cmpQ
  by_cases e : p + -q = 0
  · rw [if_pos e]; exact .inr ⟨rfl, by grind⟩
  · rw [if_neg e]
    left
    have h0 : ¬ 0 ≤ p + -q := fun h' => e (by grind)
    rw [if_pos (by
      rw [← Rat.num_nonneg] at h0
      omega)]
theorem lit_take {w : World} {a : Option Addr} {n c p : Nat} {f : Nat → Rat} (h : Lit w (.slice a n c) (txs n f)) (hp : p ≤ n) : Lit w (.slice a p c) (txs p f) := by
  refine ⟨a, c, by rw [txs_length], ?_⟩
  have := h.sl.1.take p
  rwa [strs_take, txs_take f hp] at this
theorem SMC.rows {w : World} {a : Option Addr} {m n : Nat} {f : Mx} (h : SMC w a (mtx m n f)) : ∃ A C, Sl w a (srws (mtx m n f) A C) ∧ (∀ i, i < m → Lit w (.slice (A i) n (C i)) (txs n (f i))) ∧ ∀ i, i < m → n ≤ C i := by
  obtain ⟨A, C, h1, h2, h3⟩ := h
  refine ⟨A, C, h1, fun i hi => ⟨A i, C i, by rw [txs_length], ?_⟩, fun i hi => ?_⟩
  · have := h2 i (by rw [mtx_length]; exact hi)
    rwa [mtx_row hi] at this
  · have := h3 i (by rw [mtx_length]; exact hi)
    rwa [mtx_len hi] at this
section
variable {n p : Nat} {f : Mx} {y z w : Nat → Rat}
/-- What least squares leave, in the program's own terms. -/
theorem resid_q (hn0 : 0 < n) (hn5 : n ≤ 5) (hp : p ≤ 5) (hf : ∀ i, i < n → ∀ k, k < p → Small 12 (f i k)) (hy : ∀ i, i < n → Small 12 (y i))
    (hF : (gj p (mmul n (trp f) f) p).2 = p) (hz : ∀ k, k < p → mapp p (mmul n (trp f) f) z k = mapp n (trp f) y k) :
    (∀ i, i < n → Small 1700 (mapp p f z i)) ∧ (∀ i, i < n → Small 1600 (y i + -mapp p f z i)) ∧ (∀ i, i < n → Small 1600 (mapp p f z i + -y i)) ∧ (∀ k, k < p → ∀ t, t ≤ n → Small 1600 (sm t (fun i => (y i + -mapp p f z i) * f i k))) ∧
    (∀ t, t ≤ n → Small 3100 (sm t (fun i => (mapp p f z i + -y i) * (mapp p f z i + -y i)))) ∧ ∀ k, k < p → sm n (fun i => (y i + -mapp p f z i) * f i k) = 0 := by
  obtain ⟨h1, h2, h3⟩ := resid_small hn0 hn5 hp hf hy hF hz
  have e1 : ∀ i, y i + -mapp p f z i = y i - mapp p f z i := fun i => by grind
  have e2 : ∀ i, mapp p f z i + -y i = mapp p f z i - y i := fun i => by grind
  refine ⟨fun i hi => ?_, fun i hi => by rw [e1]; exact h1 i hi, fun i hi => ?_, fun k hk t ht => ?_, fun t ht => ?_, fun k hk => ?_⟩
  · have h4 := small_add (hy i hi) (small_neg (h1 i hi))
    have e : y i + -(y i - mapp p f z i) = mapp p f z i := by grind
    rw [e] at h4
    exact small_mono h4 (by omega)
  · have h4 := small_neg (h1 i hi)
    have e : -(y i - mapp p f z i) = mapp p f z i + -y i := by grind
    rwa [e] at h4
  · rw [sm_congr (g := fun i => (y i - mapp p f z i) * f i k) (fun i _ => by rw [e1])]
    exact h2 k hk t ht
  · rw [sm_congr (g := fun i => (mapp p f z i - y i) * (mapp p f z i - y i)) (fun i _ => by rw [e2])]
    exact h3 t ht
  · rw [sm_congr (g := fun i => (y i - mapp p f z i) * f i k) (fun i _ => by rw [e1])]
    exact normal_orth hz k hk
/-- No other vector leaves less; the one that leaves as little is the same. -/
theorem least_cmp (hF : (gj p (mmul n (trp f) f) p).2 = p) (hz : ∀ k, k < p → mapp p (mmul n (trp f) f) z k = mapp n (trp f) y k) :
    cmpQ (sm n (fun i => (mapp p f z i + -y i) * (mapp p f z i + -y i))) (sm n (fun i => (mapp p f w i + -y i) * (mapp p f w i + -y i))) = -1 ∨
    (cmpQ (sm n (fun i => (mapp p f z i + -y i) * (mapp p f z i + -y i))) (sm n (fun i => (mapp p f w i + -y i) * (mapp p f w i + -y i))) = 0 ∧ ∀ i, i < p → z i = w i) := by
  have e : ∀ x : Nat → Rat, sm n (fun i => (mapp p f x i + -y i) * (mapp p f x i + -y i)) = dist2 n (mapp p f x) y := fun x => by
    unfold dist2
    exact sm_congr fun i _ => by grind
  rw [e, e]
  have h1 := dist_split hz w
  have h2 := dist_nonneg n (mapp p f w) (mapp p f z)
  rcases cmp_le (p := dist2 n (mapp p f z) y) (q := dist2 n (mapp p f w) y) (by grind) with h | ⟨h, h3⟩
  · exact .inl h
  · right
    refine ⟨h, ?_⟩
    have h4 : dist2 n (mapp p f w) (mapp p f z) = 0 := by grind
    have h5 := fun i hi => dist_zero h4 i hi
    refine sol_same (b := fun k => mapp n (trp f) y k) hF hz (fun k hk => ?_)
    rw [← hz k hk, app_mul, app_mul]
    unfold mapp
    exact sm_congr fun i hi => by
      have := h5 i hi
      unfold mapp at this
      rw [this]
theorem normal_back (hF : (gj p (mmul n (trp f) f) p).2 = p) (hx : ∀ k, k < p → mapp p (mmul n (trp f) f) z k = mapp n (trp f) (mapp p f w) k) : ∀ i, i < p → z i = w i :=
  sol_same (b := fun k => mapp n (trp f) (mapp p f w) k) hF hx (fun k hk => app_mul n p (trp f) f w k)
end
end Go.Proofs.YtfdekppnilffeaaGreatDoor
end
