/-
  Ranks: transposed matrices, normal equations; least squares.
  No conditions: each theorem names its own premises.

  How great the numbers of a solution are.
  No conditions: each theorem names its own premises.
-/
import Derived.Test.YtfdekppnilffeaaGreatDoorYLa
section
set_option linter.unusedSimpArgs false
set_option linter.unusedVariables false
namespace Go.Proofs.YtfdekppnilffeaaGreatDoor
/-- Fewer rows than columns: something is sent to nothing. -/
theorem nul_wide {m n : Nat} (h : m < n) (f : Mx) : ∃ k, k < n ∧ Dep m n f k := by
  apply Classical.byContradiction
  intro hno
  have hall : ∀ k, k < n → ¬ Dep m n f k := fun k hk hd => hno ⟨k, hk, hd⟩
  have hr : ∀ k, k ≤ n → (gj m f k).2 = k := by
    intro k
    induction k with
    | zero => intro _; rfl
    | succ k ih =>
      intro hk
      rw [gj_rank_succ, ih (by omega)]
      cases hp : piv m k (gj m f k).1 (gj m f k).2 with
      | none => exact absurd (dep_of_none (by omega) hp) (hall k (by omega))
      | some i => rw [ih (by omega)] at hp; rw [hp]
  have := (gj_le m f n).1
  rw [hr n (Nat.le_refl _)] at this
  omega

def trp (f : Mx) : Mx := fun i k => f k i

/-- The columns of a matrix are sums of multiples of the columns that elimination marks, and these are independent. -/
theorem factor (m n : Nat) (f : Mx) : ∃ (p : Nat → Nat) (R : Mx), (∀ t, t < (gj m f n).2 → p t < n) ∧
    (∀ y : Nat → Rat, (∀ i, i < m → sm (gj m f n).2 (fun t => f i (p t) * y t) = 0) → ∀ t, t < (gj m f n).2 → y t = 0) ∧
    ∀ i c, i < m → c < n → f i c = sm (gj m f n).2 (fun t => f i (p t) * R t c) := by
  obtain ⟨p, h1, h2, h3, h4, h5⟩ := gj_elim m f n
  have hle := gj_le m f n
  have spread : ∀ (g : Mx) (y : Nat → Rat) (a : Nat), sm n (fun k => g a k * sm (gj m f n).2 (fun t => if p t = k then y t else 0)) = sm (gj m f n).2 (fun t => g a (p t) * y t) := by
    intro g y a
    rw [sm_congr (g := fun k => sm (gj m f n).2 (fun t => if p t = k then g a k * y t else 0)) (fun k hk => by
      rw [← sm_mul]; apply sm_congr; intro i _; split <;> grind)]
    rw [sm_comm]
    apply sm_congr
    intro t ht
    rw [sm_single (j := p t) (h1 t ht) (fun k hk hne => if_neg (fun e => hne e.symm)), if_pos rfl]
  refine ⟨p, (gj m f n).1, h1, ?_, ?_⟩
  · intro y hy t ht
    have hx : Nul m n f (fun k => sm (gj m f n).2 (fun t => if p t = k then y t else 0)) := fun i hi => by
      rw [spread]; exact hy i hi
    rw [← nul_gj m n f _ n] at hx
    have := hx t (by omega)
    rw [spread] at this
    rw [sm_single ht (fun t' ht' hne => by rw [h4 t' t ht' (by omega) (fun e => hne e.symm)]; grind), h3 t ht] at this
    grind
  · intro i c hi hc
    have rows : ∀ (g : Mx) a, sm n (fun k => g a k * ((if k = c then 1 else 0) - sm (gj m f n).2 (fun t => if p t = k then (gj m f n).1 t c else 0))) = g a c - sm (gj m f n).2 (fun t => g a (p t) * (gj m f n).1 t c) := by
      intro g a
      rw [← spread g (fun t => (gj m f n).1 t c) a, sm_congr (g := fun k => (if k = c then g a k else 0) - g a k * sm (gj m f n).2 (fun t => if p t = k then (gj m f n).1 t c else 0)) (fun k hk => by split <;> grind),
        sm_sub, sm_single hc (fun k hk hne => if_neg hne), if_pos rfl]
    have hx : Nul m n f (fun k => (if k = c then 1 else 0) - sm (gj m f n).2 (fun t => if p t = k then (gj m f n).1 t c else 0)) := by
      rw [← nul_gj m n f _ n]
      intro a ha
      rw [rows]
      by_cases har : a < (gj m f n).2
      · rw [sm_single har (fun t ht hne => by rw [h4 t a ht ha (fun e => hne e.symm)]; grind), h3 a har]; grind
      · rw [h5 a c (by omega) ha hc, sm_zero' (fun t ht => by rw [h5 a (p t) (by omega) ha (h1 t ht)]; grind)]; grind
    have := hx i hi
    rw [rows] at this
    grind

theorem rank_trp_le (m n : Nat) (f : Mx) : (gj n (trp f) m).2 ≤ (gj m f n).2 := by
  obtain ⟨p, R, hp, _, hf⟩ := factor m n f
  obtain ⟨q, _, hq, hy, _⟩ := factor n m (trp f)
  apply Classical.byContradiction
  intro hlt
  have hlt : (gj m f n).2 < (gj n (trp f) m).2 := by omega
  obtain ⟨k, hk, x, hx, hne, _⟩ := nul_wide hlt (fun t j => f (q j) (p t))
  apply hne
  refine hy x (fun c hc => ?_) k hk
  show sm (gj n (trp f) m).2 (fun j => f (q j) c * x j) = 0
  rw [sm_congr (g := fun j => sm (gj m f n).2 (fun t => R t c * (f (q j) (p t) * x j))) (fun j hj => by
    rw [hf (q j) c (hq j hj) hc, ← sm_mulr]; apply sm_congr; intro t _; grind)]
  rw [sm_comm]
  exact sm_zero' fun t ht => by
    rw [sm_mul, hx t ht]; grind
theorem rank_trp (m n : Nat) (f : Mx) : (gj n (trp f) m).2 = (gj m f n).2 := by
  have h1 := rank_trp_le m n f
  have h2 := rank_trp_le n m (trp f)
  have e : trp (trp f) = f := rfl
  rw [e] at h2
  omega

/-- Products. -/
def mmul (n : Nat) (f g : Mx) : Mx := fun i k => sm n (fun t => f i t * g t k)
def mapp (n : Nat) (f : Mx) (x : Nat → Rat) : Nat → Rat := fun i => sm n (fun t => f i t * x t)
def idn : Mx := fun i k => if i = k then 1 else 0
theorem app_mul (n k : Nat) (f g : Mx) (x : Nat → Rat) (i : Nat) : mapp k (mmul n f g) x i = mapp n f (mapp k g x) i := by
  unfold mapp mmul
  rw [sm_congr (g := fun t => sm n (fun s => f i s * (g s t * x t))) (fun t _ => by rw [← sm_mulr]; apply sm_congr; intro s _; grind), sm_comm]
  apply sm_congr
  intro s _
  rw [sm_mul]
theorem mul_assoc (n k : Nat) (f g h : Mx) (i j : Nat) : mmul k (mmul n f g) h i j = mmul n f (mmul k g h) i j := app_mul n k f g (fun t => h t j) i
theorem app_sub (n : Nat) (f : Mx) (x y : Nat → Rat) (i : Nat) : mapp n f (fun t => x t - y t) i = mapp n f x i - mapp n f y i := by
  unfold mapp
  rw [← sm_sub]; apply sm_congr; intro t _; grind
/-- Normal equations have the vectors that are sent to nothing in common with their matrix. -/
theorem nul_normal (m n : Nat) (f : Mx) (x : Nat → Rat) : Nul n n (mmul m (trp f) f) x ↔ Nul m n f x := by
  constructor
  · intro h
    have hsq : sm m (fun i => mapp n f x i * mapp n f x i) = 0 := by
      have e : sm m (fun i => mapp n f x i * mapp n f x i) = sm n (fun k => x k * mapp n (mmul m (trp f) f) x k) := by
        rw [sm_congr (f := fun k => x k * mapp n (mmul m (trp f) f) x k) (g := fun k => sm m (fun i => x k * (f i k * mapp n f x i))) (fun k _ => by
          rw [app_mul, sm_mul]; rfl)]
        rw [← sm_comm]
        apply sm_congr
        intro i _
        rw [sm_congr (g := fun k => f i k * x k * mapp n f x i) (fun k _ => by grind), sm_mulr]
        rfl
      rw [e]
      exact sm_zero' fun k hk => by
        have := h k hk
        have e : mapp n (mmul m (trp f) f) x k = 0 := this
        rw [e]; grind
    intro i hi
    have := sm_nonneg_zero (fun i _ => by
      have : (0:Rat) ≤ mapp n f x i * mapp n f x i := by
        rcases Rat.le_total (a := 0) (b := mapp n f x i) with h | h
        · exact Rat.mul_nonneg h h
        · have h' : (0:Rat) ≤ -(mapp n f x i) := by grind
          have := Rat.mul_nonneg h' h'
          grind
      exact this) hsq i hi
    have h2 : mapp n f x i * mapp n f x i = 0 := this
    have h3 : mapp n f x i = 0 := by
      rcases Rat.mul_eq_zero.1 h2 with h | h <;> exact h
    exact h3
  · intro h k hk
    have e : mapp n (mmul m (trp f) f) x k = 0 := by
      rw [app_mul]
      exact sm_zero' fun i hi => by
        have : mapp n f x i = 0 := h i hi
        rw [this]; grind
    exact e
theorem sq_nonneg (a : Rat) : 0 ≤ a * a := by
  rcases Rat.le_total (a := 0) (b := a) with h | h
  · exact Rat.mul_nonneg h h
  · have h' : (0:Rat) ≤ -a := by grind
    have := Rat.mul_nonneg h' h'
    grind
theorem rank_normal (m n : Nat) (f : Mx) : (gj n (mmul m (trp f) f) n).2 = (gj m f n).2 :=
  rank_nul (fun x => nul_normal m n f x) n (Nat.le_refl _)

/-- The sum of the squares of the differences. -/
def dist2 (m : Nat) (u v : Nat → Rat) : Rat := sm m (fun i => (u i - v i) * (u i - v i))
/-- What solves the normal equations leaves a difference that is orthogonal to every column. -/
theorem normal_orth {m n : Nat} {f : Mx} {y z : Nat → Rat} (h : ∀ k, k < n → mapp n (mmul m (trp f) f) z k = mapp m (trp f) y k) (k : Nat) (hk : k < n) : sm m (fun i => (y i - mapp n f z i) * f i k) = 0 := by
  have := h k hk
  rw [app_mul] at this
  unfold mapp trp at this
  rw [sm_congr (g := fun i => f i k * y i - f i k * mapp n f z i) (fun i _ => by grind), sm_sub]
  unfold mapp
  grind
theorem dist_split {m n : Nat} {f : Mx} {y z : Nat → Rat} (h : ∀ k, k < n → mapp n (mmul m (trp f) f) z k = mapp m (trp f) y k) (w : Nat → Rat) :
    dist2 m (mapp n f w) y = dist2 m (mapp n f z) y + dist2 m (mapp n f w) (mapp n f z) := by
  have horth : sm m (fun i => (y i - mapp n f z i) * mapp n f (fun t => w t - z t) i) = 0 := by
    unfold mapp
    rw [sm_congr (g := fun i => sm n (fun t => (w t - z t) * ((y i - mapp n f z i) * f i t))) (fun i _ => by
      rw [← sm_mul]; apply sm_congr; intro t _; unfold mapp; grind), sm_comm]
    exact sm_zero' fun t ht => by rw [sm_mul, normal_orth h t ht]; grind
  unfold dist2
  rw [← sm_add]
  have e : sm m (fun i => (mapp n f w i - y i) * (mapp n f w i - y i)) = sm m (fun i => ((mapp n f z i - y i) * (mapp n f z i - y i) + (mapp n f w i - mapp n f z i) * (mapp n f w i - mapp n f z i)) + (-2) * ((y i - mapp n f z i) * mapp n f (fun t => w t - z t) i)) := by
    apply sm_congr; intro i _
    rw [app_sub]; grind
  rw [e, sm_add, sm_mul, horth]; grind
theorem dist_nonneg (m : Nat) (u v : Nat → Rat) : 0 ≤ dist2 m u v := sm_nonneg fun i _ => sq_nonneg _
theorem dist_zero {m : Nat} {u v : Nat → Rat} (h : dist2 m u v = 0) (i : Nat) (hi : i < m) : u i = v i := by
  have := sm_nonneg_zero (fun i _ => sq_nonneg (u i - v i)) h i hi
  rcases Rat.mul_eq_zero.1 this with h | h <;> grind
end Go.Proofs.YtfdekppnilffeaaGreatDoor
end
section
set_option linter.unusedSimpArgs false
set_option linter.unusedVariables false
namespace Go.Proofs.YtfdekppnilffeaaGreatDoor
/-- An integer that is not great. -/
def Isn (B : Nat) (a : Rat) : Prop := ∃ z : Int, a = (z : Rat) ∧ z.natAbs ≤ B
theorem Isn.mono {B C : Nat} {a : Rat} (h : Isn B a) (hc : B ≤ C) : Isn C a := by
  obtain ⟨z, h1, h2⟩ := h; exact ⟨z, h1, by omega⟩
theorem isn_zero (B : Nat) : Isn B 0 := ⟨0, by simp, by simp⟩
theorem Isn.mul {B C : Nat} {a b : Rat} (h : Isn B a) (g : Isn C b) : Isn (B * C) (a * b) := by
  obtain ⟨z, rfl, h2⟩ := h
  obtain ⟨y, rfl, g2⟩ := g
  exact ⟨z * y, by rw [Rat.intCast_mul], by rw [Int.natAbs_mul]; exact Nat.mul_le_mul h2 g2⟩
theorem Isn.add {B C : Nat} {a b : Rat} (h : Isn B a) (g : Isn C b) : Isn (B + C) (a + b) := by
  obtain ⟨z, rfl, h2⟩ := h
  obtain ⟨y, rfl, g2⟩ := g
  exact ⟨z + y, by rw [Rat.intCast_add], by omega⟩
theorem Isn.sub {B C : Nat} {a b : Rat} (h : Isn B a) (g : Isn C b) : Isn (B + C) (a - b) := by
  obtain ⟨z, rfl, h2⟩ := h
  obtain ⟨y, rfl, g2⟩ := g
  exact ⟨z - y, by rw [Rat.intCast_sub], by omega⟩
theorem isn_sm {B : Nat} {f : Nat → Rat} : ∀ {n : Nat}, (∀ i, i < n → Isn B (f i)) → Isn (n * B) (sm n f)
  | 0, _ => isn_zero _
  | n + 1, h => by
    rw [sm, Nat.succ_mul]
    exact (isn_sm (fun i hi => h i (by omega))).add (h n (by omega))

/-- A product of denominators. -/
def dprd (f : Nat → Rat) : Nat → Nat
  | 0 => 1
  | n + 1 => dprd f n * (f n).den
theorem dprd_pos (f : Nat → Rat) : ∀ n, 0 < dprd f n
  | 0 => by simp [dprd]
  | n + 1 => by rw [dprd]; exact Nat.mul_pos (dprd_pos f n) (f n).den_pos
theorem dprd_le {f : Nat → Rat} {D : Nat} : ∀ {n : Nat}, (∀ i, i < n → (f i).den ≤ D) → dprd f n ≤ D ^ n
  | 0, _ => by simp [dprd]
  | n + 1, h => by rw [dprd, Nat.pow_succ]; exact Nat.mul_le_mul (dprd_le (fun i hi => h i (by omega))) (h n (by omega))
theorem dprd_fac {f : Nat → Rat} {D : Nat} : ∀ {n : Nat}, (∀ i, i < n + 1 → (f i).den ≤ D) → ∀ k, k < n + 1 → ∃ q, dprd f (n + 1) = (f k).den * q ∧ q ≤ D ^ n
  | n, h, k, hk => by
    by_cases hkn : k = n
    · subst hkn
      exact ⟨dprd f k, by rw [dprd, Nat.mul_comm], dprd_le (fun i hi => h i (by omega))⟩
    · obtain ⟨n, rfl⟩ : ∃ m, n = m + 1 := ⟨n - 1, by omega⟩
      obtain ⟨q, h1, h2⟩ := dprd_fac (n := n) (fun i hi => h i (by omega)) k (by omega)
      exact ⟨q * (f (n + 1)).den, by rw [dprd, h1, Nat.mul_assoc], by rw [Nat.pow_succ]; exact Nat.mul_le_mul h2 (h (n + 1) (by omega))⟩
theorem rat_den (x : Rat) : x * (x.den : Rat) = (x.num : Rat) := by
  have h : ((x.den : Nat) : Rat) ≠ 0 := by
    intro h
    have := x.den_nz
    apply this
    exact_mod_cast h
  have e : x = (x.num : Rat) / (x.den : Rat) := by rw [← Rat.mkRat_eq_div, Rat.mkRat_self]
  have h1 := Rat.mul_inv_cancel _ h
  rw [Rat.div_def] at e
  generalize (x.num : Rat) = a at *
  generalize (x.den : Rat) = b at *
  rw [e]; grind
theorem isn_dprd {f : Nat → Rat} {D N : Nat} {n : Nat} (h : ∀ i, i < n + 1 → (f i).den ≤ D) (k : Nat) (hk : k < n + 1) (hN : (f k).num.natAbs ≤ N) : Isn (N * D ^ n) ((dprd f (n + 1) : Nat) * f k) := by
  obtain ⟨q, h1, h2⟩ := dprd_fac h k hk
  rw [h1]
  refine ⟨(f k).num * q, ?_, ?_⟩
  · rw [Rat.intCast_mul, ← rat_den]
    rw [Rat.natCast_mul, Rat.intCast_natCast]
    grind
  · rw [Int.natAbs_mul, Int.natAbs_natCast]
    exact Nat.mul_le_mul hN h2
end Go.Proofs.YtfdekppnilffeaaGreatDoor
end
