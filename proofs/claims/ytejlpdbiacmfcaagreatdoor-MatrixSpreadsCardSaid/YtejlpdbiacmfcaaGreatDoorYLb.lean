/-
  Ranks: transposed matrices, normal equations; least squares.
  No conditions: each theorem names its own premises.

  How great the numbers of a solution are.
  No conditions: each theorem names its own premises.

  Determinants: how great the numbers of a solution are, over one denominator.
  No conditions: each theorem names its own premises.

  How many digits the parts of sums, products and quotients of rational numbers take.
  No conditions: each theorem names its own premises.

  How many digits the numbers of a solution take.
  No conditions: each theorem names its own premises.

  Strategies as plain lists of rows: blocks, the tree, and that a strategy tells all cells apart.
  No conditions: each theorem names its own premises.
-/
import Derived.Test.YtejlpdbiacmfcaaGreatDoorYNumD
section
set_option linter.unusedSimpArgs false
set_option linter.unusedVariables false
namespace Go.Proofs.YtejlpdbiacmfcaaGreatDoor
/-- Fewer rows than columns: something is sent to nothing. -/
theorem nul_wide {m n : Nat} (h : m < n) (f : Mx) : ∃ k, k < n ∧ Dep m n f k := by
  apply Classical.byContradiction
  intro hno
  have hall : ∀ k, k < n → ¬ Dep m n f k := fun k hk hd => hno ⟨k, hk, hd⟩
  have hr : ∀ k, k ≤ n → (gj m f k).2 = k := by
    intro k
    induction k with
    | zero => intro _; rfl
    | succ k ih =>
      intro hk
      rw [gj_rank_succ, ih (by omega)]
      cases hp : piv m k (gj m f k).1 (gj m f k).2 with
      | none => exact absurd (dep_of_none (by omega) hp) (hall k (by omega))
      | some i => rw [ih (by omega)] at hp; rw [hp]
  have := (gj_le m f n).1
  rw [hr n (Nat.le_refl _)] at this
  omega

def trp (f : Mx) : Mx := fun i k => f k i

/-- The columns of a matrix are sums of multiples of the columns that elimination marks, and these are independent. -/
theorem factor (m n : Nat) (f : Mx) : ∃ (p : Nat → Nat) (R : Mx), (∀ t, t < (gj m f n).2 → p t < n) ∧
    (∀ y : Nat → Rat, (∀ i, i < m → sm (gj m f n).2 (fun t => f i (p t) * y t) = 0) → ∀ t, t < (gj m f n).2 → y t = 0) ∧
    ∀ i c, i < m → c < n → f i c = sm (gj m f n).2 (fun t => f i (p t) * R t c) := by
  obtain ⟨p, h1, h2, h3, h4, h5⟩ := gj_elim m f n
  have hle := gj_le m f n
  have spread : ∀ (g : Mx) (y : Nat → Rat) (a : Nat), sm n (fun k => g a k * sm (gj m f n).2 (fun t => if p t = k then y t else 0)) = sm (gj m f n).2 (fun t => g a (p t) * y t) := by
    intro g y a
    rw [sm_congr (g := fun k => sm (gj m f n).2 (fun t => if p t = k then g a k * y t else 0)) (fun k hk => by
      rw [← sm_mul]; apply sm_congr; intro i _; split <;> grind)]
    rw [sm_comm]
    apply sm_congr
    intro t ht
    rw [sm_single (j := p t) (h1 t ht) (fun k hk hne => if_neg (fun e => hne e.symm)), if_pos rfl]
  refine ⟨p, (gj m f n).1, h1, ?_, ?_⟩
  · intro y hy t ht
    have hx : Nul m n f (fun k => sm (gj m f n).2 (fun t => if p t = k then y t else 0)) := fun i hi => by
      rw [spread]; exact hy i hi
    rw [← nul_gj m n f _ n] at hx
    have := hx t (by omega)
    rw [spread] at this
    rw [sm_single ht (fun t' ht' hne => by rw [h4 t' t ht' (by omega) (fun e => hne e.symm)]; grind), h3 t ht] at this
    grind
  · intro i c hi hc
    have rows : ∀ (g : Mx) a, sm n (fun k => g a k * ((if k = c then 1 else 0) - sm (gj m f n).2 (fun t => if p t = k then (gj m f n).1 t c else 0))) = g a c - sm (gj m f n).2 (fun t => g a (p t) * (gj m f n).1 t c) := by
      intro g a
      rw [← spread g (fun t => (gj m f n).1 t c) a, sm_congr (g := fun k => (if k = c then g a k else 0) - g a k * sm (gj m f n).2 (fun t => if p t = k then (gj m f n).1 t c else 0)) (fun k hk => by split <;> grind),
        sm_sub, sm_single hc (fun k hk hne => if_neg hne), if_pos rfl]
    have hx : Nul m n f (fun k => (if k = c then 1 else 0) - sm (gj m f n).2 (fun t => if p t = k then (gj m f n).1 t c else 0)) := by
      rw [← nul_gj m n f _ n]
      intro a ha
      rw [rows]
      by_cases har : a < (gj m f n).2
      · rw [sm_single har (fun t ht hne => by rw [h4 t a ht ha (fun e => hne e.symm)]; grind), h3 a har]; grind
      · rw [h5 a c (by omega) ha hc, sm_zero' (fun t ht => by rw [h5 a (p t) (by omega) ha (h1 t ht)]; grind)]; grind
    have := hx i hi
    rw [rows] at this
    grind

theorem rank_trp_le (m n : Nat) (f : Mx) : (gj n (trp f) m).2 ≤ (gj m f n).2 := by
  obtain ⟨p, R, hp, _, hf⟩ := factor m n f
  obtain ⟨q, _, hq, hy, _⟩ := factor n m (trp f)
  apply Classical.byContradiction
  intro hlt
  have hlt : (gj m f n).2 < (gj n (trp f) m).2 := by omega
  obtain ⟨k, hk, x, hx, hne, _⟩ := nul_wide hlt (fun t j => f (q j) (p t))
  apply hne
  refine hy x (fun c hc => ?_) k hk
  show sm (gj n (trp f) m).2 (fun j => f (q j) c * x j) = 0
  rw [sm_congr (g := fun j => sm (gj m f n).2 (fun t => R t c * (f (q j) (p t) * x j))) (fun j hj => by
    rw [hf (q j) c (hq j hj) hc, ← sm_mulr]; apply sm_congr; intro t _; grind)]
  rw [sm_comm]
  exact sm_zero' fun t ht => by
    rw [sm_mul, hx t ht]; grind
theorem rank_trp (m n : Nat) (f : Mx) : (gj n (trp f) m).2 = (gj m f n).2 := by
  have h1 := rank_trp_le m n f
  have h2 := rank_trp_le n m (trp f)
  have e : trp (trp f) = f := rfl
  rw [e] at h2
  omega

/-- Products. -/
def mmul (n : Nat) (f g : Mx) : Mx := fun i k => sm n (fun t => f i t * g t k)
def mapp (n : Nat) (f : Mx) (x : Nat → Rat) : Nat → Rat := fun i => sm n (fun t => f i t * x t)
def idn : Mx := fun i k => if i = k then 1 else 0
theorem app_mul (n k : Nat) (f g : Mx) (x : Nat → Rat) (i : Nat) : mapp k (mmul n f g) x i = mapp n f (mapp k g x) i := by
  unfold mapp mmul
  rw [sm_congr (g := fun t => sm n (fun s => f i s * (g s t * x t))) (fun t _ => by rw [← sm_mulr]; apply sm_congr; intro s _; grind), sm_comm]
  apply sm_congr
  intro s _
  rw [sm_mul]
theorem mul_assoc (n k : Nat) (f g h : Mx) (i j : Nat) : mmul k (mmul n f g) h i j = mmul n f (mmul k g h) i j := app_mul n k f g (fun t => h t j) i
/-- Normal equations have the vectors that are sent to nothing in common with their matrix. -/
theorem nul_normal (m n : Nat) (f : Mx) (x : Nat → Rat) : Nul n n (mmul m (trp f) f) x ↔ Nul m n f x := by
  constructor
  · intro h
    have hsq : sm m (fun i => mapp n f x i * mapp n f x i) = 0 := by
      have e : sm m (fun i => mapp n f x i * mapp n f x i) = sm n (fun k => x k * mapp n (mmul m (trp f) f) x k) := by
        rw [sm_congr (f := fun k => x k * mapp n (mmul m (trp f) f) x k) (g := fun k => sm m (fun i => x k * (f i k * mapp n f x i))) (fun k _ => by
          rw [app_mul, sm_mul]; rfl)]
        rw [← sm_comm]
        apply sm_congr
        intro i _
        rw [sm_congr (g := fun k => f i k * x k * mapp n f x i) (fun k _ => by grind), sm_mulr]
        rfl
      rw [e]
      exact sm_zero' fun k hk => by
        have := h k hk
        have e : mapp n (mmul m (trp f) f) x k = 0 := this
        rw [e]; grind
    intro i hi
    have := sm_nonneg_zero (fun i _ => by
      have : (0:Rat) ≤ mapp n f x i * mapp n f x i := by
        rcases Rat.le_total (a := 0) (b := mapp n f x i) with h | h
        · exact Rat.mul_nonneg h h
        · have h' : (0:Rat) ≤ -(mapp n f x i) := by grind
          have := Rat.mul_nonneg h' h'
          grind
      exact this) hsq i hi
    have h2 : mapp n f x i * mapp n f x i = 0 := this
    have h3 : mapp n f x i = 0 := by
      rcases Rat.mul_eq_zero.1 h2 with h | h <;> exact h
    exact h3
  · intro h k hk
    have e : mapp n (mmul m (trp f) f) x k = 0 := by
      rw [app_mul]
      exact sm_zero' fun i hi => by
        have : mapp n f x i = 0 := h i hi
        rw [this]; grind
    exact e
theorem sq_nonneg (a : Rat) : 0 ≤ a * a := by
  rcases Rat.le_total (a := 0) (b := a) with h | h
  · exact Rat.mul_nonneg h h
  · have h' : (0:Rat) ≤ -a := by grind
    have := Rat.mul_nonneg h' h'
    grind
theorem rank_normal (m n : Nat) (f : Mx) : (gj n (mmul m (trp f) f) n).2 = (gj m f n).2 :=
  rank_nul (fun x => nul_normal m n f x) n (Nat.le_refl _)

end Go.Proofs.YtejlpdbiacmfcaaGreatDoor
end
section
set_option linter.unusedSimpArgs false
set_option linter.unusedVariables false
namespace Go.Proofs.YtejlpdbiacmfcaaGreatDoor
/-- An integer that is not great. -/
def Isn (B : Nat) (a : Rat) : Prop := ∃ z : Int, a = (z : Rat) ∧ z.natAbs ≤ B
theorem Isn.mono {B C : Nat} {a : Rat} (h : Isn B a) (hc : B ≤ C) : Isn C a := by
  obtain ⟨z, h1, h2⟩ := h; exact ⟨z, h1, by omega⟩
theorem isn_zero (B : Nat) : Isn B 0 := ⟨0, by simp, by simp⟩
theorem Isn.mul {B C : Nat} {a b : Rat} (h : Isn B a) (g : Isn C b) : Isn (B * C) (a * b) := by
  obtain ⟨z, rfl, h2⟩ := h
  obtain ⟨y, rfl, g2⟩ := g
  exact ⟨z * y, by rw [Rat.intCast_mul], by rw [Int.natAbs_mul]; exact Nat.mul_le_mul h2 g2⟩
theorem Isn.add {B C : Nat} {a b : Rat} (h : Isn B a) (g : Isn C b) : Isn (B + C) (a + b) := by
  obtain ⟨z, rfl, h2⟩ := h
  obtain ⟨y, rfl, g2⟩ := g
  exact ⟨z + y, by rw [Rat.intCast_add], by omega⟩
theorem Isn.sub {B C : Nat} {a b : Rat} (h : Isn B a) (g : Isn C b) : Isn (B + C) (a - b) := by
  obtain ⟨z, rfl, h2⟩ := h
  obtain ⟨y, rfl, g2⟩ := g
  exact ⟨z - y, by rw [Rat.intCast_sub], by omega⟩
theorem isn_sm {B : Nat} {f : Nat → Rat} : ∀ {n : Nat}, (∀ i, i < n → Isn B (f i)) → Isn (n * B) (sm n f)
  | 0, _ => isn_zero _
  | n + 1, h => by
    rw [sm, Nat.succ_mul]
    exact (isn_sm (fun i hi => h i (by omega))).add (h n (by omega))

end Go.Proofs.YtejlpdbiacmfcaaGreatDoor
end
section
set_option linter.unusedSimpArgs false
set_option linter.unusedVariables false
namespace Go.Proofs.YtejlpdbiacmfcaaGreatDoor
def skp (i r : Nat) : Nat := if r < i then r else r + 1
def sgn (i : Nat) : Rat := if i % 2 = 0 then 1 else -1
theorem sgn_succ (i : Nat) : sgn (i + 1) = -(sgn i) := by
  unfold sgn
  rcases Nat.mod_two_eq_zero_or_one i with h | h
  · rw [if_neg (by omega), if_pos h]
  · rw [if_pos (by omega), if_neg (by omega)]; grind
theorem sgn_ne (i : Nat) : sgn i ≠ 0 := by unfold sgn; split <;> grind
theorem sgn_sq (i : Nat) : sgn i * sgn i = 1 := by unfold sgn; split <;> grind
theorem sgn_isn (i : Nat) : Isn 1 (sgn i) := by
  unfold sgn
  split
  · exact ⟨1, by simp, by decide⟩
  · exact ⟨-1, by simp, by decide⟩
/-- The determinant of columns. -/
def dt : Nat → (Nat → Nat → Rat) → Rat
  | 0, _ => 1
  | n + 1, A => sm (n + 1) (fun i => sgn i * A 0 i * dt n (fun c r => A (c + 1) (skp i r)))
theorem skp_lt {i r n : Nat} (h : r < n) : skp i r < n + 1 := by unfold skp; split <;> omega
theorem sm_first (f : Nat → Rat) : ∀ n : Nat, sm (n + 1) f = f 0 + sm n (fun i => f (i + 1))
  | 0 => by simp only [sm]; grind
  | n + 1 => by rw [sm, sm_first f n, sm]; grind
theorem sm_tri (g : Nat → Nat → Rat) (n : Nat) : sm (n + 2) (fun i => sm (n + 1) (fun k => g i k)) =
    sm (n + 1) (fun i => sm (n + 1) (fun k => if i ≤ k then g i k else 0)) + sm (n + 1) (fun i => sm (n + 1) (fun k => if i ≤ k then g (k + 1) i else 0)) := by
  rw [sm_congr (g := fun i => sm (n + 1) (fun k => if i ≤ k then g i k else 0) + sm (n + 1) (fun k => if k < i then g i k else 0)) (fun i _ => by
    rw [← sm_add]; apply sm_congr; intro k _
    by_cases h : i ≤ k
    · rw [if_pos h, if_neg (by omega)]; grind
    · rw [if_neg h, if_pos (by omega)]; grind), sm_add]
  congr 1
  · rw [show n + 2 = (n + 1) + 1 from rfl, sm, sm_zero' (f := fun k => if n + 1 ≤ k then g (n + 1) k else 0) (fun k hk => if_neg (by omega))]; grind
  · rw [show n + 2 = (n + 1) + 1 from rfl, sm_first, sm_zero' (f := fun k => if k < 0 then g 0 k else 0) (fun k hk => if_neg (by omega)), sm_comm]
    rw [sm_congr (g := fun k => sm (n + 1) (fun i => if k ≤ i then g (i + 1) k else 0)) (fun k _ => sm_congr fun i _ => by
      by_cases h : k ≤ i
      · rw [if_pos (by omega), if_pos h]
      · rw [if_neg (by omega), if_neg h])]
    grind
theorem skp_skp {i k : Nat} (h : i ≤ k) (r : Nat) : skp (k + 1) (skp i r) = skp i (skp k r) := by
  by_cases h1 : r < i
  · have a1 : skp i r = r := if_pos h1
    have a2 : skp k r = r := if_pos (by omega)
    have a3 : skp (k + 1) r = r := if_pos (by omega)
    rw [a1, a2, a3, a1]
  · have a1 : skp i r = r + 1 := if_neg h1
    by_cases h2 : r < k
    · have a2 : skp k r = r := if_pos h2
      have a3 : skp (k + 1) (r + 1) = r + 1 := if_pos (by omega)
      rw [a1, a2, a3, a1]
    · have a2 : skp k r = r + 1 := if_neg h2
      have a3 : skp (k + 1) (r + 1) = r + 1 + 1 := if_neg (by omega)
      have a4 : skp i (r + 1) = r + 1 + 1 := if_neg (by omega)
      rw [a1, a2, a3, a4]
/-- Two neighbouring columns change places. -/
def swc (c : Nat) (A : Nat → Nat → Rat) : Nat → Nat → Rat := fun c' => if c' = c then A (c + 1) else if c' = c + 1 then A c else A c'
def tw (A : Nat → Nat → Rat) (u v : Nat → Rat) (n i k : Nat) : Rat := sgn i * sgn k * (u i * v (skp i k)) * dt n (fun c r => A (c + 2) (skp i (skp k r)))
theorem dt_two (n : Nat) (A : Nat → Nat → Rat) : dt (n + 2) A = sm (n + 2) (fun i => sm (n + 1) (fun k => tw A (A 0) (A 1) n i k)) := by
  rw [dt]
  apply sm_congr
  intro i _
  rw [dt, ← sm_mul]
  apply sm_congr
  intro k _
  unfold tw
  grind
theorem tw_anti (A : Nat → Nat → Rat) (u v : Nat → Rat) (n : Nat) {i k : Nat} (h : i ≤ k) : tw A v u n (k + 1) i = -(tw A u v n i k) := by
  unfold tw
  have e1 : skp (k + 1) i = i := by unfold skp; rw [if_pos (by omega)]
  have e2 : skp i k = k + 1 := by unfold skp; rw [if_neg (by omega)]
  have e3 : (fun c r => A (c + 2) (skp (k + 1) (skp i r))) = (fun c r => A (c + 2) (skp i (skp k r))) := by
    funext c r; rw [skp_skp h]
  rw [e1, e2, e3, sgn_succ]; grind
theorem dt_swap0 (n : Nat) (A : Nat → Nat → Rat) : dt (n + 2) (swc 0 A) = -(dt (n + 2) A) := by
  rw [dt_two, dt_two, sm_tri, sm_tri]
  have h0 : swc 0 A 0 = A 1 := by unfold swc; rfl
  have h1 : swc 0 A 1 = A 0 := by unfold swc; rfl
  have ht : ∀ u v i k, tw (swc 0 A) u v n i k = tw A u v n i k := fun u v i k => by
    unfold tw
    have : (fun c r => swc 0 A (c + 2) (skp i (skp k r))) = (fun c r => A (c + 2) (skp i (skp k r))) := by
      funext c r; unfold swc; rw [if_neg (by omega), if_neg (by omega)]
    rw [this]
  rw [h0, h1]
  have e1 : sm (n + 1) (fun i => sm (n + 1) (fun k => if i ≤ k then tw (swc 0 A) (A 1) (A 0) n (k + 1) i else 0)) = -(sm (n + 1) (fun i => sm (n + 1) (fun k => if i ≤ k then tw A (A 0) (A 1) n i k else 0))) := by
    rw [show -(sm (n + 1) (fun i => sm (n + 1) (fun k => if i ≤ k then tw A (A 0) (A 1) n i k else 0))) = (-1) * (sm (n + 1) (fun i => sm (n + 1) (fun k => if i ≤ k then tw A (A 0) (A 1) n i k else 0))) by grind, ← sm_mul]
    apply sm_congr; intro i _
    rw [← sm_mul]
    apply sm_congr; intro k _
    split
    · rename_i h; rw [ht, tw_anti A (A 0) (A 1) n h]; grind
    · grind
  have e2 : sm (n + 1) (fun i => sm (n + 1) (fun k => if i ≤ k then tw (swc 0 A) (A 1) (A 0) n i k else 0)) = -(sm (n + 1) (fun i => sm (n + 1) (fun k => if i ≤ k then tw A (A 0) (A 1) n (k + 1) i else 0))) := by
    rw [show -(sm (n + 1) (fun i => sm (n + 1) (fun k => if i ≤ k then tw A (A 0) (A 1) n (k + 1) i else 0))) = (-1) * (sm (n + 1) (fun i => sm (n + 1) (fun k => if i ≤ k then tw A (A 0) (A 1) n (k + 1) i else 0))) by grind, ← sm_mul]
    apply sm_congr; intro i _
    rw [← sm_mul]
    apply sm_congr; intro k _
    split
    · rename_i h; rw [ht, tw_anti A (A 1) (A 0) n h]; grind
    · grind
  rw [e1, e2]; grind
theorem dt_swap : ∀ (c n : Nat) (A : Nat → Nat → Rat), c + 1 < n → dt n (swc c A) = -(dt n A)
  | 0, n, A, h => by
    obtain ⟨m, rfl⟩ : ∃ m, n = m + 2 := ⟨n - 2, by omega⟩
    exact dt_swap0 m A
  | c + 1, n, A, h => by
    obtain ⟨m, rfl⟩ : ∃ m, n = m + 1 := ⟨n - 1, by omega⟩
    rw [dt, dt, show -(sm (m + 1) (fun i => sgn i * A 0 i * dt m (fun c r => A (c + 1) (skp i r)))) = (-1) * (sm (m + 1) (fun i => sgn i * A 0 i * dt m (fun c r => A (c + 1) (skp i r)))) by grind, ← sm_mul]
    apply sm_congr
    intro i _
    have h0 : swc (c + 1) A 0 = A 0 := by unfold swc; rw [if_neg (by omega), if_neg (by omega)]
    have e : (fun c' r => swc (c + 1) A (c' + 1) (skp i r)) = swc c (fun c' r => A (c' + 1) (skp i r)) := by
      funext c' r
      unfold swc
      by_cases h1 : c' = c
      · rw [if_pos (by omega), if_pos h1]
      · rw [if_neg (by omega), if_neg h1]
        by_cases h2 : c' = c + 1
        · rw [if_pos (by omega), if_pos h2]
        · rw [if_neg (by omega), if_neg h2]
    rw [h0, e, dt_swap c m _ (by omega)]; grind
/-- Two equal columns. -/
theorem dt_same : ∀ (k n : Nat) (A : Nat → Nat → Rat), k + 1 < n → A 0 = A (k + 1) → dt n A = 0
  | 0, n, A, h, e => by
    have h1 := dt_swap 0 n A h
    have h2 : swc 0 A = A := by
      funext c
      unfold swc
      by_cases h0 : c = 0
      · subst h0; rw [if_pos rfl]; exact e.symm
      · rw [if_neg h0]
        by_cases h1 : c = 0 + 1
        · subst h1; rw [if_pos rfl]; exact e
        · rw [if_neg h1]
    rw [h2] at h1
    grind
  | k + 1, n, A, h, e => by
    have h1 := dt_swap (k + 1) n A h
    have h2 := dt_same k n (swc (k + 1) A) (by omega) (by
      unfold swc
      rw [if_neg (by omega), if_neg (by omega), if_pos rfl]; exact e)
    rw [h2] at h1
    grind
/-- The minors of a matrix with one more row than columns. -/
def mu (n : Nat) (A : Nat → Nat → Rat) (i : Nat) : Rat := sgn i * dt n (fun c r => A c (skp i r))
theorem mu_null (n : Nat) (A : Nat → Nat → Rat) (k : Nat) (hk : k < n) : sm (n + 1) (fun i => mu n A i * A k i) = 0 := by
  have h := dt_same k (n + 1) (fun c => if c = 0 then A k else A (c - 1)) (by omega) (by
    show (if (0 : Nat) = 0 then A k else A (0 - 1)) = (if k + 1 = 0 then A k else A (k + 1 - 1))
    rw [if_pos rfl, if_neg (by omega), Nat.add_sub_cancel])
  rw [← h, dt]
  apply sm_congr
  intro i _
  unfold mu
  have e : (fun c r => (fun c => if c = 0 then A k else A (c - 1)) (c + 1) (skp i r)) = (fun c r => A c (skp i r)) := by
    funext c r
    show (if c + 1 = 0 then A k else A (c + 1 - 1)) (skp i r) = _
    rw [if_neg (by omega), Nat.add_sub_cancel]
  rw [e]
  show sgn i * dt n (fun c r => A c (skp i r)) * A k i = sgn i * (if (0 : Nat) = 0 then A k else A (0 - 1)) i * _
  rw [if_pos rfl]; grind
theorem dt_mu (n : Nat) (A : Nat → Nat → Rat) : dt (n + 1) A = sm (n + 1) (fun i => mu n (fun c => A (c + 1)) i * A 0 i) := by
  rw [dt]
  apply sm_congr
  intro i _
  unfold mu
  grind
theorem skp_onto {i j n : Nat} (hi : i < n + 1) (hj : j ≠ i) (hjn : j < n + 1) : ∃ r, r < n ∧ skp i r = j := by
  unfold skp
  by_cases h : j < i
  · exact ⟨j, by omega, by rw [if_pos h]⟩
  · exact ⟨j - 1, by omega, by rw [if_neg (by omega)]; omega⟩
/-- Independent columns have a determinant that is not 0. -/
theorem dt_ne : ∀ (n : Nat) (A : Nat → Nat → Rat), (∀ x : Nat → Rat, (∀ r, r < n → sm n (fun c => A c r * x c) = 0) → ∀ c, c < n → x c = 0) → dt n A ≠ 0
  | 0, A, _ => by rw [dt]; grind
  | n + 1, A, hA => by
    intro h0
    rw [dt_mu] at h0
    have hu : ∀ i, i < n + 1 → mu n (fun c => A (c + 1)) i = 0 := by
      have hf : (gj (n + 1) (fun r c => A c r) (n + 1)).2 = n + 1 := rank_full.2 hA
      rw [← rank_trp] at hf
      refine rank_full.1 hf (fun i => mu n (fun c => A (c + 1)) i) (fun c hc => ?_)
      show sm (n + 1) (fun i => A c i * mu n (fun c => A (c + 1)) i) = 0
      rw [sm_congr (g := fun i => mu n (fun c => A (c + 1)) i * A c i) (fun i _ => by grind)]
      by_cases hc0 : c = 0
      · subst hc0; exact h0
      · have := mu_null n (fun c => A (c + 1)) (c - 1) (by omega)
        rwa [show c - 1 + 1 = c by omega] at this
    obtain ⟨k, hk, w, hw, hne, _⟩ := nul_wide (m := n) (n := n + 1) (by omega) (fun c i => A (c + 1) i)
    have hm := hu k hk
    unfold mu at hm
    rcases Rat.mul_eq_zero.1 hm with h | h
    · exact sgn_ne k h
    refine dt_ne n _ (fun y hy => ?_) h
    have hrow : ∀ i, i < n + 1 → i ≠ k → sm n (fun c => A (c + 1) i * y c) = 0 := fun i hi hik => by
      obtain ⟨r, hr, rfl⟩ := skp_onto hk hik hi
      exact hy r hr
    have hk0 : sm n (fun c => A (c + 1) k * y c) = 0 := by
      have e : sm (n + 1) (fun i => w i * sm n (fun c => A (c + 1) i * y c)) = 0 := by
        rw [sm_congr (g := fun i => sm n (fun c => y c * (A (c + 1) i * w i))) (fun i _ => by rw [← sm_mul]; apply sm_congr; intro c _; grind), sm_comm]
        exact sm_zero' fun c hc => by rw [sm_mul, hw c hc]; grind
      rw [sm_single hk (fun i hi hik => by rw [hrow i hi hik]; grind)] at e
      rcases Rat.mul_eq_zero.1 e with h | h
      · exact absurd h hne
      · exact h
    have := hA (fun c => if c = 0 then 0 else y (c - 1)) (fun r hr => by
      rw [sm_first]
      have h1 : sm n (fun c => A (c + 1) r * (if c + 1 = 0 then 0 else y (c + 1 - 1))) = 0 := by
        rw [sm_congr (g := fun c => A (c + 1) r * y c) (fun c _ => by rw [if_neg (by omega), Nat.add_sub_cancel])]
        by_cases hrk : r = k
        · subst hrk; exact hk0
        · exact hrow r hr hrk
      rw [h1, if_pos rfl]; grind)
    intro c hc
    have := this (c + 1) (by omega)
    rwa [if_neg (by omega), Nat.add_sub_cancel] at this
def fct : Nat → Nat
  | 0 => 1
  | n + 1 => (n + 1) * fct n
theorem isn_dt {B : Nat} : ∀ {n : Nat} {A : Nat → Nat → Rat}, (∀ c r, c < n → r < n → Isn B (A c r)) → Isn (fct n * B ^ n) (dt n A)
  | 0, A, _ => ⟨1, by simp [dt], by simp [fct]⟩
  | n + 1, A, h => by
    rw [dt]
    have := isn_sm (n := n + 1) (B := 1 * B * (fct n * B ^ n)) (f := fun i => sgn i * A 0 i * dt n (fun c r => A (c + 1) (skp i r))) (fun i hi =>
      ((sgn_isn i).mul (h 0 i (by omega) hi)).mul (isn_dt (n := n) (fun c r hc hr => h (c + 1) (skp i r) (by omega) (skp_lt hr))))
    refine this.mono (Nat.le_of_eq ?_)
    rw [fct, Nat.pow_succ, Nat.one_mul]
    simp only [Nat.mul_assoc, Nat.mul_comm, Nat.mul_left_comm]
theorem isn_mu {B n : Nat} {A : Nat → Nat → Rat} (h : ∀ c r, c < n → r < n + 1 → Isn B (A c r)) (i : Nat) : Isn (fct n * B ^ n) (mu n A i) := by
  have := (sgn_isn i).mul (isn_dt (n := n) (A := fun c r => A c (skp i r)) (fun c r hc hr => h c (skp i r) hc (skp_lt hr)))
  rwa [Nat.one_mul] at this
/-- The first number of a solution. -/
theorem cram0 (n : Nat) (A : Nat → Nat → Rat) (b x : Nat → Rat) (hx : ∀ r, r < n + 1 → sm (n + 1) (fun c => A c r * x c) = b r) : x 0 * dt (n + 1) A = sm (n + 1) (fun i => mu n (fun c => A (c + 1)) i * b i) := by
  rw [sm_congr (f := fun i => mu n (fun c => A (c + 1)) i * b i) (g := fun i => sm (n + 1) (fun c => x c * (mu n (fun c => A (c + 1)) i * A c i))) (fun i hi => by
    rw [← hx i hi, ← sm_mul]; apply sm_congr; intro c _; grind), sm_comm]
  rw [sm_first, sm_zero' (f := fun i => sm (n + 1) (fun i_1 => x (i + 1) * (mu n (fun c => A (c + 1)) i_1 * A (i + 1) i_1))) (fun c hc => by
    rw [sm_mul, mu_null n (fun c => A (c + 1)) c hc]; grind), sm_mul, ← dt_mu]
  grind
/-- A column is brought to the front. -/
def cyc (j c : Nat) : Nat := if c = 0 then j else if c ≤ j then c - 1 else c
theorem cyc_lt {j c n : Nat} (hj : j < n) (hc : c < n) : cyc j c < n := by unfold cyc; split; omega; split <;> omega
theorem dt_cyc : ∀ (j n : Nat) (A : Nat → Nat → Rat), j < n → dt n (fun c => A (cyc j c)) = sgn j * dt n A
  | 0, n, A, _ => by
    have : (fun c => A (cyc 0 c)) = A := by
      funext c; unfold cyc
      by_cases h : c = 0
      · rw [if_pos h, h]
      · rw [if_neg h, if_neg (by omega)]
    rw [this]; unfold sgn; rw [if_pos rfl]; grind
  | j + 1, n, A, h => by
    have : (fun c => A (cyc (j + 1) c)) = (fun c => swc j A (cyc j c)) := by
      funext c; unfold cyc swc
      by_cases h0 : c = 0
      · rw [if_pos h0, if_pos h0, if_pos rfl]
      · rw [if_neg h0, if_neg h0]
        by_cases h1 : c ≤ j
        · rw [if_pos (by omega), if_pos h1, if_neg (by omega), if_neg (by omega)]
        · rw [if_neg h1]
          by_cases h2 : c = j + 1
          · subst h2
            rw [if_pos (by omega), if_neg (by omega), if_pos rfl, Nat.add_sub_cancel]
          · rw [if_neg (by omega), if_neg (by omega), if_neg h2]
    rw [this, dt_cyc j n _ (by omega), dt_swap j n A h, sgn_succ]; grind
theorem sm_swc {k n : Nat} (hk : k + 1 < n) (f : Nat → Rat) : sm n (fun c => if c = k then f (k + 1) else if c = k + 1 then f k else f c) = sm n f := by
  rw [sm_congr (g := fun c => f c + ((if c = k then f (k + 1) - f k else 0) + (if c = k + 1 then f k - f (k + 1) else 0))) (fun c _ => by
    by_cases h1 : c = k
    · subst h1; rw [if_pos rfl, if_pos rfl, if_neg (by omega)]; grind
    · rw [if_neg h1, if_neg h1]
      by_cases h2 : c = k + 1
      · subst h2; rw [if_pos rfl, if_pos rfl]; grind
      · rw [if_neg h2, if_neg h2]; grind), sm_add, sm_add]
  rw [sm_single (j := k) (by omega) (fun c _ hc => if_neg hc), sm_single (j := k + 1) hk (fun c _ hc => if_neg hc), if_pos rfl, if_pos rfl]
  grind
theorem sm_cyc : ∀ (j n : Nat) (f : Nat → Rat), j < n → sm n (fun c => f (cyc j c)) = sm n f
  | 0, n, f, _ => sm_congr fun c _ => by
    unfold cyc
    by_cases h : c = 0
    · rw [if_pos h, h]
    · rw [if_neg h, if_neg (by omega)]
  | j + 1, n, f, h => by
    have e1 := sm_cyc j n (fun c => if c = j then f (j + 1) else if c = j + 1 then f j else f c) (by omega)
    rw [sm_swc h f] at e1
    rw [← e1]
    apply sm_congr
    intro c _
    unfold cyc
    by_cases h0 : c = 0
    · rw [if_pos h0, if_pos h0, if_pos rfl]
    · rw [if_neg h0, if_neg h0]
      by_cases h1 : c ≤ j
      · rw [if_pos (by omega), if_pos h1, if_neg (by omega), if_neg (by omega)]
      · rw [if_neg h1]
        by_cases h2 : c = j + 1
        · subst h2
          rw [if_pos (by omega), if_neg (by omega), if_pos rfl, Nat.add_sub_cancel]
        · rw [if_neg (by omega), if_neg (by omega), if_neg h2]
/-- The numbers of a solution over one denominator. -/
theorem cramer (n : Nat) (A : Mx) (b x : Nat → Rat) (B : Nat) (hA : ∀ i k, i < n + 1 → k < n + 1 → Isn B (A i k)) (hb : ∀ i, i < n + 1 → Isn B (b i))
    (hx : ∀ i, i < n + 1 → sm (n + 1) (fun k => A i k * x k) = b i) (hn : ∀ y : Nat → Rat, (∀ i, i < n + 1 → sm (n + 1) (fun k => A i k * y k) = 0) → ∀ k, k < n + 1 → y k = 0) :
    ∃ D, D ≠ 0 ∧ Isn (fct (n + 1) * B ^ (n + 1)) D ∧ ∀ j, j < n + 1 → ∃ N, Isn (fct (n + 1) * B ^ (n + 1)) N ∧ x j * D = N := by
  refine ⟨dt (n + 1) (fun c r => A r c), dt_ne _ _ hn, isn_dt (fun c r hc hr => hA r c hr hc), fun j hj => ?_⟩
  have h := cram0 n (fun c r => A r (cyc j c)) b (fun c => x (cyc j c)) (fun r hr => by
    rw [← hx r hr]
    exact sm_cyc j (n + 1) (fun c => A r c * x c) hj)
  have hd := dt_cyc j (n + 1) (fun c r => A r c) hj
  have h0 : cyc j 0 = j := rfl
  rw [show (fun c r => A r (cyc j c)) = (fun c => (fun c r => A r c) (cyc j c)) from rfl, hd] at h
  have hN : Isn (fct (n + 1) * B ^ (n + 1)) (sm (n + 1) (fun i => mu n (fun c r => A r (cyc j (c + 1))) i * b i)) := by
    refine (isn_sm (n := n + 1) (B := fct n * B ^ n * B) (fun i hi => (isn_mu (fun c r hc hr => hA r _ hr (cyc_lt hj (by omega))) i).mul (hb i hi))).mono (Nat.le_of_eq ?_)
    rw [fct, Nat.pow_succ]
    simp only [Nat.mul_assoc, Nat.mul_comm, Nat.mul_left_comm]
  have hN2 := (sgn_isn j).mul hN
  rw [Nat.one_mul] at hN2
  refine ⟨_, hN2, ?_⟩
  have h' : x j * (sgn j * dt (n + 1) (fun c r => A r c)) = sm (n + 1) (fun i => mu n (fun c r => A r (cyc j (c + 1))) i * b i) := h
  rw [← h']
  have := sgn_sq j
  grind
end Go.Proofs.YtejlpdbiacmfcaaGreatDoor
end
section
set_option linter.unusedSimpArgs false
set_option linter.unusedVariables false
namespace Go.Proofs.YtejlpdbiacmfcaaGreatDoor
open Go.Lib

theorem nD_sum (m n k : Nat) (h1 : nDigits m ≤ k) (h2 : nDigits n ≤ k) : nDigits (m + n) ≤ k + 1 := by
  refine nD_le _ _ (by omega) ?_
  have h3 := Nat.lt_of_lt_of_le (lt_pow_nDigits m) (Nat.pow_le_pow_right (n := 10) (by omega) h1)
  have h4 := Nat.lt_of_lt_of_le (lt_pow_nDigits n) (Nat.pow_le_pow_right (n := 10) (by omega) h2)
  rw [Nat.pow_succ]
  omega
theorem mkRat_mkq (z : Int) (d : Nat) : mkRat z d = mkq (decide (z < 0)) z.natAbs d := by
  unfold mkq
  congr 1
  by_cases h : z < 0
  · rw [if_pos (by simpa using h)]; omega
  · rw [if_neg (by simpa using h)]; omega
theorem small_add {K L : Nat} {p q : Rat} (hp : Small K p) (hq : Small L q) : Small (K + L + 1) (p + q) := by
  have e : p + q = mkq (decide (p.num < 0)) p.num.natAbs p.den + mkq (decide (q.num < 0)) q.num.natAbs q.den := by rw [mkq_self, mkq_self]
  rw [e, mkq_add _ _ _ _ _ _ p.den_nz q.den_nz, mkRat_mkq]
  have h1 := nD_mul p.num.natAbs q.den
  have h2 := nD_mul q.num.natAbs p.den
  have h3 := nD_mul p.den q.den
  have a1 := hp.1
  have a2 := hp.2
  have b1 := hq.1
  have b2 := hq.2
  refine mkq_small (Nat.mul_ne_zero p.den_nz q.den_nz) ?_ (by omega)
  refine Nat.le_trans (nD_mono (n := p.num.natAbs * q.den + q.num.natAbs * p.den) ?_) (nD_sum _ _ _ (by omega) (by omega))
  generalize p.num.natAbs * q.den = x
  generalize q.num.natAbs * p.den = y
  split <;> split <;> omega
theorem small_mul {K L : Nat} {p q : Rat} (hp : Small K p) (hq : Small L q) : Small (K + L) (p * q) := by
  have e : p * q = mkq (decide (p.num < 0)) p.num.natAbs p.den * mkq (decide (q.num < 0)) q.num.natAbs q.den := by rw [mkq_self, mkq_self]
  rw [e, mkq_mul]
  have h1 := nD_mul p.num.natAbs q.num.natAbs
  have h3 := nD_mul p.den q.den
  have a1 := hp.1
  have a2 := hp.2
  have b1 := hq.1
  have b2 := hq.2
  exact mkq_small (Nat.mul_ne_zero p.den_nz q.den_nz) (by omega) (by omega)
theorem small_neg {K : Nat} {p : Rat} (hp : Small K p) : Small K (-p) := by
  unfold Small at *
  rw [Rat.neg_num, Rat.neg_den, Int.natAbs_neg]; exact hp
theorem small_mono {K L : Nat} {p : Rat} (hp : Small K p) (h : K ≤ L) : Small L p := ⟨Nat.le_trans hp.1 h, Nat.le_trans hp.2 h⟩
end Go.Proofs.YtejlpdbiacmfcaaGreatDoor
end
section
set_option linter.unusedSimpArgs false
set_option linter.unusedVariables false
namespace Go.Proofs.YtejlpdbiacmfcaaGreatDoor
open Go.Lib

theorem mkRat_mul_den (a : Int) {n : Nat} (hn : n ≠ 0) : mkRat a n * (n : Rat) = a := by
  have h : ((n : Nat) : Rat) ≠ 0 := by
    intro h; apply hn; exact_mod_cast h
  have h1 := Rat.mul_inv_cancel _ h
  rw [Rat.mkRat_eq_div, Rat.div_def]
  generalize ((n : Nat) : Rat) = q at *
  generalize ((a : Int) : Rat) = p at *
  grind
theorem frc_mkq {x : Rat} {z d : Int} (hd : d ≠ 0) (h : x * (d : Rat) = (z : Rat)) : ∃ m, x = mkq m z.natAbs d.natAbs := by
  have hn : d.natAbs ≠ 0 := by omega
  have hq : ((d.natAbs : Nat) : Rat) ≠ 0 := by
    intro h; apply hn; exact_mod_cast h
  have key : ∀ m : Bool, x * ((d.natAbs : Nat) : Rat) = ((if m then -(z.natAbs : Int) else (z.natAbs : Int) : Int) : Rat) → x = mkq m z.natAbs d.natAbs := fun m hm => by
    unfold mkq
    have h2 := mkRat_mul_den (if m then -(z.natAbs : Int) else (z.natAbs : Int)) hn
    rw [← h2] at hm
    have h3 := Rat.mul_inv_cancel _ hq
    generalize ((d.natAbs : Nat) : Rat) = q at *
    grind
  have hdn : ((d.natAbs : Nat) : Rat) = (((d.natAbs : Nat) : Int) : Rat) := (Rat.intCast_natCast _).symm
  rcases Int.natAbs_eq d with e1 | e1 <;> rcases Int.natAbs_eq z with e2 | e2
  · refine ⟨false, key false ?_⟩
    rw [hdn, ← e1, h]; simp only [Bool.false_eq_true, if_false]; rw [← e2]
  · refine ⟨true, key true ?_⟩
    rw [hdn, ← e1, h]; simp only [if_true]; rw [← e2]
  · refine ⟨true, key true ?_⟩
    have e3 : ((d.natAbs : Nat) : Int) = -d := by omega
    rw [hdn, e3, Rat.intCast_neg]
    simp only [if_true]
    rw [← e2, Rat.intCast_neg, ← h]; grind
  · refine ⟨false, key false ?_⟩
    have e3 : ((d.natAbs : Nat) : Int) = -d := by omega
    have e4 : ((z.natAbs : Nat) : Int) = -z := by omega
    rw [hdn, e3, Rat.intCast_neg]
    simp only [Bool.false_eq_true, if_false]
    rw [e4, Rat.intCast_neg, ← h]; grind
theorem frc_small {x D N : Rat} {M K : Nat} (hD : D ≠ 0) (h1 : Isn M D) (h2 : Isn M N) (h : x * D = N) (hK : M < 10 ^ K) (h0 : 0 < K) : Small K x := by
  obtain ⟨d, rfl, hd⟩ := h1
  obtain ⟨z, rfl, hz⟩ := h2
  have hd0 : d ≠ 0 := fun e => hD (by rw [e]; rfl)
  obtain ⟨m, rfl⟩ := frc_mkq hd0 h
  exact mkq_small (by omega) (nD_le _ _ h0 (Nat.lt_of_le_of_lt hz hK)) (nD_le _ _ h0 (Nat.lt_of_le_of_lt hd hK))
end Go.Proofs.YtejlpdbiacmfcaaGreatDoor
end
section
set_option linter.unusedSimpArgs false
set_option linter.unusedVariables false
set_option maxHeartbeats 1000000
namespace Go.Proofs.YtejlpdbiacmfcaaGreatDoor
open Go.Lib

/-- A row with a 1 in the cells from a to b - 1. -/
def blkRow (n a b : Nat) : List Int := (List.range n).map fun i => if a ≤ i ∧ i < b then 1 else 0
theorem blkRow_length (n a b : Nat) : (blkRow n a b).length = n := by simp [blkRow]
theorem blkRow_get {n a b i : Nat} (h : i < n) : (blkRow n a b).getD i 0 = if a ≤ i ∧ i < b then 1 else 0 := by simp [blkRow, List.getD, h]
def addRow (out : List (List Int)) (r : List Int) : List (List Int) := if r ∈ out then out else out ++ [r]
theorem addRow_mem {out : List (List Int)} {r x : List Int} : x ∈ addRow out r ↔ x ∈ out ∨ x = r := by
  unfold addRow
  split
  · rename_i h
    exact ⟨.inl, fun h' => by rcases h' with h' | rfl; exact h'; exact h⟩
  · simp
theorem fold_mem : ∀ {l out : List (List Int)} {x : List Int}, x ∈ l.foldl addRow out ↔ x ∈ out ∨ x ∈ l
  | [], out, x => by simp
  | r :: l, out, x => by
    rw [List.foldl_cons, fold_mem, addRow_mem, List.mem_cons]
    constructor
    · rintro ((h | h) | h)
      · exact .inl h
      · exact .inr (.inl h)
      · exact .inr (.inr h)
    · rintro (h | h | h)
      · exact .inl (.inl h)
      · exact .inl (.inr h)
      · exact .inr h
/-- How many blocks of a size there are, and how many sizes. -/
def cnt (n s : Nat) : Nat := (n + s - 1) / s
def lev (n : Nat) : Nat := Nat.log2 (2 * n - 1) + 1
theorem cnt_lt {n s k : Nat} (hs : 0 < s) : k < cnt n s ↔ k * s < n := by
  unfold cnt
  rw [← Nat.succ_le_iff, Nat.le_div_iff_mul_le hs, Nat.succ_mul]
  omega
theorem lev_lt {n j : Nat} (hn : 0 < n) : j < lev n ↔ 2 ^ j < 2 * n := by
  unfold lev
  have := Nat.le_log2 (n := 2 * n - 1) (k := j) (by omega)
  omega
def lvl (n j : Nat) : List (Nat × Nat) := (List.range (cnt n (2 ^ j))).map fun k => (k * 2 ^ j, min n (k * 2 ^ j + 2 ^ j))
def blks (n : Nat) : List (Nat × Nat) := (List.range (lev n)).flatMap (lvl n)
def blkR (n : Nat) (b : Nat × Nat) : List Int := blkRow n b.1 b.2
def tree (n : Nat) : List (List Int) := ((blks n).map (blkR n)).foldl addRow []
def idRows (n : Nat) : List (List Int) := (List.range n).map fun i => blkRow n i (i + 1)
def preRows (n : Nat) : List (List Int) := (List.range n).map fun i => blkRow n 0 (i + 1)
/-- The rows of a strategy. -/
def strat (kind n : Int) : List (List Int) :=
  if n < 1 ∨ 64 < n then [] else if kind = 0 then idRows n.toNat else if kind = 1 then preRows n.toNat else if kind = 2 then tree n.toNat else []
theorem blks_mem {n : Nat} {b : Nat × Nat} (h : b ∈ blks n) : b.1 < b.2 ∧ b.2 ≤ n := by
  unfold blks at h
  obtain ⟨j, _, h⟩ := List.mem_flatMap.1 h
  unfold lvl at h
  obtain ⟨k, hk, rfl⟩ := List.mem_map.1 h
  have hp : 0 < 2 ^ j := Nat.pow_pos (by omega)
  have := (cnt_lt hp).1 (List.mem_range.1 hk)
  simp only
  omega
theorem unit_mem {n i : Nat} (h : i < n) : (i, i + 1) ∈ blks n := by
  unfold blks
  refine List.mem_flatMap.2 ⟨0, List.mem_range.2 (by unfold lev; omega), ?_⟩
  unfold lvl
  refine List.mem_map.2 ⟨i, List.mem_range.2 ((cnt_lt (by decide)).2 (by omega)), ?_⟩
  rw [Nat.pow_zero, Nat.mul_one, Nat.min_eq_right (by omega)]
theorem tree_mem {n : Nat} {r : List Int} : r ∈ tree n ↔ ∃ b, b ∈ blks n ∧ blkRow n b.1 b.2 = r := by
  unfold tree
  rw [fold_mem]
  simp [blkR]
/-- Every row of a strategy is a block that is not empty. -/
theorem strat_row {kind : Int} {n : Nat} {r : List Int} (hr : r ∈ strat kind n) : ∃ a b, a < b ∧ b ≤ n ∧ r = blkRow n a b := by
  unfold strat at hr
  split at hr
  · simp at hr
  · rename_i hn
    simp only [Int.toNat_natCast] at hr
    split at hr
    · obtain ⟨i, hi, rfl⟩ := List.mem_map.1 hr
      exact ⟨i, i + 1, by omega, by have := List.mem_range.1 hi; omega, rfl⟩
    · split at hr
      · obtain ⟨i, hi, rfl⟩ := List.mem_map.1 hr
        exact ⟨0, i + 1, by omega, by have := List.mem_range.1 hi; omega, rfl⟩
      · split at hr
        · obtain ⟨b, hb, rfl⟩ := tree_mem.1 hr
          obtain ⟨h1, h2⟩ := blks_mem hb
          exact ⟨b.1, b.2, h1, h2, rfl⟩
        · simp at hr
/-- Rows as a matrix of numbers. -/
def stM (rows : List (List Int)) : Mx := fun i k => (((rows.getD i []).getD k 0 : Int) : Rat)
/-- What a block's row asks of cells: their sum. -/
theorem blk_sum {n a : Nat} {x : Nat → Rat} : ∀ {b : Nat}, a ≤ b → b ≤ n → sm n (fun k => (((blkRow n a b).getD k 0 : Int) : Rat) * x k) = sm (b - a) (fun j => x (a + j)) := by
  intro b hab hbn
  obtain ⟨d, rfl⟩ : ∃ d, b = a + d := ⟨b - a, by omega⟩
  obtain ⟨e, rfl⟩ : ∃ e, n = a + d + e := ⟨n - (a + d), by omega⟩
  rw [Nat.add_sub_cancel_left, sm_split, sm_split, sm_zero' (n := a) (fun k hk => by rw [blkRow_get (by omega), if_neg (by omega)]; simp), sm_zero' (n := e) (fun k hk => by rw [blkRow_get (by omega), if_neg (by omega)]; simp)]
  rw [sm_congr (n := d) (g := fun j => x (a + j)) (fun j hj => by rw [blkRow_get (by omega), if_pos (by omega)]; simp)]
  rw [Rat.zero_add, Rat.add_zero]
/-- The strategies that tell all cells apart. -/
theorem strat_full {kind : Int} {n : Nat} (hk : 0 ≤ kind ∧ kind ≤ 2) (h0 : 0 < n) (hn : n ≤ 64) {x : Nat → Rat} (h : ∀ r, r ∈ strat kind n → sm n (fun k => ((r.getD k 0 : Int) : Rat) * x k) = 0) : ∀ i, i < n → x i = 0 := by
  have hst : strat kind n = if kind = 0 then idRows n else if kind = 1 then preRows n else if kind = 2 then tree n else [] := by
    unfold strat
    rw [if_neg (by omega), Int.toNat_natCast]
  have unit : (∀ i, i < n → blkRow n i (i + 1) ∈ strat kind n) → ∀ i, i < n → x i = 0 := fun hu i hi => by
    have h1 := h _ (hu i hi)
    rw [blk_sum (by omega) (by omega), Nat.add_sub_cancel_left] at h1
    simpa [sm, Rat.zero_add] using h1
  have hc : kind = 0 ∨ kind = 1 ∨ kind = 2 := by omega
  rcases hc with rfl | rfl | rfl
  · refine unit fun i hi => ?_
    rw [hst, if_pos rfl]
    exact List.mem_map.2 ⟨i, List.mem_range.2 hi, rfl⟩
  · have hp : ∀ i, i < n → sm (i + 1) x = 0 := fun i hi => by
      have h1 := h (blkRow n 0 (i + 1)) (by rw [hst, if_neg (by omega), if_pos rfl]; exact List.mem_map.2 ⟨i, List.mem_range.2 hi, rfl⟩)
      rw [blk_sum (by omega) (by omega)] at h1
      rw [← h1]
      exact sm_congr fun j _ => by rw [Nat.zero_add]
    intro i hi
    cases i with
    | zero => have := hp 0 hi; simpa [sm, Rat.zero_add] using this
    | succ i =>
      have h1 := hp i (by omega)
      have h2 := hp (i + 1) hi
      rw [sm, h1, Rat.zero_add] at h2
      exact h2
  · refine unit fun i hi => ?_
    rw [hst, if_neg (by omega), if_neg (by omega), if_pos rfl]
    exact tree_mem.2 ⟨(i, i + 1), unit_mem hi, rfl⟩
theorem stM_nul {rows : List (List Int)} {n : Nat} {x : Nat → Rat} : Nul rows.length n (stM rows) x ↔ ∀ r, r ∈ rows → sm n (fun k => ((r.getD k 0 : Int) : Rat) * x k) = 0 := by
  constructor
  · intro h r hr
    obtain ⟨i, hi, rfl⟩ := List.getElem_of_mem hr
    have := h i hi
    unfold stM at this
    simpa [List.getD, hi] using this
  · intro h i hi
    have := h rows[i] (List.getElem_mem hi)
    unfold stM
    simpa [List.getD, hi] using this
/-- The normal equations of a strategy have one solution. -/
theorem strat_rank {kind : Int} {n : Nat} (hk : 0 ≤ kind ∧ kind ≤ 2) (h0 : 0 < n) (hn : n ≤ 64) : (gj n (mmul (strat kind n).length (trp (stM (strat kind n))) (stM (strat kind n))) n).2 = n := by
  rw [rank_normal]
  exact rank_full.2 fun x hx => strat_full hk h0 hn (stM_nul.1 hx)
section
variable {m n : Nat} {f : Mx} {w z s : Nat → Rat}
/-- The weights that the normal equations give: their squares sum up to the numbers of the solution in the range. -/
theorem spread_sq (hz : ∀ k, k < n → mapp n (mmul m (trp f) f) z k = w k) : sm m (fun i => mapp n f z i * mapp n f z i) = sm n (fun k => w k * z k) := by
  rw [sm_congr (n := n) (g := fun k => sm m (fun i => f i k * mapp n f z i * z k)) (fun k hk => by
    rw [← hz k hk, app_mul]
    show mapp m (trp f) (mapp n f z) k * z k = _
    unfold mapp trp
    rw [← sm_mulr]), ← sm_comm]
  apply sm_congr
  intro i _
  rw [sm_congr (n := n) (g := fun k => mapp n f z i * (f i k * z k)) (fun k _ => by grind), sm_mul]
  rfl
/-- Other weights that give the range are no smaller. -/
theorem spread_min (hz : ∀ k, k < n → mapp n (mmul m (trp f) f) z k = w k) (hs : ∀ k, k < n → mapp m (trp f) s k = w k) : sm n (fun k => w k * z k) ≤ sm m (fun i => s i * s i) := by
  have h1 := spread_sq hz
  have h2 : sm m (fun i => s i * mapp n f z i) = sm n (fun k => w k * z k) := by
    rw [sm_congr (n := n) (g := fun k => sm m (fun i => f i k * s i * z k)) (fun k hk => by
      rw [← hs k hk]
      unfold mapp trp
      rw [← sm_mulr]), ← sm_comm]
    apply sm_congr
    intro i _
    rw [sm_congr (n := n) (g := fun k => s i * (f i k * z k)) (fun k _ => by grind), sm_mul]
    rfl
  have h3 : 0 ≤ sm m (fun i => (s i - mapp n f z i) * (s i - mapp n f z i)) := sm_nonneg fun i _ => sq_nonneg _
  rw [sm_congr (g := fun i => s i * s i - (2 * (s i * mapp n f z i) - mapp n f z i * mapp n f z i)) (fun i _ => by grind), sm_sub, sm_sub, sm_mul, h1, h2] at h3
  grind
end
end Go.Proofs.YtejlpdbiacmfcaaGreatDoor
end
