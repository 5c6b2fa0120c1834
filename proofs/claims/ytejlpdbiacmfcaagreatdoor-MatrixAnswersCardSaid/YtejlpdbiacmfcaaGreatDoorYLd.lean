/-
  Determinants: how great the numbers of a solution are, over one denominator.
  No conditions: each theorem names its own premises.
  How many digits the numbers of a solution take.
  Strategies as plain lists of rows: blocks, the tree, and that a strategy tells all cells apart.
  The spreads of the strategies, and what an exact histogram's answers are.
  The spread of a range by the cells, by the prefixes, and its bounds by the tree.
  The norms of the strategies.
  Lists of rows of ints in memory.
  What package matrix answers, as plain functions and relations.
-/
import Derived.Test.YtejlpdbiacmfcaaGreatDoorYR5
import Derived.Test.YtejlpdbiacmfcaaGreatDoorYLb
import Derived.Test.YtejlpdbiacmfcaaGreatDoorYVt
import Derived.Test.YtejlpdbiacmfcaaGreatDoorYKa
set_option linter.unusedSimpArgs false
set_option linter.unusedVariables false
namespace Go.Proofs.YtejlpdbiacmfcaaGreatDoor
section
def skp (i r : Nat) : Nat := if r < i then r else r + 1
def sgn (i : Nat) : Rat := if i % 2 = 0 then 1 else -1
theorem sgn_succ (i : Nat) : sgn (i + 1) = -(sgn i) := by
 unfold sgn
 rcases Nat.mod_two_eq_zero_or_one i with h | h
 ·rw [if_neg (by omega), if_pos h]
 ·rw [if_pos (by omega), if_neg (by omega)]; grind
theorem sgn_ne (i : Nat) : sgn i ≠ 0 := by unfold sgn; split <;> grind
theorem sgn_sq (i : Nat) : sgn i * sgn i = 1 := by unfold sgn; split <;> grind
theorem sgn_isn (i : Nat) : Isn 1 (sgn i) := by
 unfold sgn
 split
 ·exact ⟨1, by simp, by decide⟩
 ·exact ⟨-1, by simp, by decide⟩
def dt : Nat → (Nat → Nat → Rat) → Rat
 | 0, _ => 1
 | n + 1, A => sm (n + 1) (fun i => sgn i * A 0 i * dt n (fun c r => A (c + 1) (skp i r)))
theorem skp_lt {i r n : Nat} (h : r < n) : skp i r < n + 1 := by unfold skp; split <;> omega
theorem sm_first (f : Nat → Rat) : ∀ n : Nat, sm (n + 1) f = f 0 + sm n (fun i => f (i + 1))
 | 0 => by simp only [sm]; grind
 | n + 1 => by rw [sm, sm_first f n, sm]; grind
theorem sm_tri (g : Nat → Nat → Rat) (n : Nat) : sm (n + 2) (fun i => sm (n + 1) (fun k => g i k)) =
  sm (n + 1) (fun i => sm (n + 1) (fun k => if i ≤ k then g i k else 0)) + sm (n + 1) (fun i => sm (n + 1) (fun k => if i ≤ k then g (k + 1) i else 0)) := by
 rw [sm_congr (g := fun i => sm (n + 1) (fun k => if i ≤ k then g i k else 0) + sm (n + 1) (fun k => if k < i then g i k else 0)) (fun i _ => by
  rw [← sm_add]; apply sm_congr; intro k _
  by_cases h : i ≤ k
  ·rw [if_pos h, if_neg (by omega)]; grind
  ·rw [if_neg h, if_pos (by omega)]; grind), sm_add]
 congr 1
 ·rw [show n + 2 = (n + 1) + 1 from rfl, sm, sm_zero' (f := fun k => if n + 1 ≤ k then g (n + 1) k else 0) (fun k hk => if_neg (by omega))]; grind
 ·rw [show n + 2 = (n + 1) + 1 from rfl, sm_first, sm_zero' (f := fun k => if k < 0 then g 0 k else 0) (fun k hk => if_neg (by omega)), sm_comm]
  rw [sm_congr (g := fun k => sm (n + 1) (fun i => if k ≤ i then g (i + 1) k else 0)) (fun k _ => sm_congr fun i _ => by
   by_cases h : k ≤ i
   ·rw [if_pos (by omega), if_pos h]
   ·rw [if_neg (by omega), if_neg h])]
  grind
theorem skp_skp {i k : Nat} (h : i ≤ k) (r : Nat) : skp (k + 1) (skp i r) = skp i (skp k r) := by
 by_cases h1 : r < i
 ·have a1 : skp i r = r := if_pos h1
  have a2 : skp k r = r := if_pos (by omega)
  have a3 : skp (k + 1) r = r := if_pos (by omega)
  rw [a1, a2, a3, a1]
 ·have a1 : skp i r = r + 1 := if_neg h1
  by_cases h2 : r < k
  ·have a2 : skp k r = r := if_pos h2
   have a3 : skp (k + 1) (r + 1) = r + 1 := if_pos (by omega)
   rw [a1, a2, a3, a1]
  ·have a2 : skp k r = r + 1 := if_neg h2
   have a3 : skp (k + 1) (r + 1) = r + 1 + 1 := if_neg (by omega)
   have a4 : skp i (r + 1) = r + 1 + 1 := if_neg (by omega)
   rw [a1, a2, a3, a4]
def swc (c : Nat) (A : Nat → Nat → Rat) : Nat → Nat → Rat := fun c' => if c' = c then A (c + 1) else if c' = c + 1 then A c else A c'
def tw (A : Nat → Nat → Rat) (u v : Nat → Rat) (n i k : Nat) : Rat := sgn i * sgn k * (u i * v (skp i k)) * dt n (fun c r => A (c + 2) (skp i (skp k r)))
theorem dt_two (n : Nat) (A : Nat → Nat → Rat) : dt (n + 2) A = sm (n + 2) (fun i => sm (n + 1) (fun k => tw A (A 0) (A 1) n i k)) := by
 rw [dt]
 apply sm_congr
 intro i _
 rw [dt, ← sm_mul]
 apply sm_congr
 intro k _
 unfold tw
 grind
theorem tw_anti (A : Nat → Nat → Rat) (u v : Nat → Rat) (n : Nat) {i k : Nat} (h : i ≤ k) : tw A v u n (k + 1) i = -(tw A u v n i k) := by
 unfold tw
 have e1 : skp (k + 1) i = i := by unfold skp; rw [if_pos (by omega)]
 have e2 : skp i k = k + 1 := by unfold skp; rw [if_neg (by omega)]
 have e3 : (fun c r => A (c + 2) (skp (k + 1) (skp i r))) = (fun c r => A (c + 2) (skp i (skp k r))) := by
  funext c r; rw [skp_skp h]
 rw [e1, e2, e3, sgn_succ]; grind
theorem dt_swap0 (n : Nat) (A : Nat → Nat → Rat) : dt (n + 2) (swc 0 A) = -(dt (n + 2) A) := by
 rw [dt_two, dt_two, sm_tri, sm_tri]
 have h0 : swc 0 A 0 = A 1 := by unfold swc; rfl
 have h1 : swc 0 A 1 = A 0 := by unfold swc; rfl
 have ht : ∀ u v i k, tw (swc 0 A) u v n i k = tw A u v n i k := fun u v i k => by
  unfold tw
  have : (fun c r => swc 0 A (c + 2) (skp i (skp k r))) = (fun c r => A (c + 2) (skp i (skp k r))) := by
   funext c r; unfold swc; rw [if_neg (by omega), if_neg (by omega)]
  rw [this]
 rw [h0, h1]
 have e1 : sm (n + 1) (fun i => sm (n + 1) (fun k => if i ≤ k then tw (swc 0 A) (A 1) (A 0) n (k + 1) i else 0)) = -(sm (n + 1) (fun i => sm (n + 1) (fun k => if i ≤ k then tw A (A 0) (A 1) n i k else 0))) := by
  rw [show -(sm (n + 1) (fun i => sm (n + 1) (fun k => if i ≤ k then tw A (A 0) (A 1) n i k else 0))) = (-1) * (sm (n + 1) (fun i => sm (n + 1) (fun k => if i ≤ k then tw A (A 0) (A 1) n i k else 0))) by grind, ← sm_mul]
  apply sm_congr; intro i _
  rw [← sm_mul]
  apply sm_congr; intro k _
  split
  ·rename_i h; rw [ht, tw_anti A (A 0) (A 1) n h]; grind
  ·grind
 have e2 : sm (n + 1) (fun i => sm (n + 1) (fun k => if i ≤ k then tw (swc 0 A) (A 1) (A 0) n i k else 0)) = -(sm (n + 1) (fun i => sm (n + 1) (fun k => if i ≤ k then tw A (A 0) (A 1) n (k + 1) i else 0))) := by
  rw [show -(sm (n + 1) (fun i => sm (n + 1) (fun k => if i ≤ k then tw A (A 0) (A 1) n (k + 1) i else 0))) = (-1) * (sm (n + 1) (fun i => sm (n + 1) (fun k => if i ≤ k then tw A (A 0) (A 1) n (k + 1) i else 0))) by grind, ← sm_mul]
  apply sm_congr; intro i _
  rw [← sm_mul]
  apply sm_congr; intro k _
  split
  ·rename_i h; rw [ht, tw_anti A (A 1) (A 0) n h]; grind
  ·grind
 rw [e1, e2]; grind
theorem dt_swap : ∀ (c n : Nat) (A : Nat → Nat → Rat), c + 1 < n → dt n (swc c A) = -(dt n A)
 | 0, n, A, h => by
  obtain ⟨m, rfl⟩ : ∃ m, n = m + 2 := ⟨n - 2, by omega⟩
  exact dt_swap0 m A
 | c + 1, n, A, h => by
  obtain ⟨m, rfl⟩ : ∃ m, n = m + 1 := ⟨n - 1, by omega⟩
  rw [dt, dt, show -(sm (m + 1) (fun i => sgn i * A 0 i * dt m (fun c r => A (c + 1) (skp i r)))) = (-1) * (sm (m + 1) (fun i => sgn i * A 0 i * dt m (fun c r => A (c + 1) (skp i r)))) by grind, ← sm_mul]
  apply sm_congr
  intro i _
  have h0 : swc (c + 1) A 0 = A 0 := by unfold swc; rw [if_neg (by omega), if_neg (by omega)]
  have e : (fun c' r => swc (c + 1) A (c' + 1) (skp i r)) = swc c (fun c' r => A (c' + 1) (skp i r)) := by
   funext c' r
   unfold swc
   by_cases h1 : c' = c
   ·rw [if_pos (by omega), if_pos h1]
   ·rw [if_neg (by omega), if_neg h1]
    by_cases h2 : c' = c + 1
    ·rw [if_pos (by omega), if_pos h2]
    ·rw [if_neg (by omega), if_neg h2]
  rw [h0, e, dt_swap c m _ (by omega)]; grind
theorem dt_same : ∀ (k n : Nat) (A : Nat → Nat → Rat), k + 1 < n → A 0 = A (k + 1) → dt n A = 0
 | 0, n, A, h, e => by
  have h1 := dt_swap 0 n A h
  have h2 : swc 0 A = A := by
   funext c
   unfold swc
   by_cases h0 : c = 0
   ·subst h0; rw [if_pos rfl]; exact e.symm
   ·rw [if_neg h0]
    by_cases h1 : c = 0 + 1
    ·subst h1; rw [if_pos rfl]; exact e
    ·rw [if_neg h1]
  rw [h2] at h1
  grind
 | k + 1, n, A, h, e => by
  have h1 := dt_swap (k + 1) n A h
  have h2 := dt_same k n (swc (k + 1) A) (by omega) (by
   unfold swc
   rw [if_neg (by omega), if_neg (by omega), if_pos rfl]; exact e)
  rw [h2] at h1
  grind
def mu (n : Nat) (A : Nat → Nat → Rat) (i : Nat) : Rat := sgn i * dt n (fun c r => A c (skp i r))
theorem mu_null (n : Nat) (A : Nat → Nat → Rat) (k : Nat) (hk : k < n) : sm (n + 1) (fun i => mu n A i * A k i) = 0 := by
 have h := dt_same k (n + 1) (fun c => if c = 0 then A k else A (c - 1)) (by omega) (by
  show (if (0 : Nat) = 0 then A k else A (0 - 1)) = (if k + 1 = 0 then A k else A (k + 1 - 1))
  rw [if_pos rfl, if_neg (by omega), Nat.add_sub_cancel])
 rw [← h, dt]
 apply sm_congr
 intro i _
 unfold mu
 have e : (fun c r => (fun c => if c = 0 then A k else A (c - 1)) (c + 1) (skp i r)) = (fun c r => A c (skp i r)) := by
  funext c r
  show (if c + 1 = 0 then A k else A (c + 1 - 1)) (skp i r) = _
  rw [if_neg (by omega), Nat.add_sub_cancel]
 rw [e]
 show sgn i * dt n (fun c r => A c (skp i r)) * A k i = sgn i * (if (0 : Nat) = 0 then A k else A (0 - 1)) i * _
 rw [if_pos rfl]; grind
theorem dt_mu (n : Nat) (A : Nat → Nat → Rat) : dt (n + 1) A = sm (n + 1) (fun i => mu n (fun c => A (c + 1)) i * A 0 i) := by
 rw [dt]
 apply sm_congr
 intro i _
 unfold mu
 grind
theorem skp_onto {i j n : Nat} (hi : i < n + 1) (hj : j ≠ i) (hjn : j < n + 1) : ∃ r, r < n ∧ skp i r = j := by
 unfold skp
 by_cases h : j < i
 ·exact ⟨j, by omega, by rw [if_pos h]⟩
 ·exact ⟨j - 1, by omega, by rw [if_neg (by omega)]; omega⟩
theorem dt_ne : ∀ (n : Nat) (A : Nat → Nat → Rat), (∀ x : Nat → Rat, (∀ r, r < n → sm n (fun c => A c r * x c) = 0) → ∀ c, c < n → x c = 0) → dt n A ≠ 0
 | 0, A, _ => by rw [dt]; grind
 | n + 1, A, hA => by
  intro h0
  rw [dt_mu] at h0
  have hu : ∀ i, i < n + 1 → mu n (fun c => A (c + 1)) i = 0 := by
   have hf : (gj (n + 1) (fun r c => A c r) (n + 1)).2 = n + 1 := rank_full.2 hA
   rw [← rank_trp] at hf
   refine rank_full.1 hf (fun i => mu n (fun c => A (c + 1)) i) (fun c hc => ?_)
   show sm (n + 1) (fun i => A c i * mu n (fun c => A (c + 1)) i) = 0
   rw [sm_congr (g := fun i => mu n (fun c => A (c + 1)) i * A c i) (fun i _ => by grind)]
   by_cases hc0 : c = 0
   ·subst hc0; exact h0
   ·have := mu_null n (fun c => A (c + 1)) (c - 1) (by omega)
    rwa [show c - 1 + 1 = c by omega] at this
  obtain ⟨k, hk, w, hw, hne, _⟩ := nul_wide (m := n) (n := n + 1) (by omega) (fun c i => A (c + 1) i)
  have hm := hu k hk
  unfold mu at hm
  rcases Rat.mul_eq_zero.1 hm with h | h
  ·exact sgn_ne k h
  refine dt_ne n _ (fun y hy => ?_) h
  have hrow : ∀ i, i < n + 1 → i ≠ k → sm n (fun c => A (c + 1) i * y c) = 0 := fun i hi hik => by
   obtain ⟨r, hr, rfl⟩ := skp_onto hk hik hi
   exact hy r hr
  have hk0 : sm n (fun c => A (c + 1) k * y c) = 0 := by
   have e : sm (n + 1) (fun i => w i * sm n (fun c => A (c + 1) i * y c)) = 0 := by
    rw [sm_congr (g := fun i => sm n (fun c => y c * (A (c + 1) i * w i))) (fun i _ => by rw [← sm_mul]; apply sm_congr; intro c _; grind), sm_comm]
    exact sm_zero' fun c hc => by rw [sm_mul, hw c hc]; grind
   rw [sm_single hk (fun i hi hik => by rw [hrow i hi hik]; grind)] at e
   rcases Rat.mul_eq_zero.1 e with h | h
   ·exact absurd h hne
   ·exact h
  have := hA (fun c => if c = 0 then 0 else y (c - 1)) (fun r hr => by
   rw [sm_first]
   have h1 : sm n (fun c => A (c + 1) r * (if c + 1 = 0 then 0 else y (c + 1 - 1))) = 0 := by
    rw [sm_congr (g := fun c => A (c + 1) r * y c) (fun c _ => by rw [if_neg (by omega), Nat.add_sub_cancel])]
    by_cases hrk : r = k
    ·subst hrk; exact hk0
    ·exact hrow r hr hrk
   rw [h1, if_pos rfl]; grind)
  intro c hc
  have := this (c + 1) (by omega)
  rwa [if_neg (by omega), Nat.add_sub_cancel] at this
def fct : Nat → Nat
 | 0 => 1
 | n + 1 => (n + 1) * fct n
theorem isn_dt {B : Nat} : ∀ {n : Nat} {A : Nat → Nat → Rat}, (∀ c r, c < n → r < n → Isn B (A c r)) → Isn (fct n * B ^ n) (dt n A)
 | 0, A, _ => ⟨1, by simp [dt], by simp [fct]⟩
 | n + 1, A, h => by
  rw [dt]
  have := isn_sm (n := n + 1) (B := 1 * B * (fct n * B ^ n)) (f := fun i => sgn i * A 0 i * dt n (fun c r => A (c + 1) (skp i r))) (fun i hi =>
   ((sgn_isn i).mul (h 0 i (by omega) hi)).mul (isn_dt (n := n) (fun c r hc hr => h (c + 1) (skp i r) (by omega) (skp_lt hr))))
  refine this.mono (Nat.le_of_eq ?_)
  rw [fct, Nat.pow_succ, Nat.one_mul]
  simp only [Nat.mul_assoc, Nat.mul_comm, Nat.mul_left_comm]
theorem isn_mu {B n : Nat} {A : Nat → Nat → Rat} (h : ∀ c r, c < n → r < n + 1 → Isn B (A c r)) (i : Nat) : Isn (fct n * B ^ n) (mu n A i) := by
 have := (sgn_isn i).mul (isn_dt (n := n) (A := fun c r => A c (skp i r)) (fun c r hc hr => h c (skp i r) hc (skp_lt hr)))
 rwa [Nat.one_mul] at this
theorem cram0 (n : Nat) (A : Nat → Nat → Rat) (b x : Nat → Rat) (hx : ∀ r, r < n + 1 → sm (n + 1) (fun c => A c r * x c) = b r) : x 0 * dt (n + 1) A = sm (n + 1) (fun i => mu n (fun c => A (c + 1)) i * b i) := by
 rw [sm_congr (f := fun i => mu n (fun c => A (c + 1)) i * b i) (g := fun i => sm (n + 1) (fun c => x c * (mu n (fun c => A (c + 1)) i * A c i))) (fun i hi => by
  rw [← hx i hi, ← sm_mul]; apply sm_congr; intro c _; grind), sm_comm]
 rw [sm_first, sm_zero' (f := fun i => sm (n + 1) (fun i_1 => x (i + 1) * (mu n (fun c => A (c + 1)) i_1 * A (i + 1) i_1))) (fun c hc => by
  rw [sm_mul, mu_null n (fun c => A (c + 1)) c hc]; grind), sm_mul, ← dt_mu]
 grind
def cyc (j c : Nat) : Nat := if c = 0 then j else if c ≤ j then c - 1 else c
theorem cyc_lt {j c n : Nat} (hj : j < n) (hc : c < n) : cyc j c < n := by unfold cyc; split; omega; split <;> omega
theorem dt_cyc : ∀ (j n : Nat) (A : Nat → Nat → Rat), j < n → dt n (fun c => A (cyc j c)) = sgn j * dt n A
 | 0, n, A, _ => by
  have : (fun c => A (cyc 0 c)) = A := by
   funext c; unfold cyc
   by_cases h : c = 0
   ·rw [if_pos h, h]
   ·rw [if_neg h, if_neg (by omega)]
  rw [this]; unfold sgn; rw [if_pos rfl]; grind
 | j + 1, n, A, h => by
  have : (fun c => A (cyc (j + 1) c)) = (fun c => swc j A (cyc j c)) := by
   funext c; unfold cyc swc
   by_cases h0 : c = 0
   ·rw [if_pos h0, if_pos h0, if_pos rfl]
   ·rw [if_neg h0, if_neg h0]
    by_cases h1 : c ≤ j
    ·rw [if_pos (by omega), if_pos h1, if_neg (by omega), if_neg (by omega)]
    ·rw [if_neg h1]
     by_cases h2 : c = j + 1
     ·subst h2
      rw [if_pos (by omega), if_neg (by omega), if_pos rfl, Nat.add_sub_cancel]
     ·rw [if_neg (by omega), if_neg (by omega), if_neg h2]
  rw [this, dt_cyc j n _ (by omega), dt_swap j n A h, sgn_succ]; grind
theorem sm_swc {k n : Nat} (hk : k + 1 < n) (f : Nat → Rat) : sm n (fun c => if c = k then f (k + 1) else if c = k + 1 then f k else f c) = sm n f := by
 rw [sm_congr (g := fun c => f c + ((if c = k then f (k + 1) - f k else 0) + (if c = k + 1 then f k - f (k + 1) else 0))) (fun c _ => by
  by_cases h1 : c = k
  ·subst h1; rw [if_pos rfl, if_pos rfl, if_neg (by omega)]; grind
  ·rw [if_neg h1, if_neg h1]
   by_cases h2 : c = k + 1
   ·subst h2; rw [if_pos rfl, if_pos rfl]; grind
   ·rw [if_neg h2, if_neg h2]; grind), sm_add, sm_add]
 rw [sm_single (j := k) (by omega) (fun c _ hc => if_neg hc), sm_single (j := k + 1) hk (fun c _ hc => if_neg hc), if_pos rfl, if_pos rfl]
 grind
theorem sm_cyc : ∀ (j n : Nat) (f : Nat → Rat), j < n → sm n (fun c => f (cyc j c)) = sm n f
 | 0, n, f, _ => sm_congr fun c _ => by
  unfold cyc
  by_cases h : c = 0
  ·rw [if_pos h, h]
  ·rw [if_neg h, if_neg (by omega)]
 | j + 1, n, f, h => by
  have e1 := sm_cyc j n (fun c => if c = j then f (j + 1) else if c = j + 1 then f j else f c) (by omega)
  rw [sm_swc h f] at e1
  rw [← e1]
  apply sm_congr
  intro c _
  unfold cyc
  by_cases h0 : c = 0
  ·rw [if_pos h0, if_pos h0, if_pos rfl]
  ·rw [if_neg h0, if_neg h0]
   by_cases h1 : c ≤ j
   ·rw [if_pos (by omega), if_pos h1, if_neg (by omega), if_neg (by omega)]
   ·rw [if_neg h1]
    by_cases h2 : c = j + 1
    ·subst h2
     rw [if_pos (by omega), if_neg (by omega), if_pos rfl, Nat.add_sub_cancel]
    ·rw [if_neg (by omega), if_neg (by omega), if_neg h2]
theorem cramer (n : Nat) (A : Mx) (b x : Nat → Rat) (B : Nat) (hA : ∀ i k, i < n + 1 → k < n + 1 → Isn B (A i k)) (hb : ∀ i, i < n + 1 → Isn B (b i))
  (hx : ∀ i, i < n + 1 → sm (n + 1) (fun k => A i k * x k) = b i) (hn : ∀ y : Nat → Rat, (∀ i, i < n + 1 → sm (n + 1) (fun k => A i k * y k) = 0) → ∀ k, k < n + 1 → y k = 0) :
  ∃ D, D ≠ 0 ∧ Isn (fct (n + 1) * B ^ (n + 1)) D ∧ ∀ j, j < n + 1 → ∃ N, Isn (fct (n + 1) * B ^ (n + 1)) N ∧ x j * D = N := by
 refine ⟨dt (n + 1) (fun c r => A r c), dt_ne _ _ hn, isn_dt (fun c r hc hr => hA r c hr hc), fun j hj => ?_⟩
 have h := cram0 n (fun c r => A r (cyc j c)) b (fun c => x (cyc j c)) (fun r hr => by
  rw [← hx r hr]
  exact sm_cyc j (n + 1) (fun c => A r c * x c) hj)
 have hd := dt_cyc j (n + 1) (fun c r => A r c) hj
 have h0 : cyc j 0 = j := rfl
 rw [show (fun c r => A r (cyc j c)) = (fun c => (fun c r => A r c) (cyc j c)) from rfl, hd] at h
 have hN : Isn (fct (n + 1) * B ^ (n + 1)) (sm (n + 1) (fun i => mu n (fun c r => A r (cyc j (c + 1))) i * b i)) := by
  refine (isn_sm (n := n + 1) (B := fct n * B ^ n * B) (fun i hi => (isn_mu (fun c r hc hr => hA r _ hr (cyc_lt hj (by omega))) i).mul (hb i hi))).mono (Nat.le_of_eq ?_)
  rw [fct, Nat.pow_succ]
  simp only [Nat.mul_assoc, Nat.mul_comm, Nat.mul_left_comm]
 have hN2 := (sgn_isn j).mul hN
 rw [Nat.one_mul] at hN2
 refine ⟨_, hN2, ?_⟩
 have h' : x j * (sgn j * dt (n + 1) (fun c r => A r c)) = sm (n + 1) (fun i => mu n (fun c r => A r (cyc j (c + 1))) i * b i) := h
 rw [← h']
 have := sgn_sq j
 grind
end
section
open Go.Lib

theorem mkRat_mul_den (a : Int) {n : Nat} (hn : n ≠ 0) : mkRat a n * (n : Rat) = a := by
 have h : ((n : Nat) : Rat) ≠ 0 := by
  intro h; apply hn; exact_mod_cast h
 have h1 := Rat.mul_inv_cancel _ h
 rw [Rat.mkRat_eq_div, Rat.div_def]
 generalize ((n : Nat) : Rat) = q at *
 generalize ((a : Int) : Rat) = p at *
 grind
theorem frc_mkq {x : Rat} {z d : Int} (hd : d ≠ 0) (h : x * (d : Rat) = (z : Rat)) : ∃ m, x = mkq m z.natAbs d.natAbs := by
 have hn : d.natAbs ≠ 0 := by omega
 have hq : ((d.natAbs : Nat) : Rat) ≠ 0 := by
  intro h; apply hn; exact_mod_cast h
 have key : ∀ m : Bool, x * ((d.natAbs : Nat) : Rat) = ((if m then -(z.natAbs : Int) else (z.natAbs : Int) : Int) : Rat) → x = mkq m z.natAbs d.natAbs := fun m hm => by
  unfold mkq
  have h2 := mkRat_mul_den (if m then -(z.natAbs : Int) else (z.natAbs : Int)) hn
  rw [← h2] at hm
  have h3 := Rat.mul_inv_cancel _ hq
  generalize ((d.natAbs : Nat) : Rat) = q at *
  grind
 have hdn : ((d.natAbs : Nat) : Rat) = (((d.natAbs : Nat) : Int) : Rat) := (Rat.intCast_natCast _).symm
 rcases Int.natAbs_eq d with e1 | e1 <;> rcases Int.natAbs_eq z with e2 | e2
 ·refine ⟨false, key false ?_⟩
  rw [hdn, ← e1, h]; simp only [Bool.false_eq_true, if_false]; rw [← e2]
 ·refine ⟨true, key true ?_⟩
  rw [hdn, ← e1, h]; simp only [if_true]; rw [← e2]
 ·refine ⟨true, key true ?_⟩
  have e3 : ((d.natAbs : Nat) : Int) = -d := by omega
  rw [hdn, e3, Rat.intCast_neg]
  simp only [if_true]
  rw [← e2, Rat.intCast_neg, ← h]; grind
 ·refine ⟨false, key false ?_⟩
  have e3 : ((d.natAbs : Nat) : Int) = -d := by omega
  have e4 : ((z.natAbs : Nat) : Int) = -z := by omega
  rw [hdn, e3, Rat.intCast_neg]
  simp only [Bool.false_eq_true, if_false]
  rw [e4, Rat.intCast_neg, ← h]; grind
theorem frc_small {x D N : Rat} {M K : Nat} (hD : D ≠ 0) (h1 : Isn M D) (h2 : Isn M N) (h : x * D = N) (hK : M < 10 ^ K) (h0 : 0 < K) : Small K x := by
 obtain ⟨d, rfl, hd⟩ := h1
 obtain ⟨z, rfl, hz⟩ := h2
 have hd0 : d ≠ 0 := fun e => hD (by rw [e]; rfl)
 obtain ⟨m, rfl⟩ := frc_mkq hd0 h
 exact mkq_small (by omega) (nD_le _ _ h0 (Nat.lt_of_le_of_lt hz hK)) (nD_le _ _ h0 (Nat.lt_of_le_of_lt hd hK))
end
section
set_option maxHeartbeats 1000000
open Go.Lib

def blkRow (n a b : Nat) : List Int := (List.range n).map fun i => if a ≤ i ∧ i < b then 1 else 0
theorem blkRow_length (n a b : Nat) : (blkRow n a b).length = n := by simp [blkRow]
theorem blkRow_get {n a b i : Nat} (h : i < n) : (blkRow n a b).getD i 0 = if a ≤ i ∧ i < b then 1 else 0 := by simp [blkRow, List.getD, h]
def addRow (out : List (List Int)) (r : List Int) : List (List Int) := if r ∈ out then out else out ++ [r]
theorem addRow_mem {out : List (List Int)} {r x : List Int} : x ∈ addRow out r ↔ x ∈ out ∨ x = r := by
 unfold addRow
 split
 ·rename_i h
  exact ⟨.inl, fun h' => by rcases h' with h' | rfl; exact h'; exact h⟩
 ·simp
theorem fold_mem : ∀ {l out : List (List Int)} {x : List Int}, x ∈ l.foldl addRow out ↔ x ∈ out ∨ x ∈ l
 | [], out, x => by simp
 | r :: l, out, x => by
  rw [List.foldl_cons, fold_mem, addRow_mem, List.mem_cons]
  constructor
  ·rintro ((h | h) | h)
   ·exact .inl h
   ·exact .inr (.inl h)
   ·exact .inr (.inr h)
  ·rintro (h | h | h)
   ·exact .inl (.inl h)
   ·exact .inl (.inr h)
   ·exact .inr h
def cnt (n s : Nat) : Nat := (n + s - 1) / s
def lev (n : Nat) : Nat := Nat.log2 (2 * n - 1) + 1
theorem cnt_lt {n s k : Nat} (hs : 0 < s) : k < cnt n s ↔ k * s < n := by
 unfold cnt
 rw [← Nat.succ_le_iff, Nat.le_div_iff_mul_le hs, Nat.succ_mul]
 omega
theorem lev_lt {n j : Nat} (hn : 0 < n) : j < lev n ↔ 2 ^ j < 2 * n := by
 unfold lev
 have := Nat.le_log2 (n := 2 * n - 1) (k := j) (by omega)
 omega
def lvl (n j : Nat) : List (Nat × Nat) := (List.range (cnt n (2 ^ j))).map fun k => (k * 2 ^ j, min n (k * 2 ^ j + 2 ^ j))
def blks (n : Nat) : List (Nat × Nat) := (List.range (lev n)).flatMap (lvl n)
def blkR (n : Nat) (b : Nat × Nat) : List Int := blkRow n b.1 b.2
def tree (n : Nat) : List (List Int) := ((blks n).map (blkR n)).foldl addRow []
def idRows (n : Nat) : List (List Int) := (List.range n).map fun i => blkRow n i (i + 1)
def preRows (n : Nat) : List (List Int) := (List.range n).map fun i => blkRow n 0 (i + 1)
def strat (kind n : Int) : List (List Int) :=
 if n < 1 ∨ 64 < n then [] else if kind = 0 then idRows n.toNat else if kind = 1 then preRows n.toNat else if kind = 2 then tree n.toNat else []
theorem blks_mem {n : Nat} {b : Nat × Nat} (h : b ∈ blks n) : b.1 < b.2 ∧ b.2 ≤ n := by
 unfold blks at h
 obtain ⟨j, _, h⟩ := List.mem_flatMap.1 h
 unfold lvl at h
 obtain ⟨k, hk, rfl⟩ := List.mem_map.1 h
 have hp : 0 < 2 ^ j := Nat.pow_pos (by omega)
 have := (cnt_lt hp).1 (List.mem_range.1 hk)
 simp only
 omega
theorem unit_mem {n i : Nat} (h : i < n) : (i, i + 1) ∈ blks n := by
 unfold blks
 refine List.mem_flatMap.2 ⟨0, List.mem_range.2 (by unfold lev; omega), ?_⟩
 unfold lvl
 refine List.mem_map.2 ⟨i, List.mem_range.2 ((cnt_lt (by decide)).2 (by omega)), ?_⟩
 rw [Nat.pow_zero, Nat.mul_one, Nat.min_eq_right (by omega)]
theorem tree_mem {n : Nat} {r : List Int} : r ∈ tree n ↔ ∃ b, b ∈ blks n ∧ blkRow n b.1 b.2 = r := by
 unfold tree
 rw [fold_mem]
 simp [blkR]
theorem strat_row {kind : Int} {n : Nat} {r : List Int} (hr : r ∈ strat kind n) : ∃ a b, a < b ∧ b ≤ n ∧ r = blkRow n a b := by
 unfold strat at hr
 split at hr
 ·simp at hr
 ·rename_i hn
  simp only [Int.toNat_natCast] at hr
  split at hr
  ·obtain ⟨i, hi, rfl⟩ := List.mem_map.1 hr
   exact ⟨i, i + 1, by omega, by have := List.mem_range.1 hi; omega, rfl⟩
  ·split at hr
   ·obtain ⟨i, hi, rfl⟩ := List.mem_map.1 hr
    exact ⟨0, i + 1, by omega, by have := List.mem_range.1 hi; omega, rfl⟩
   ·split at hr
    ·obtain ⟨b, hb, rfl⟩ := tree_mem.1 hr
     obtain ⟨h1, h2⟩ := blks_mem hb
     exact ⟨b.1, b.2, h1, h2, rfl⟩
    ·simp at hr
def stM (rows : List (List Int)) : Mx := fun i k => (((rows.getD i []).getD k 0 : Int) : Rat)
theorem blk_sum {n a : Nat} {x : Nat → Rat} : ∀ {b : Nat}, a ≤ b → b ≤ n → sm n (fun k => (((blkRow n a b).getD k 0 : Int) : Rat) * x k) = sm (b - a) (fun j => x (a + j)) := by
 intro b hab hbn
 obtain ⟨d, rfl⟩ : ∃ d, b = a + d := ⟨b - a, by omega⟩
 obtain ⟨e, rfl⟩ : ∃ e, n = a + d + e := ⟨n - (a + d), by omega⟩
 rw [Nat.add_sub_cancel_left, sm_split, sm_split, sm_zero' (n := a) (fun k hk => by rw [blkRow_get (by omega), if_neg (by omega)]; simp), sm_zero' (n := e) (fun k hk => by rw [blkRow_get (by omega), if_neg (by omega)]; simp)]
 rw [sm_congr (n := d) (g := fun j => x (a + j)) (fun j hj => by rw [blkRow_get (by omega), if_pos (by omega)]; simp)]
 rw [Rat.zero_add, Rat.add_zero]
theorem strat_full {kind : Int} {n : Nat} (hk : 0 ≤ kind ∧ kind ≤ 2) (h0 : 0 < n) (hn : n ≤ 64) {x : Nat → Rat} (h : ∀ r, r ∈ strat kind n → sm n (fun k => ((r.getD k 0 : Int) : Rat) * x k) = 0) : ∀ i, i < n → x i = 0 := by
 have hst : strat kind n = if kind = 0 then idRows n else if kind = 1 then preRows n else if kind = 2 then tree n else [] := by
  unfold strat
  rw [if_neg (by omega), Int.toNat_natCast]
 have unit : (∀ i, i < n → blkRow n i (i + 1) ∈ strat kind n) → ∀ i, i < n → x i = 0 := fun hu i hi => by
  have h1 := h _ (hu i hi)
  rw [blk_sum (by omega) (by omega), Nat.add_sub_cancel_left] at h1
  simpa [sm, Rat.zero_add] using h1
 have hc : kind = 0 ∨ kind = 1 ∨ kind = 2 := by omega
 rcases hc with rfl | rfl | rfl
 ·refine unit fun i hi => ?_
  rw [hst, if_pos rfl]
  exact List.mem_map.2 ⟨i, List.mem_range.2 hi, rfl⟩
 ·have hp : ∀ i, i < n → sm (i + 1) x = 0 := fun i hi => by
   have h1 := h (blkRow n 0 (i + 1)) (by rw [hst, if_neg (by omega), if_pos rfl]; exact List.mem_map.2 ⟨i, List.mem_range.2 hi, rfl⟩)
   rw [blk_sum (by omega) (by omega)] at h1
   rw [← h1]
   exact sm_congr fun j _ => by rw [Nat.zero_add]
  intro i hi
  cases i with
  | zero => have := hp 0 hi; simpa [sm, Rat.zero_add] using this
  | succ i =>
   have h1 := hp i (by omega)
   have h2 := hp (i + 1) hi
   rw [sm, h1, Rat.zero_add] at h2
   exact h2
 ·refine unit fun i hi => ?_
  rw [hst, if_neg (by omega), if_neg (by omega), if_pos rfl]
  exact tree_mem.2 ⟨(i, i + 1), unit_mem hi, rfl⟩
theorem stM_nul {rows : List (List Int)} {n : Nat} {x : Nat → Rat} : Nul rows.length n (stM rows) x ↔ ∀ r, r ∈ rows → sm n (fun k => ((r.getD k 0 : Int) : Rat) * x k) = 0 := by
 constructor
 ·intro h r hr
  obtain ⟨i, hi, rfl⟩ := List.getElem_of_mem hr
  have := h i hi
  unfold stM at this
  simpa [List.getD, hi] using this
 ·intro h i hi
  have := h rows[i] (List.getElem_mem hi)
  unfold stM
  simpa [List.getD, hi] using this
theorem strat_rank {kind : Int} {n : Nat} (hk : 0 ≤ kind ∧ kind ≤ 2) (h0 : 0 < n) (hn : n ≤ 64) : (gj n (mmul (strat kind n).length (trp (stM (strat kind n))) (stM (strat kind n))) n).2 = n := by
 rw [rank_normal]
 exact rank_full.2 fun x hx => strat_full hk h0 hn (stM_nul.1 hx)
section
variable {m n : Nat} {f : Mx} {w z s : Nat → Rat}
theorem spread_sq (hz : ∀ k, k < n → mapp n (mmul m (trp f) f) z k = w k) : sm m (fun i => mapp n f z i * mapp n f z i) = sm n (fun k => w k * z k) := by
 rw [sm_congr (n := n) (g := fun k => sm m (fun i => f i k * mapp n f z i * z k)) (fun k hk => by
  rw [← hz k hk, app_mul]
  show mapp m (trp f) (mapp n f z) k * z k = _
  unfold mapp trp
  rw [← sm_mulr]), ← sm_comm]
 apply sm_congr
 intro i _
 rw [sm_congr (n := n) (g := fun k => mapp n f z i * (f i k * z k)) (fun k _ => by grind), sm_mul]
 rfl
end
end
section
set_option maxHeartbeats 1000000
open Go.Lib

theorem fold_app : ∀ (l out : List (List Int)), ∃ t, l.foldl addRow out = out ++ t
 | [], out => ⟨[], by simp⟩
 | r :: l, out => by
  rw [List.foldl_cons]
  obtain ⟨t, ht⟩ := fold_app l (addRow out r)
  rw [ht]
  unfold addRow
  split
  ·exact ⟨t, rfl⟩
  ·exact ⟨r :: t, by simp⟩
theorem fold_nodup : ∀ (l out : List (List Int)), (out ++ l).Nodup → l.foldl addRow out = out ++ l
 | [], out, _ => by simp
 | r :: l, out, h => by
  have hr : r ∉ out := fun hm => by
   rw [List.nodup_append] at h
   exact h.2.2 r hm r (by simp) rfl
  rw [List.foldl_cons, addRow, if_neg hr, fold_nodup l (out ++ [r]) (by simpa using h)]
  simp
theorem unit_inj {n i j : Nat} (hi : i < n) (h : blkRow n i (i + 1) = blkRow n j (j + 1)) : i = j := by
 have h1 := congrArg (fun l => l.getD i 0) h
 simp only [blkRow_get hi] at h1
 rw [if_pos (by omega)] at h1
 split at h1
 ·omega
 ·simp at h1
theorem idRows_nodup (n : Nat) : (idRows n).Nodup := by
 unfold idRows
 rw [List.nodup_iff_pairwise_ne, List.pairwise_map]
 exact List.Pairwise.imp_of_mem (fun {a b} ha hb hab e => hab (unit_inj (List.mem_range.1 ha) e)) (List.nodup_iff_pairwise_ne.1 List.nodup_range)
theorem lvl_zero (n : Nat) : (lvl n 0).map (blkR n) = idRows n := by
 have hc : cnt n (2 ^ 0) = n := by unfold cnt; simp
 unfold lvl idRows
 rw [hc, List.map_map]
 apply List.map_congr_left
 intro i hi
 have := List.mem_range.1 hi
 show blkRow n (i * 2 ^ 0) (min n (i * 2 ^ 0 + 2 ^ 0)) = _
 rw [Nat.pow_zero, Nat.mul_one, Nat.min_eq_right (by omega)]
theorem tree_units (n : Nat) : ∃ t, tree n = idRows n ++ t := by
 unfold tree blks
 have hl : lev n = (lev n - 1) + 1 := by unfold lev; omega
 rw [hl, List.range_succ_eq_map, List.flatMap_cons, List.map_append, List.foldl_append, lvl_zero, fold_nodup (idRows n) [] (by simpa using idRows_nodup n), List.nil_append]
 exact fold_app _ _
theorem idRows_length (n : Nat) : (idRows n).length = n := by simp [idRows]
theorem preRows_length (n : Nat) : (preRows n).length = n := by simp [preRows]
section
variable {n : Nat} {f : Mx} {w z s : Nat → Rat}
end
end
section
set_option maxHeartbeats 1000000
open Go.Lib

def rgw (lo hi : Nat) : Nat → Rat := fun k => if lo ≤ k ∧ k ≤ hi then 1 else 0
def nrm (rows : List (List Int)) : Mx := mmul rows.length (trp (stM rows)) (stM rows)
theorem rgw_sum {n lo hi : Nat} (h1 : lo ≤ hi) (h2 : hi < n) (x : Nat → Rat) : sm n (fun k => rgw lo hi k * x k) = sm (hi - lo + 1) (fun j => x (lo + j)) := by
 have h := blk_sum (n := n) (a := lo) (b := hi + 1) (x := x) (by omega) (by omega)
 rw [show hi + 1 - lo = hi - lo + 1 by omega] at h
 rw [← h]
 apply sm_congr
 intro k hk
 rw [blkRow_get hk]
 unfold rgw
 by_cases e : lo ≤ k ∧ k ≤ hi
 ·rw [if_pos e, if_pos (by omega)]; rfl
 ·rw [if_neg e, if_neg (by omega)]; rfl
section
variable {n lo hi : Nat} {z : Nat → Rat}
end
end
section
set_option maxHeartbeats 1000000
open Go.Lib

def colS : List (List Int) → Nat → Int
 | [], _ => 0
 | r :: rows, k => max (r.getD k 0) (-(r.getD k 0)) + colS rows k
theorem colS_app (a b : List (List Int)) (k : Nat) : colS (a ++ b) k = colS a k + colS b k := by
 induction a with
 | nil => simp [colS]
 | cons r a ih => rw [List.cons_append, colS, colS, ih]; omega
theorem colS_nonneg (rows : List (List Int)) (k : Nat) : 0 ≤ colS rows k := by
 induction rows with
 | nil => simp [colS]
 | cons r a ih => rw [colS]; omega
theorem blk_abs {n a b k : Nat} (hk : k < n) : max ((blkRow n a b).getD k 0) (-((blkRow n a b).getD k 0)) = if a ≤ k ∧ k < b then 1 else 0 := by
 rw [blkRow_get hk]
 split <;> decide
theorem colS_pre {n m k : Nat} (hk : k < n) : colS ((List.range m).map fun i => blkRow n 0 (i + 1)) k = ((m - k : Nat) : Int) := by
 induction m with
 | zero => simp [colS]
 | succ m ih =>
  rw [List.range_succ, List.map_append, colS_app, ih, List.map_singleton, colS, colS, blk_abs hk]
  split <;> omega
theorem colS_id {n m k : Nat} (hk : k < n) : colS ((List.range m).map fun i => blkRow n i (i + 1)) k = if k < m then 1 else 0 := by
 induction m with
 | zero => simp [colS]
 | succ m ih =>
  rw [List.range_succ, List.map_append, colS_app, ih, List.map_singleton, colS, colS, blk_abs hk]
  split <;> split <;> split <;> omega
theorem colS_pos {kind : Int} {n k : Nat} (hk : 0 ≤ kind ∧ kind ≤ 2) (hn : n ≤ 64) (h : k < n) : 1 ≤ colS (strat kind n) k := by
 have hst : strat kind n = if kind = 0 then idRows n else if kind = 1 then preRows n else if kind = 2 then tree n else [] := by
  unfold strat
  rw [if_neg (by omega), Int.toNat_natCast]
 have hid : colS (idRows n) k = 1 := by unfold idRows; rw [colS_id h, if_pos h]
 have hc : kind = 0 ∨ kind = 1 ∨ kind = 2 := by omega
 rw [hst]
 rcases hc with rfl | rfl | rfl
 ·rw [if_pos rfl, hid]; omega
 ·rw [if_neg (by omega), if_pos rfl]
  unfold preRows
  rw [colS_pre h]; omega
 ·rw [if_neg (by omega), if_neg (by omega), if_pos rfl]
  obtain ⟨t, ht⟩ := tree_units n
  rw [ht, colS_app, hid]
  have := colS_nonneg t k
  omega
end
section
set_option maxHeartbeats 1000000
open Go Go.Proofs Go.RowKit Go.Lib

def ivs (l : List Int) : List Value := l.map fun x => .int .i64 x
theorem ivs_len (l : List Int) : (ivs l).length = l.length := by simp [ivs]
theorem ivs_get {l : List Int} {i : Nat} (h : i < l.length) : (ivs l)[i]? = some (.int .i64 (l.getD i 0)) := by simp [ivs, h, List.getD]
theorem ivs_one (l : List Int) : ∀ u ∈ ivs l, u.oneCell' = true := by
 intro u hu
 unfold ivs at hu
 obtain ⟨x, _, rfl⟩ := List.mem_map.1 hu
 rfl
theorem ivs_set {l : List Int} {i : Nat} {x : Int} : (ivs l).set i (.int .i64 x) = ivs (l.set i x) := by simp [ivs, List.map_set]
theorem ivs_zero (n : Nat) : List.replicate n (Value.int .i64 0) = ivs (List.replicate n 0) := by simp [ivs]
def irow (xss : List (List Int)) (i : Nat) : List Int := xss.getD i []
def irws (xss : List (List Int)) (A : Nat → Option Addr) (C : Nat → Nat) : List Value := (List.range xss.length).map fun i => .slice (A i) (irow xss i).length (C i)
theorem irws_get {xss : List (List Int)} {i : Nat} {A : Nat → Option Addr} {C : Nat → Nat} (h : i < xss.length) : (irws xss A C)[i]? = some (.slice (A i) (irow xss i).length (C i)) := by simp [irws, h]
theorem irws_length (xss : List (List Int)) (A : Nat → Option Addr) (C : Nat → Nat) : (irws xss A C).length = xss.length := by simp [irws]
theorem irow_app1 {xss yss : List (List Int)} {i : Nat} (h : i < xss.length) : irow (xss ++ yss) i = irow xss i := by
 unfold irow; simp [List.getD, List.getElem?_append_left h]
theorem irow_app2 (xss : List (List Int)) (xs : List Int) : irow (xss ++ [xs]) xss.length = xs := by
 unfold irow; simp [List.getD]
theorem irws_snoc (xss : List (List Int)) (xs : List Int) (A : Nat → Option Addr) (C : Nat → Nat) (a : Option Addr) (c : Nat) : irws xss A C ++ [.slice a xs.length c] = irws (xss ++ [xs]) (upd A xss.length a) (upd C xss.length c) := by
 unfold irws
 rw [List.length_append, List.length_singleton, List.range_succ, List.map_append, List.map_singleton, upd_same, upd_same, irow_app2]
 congr 1
 apply List.map_congr_left
 intro i hi
 have := List.mem_range.1 hi
 rw [upd_ne _ _ (by omega), upd_ne _ _ (by omega), irow_app1 this]
def SZ (w : World) (a : Option Addr) (xss : List (List Int)) : Prop := ∃ A C, Sl w a (irws xss A C) ∧ ∀ i, i < xss.length → Sl w (A i) (ivs (irow xss i))
theorem SZ.stay {w w' : World} {a : Option Addr} {xss : List (List Int)} (h : SZ w a xss) (hb : Below w.heap.size w w') : SZ w' a xss := by
 obtain ⟨A, C, h1, h2⟩ := h
 exact ⟨A, C, h1.stay hb, fun i hi => (h2 i hi).stay hb⟩
theorem SZ.nil (w : World) : SZ w none [] := ⟨fun _ => none, fun _ => 0, Sl.nil _ _, fun i hi => absurd hi (by simp)⟩
def OwnZ (w : World) (B : Nat) (a : Option Addr) (c : Nat) (xss : List (List Int)) : Prop := ∃ A C, w.ownsRow B 23 1 (.slice a xss.length c) xss.length (irws xss A C) ∧ ∀ i, i < xss.length → Sl w (A i) (ivs (irow xss i)) ∧ ∀ g, ab (A i) = some g → Tg w 3 g
theorem OwnZ.sz {w : World} {B : Nat} {a : Option Addr} {c : Nat} {xss : List (List Int)} (h : OwnZ w B a c xss) : SZ w a xss := by
 obtain ⟨A, C, h1, h2⟩ := h
 exact ⟨A, C, own_sl h1, fun i hi => (h2 i hi).1⟩
theorem OwnZ.nil (w : World) (B : Nat) : OwnZ w B none 0 [] := ⟨fun _ => none, fun _ => 0, ⟨rfl, .inl ⟨rfl, rfl⟩⟩, fun i hi => absurd hi (by simp)⟩
theorem OwnZ.stay {w w' : World} {B : Nat} {a : Option Addr} {c : Nat} {xss : List (List Int)} (h : OwnZ w B a c xss) (hb : Below w.heap.size w w') : OwnZ w' B a c xss := by
 obtain ⟨A, C, h1, h2⟩ := h
 exact ⟨A, C, own_bw h1 hb, fun i hi => ⟨(h2 i hi).1.below hb (fun g hg => ((h2 i hi).2 g hg).lt), fun g hg => ((h2 i hi).2 g hg).below hb⟩⟩
theorem OwnZ.snoc {w w' : World} {B : Nat} {a a' b : Option Addr} {c c' d : Nat} {xss : List (List Int)} {xs : List Int} {A : Nat → Option Addr} {C : Nat → Nat}
  (ho : w.ownsRow B 23 1 (.slice a xss.length c) xss.length (irws xss A C)) (h2 : ∀ i, i < xss.length → Sl w (A i) (ivs (irow xss i)) ∧ ∀ g, ab (A i) = some g → Tg w 3 g)
  (hb : Sl w b (ivs xs)) (hbt : ∀ g, ab b = some g → Tg w 3 g) (hg : w.grownBy w' (ab a)) (ho' : w'.ownsRow B 23 1 (.slice a' (xss.length + 1) c') (xss.length + 1) (irws xss A C ++ [.slice b xs.length d])) : OwnZ w' B a' c' (xss ++ [xs]) := by
 have key : ∀ (b : Option Addr) (vs : List Value), Sl w b vs → (∀ g, ab b = some g → Tg w 3 g) → Sl w' b vs ∧ ∀ g, ab b = some g → Tg w' 3 g := fun b vs h1 h2 =>
  have hne : ∀ g, ab b = some g → ab a ≠ some g := fun g hg e => (h2 g hg).ne (own_tag ho g e) rfl rfl
  ⟨h1.keep hg hne, fun q hq => (h2 q hq).grown hg (hne q hq)⟩
 rw [irws_snoc] at ho'
 refine ⟨_, _, by rw [List.length_append, List.length_singleton]; exact ho', fun i hi => ?_⟩
 rw [List.length_append, List.length_singleton] at hi
 by_cases h : i = xss.length
 ·subst h; rw [upd_same, irow_app2]; exact key b _ hb hbt
 ·rw [upd_ne _ _ h, irow_app1 (by omega)]; exact key _ _ (h2 i (by omega)).1 (h2 i (by omega)).2
end
section
set_option maxHeartbeats 1000000
open Go Go.Proofs Go.RowKit Go.Lib

def Wthn (l : List Int) (B : Int) : Prop := ∀ x, x ∈ l → -B ≤ x ∧ x ≤ B
instance (l : List Int) (B : Int) : Decidable (Wthn l B) := by unfold Wthn; exact inferInstance
def ratsI (l : List Int) : Nat → Rat := fun i => ((l.getD i 0 : Int) : Rat)
def EstS (kind n : Int) (noisy : List Int) (zs : List (List UInt8)) (e : Int) : Prop :=
 (strat kind n = [] ∧ zs = [] ∧ e = 2) ∨ (strat kind n ≠ [] ∧ noisy.length ≠ (strat kind n).length ∧ zs = [] ∧ e = 10) ∨
 (strat kind n ≠ [] ∧ noisy.length = (strat kind n).length ∧ ¬ Wthn noisy 1000000000000 ∧ zs = [] ∧ e = 2) ∨
 (strat kind n ≠ [] ∧ noisy.length = (strat kind n).length ∧ Wthn noisy 1000000000000 ∧ SlvS n.toNat (nrm (strat kind n)) (mapp (strat kind n).length (trp (stM (strat kind n))) (ratsI noisy)) zs e)
theorem EstS.uniq {kind n : Int} {noisy : List Int} {zs zs' : List (List UInt8)} {e e' : Int} (h : EstS kind n noisy zs e) (h' : EstS kind n noisy zs' e') : zs = zs' ∧ e = e' := by
 rcases h with ⟨h1, rfl, rfl⟩ | ⟨h1, h2, rfl, rfl⟩ | ⟨h1, h2, h3, rfl, rfl⟩ | ⟨h1, h2, h3, h4⟩ <;>
 rcases h' with ⟨g1, rfl, rfl⟩ | ⟨g1, g2, rfl, rfl⟩ | ⟨g1, g2, g3, rfl, rfl⟩ | ⟨g1, g2, g3, g4⟩ <;>
 first | exact ⟨rfl, rfl⟩ | exact absurd g1 h1 | exact absurd h1 g1 | exact absurd g2 h2 | exact absurd h2 g2 | exact absurd g3 h3 | exact absurd h3 g3 | exact h4.uniq g4
theorem strat_empty {kind : Int} {n : Nat} (h0 : 0 < n) (hn : n ≤ 64) (hk : 0 ≤ kind ∧ kind ≤ 2) : strat kind n ≠ [] := fun e => by
 have := colS_pos (kind := kind) (n := n) (k := 0) hk hn h0
 rw [e] at this
 simp [colS] at this
theorem strat_kind {kind n : Int} (h : strat kind n ≠ []) : (1 ≤ n ∧ n ≤ 64) ∧ 0 ≤ kind ∧ kind ≤ 2 := by
 unfold strat at h
 split at h
 ·exact absurd rfl h
 ·refine ⟨by omega, ?_⟩
  split at h
  ·omega
  ·split at h
   ·omega
   ·split at h
    ·omega
    ·exact absurd rfl h
end
end Go.Proofs.YtejlpdbiacmfcaaGreatDoor
