/-
  Plain things of lists of texts that are numbers.
  No conditions: each theorem names its own premises.

  Determinants: how great the numbers of a solution are, over one denominator.
  No conditions: each theorem names its own premises.

  How many digits the numbers of a solution take.
  No conditions: each theorem names its own premises.
-/
import Derived.Test.YtfdekppnilffeaaGreatDoorYSz
import Derived.Test.YtfdekppnilffeaaGreatDoorYLb
import Derived.Test.YtfdekppnilffeaaGreatDoorYKa
section
set_option linter.unusedSimpArgs false
set_option linter.unusedVariables false
namespace Go.Proofs.YtfdekppnilffeaaGreatDoor
open Go Go.Proofs Go.RowKit Go.Lib

theorem XErr.rows {xss : List (List Tx)} (h : XErr xss 0) : (∀ i, i < xss.length → (rw' xss i).length = (rw' xss 0).length) ∧ ∀ i, i < xss.length → ∀ j, j < (rw' xss 0).length → QErr ((rw' xss i).getD j []) 0 := by
  have hr := h.ok.2.2.2.2
  exact ⟨fun i hi => (hr i hi).1, fun i hi j hj => (hr i hi).2.ok.2.2 j (by rw [(hr i hi).1]; exact hj)⟩
/-- The lengths of lists and texts. -/
structure Lens (xss : List (List Tx)) : Prop where
  l : xss.length ≤ 1099511627776
  l2 : ∀ i, i < xss.length → (rw' xss i).length ≤ 1099511627776
  x : ∀ i, i < xss.length → ∀ j, j < (rw' xss i).length → ((rw' xss i).getD j []).length ≤ 1099511627776
theorem Lens.row {xss : List (List Tx)} (h : Lens xss) (he : XErr xss 0) : ∀ i, i < xss.length → ∀ j, j < (rw' xss 0).length → ((rw' xss i).getD j []).length ≤ 1099511627776 := fun i hi j hj => h.x i hi j (by rw [he.rows.1 i hi]; exact hj)
structure LenV (ys : List Tx) : Prop where
  l : ys.length ≤ 1099511627776
  x : ∀ j, j < ys.length → (ys.getD j []).length ≤ 1099511627776

theorem txs_snoc (n : Nat) (f : Nat → Rat) : txs (n + 1) f = txs n f ++ [qtext (f n)] := by unfold txs; rw [List.range_succ, List.map_append]; rfl
theorem qtext_zero : qtext 0 = [48] := by have := qtext_nat 0; rw [decDigits_one (by omega)] at this; simpa using this
theorem VErr.qok {ys : List Tx} (h : VErr ys 0) : ∀ i, i < ys.length → QErr (ys.getD i []) 0 := h.ok.2.2
theorem mtx_getD {m n i j : Nat} {f : Nat → Nat → Rat} (hi : i < m) (hj : j < n) : (rw' (mtx m n f) i).getD j [] = qtext (f i j) := by
  rw [mtx_row hi]
  simp [txs, List.getD, hj]
theorem mtx_len {m n i : Nat} {f : Nat → Nat → Rat} (hi : i < m) : (rw' (mtx m n f) i).length = n := by rw [mtx_row hi, txs_length]
end Go.Proofs.YtfdekppnilffeaaGreatDoor
end
section
set_option linter.unusedSimpArgs false
set_option linter.unusedVariables false
namespace Go.Proofs.YtfdekppnilffeaaGreatDoor
def skp (i r : Nat) : Nat := if r < i then r else r + 1
def sgn (i : Nat) : Rat := if i % 2 = 0 then 1 else -1
theorem sgn_succ (i : Nat) : sgn (i + 1) = -(sgn i) := by
  unfold sgn
  rcases Nat.mod_two_eq_zero_or_one i with h | h
  · rw [if_neg (by omega), if_pos h]
  · rw [if_pos (by omega), if_neg (by omega)]; grind
theorem sgn_ne (i : Nat) : sgn i ≠ 0 := by unfold sgn; split <;> grind
theorem sgn_sq (i : Nat) : sgn i * sgn i = 1 := by unfold sgn; split <;> grind
theorem sgn_isn (i : Nat) : Isn 1 (sgn i) := by
  unfold sgn
  split
  · exact ⟨1, by simp, by decide⟩
  · exact ⟨-1, by simp, by decide⟩
/-- The determinant of columns. -/
def dt : Nat → (Nat → Nat → Rat) → Rat
  | 0, _ => 1
  | n + 1, A => sm (n + 1) (fun i => sgn i * A 0 i * dt n (fun c r => A (c + 1) (skp i r)))
theorem skp_lt {i r n : Nat} (h : r < n) : skp i r < n + 1 := by unfold skp; split <;> omega
theorem sm_first (f : Nat → Rat) : ∀ n : Nat, sm (n + 1) f = f 0 + sm n (fun i => f (i + 1))
  | 0 => by simp only [sm]; grind
  | n + 1 => by rw [sm, sm_first f n, sm]; grind
theorem sm_tri (g : Nat → Nat → Rat) (n : Nat) : sm (n + 2) (fun i => sm (n + 1) (fun k => g i k)) =
    sm (n + 1) (fun i => sm (n + 1) (fun k => if i ≤ k then g i k else 0)) + sm (n + 1) (fun i => sm (n + 1) (fun k => if i ≤ k then g (k + 1) i else 0)) := by
  rw [sm_congr (g := fun i => sm (n + 1) (fun k => if i ≤ k then g i k else 0) + sm (n + 1) (fun k => if k < i then g i k else 0)) (fun i _ => by
    rw [← sm_add]; apply sm_congr; intro k _
    by_cases h : i ≤ k
    · rw [if_pos h, if_neg (by omega)]; grind
    · rw [if_neg h, if_pos (by omega)]; grind), sm_add]
  congr 1
  · rw [show n + 2 = (n + 1) + 1 from rfl, sm, sm_zero' (f := fun k => if n + 1 ≤ k then g (n + 1) k else 0) (fun k hk => if_neg (by omega))]; grind
  · rw [show n + 2 = (n + 1) + 1 from rfl, sm_first, sm_zero' (f := fun k => if k < 0 then g 0 k else 0) (fun k hk => if_neg (by omega)), sm_comm]
    rw [sm_congr (g := fun k => sm (n + 1) (fun i => if k ≤ i then g (i + 1) k else 0)) (fun k _ => sm_congr fun i _ => by
      by_cases h : k ≤ i
      · rw [if_pos (by omega), if_pos h]
      · rw [if_neg (by omega), if_neg h])]
    grind
theorem skp_skp {i k : Nat} (h : i ≤ k) (r : Nat) : skp (k + 1) (skp i r) = skp i (skp k r) := by
  by_cases h1 : r < i
  · have a1 : skp i r = r := if_pos h1
    have a2 : skp k r = r := if_pos (by omega)
    have a3 : skp (k + 1) r = r := if_pos (by omega)
    rw [a1, a2, a3, a1]
  · have a1 : skp i r = r + 1 := if_neg h1
    by_cases h2 : r < k
    · have a2 : skp k r = r := if_pos h2
      have a3 : skp (k + 1) (r + 1) = r + 1 := if_pos (by omega)
      rw [a1, a2, a3, a1]
    · have a2 : skp k r = r + 1 := if_neg h2
      have a3 : skp (k + 1) (r + 1) = r + 1 + 1 := if_neg (by omega)
      have a4 : skp i (r + 1) = r + 1 + 1 := if_neg (by omega)
      rw [a1, a2, a3, a4]
/-- Two neighbouring columns change places. -/
def swc (c : Nat) (A : Nat → Nat → Rat) : Nat → Nat → Rat := fun c' => if c' = c then A (c + 1) else if c' = c + 1 then A c else A c'
def tw (A : Nat → Nat → Rat) (u v : Nat → Rat) (n i k : Nat) : Rat := sgn i * sgn k * (u i * v (skp i k)) * dt n (fun c r => A (c + 2) (skp i (skp k r)))
theorem dt_two (n : Nat) (A : Nat → Nat → Rat) : dt (n + 2) A = sm (n + 2) (fun i => sm (n + 1) (fun k => tw A (A 0) (A 1) n i k)) := by
  rw [dt]
  apply sm_congr
  intro i _
  rw [dt, ← sm_mul]
  apply sm_congr
  intro k _
  unfold tw
  grind
theorem tw_anti (A : Nat → Nat → Rat) (u v : Nat → Rat) (n : Nat) {i k : Nat} (h : i ≤ k) : tw A v u n (k + 1) i = -(tw A u v n i k) := by
  unfold tw
  have e1 : skp (k + 1) i = i := by unfold skp; rw [if_pos (by omega)]
  have e2 : skp i k = k + 1 := by unfold skp; rw [if_neg (by omega)]
  have e3 : (fun c r => A (c + 2) (skp (k + 1) (skp i r))) = (fun c r => A (c + 2) (skp i (skp k r))) := by
    funext c r; rw [skp_skp h]
  rw [e1, e2, e3, sgn_succ]; grind
theorem dt_swap0 (n : Nat) (A : Nat → Nat → Rat) : dt (n + 2) (swc 0 A) = -(dt (n + 2) A) := by
  rw [dt_two, dt_two, sm_tri, sm_tri]
  have h0 : swc 0 A 0 = A 1 := by unfold swc; rfl
  have h1 : swc 0 A 1 = A 0 := by unfold swc; rfl
  have ht : ∀ u v i k, tw (swc 0 A) u v n i k = tw A u v n i k := fun u v i k => by
    unfold tw
    have : (fun c r => swc 0 A (c + 2) (skp i (skp k r))) = (fun c r => A (c + 2) (skp i (skp k r))) := by
      funext c r; unfold swc; rw [if_neg (by omega), if_neg (by omega)]
    rw [this]
  rw [h0, h1]
  have e1 : sm (n + 1) (fun i => sm (n + 1) (fun k => if i ≤ k then tw (swc 0 A) (A 1) (A 0) n (k + 1) i else 0)) = -(sm (n + 1) (fun i => sm (n + 1) (fun k => if i ≤ k then tw A (A 0) (A 1) n i k else 0))) := by
    rw [show -(sm (n + 1) (fun i => sm (n + 1) (fun k => if i ≤ k then tw A (A 0) (A 1) n i k else 0))) = (-1) * (sm (n + 1) (fun i => sm (n + 1) (fun k => if i ≤ k then tw A (A 0) (A 1) n i k else 0))) by grind, ← sm_mul]
    apply sm_congr; intro i _
    rw [← sm_mul]
    apply sm_congr; intro k _
    split
    · rename_i h; rw [ht, tw_anti A (A 0) (A 1) n h]; grind
    · grind
  have e2 : sm (n + 1) (fun i => sm (n + 1) (fun k => if i ≤ k then tw (swc 0 A) (A 1) (A 0) n i k else 0)) = -(sm (n + 1) (fun i => sm (n + 1) (fun k => if i ≤ k then tw A (A 0) (A 1) n (k + 1) i else 0))) := by
    rw [show -(sm (n + 1) (fun i => sm (n + 1) (fun k => if i ≤ k then tw A (A 0) (A 1) n (k + 1) i else 0))) = (-1) * (sm (n + 1) (fun i => sm (n + 1) (fun k => if i ≤ k then tw A (A 0) (A 1) n (k + 1) i else 0))) by grind, ← sm_mul]
    apply sm_congr; intro i _
    rw [← sm_mul]
    apply sm_congr; intro k _
    split
    · rename_i h; rw [ht, tw_anti A (A 1) (A 0) n h]; grind
    · grind
  rw [e1, e2]; grind
theorem dt_swap : ∀ (c n : Nat) (A : Nat → Nat → Rat), c + 1 < n → dt n (swc c A) = -(dt n A)
  | 0, n, A, h => by
    obtain ⟨m, rfl⟩ : ∃ m, n = m + 2 := ⟨n - 2, by omega⟩
    exact dt_swap0 m A
  | c + 1, n, A, h => by
    obtain ⟨m, rfl⟩ : ∃ m, n = m + 1 := ⟨n - 1, by omega⟩
    rw [dt, dt, show -(sm (m + 1) (fun i => sgn i * A 0 i * dt m (fun c r => A (c + 1) (skp i r)))) = (-1) * (sm (m + 1) (fun i => sgn i * A 0 i * dt m (fun c r => A (c + 1) (skp i r)))) by grind, ← sm_mul]
    apply sm_congr
    intro i _
    have h0 : swc (c + 1) A 0 = A 0 := by unfold swc; rw [if_neg (by omega), if_neg (by omega)]
    have e : (fun c' r => swc (c + 1) A (c' + 1) (skp i r)) = swc c (fun c' r => A (c' + 1) (skp i r)) := by
      funext c' r
      unfold swc
      by_cases h1 : c' = c
      · rw [if_pos (by omega), if_pos h1]
      · rw [if_neg (by omega), if_neg h1]
        by_cases h2 : c' = c + 1
        · rw [if_pos (by omega), if_pos h2]
        · rw [if_neg (by omega), if_neg h2]
    rw [h0, e, dt_swap c m _ (by omega)]; grind
/-- Two equal columns. -/
theorem dt_same : ∀ (k n : Nat) (A : Nat → Nat → Rat), k + 1 < n → A 0 = A (k + 1) → dt n A = 0
  | 0, n, A, h, e => by
    have h1 := dt_swap 0 n A h
    have h2 : swc 0 A = A := by
      funext c
      unfold swc
      by_cases h0 : c = 0
      · subst h0; rw [if_pos rfl]; exact e.symm
      · rw [if_neg h0]
        by_cases h1 : c = 0 + 1
        · subst h1; rw [if_pos rfl]; exact e
        · rw [if_neg h1]
    rw [h2] at h1
    grind
  | k + 1, n, A, h, e => by
    have h1 := dt_swap (k + 1) n A h
    have h2 := dt_same k n (swc (k + 1) A) (by omega) (by
      unfold swc
      rw [if_neg (by omega), if_neg (by omega), if_pos rfl]; exact e)
    rw [h2] at h1
    grind
/-- The minors of a matrix with one more row than columns. -/
def mu (n : Nat) (A : Nat → Nat → Rat) (i : Nat) : Rat := sgn i * dt n (fun c r => A c (skp i r))
theorem mu_null (n : Nat) (A : Nat → Nat → Rat) (k : Nat) (hk : k < n) : sm (n + 1) (fun i => mu n A i * A k i) = 0 := by
  have h := dt_same k (n + 1) (fun c => if c = 0 then A k else A (c - 1)) (by omega) (by
    show (if (0 : Nat) = 0 then A k else A (0 - 1)) = (if k + 1 = 0 then A k else A (k + 1 - 1))
    rw [if_pos rfl, if_neg (by omega), Nat.add_sub_cancel])
  rw [← h, dt]
  apply sm_congr
  intro i _
  unfold mu
  have e : (fun c r => (fun c => if c = 0 then A k else A (c - 1)) (c + 1) (skp i r)) = (fun c r => A c (skp i r)) := by
    funext c r
    show (if c + 1 = 0 then A k else A (c + 1 - 1)) (skp i r) = _
    rw [if_neg (by omega), Nat.add_sub_cancel]
  rw [e]
  show sgn i * dt n (fun c r => A c (skp i r)) * A k i = sgn i * (if (0 : Nat) = 0 then A k else A (0 - 1)) i * _
  rw [if_pos rfl]; grind
theorem dt_mu (n : Nat) (A : Nat → Nat → Rat) : dt (n + 1) A = sm (n + 1) (fun i => mu n (fun c => A (c + 1)) i * A 0 i) := by
  rw [dt]
  apply sm_congr
  intro i _
  unfold mu
  grind
theorem skp_onto {i j n : Nat} (hi : i < n + 1) (hj : j ≠ i) (hjn : j < n + 1) : ∃ r, r < n ∧ skp i r = j := by
  unfold skp
  by_cases h : j < i
  · exact ⟨j, by omega, by rw [if_pos h]⟩
  · exact ⟨j - 1, by omega, by rw [if_neg (by omega)]; omega⟩
/-- Independent columns have a determinant that is not 0. -/
theorem dt_ne : ∀ (n : Nat) (A : Nat → Nat → Rat), (∀ x : Nat → Rat, (∀ r, r < n → sm n (fun c => A c r * x c) = 0) → ∀ c, c < n → x c = 0) → dt n A ≠ 0
  | 0, A, _ => by rw [dt]; grind
  | n + 1, A, hA => by
    intro h0
    rw [dt_mu] at h0
    have hu : ∀ i, i < n + 1 → mu n (fun c => A (c + 1)) i = 0 := by
      have hf : (gj (n + 1) (fun r c => A c r) (n + 1)).2 = n + 1 := rank_full.2 hA
      rw [← rank_trp] at hf
      refine rank_full.1 hf (fun i => mu n (fun c => A (c + 1)) i) (fun c hc => ?_)
      show sm (n + 1) (fun i => A c i * mu n (fun c => A (c + 1)) i) = 0
      rw [sm_congr (g := fun i => mu n (fun c => A (c + 1)) i * A c i) (fun i _ => by grind)]
      by_cases hc0 : c = 0
      · subst hc0; exact h0
      · have := mu_null n (fun c => A (c + 1)) (c - 1) (by omega)
        rwa [show c - 1 + 1 = c by omega] at this
    obtain ⟨k, hk, w, hw, hne, _⟩ := nul_wide (m := n) (n := n + 1) (by omega) (fun c i => A (c + 1) i)
    have hm := hu k hk
    unfold mu at hm
    rcases Rat.mul_eq_zero.1 hm with h | h
    · exact sgn_ne k h
    refine dt_ne n _ (fun y hy => ?_) h
    have hrow : ∀ i, i < n + 1 → i ≠ k → sm n (fun c => A (c + 1) i * y c) = 0 := fun i hi hik => by
      obtain ⟨r, hr, rfl⟩ := skp_onto hk hik hi
      exact hy r hr
    have hk0 : sm n (fun c => A (c + 1) k * y c) = 0 := by
      have e : sm (n + 1) (fun i => w i * sm n (fun c => A (c + 1) i * y c)) = 0 := by
        rw [sm_congr (g := fun i => sm n (fun c => y c * (A (c + 1) i * w i))) (fun i _ => by rw [← sm_mul]; apply sm_congr; intro c _; grind), sm_comm]
        exact sm_zero' fun c hc => by rw [sm_mul, hw c hc]; grind
      rw [sm_single hk (fun i hi hik => by rw [hrow i hi hik]; grind)] at e
      rcases Rat.mul_eq_zero.1 e with h | h
      · exact absurd h hne
      · exact h
    have := hA (fun c => if c = 0 then 0 else y (c - 1)) (fun r hr => by
      rw [sm_first]
      have h1 : sm n (fun c => A (c + 1) r * (if c + 1 = 0 then 0 else y (c + 1 - 1))) = 0 := by
        rw [sm_congr (g := fun c => A (c + 1) r * y c) (fun c _ => by rw [if_neg (by omega), Nat.add_sub_cancel])]
        by_cases hrk : r = k
        · subst hrk; exact hk0
        · exact hrow r hr hrk
      rw [h1, if_pos rfl]; grind)
    intro c hc
    have := this (c + 1) (by omega)
    rwa [if_neg (by omega), Nat.add_sub_cancel] at this
def fct : Nat → Nat
  | 0 => 1
  | n + 1 => (n + 1) * fct n
theorem isn_dt {B : Nat} : ∀ {n : Nat} {A : Nat → Nat → Rat}, (∀ c r, c < n → r < n → Isn B (A c r)) → Isn (fct n * B ^ n) (dt n A)
  | 0, A, _ => ⟨1, by simp [dt], by simp [fct]⟩
  | n + 1, A, h => by
    rw [dt]
    have := isn_sm (n := n + 1) (B := 1 * B * (fct n * B ^ n)) (f := fun i => sgn i * A 0 i * dt n (fun c r => A (c + 1) (skp i r))) (fun i hi =>
      ((sgn_isn i).mul (h 0 i (by omega) hi)).mul (isn_dt (n := n) (fun c r hc hr => h (c + 1) (skp i r) (by omega) (skp_lt hr))))
    refine this.mono (Nat.le_of_eq ?_)
    rw [fct, Nat.pow_succ, Nat.one_mul]
    simp only [Nat.mul_assoc, Nat.mul_comm, Nat.mul_left_comm]
theorem isn_mu {B n : Nat} {A : Nat → Nat → Rat} (h : ∀ c r, c < n → r < n + 1 → Isn B (A c r)) (i : Nat) : Isn (fct n * B ^ n) (mu n A i) := by
  have := (sgn_isn i).mul (isn_dt (n := n) (A := fun c r => A c (skp i r)) (fun c r hc hr => h c (skp i r) hc (skp_lt hr)))
  rwa [Nat.one_mul] at this
/-- The first number of a solution. -/
theorem cram0 (n : Nat) (A : Nat → Nat → Rat) (b x : Nat → Rat) (hx : ∀ r, r < n + 1 → sm (n + 1) (fun c => A c r * x c) = b r) : x 0 * dt (n + 1) A = sm (n + 1) (fun i => mu n (fun c => A (c + 1)) i * b i) := by
  rw [sm_congr (f := fun i => mu n (fun c => A (c + 1)) i * b i) (g := fun i => sm (n + 1) (fun c => x c * (mu n (fun c => A (c + 1)) i * A c i))) (fun i hi => by
    rw [← hx i hi, ← sm_mul]; apply sm_congr; intro c _; grind), sm_comm]
  rw [sm_first, sm_zero' (f := fun i => sm (n + 1) (fun i_1 => x (i + 1) * (mu n (fun c => A (c + 1)) i_1 * A (i + 1) i_1))) (fun c hc => by
    rw [sm_mul, mu_null n (fun c => A (c + 1)) c hc]; grind), sm_mul, ← dt_mu]
  grind
/-- A column is brought to the front. -/
def cyc (j c : Nat) : Nat := if c = 0 then j else if c ≤ j then c - 1 else c
theorem cyc_lt {j c n : Nat} (hj : j < n) (hc : c < n) : cyc j c < n := by unfold cyc; split; omega; split <;> omega
theorem dt_cyc : ∀ (j n : Nat) (A : Nat → Nat → Rat), j < n → dt n (fun c => A (cyc j c)) = sgn j * dt n A
  | 0, n, A, _ => by
    have : (fun c => A (cyc 0 c)) = A := by
      funext c; unfold cyc
      by_cases h : c = 0
      · rw [if_pos h, h]
      · rw [if_neg h, if_neg (by omega)]
    rw [this]; unfold sgn; rw [if_pos rfl]; grind
  | j + 1, n, A, h => by
    have : (fun c => A (cyc (j + 1) c)) = (fun c => swc j A (cyc j c)) := by
      funext c; unfold cyc swc
      by_cases h0 : c = 0
      · rw [if_pos h0, if_pos h0, if_pos rfl]
      · rw [if_neg h0, if_neg h0]
        by_cases h1 : c ≤ j
        · rw [if_pos (by omega), if_pos h1, if_neg (by omega), if_neg (by omega)]
        · rw [if_neg h1]
          by_cases h2 : c = j + 1
          · subst h2
            rw [if_pos (by omega), if_neg (by omega), if_pos rfl, Nat.add_sub_cancel]
          · rw [if_neg (by omega), if_neg (by omega), if_neg h2]
    rw [this, dt_cyc j n _ (by omega), dt_swap j n A h, sgn_succ]; grind
theorem sm_swc {k n : Nat} (hk : k + 1 < n) (f : Nat → Rat) : sm n (fun c => if c = k then f (k + 1) else if c = k + 1 then f k else f c) = sm n f := by
  rw [sm_congr (g := fun c => f c + ((if c = k then f (k + 1) - f k else 0) + (if c = k + 1 then f k - f (k + 1) else 0))) (fun c _ => by
    by_cases h1 : c = k
    · subst h1; rw [if_pos rfl, if_pos rfl, if_neg (by omega)]; grind
    · rw [if_neg h1, if_neg h1]
      by_cases h2 : c = k + 1
      · subst h2; rw [if_pos rfl, if_pos rfl]; grind
      · rw [if_neg h2, if_neg h2]; grind), sm_add, sm_add]
  rw [sm_single (j := k) (by omega) (fun c _ hc => if_neg hc), sm_single (j := k + 1) hk (fun c _ hc => if_neg hc), if_pos rfl, if_pos rfl]
  grind
theorem sm_cyc : ∀ (j n : Nat) (f : Nat → Rat), j < n → sm n (fun c => f (cyc j c)) = sm n f
  | 0, n, f, _ => sm_congr fun c _ => by
    unfold cyc
    by_cases h : c = 0
    · rw [if_pos h, h]
    · rw [if_neg h, if_neg (by omega)]
  | j + 1, n, f, h => by
    have e1 := sm_cyc j n (fun c => if c = j then f (j + 1) else if c = j + 1 then f j else f c) (by omega)
    rw [sm_swc h f] at e1
    rw [← e1]
    apply sm_congr
    intro c _
    unfold cyc
    by_cases h0 : c = 0
    · rw [if_pos h0, if_pos h0, if_pos rfl]
    · rw [if_neg h0, if_neg h0]
      by_cases h1 : c ≤ j
      · rw [if_pos (by omega), if_pos h1, if_neg (by omega), if_neg (by omega)]
      · rw [if_neg h1]
        by_cases h2 : c = j + 1
        · subst h2
          rw [if_pos (by omega), if_neg (by omega), if_pos rfl, Nat.add_sub_cancel]
        · rw [if_neg (by omega), if_neg (by omega), if_neg h2]
/-- The numbers of a solution over one denominator. -/
theorem cramer (n : Nat) (A : Mx) (b x : Nat → Rat) (B : Nat) (hA : ∀ i k, i < n + 1 → k < n + 1 → Isn B (A i k)) (hb : ∀ i, i < n + 1 → Isn B (b i))
    (hx : ∀ i, i < n + 1 → sm (n + 1) (fun k => A i k * x k) = b i) (hn : ∀ y : Nat → Rat, (∀ i, i < n + 1 → sm (n + 1) (fun k => A i k * y k) = 0) → ∀ k, k < n + 1 → y k = 0) :
    ∃ D, D ≠ 0 ∧ Isn (fct (n + 1) * B ^ (n + 1)) D ∧ ∀ j, j < n + 1 → ∃ N, Isn (fct (n + 1) * B ^ (n + 1)) N ∧ x j * D = N := by
  refine ⟨dt (n + 1) (fun c r => A r c), dt_ne _ _ hn, isn_dt (fun c r hc hr => hA r c hr hc), fun j hj => ?_⟩
  have h := cram0 n (fun c r => A r (cyc j c)) b (fun c => x (cyc j c)) (fun r hr => by
    rw [← hx r hr]
    exact sm_cyc j (n + 1) (fun c => A r c * x c) hj)
  have hd := dt_cyc j (n + 1) (fun c r => A r c) hj
  have h0 : cyc j 0 = j := rfl
  rw [show (fun c r => A r (cyc j c)) = (fun c => (fun c r => A r c) (cyc j c)) from rfl, hd] at h
  have hN : Isn (fct (n + 1) * B ^ (n + 1)) (sm (n + 1) (fun i => mu n (fun c r => A r (cyc j (c + 1))) i * b i)) := by
    refine (isn_sm (n := n + 1) (B := fct n * B ^ n * B) (fun i hi => (isn_mu (fun c r hc hr => hA r _ hr (cyc_lt hj (by omega))) i).mul (hb i hi))).mono (Nat.le_of_eq ?_)
    rw [fct, Nat.pow_succ]
    simp only [Nat.mul_assoc, Nat.mul_comm, Nat.mul_left_comm]
  have hN2 := (sgn_isn j).mul hN
  rw [Nat.one_mul] at hN2
  refine ⟨_, hN2, ?_⟩
  have h' : x j * (sgn j * dt (n + 1) (fun c r => A r c)) = sm (n + 1) (fun i => mu n (fun c r => A r (cyc j (c + 1))) i * b i) := h
  rw [← h']
  have := sgn_sq j
  grind
end Go.Proofs.YtfdekppnilffeaaGreatDoor
end
section
set_option linter.unusedSimpArgs false
set_option linter.unusedVariables false
namespace Go.Proofs.YtfdekppnilffeaaGreatDoor
open Go.Lib

theorem cramer_scaled (n : Nat) (A : Mx) (b x s : Nat → Rat) (B : Nat) (hs : ∀ i, i < n + 1 → s i ≠ 0) (hA : ∀ i k, i < n + 1 → k < n + 1 → Isn B (s i * A i k)) (hb : ∀ i, i < n + 1 → Isn B (s i * b i))
    (hx : ∀ i, i < n + 1 → sm (n + 1) (fun k => A i k * x k) = b i) (hn : ∀ y : Nat → Rat, (∀ i, i < n + 1 → sm (n + 1) (fun k => A i k * y k) = 0) → ∀ k, k < n + 1 → y k = 0) :
    ∃ D, D ≠ 0 ∧ Isn (fct (n + 1) * B ^ (n + 1)) D ∧ ∀ j, j < n + 1 → ∃ N, Isn (fct (n + 1) * B ^ (n + 1)) N ∧ x j * D = N := by
  have hm : ∀ (y : Nat → Rat) i, sm (n + 1) (fun k => s i * A i k * y k) = s i * sm (n + 1) (fun k => A i k * y k) := fun y i => by
    rw [← sm_mul]; apply sm_congr; intro k _; grind
  refine cramer n (fun i k => s i * A i k) (fun i => s i * b i) x B hA hb (fun i hi => by rw [hm, hx i hi]) (fun y hy => hn y fun i hi => ?_)
  have := hy i hi
  rw [hm] at this
  rcases Rat.mul_eq_zero.1 this with h | h
  · exact absurd h (hs i hi)
  · exact h
theorem mkRat_mul_den (a : Int) {n : Nat} (hn : n ≠ 0) : mkRat a n * (n : Rat) = a := by
  have h : ((n : Nat) : Rat) ≠ 0 := by
    intro h; apply hn; exact_mod_cast h
  have h1 := Rat.mul_inv_cancel _ h
  rw [Rat.mkRat_eq_div, Rat.div_def]
  generalize ((n : Nat) : Rat) = q at *
  generalize ((a : Int) : Rat) = p at *
  grind
theorem frc_mkq {x : Rat} {z d : Int} (hd : d ≠ 0) (h : x * (d : Rat) = (z : Rat)) : ∃ m, x = mkq m z.natAbs d.natAbs := by
  have hn : d.natAbs ≠ 0 := by omega
  have hq : ((d.natAbs : Nat) : Rat) ≠ 0 := by
    intro h; apply hn; exact_mod_cast h
  have key : ∀ m : Bool, x * ((d.natAbs : Nat) : Rat) = ((if m then -(z.natAbs : Int) else (z.natAbs : Int) : Int) : Rat) → x = mkq m z.natAbs d.natAbs := fun m hm => by
    unfold mkq
    have h2 := mkRat_mul_den (if m then -(z.natAbs : Int) else (z.natAbs : Int)) hn
    rw [← h2] at hm
    have h3 := Rat.mul_inv_cancel _ hq
    generalize ((d.natAbs : Nat) : Rat) = q at *
    grind
  have hdn : ((d.natAbs : Nat) : Rat) = (((d.natAbs : Nat) : Int) : Rat) := (Rat.intCast_natCast _).symm
  rcases Int.natAbs_eq d with e1 | e1 <;> rcases Int.natAbs_eq z with e2 | e2
  · refine ⟨false, key false ?_⟩
    rw [hdn, ← e1, h]; simp only [Bool.false_eq_true, if_false]; rw [← e2]
  · refine ⟨true, key true ?_⟩
    rw [hdn, ← e1, h]; simp only [if_true]; rw [← e2]
  · refine ⟨true, key true ?_⟩
    have e3 : ((d.natAbs : Nat) : Int) = -d := by omega
    rw [hdn, e3, Rat.intCast_neg]
    simp only [if_true]
    rw [← e2, Rat.intCast_neg, ← h]; grind
  · refine ⟨false, key false ?_⟩
    have e3 : ((d.natAbs : Nat) : Int) = -d := by omega
    have e4 : ((z.natAbs : Nat) : Int) = -z := by omega
    rw [hdn, e3, Rat.intCast_neg]
    simp only [Bool.false_eq_true, if_false]
    rw [e4, Rat.intCast_neg, ← h]; grind
theorem frc_small {x D N : Rat} {M K : Nat} (hD : D ≠ 0) (h1 : Isn M D) (h2 : Isn M N) (h : x * D = N) (hK : M < 10 ^ K) (h0 : 0 < K) : Small K x := by
  obtain ⟨d, rfl, hd⟩ := h1
  obtain ⟨z, rfl, hz⟩ := h2
  have hd0 : d ≠ 0 := fun e => hD (by rw [e]; rfl)
  obtain ⟨m, rfl⟩ := frc_mkq hd0 h
  exact mkq_small (by omega) (nD_le _ _ h0 (Nat.lt_of_le_of_lt hz hK)) (nD_le _ _ h0 (Nat.lt_of_le_of_lt hd hK))
theorem small_num {K : Nat} {p : Rat} (h : Small K p) : p.num.natAbs ≤ 10 ^ K ∧ p.den ≤ 10 ^ K :=
  ⟨Nat.le_trans (Nat.le_of_lt (lt_pow_nDigits _)) (Nat.pow_le_pow_right (by omega) h.1), Nat.le_trans (Nat.le_of_lt (lt_pow_nDigits _)) (Nat.pow_le_pow_right (by omega) h.2)⟩
theorem dprd_ne (f : Nat → Rat) (n : Nat) : ((dprd f n : Nat) : Rat) ≠ 0 := by
  intro h
  have := dprd_pos f n
  have h2 : dprd f n = 0 := by exact_mod_cast h
  omega
/-- A solution's numbers take few digits. -/
theorem sol_small {n : Nat} {f : Mx} {b x : Nat → Rat} {S E : Nat} (hn : 0 < n) (hf : ∀ i k, i < n → k < n → Small S (f i k)) (hb : ∀ i, i < n → Small S (b i)) (hfull : (gj n f n).2 = n) (hx : ∀ i, i < n → mapp n f x i = b i)
    (hE : fct n * (10 ^ S * (10 ^ S) ^ n) ^ n < 10 ^ E) (hE0 : 0 < E) : ∀ j, j < n → Small E (x j) := by
  obtain ⟨n, rfl⟩ : ∃ m, n = m + 1 := ⟨n - 1, by omega⟩
  have hrow : ∀ i, i < n + 1 → ∀ k, k < n + 1 + 1 → Small S ((fun k => if k < n + 1 then f i k else b i) k) := fun i hi k hk => by
    show Small S (if k < n + 1 then f i k else b i)
    split
    · exact hf i k hi (by assumption)
    · exact hb i hi
  have hd : ∀ i, i < n + 1 → ∀ k, k < n + 1 + 1 → Isn (10 ^ S * (10 ^ S) ^ (n + 1)) (((dprd (fun k => if k < n + 1 then f i k else b i) (n + 1 + 1) : Nat) : Rat) * (if k < n + 1 then f i k else b i)) := fun i hi k hk =>
    isn_dprd (f := fun k => if k < n + 1 then f i k else b i) (fun q hq => (small_num (hrow i hi q hq)).2) k hk (small_num (hrow i hi k hk)).1
  obtain ⟨D, h1, h2, h3⟩ := cramer_scaled n f b x (fun i => ((dprd (fun k => if k < n + 1 then f i k else b i) (n + 1 + 1) : Nat) : Rat)) (10 ^ S * (10 ^ S) ^ (n + 1)) (fun i _ => dprd_ne _ _) (fun i k hi hk => by
    have := hd i hi k (by omega)
    rwa [if_pos hk] at this) (fun i hi => by
    have := hd i hi (n + 1) (by omega)
    rwa [if_neg (by omega)] at this) hx (rank_full.1 hfull)
  intro j hj
  obtain ⟨N, h4, h5⟩ := h3 j hj
  exact frc_small h1 h2 h4 h5 hE hE0
end Go.Proofs.YtfdekppnilffeaaGreatDoor
end
