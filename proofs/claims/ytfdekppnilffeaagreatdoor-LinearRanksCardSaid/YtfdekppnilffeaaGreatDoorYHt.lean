/-
  Numbers' texts under the reference's arithmetic; inverses and ranks of small matrices.
  Conditions: each theorem names its own.
-/
import Derived.Test.YtfdekppnilffeaaGreatDoorYHr
set_option linter.unusedSimpArgs false
set_option linter.unusedVariables false
set_option maxHeartbeats 1000000
namespace Go.Proofs.YtfdekppnilffeaaGreatDoor
open Go Go.Proofs Go.RowKit Go.Lib

section
variable {p q : Rat}
theorem radd_q (hp : Small 4000 p) (hq : Small 4000 q) (hr : Small 4000 (p + q)) (w : World) :
    Calls Tryz.prog 20 #[.string ⟨⟨qtext p⟩⟩, .string ⟨⟨qtext q⟩⟩] w (Ret fun v w' => v = .tuple ⟨[.string ⟨⟨qtext (p + q)⟩⟩, .int .i64 0]⟩ ∧ Below w.heap.size w w') :=
  (radd_calls _ _ (Nat.le_trans (qtext_len hp) (by omega)) (Nat.le_trans (qtext_len hq) (by omega)) w).mono (by rintro _ w' ⟨v, rfl, h, hB⟩; exact ⟨v, rfl, (h.text hp hq).ok hr, hB⟩)
end
theorem txs_get {n i : Nat} {f : Nat → Rat} (hi : i < n) : (strs (txs n f))[i]? = some (.string ⟨⟨qtext (f i)⟩⟩) := by
  rw [getS (by rw [txs_length]; exact hi), txs_getD hi]
theorem txs_set {n i : Nat} {f : Nat → Rat} {q : Rat} (hi : i < n) : (strs (txs n f)).set i (.string ⟨⟨qtext q⟩⟩) = strs (txs n (upd f i q)) := by
  apply List.ext_getElem?
  intro j
  by_cases hj : j < n
  · rw [txs_get hj, List.getElem?_set]
    by_cases e : i = j
    · subst e
      rw [if_pos rfl, if_pos (by rw [strs_len, txs_length]; exact hi), upd_same]
    · rw [if_neg e, txs_get hj, upd_ne _ _ (fun h => e h.symm)]
  · rw [List.getElem?_eq_none (by rw [List.length_set, strs_len, txs_length]; omega), List.getElem?_eq_none (by rw [strs_len, txs_length]; omega)]
/-- What the inverter answers, told by its error. -/
def InvC (n : Nat) (f : Mx) (v : Value) (e : Int) (w : World) : Prop :=
  ((gj n f n).2 ≠ n ∧ e = 17) ∨ ((gj n f n).2 = n ∧ e = 0 ∧ ∃ (x : Mx) (a : Option Addr) (c : Nat), (∀ i, i < n → ∀ j, j < n → mmul n f x i j = idn i j) ∧ (∀ i, i < n → ∀ j, j < n → Small 4000 (x i j)) ∧ v = .slice a n c ∧ SM w a (mtx n n x))
theorem InvC.stay {n : Nat} {f : Mx} {v : Value} {e : Int} {w w' : World} (h : InvC n f v e w) (hb : Below w.heap.size w w') : InvC n f v e w' := by
  rcases h with h | ⟨h1, h2, x, a, c, h3, h4, h5, h6⟩
  · exact .inl h
  · exact .inr ⟨h1, h2, x, a, c, h3, h4, h5, h6.stay hb⟩
theorem invc_of {n : Nat} {f : Mx} {v : Value} {w' : World} (h : ((gj n f n).2 ≠ n ∧ ∃ a c, v = .tuple ⟨[.slice a 0 c, .int .i64 17]⟩) ∨
      ((gj n f n).2 = n ∧ ∃ (x : Mx) (a : Option Addr) (c : Nat), (∀ i, i < n → ∀ j, j < n → mmul n f x i j = idn i j) ∧ (∀ i, i < n → ∀ j, j < n → Small 4000 (x i j)) ∧ v = .tuple ⟨[.slice a n c, .int .i64 0]⟩ ∧ SM w' a (mtx n n x))) :
    ∃ v' e, v = .tuple ⟨[v', .int .i64 e]⟩ ∧ InvC n f v' e w' := by
  rcases h with ⟨h, a, c, rfl⟩ | ⟨h, x, a, c, h1, h2, rfl, h3⟩
  · exact ⟨_, _, rfl, .inl ⟨h, rfl⟩⟩
  · exact ⟨_, _, rfl, .inr ⟨h, rfl, x, a, c, h1, h2, rfl, h3⟩⟩
theorem inv_small5 {n S : Nat} {f : Mx} (h0 : 0 < n) (hn : n ≤ 5) (hS0 : 0 < S) (hS : S ≤ 126) (hf : ∀ i, i < n → ∀ k, k < n → Small S (f i k)) :
    ∀ x : Mx, (∀ i, i < n → ∀ j, j < n → mmul n f x i j = idn i j) → (gj n f n).2 = n → ∀ i, i < n → ∀ j, j < n → Small 4000 (x i j) := fun x hx hF i hi j hj =>
  sol_small5 (b := fun i => idn i j) h0 hn hS hf (fun i _ => small_mono (idn_small i j) (by omega)) (fun t => x t j) (fun i hi => hx i hi j hj) hF i hi
theorem left_inv {n : Nat} {f x : Mx} (hF : (gj n f n).2 = n) (hx : ∀ i, i < n → ∀ j, j < n → mmul n f x i j = idn i j) : ∀ i, i < n → ∀ j, j < n → mmul n x f i j = idn i j := fun i hi j hj =>
  sol_same (f := f) (b := fun i => f i j) (x := fun t => mmul n x f t j) (y := fun t => idn t j) hF (fun i hi => by
    show mmul n f (mmul n x f) i j = f i j
    rw [← mul_assoc n n f x f i j, ← idn_mul hi f j]
    exact sm_congr fun t ht => by rw [hx i hi t ht]) (fun i hi => mul_idn hj f i) i hi
theorem rank_append {n : Nat} {f : Mx} {y : Nat → Rat} (h0 : 0 < n) (hy : ∀ j, j < n → y j = f 0 j + f (n - 1) j) : (gj (n + 1) (upd f n y) n).2 = (gj n f n).2 := by
  refine rank_nul (fun x => ⟨fun h i hi => ?_, fun h i hi => ?_⟩) n (Nat.le_refl _)
  · have := h i (by omega)
    rwa [upd_ne _ _ (by omega)] at this
  · by_cases e : i = n
    · subst e
      rw [upd_same, sm_congr (g := fun t => f 0 t * x t + f (i - 1) t * x t) (fun t ht => by rw [hy t ht, Rat.add_mul]), sm_add, h 0 h0, h (i - 1) (by omega)]
      decide +kernel
    · rw [upd_ne _ _ e]
      exact h i (by omega)
theorem nownN_calls (n : Nat) (y : Nat → Rat) (a : Option Addr) (c : Nat) (w : World) (hl : Lit w (.slice a n c) (txs n y)) (hn : n ≤ 64) :
    Calls Tryz.prog 28 #[.slice a n c] w (Ret fun v w' => (∃ a' c', v = .slice a' n c' ∧ w'.ownsRow w.heap.size 34 1 (.slice a' n c') n (strs (txs n y))) ∧ Below w.heap.size w w') := by
  have := nown_calls (txs n y) a c w hl.sl.1 (by rw [txs_length]; omega)
  rwa [txs_length] at this
theorem mownN_calls (n : Nat) (f : Mx) (a : Option Addr) (c : Nat) (w : World) (hs : SM w a (mtx n n f)) (hn : n ≤ 64) :
    Calls Tryz.prog 29 #[.slice a n c] w (Ret fun v w' => (∃ a' c', v = .slice a' n c' ∧ OwnM w' w.heap.size a' c' (mtx n n f)) ∧ Below w.heap.size w w') := by
  have := xown_calls (mtx n n f) a c w hs ⟨by rw [mtx_length]; omega, fun i hi => by rw [mtx_length] at hi; rw [mtx_len hi]; omega⟩
  rwa [mtx_length] at this
end Go.Proofs.YtfdekppnilffeaaGreatDoor
