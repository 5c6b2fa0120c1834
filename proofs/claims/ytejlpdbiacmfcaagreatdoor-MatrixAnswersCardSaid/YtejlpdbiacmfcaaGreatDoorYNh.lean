/-
  Plain parts of the walks of fit and Spread: right sides as they are filled, rows of the normal matrix in memory.
  No conditions: each theorem names its own premises.
  Numbers' texts under the reference's arithmetic; inverses and ranks of small matrices.
  Conditions: each theorem names its own.
-/
import Derived.Test.YtejlpdbiacmfcaaGreatDoorYNd
import Derived.Test.YtejlpdbiacmfcaaGreatDoorYGg
set_option linter.unusedSimpArgs false
set_option linter.unusedVariables false
namespace Go.Proofs.YtejlpdbiacmfcaaGreatDoor
section
set_option maxHeartbeats 1000000
open Go Go.Proofs Go.RowKit Go.Lib

def bls (n i : Nat) (r : Nat → Rat) : List Tx := (List.range n).map fun j => if j < i then qtext (r j) else []
def blsP (n i : Nat) (r : Nat → Rat) (t : Tx) : List Tx := (List.range n).map fun j => if j < i then qtext (r j) else if j = i then t else []
theorem bls_zero (n : Nat) (r : Nat → Rat) : List.replicate n (Value.string ⟨#[]⟩) = strs (bls n 0 r) := by
 unfold strs bls
 apply List.ext_getElem?
 intro i
 by_cases h : i < n
 ·simp [h]
 ·simp [h]
theorem strs_lenb (n i : Nat) (r : Nat → Rat) (t : Tx) : (strs (blsP n i r t)).length = n ∧ (strs (bls n i r)).length = n := by simp [strs, bls, blsP]
theorem bls_set {n i : Nat} (h : i < n) (r : Nat → Rat) (t : Tx) : (strs (bls n i r)).set i (.string ⟨⟨t⟩⟩) = strs (blsP n i r t) := by
 apply List.ext_getElem?
 intro j
 by_cases hj : j < n
 ·by_cases e : i = j
  ·subst e
   rw [List.getElem?_set_self (by rw [(strs_lenb n i r []).2]; exact h)]
   simp [strs, blsP, h]
  ·rw [List.getElem?_set_ne e]
   have : ¬ j = i := fun h => e h.symm
   simp [strs, bls, blsP, hj, this]
 ·rw [List.getElem?_eq_none (by rw [List.length_set, (strs_lenb n i r []).2]; omega), List.getElem?_eq_none (by rw [(strs_lenb n i r t).1]; omega)]
theorem blsP_set {n i : Nat} (h : i < n) (r : Nat → Rat) (t t' : Tx) : (strs (blsP n i r t)).set i (.string ⟨⟨t'⟩⟩) = strs (blsP n i r t') := by
 rw [← bls_set h r t, List.set_set, bls_set h]
theorem blsP_end {n i : Nat} (r : Nat → Rat) : blsP n i r (qtext (r i)) = bls n (i + 1) r := by
 unfold bls blsP
 apply List.map_congr_left
 intro j hj
 by_cases h1 : j < i
 ·rw [if_pos h1, if_pos (by omega)]
 ·by_cases h2 : j = i
  ·subst h2; rw [if_neg h1, if_pos rfl, if_pos (by omega)]
  ·rw [if_neg h1, if_neg h2, if_neg (by omega)]
theorem bls_end (n : Nat) (r : Nat → Rat) : bls n n r = txs n r := by
 unfold bls txs
 apply List.map_congr_left
 intro j hj
 rw [if_pos (List.mem_range.1 hj)]
theorem blsP_get {n i : Nat} (h : i < n) (r : Nat → Rat) (t : Tx) : (strs (blsP n i r t))[i]? = some (.string ⟨⟨t⟩⟩) := by
 simp [strs, blsP, h]
def RowsT (w : World) (gb lim n i : Nat) (A : Nat → Option Addr) (f : Nat → Nat → Rat) : Prop := ∀ j, j < i → Sl w (A j) (strs (txs n (f j))) ∧ ∀ g, ab (A j) = some g → gb < g ∧ g < lim ∧ Tg w 35 g
theorem RowsT.none (w : World) (gb lim n : Nat) (A : Nat → Option Addr) (f : Nat → Nat → Rat) : RowsT w gb lim n 0 A f := fun j hj => absurd hj (by omega)
theorem RowsT.stay {w w' : World} {gb lim n i : Nat} {A : Nat → Option Addr} {f : Nat → Nat → Rat} (h : RowsT w gb lim n i A f) (hb : Below w.heap.size w w') : RowsT w' gb lim n i A f := fun j hj =>
 ⟨(h j hj).1.stay hb, fun g hg => ⟨((h j hj).2 g hg).1, ((h j hj).2 g hg).2.1, ((h j hj).2 g hg).2.2.below hb⟩⟩
theorem RowsT.grown {w w' : World} {gb lim n i : Nat} {A : Nat → Option Addr} {f : Nat → Nat → Rat} {row : Option Nat} (h : RowsT w gb lim n i A f) (hg : w.grownBy w' row) (hr : ∀ g, row = some g → g ≤ gb ∨ lim ≤ g ∨ ∃ t, Nat.beq 35 t = false ∧ Tg w t g) : RowsT w' gb lim n i A f := fun j hj => by
 have hne : ∀ g, ab (A j) = some g → row ≠ some g := fun g hg' e => by
  obtain ⟨h1, h2, h3⟩ := (h j hj).2 g hg'
  rcases hr g e with h4 | h4 | ⟨t, ht, h4⟩
  ·omega
  ·omega
  ·exact h3.ne h4 ht rfl
 exact ⟨(h j hj).1.keep hg hne, fun g hg' => ⟨((h j hj).2 g hg').1, ((h j hj).2 g hg').2.1, ((h j hj).2 g hg').2.2.grown hg (hne g hg')⟩⟩
theorem RowsT.lim {w : World} {gb lim lim' n i : Nat} {A : Nat → Option Addr} {f : Nat → Nat → Rat} (h : RowsT w gb lim n i A f) (hl : lim ≤ lim') : RowsT w gb lim' n i A f := fun j hj =>
 ⟨(h j hj).1, fun g hg => ⟨((h j hj).2 g hg).1, Nat.lt_of_lt_of_le ((h j hj).2 g hg).2.1 hl, ((h j hj).2 g hg).2.2⟩⟩
theorem RowsT.snoc {w : World} {gb lim n i : Nat} {A : Nat → Option Addr} {f : Nat → Nat → Rat} (h : RowsT w gb lim n i A f) (hs : Sl w (A i) (strs (txs n (f i)))) (hg : ∀ g, ab (A i) = some g → gb < g ∧ g < lim ∧ Tg w 35 g) : RowsT w gb lim n (i + 1) A f := fun j hj => by
 rcases Nat.lt_succ_iff_lt_or_eq.1 hj with h' | rfl
 ·exact h j h'
 ·exact ⟨hs, hg⟩
theorem RowsT.congr {w : World} {gb lim n i : Nat} {A A' : Nat → Option Addr} {f : Nat → Nat → Rat} (h : RowsT w gb lim n i A f) (hA : ∀ j, j < i → A' j = A j) : RowsT w gb lim n i A' f := fun j hj => by rw [hA j hj]; exact h j hj
def lenK (n i k j : Nat) : Nat := if j < i then n else if j = i then k else 0
theorem lenK_end (n i j : Nat) : lenK n i n j = lenK n (i + 1) 0 j := by
 unfold lenK
 by_cases h1 : j < i
 ·rw [if_pos h1, if_pos (by omega)]
 ·by_cases h2 : j = i
  ·rw [if_neg h1, if_pos h2, if_pos (by omega)]
  ·rw [if_neg h1, if_neg h2, if_neg (by omega)]
   split <;> rfl
theorem lenK_upd (n i k : Nat) : ∀ j, upd (lenK n i k) i (k + 1) j = lenK n i (k + 1) j := fun j => by
 unfold lenK
 by_cases h : j = i
 ·subst h; rw [upd_same, if_neg (by omega), if_pos rfl]
 ·rw [upd_ne _ _ h, if_neg h, if_neg h]
theorem lenK_all {n j : Nat} (h : j < n) : lenK n n 0 j = n := by unfold lenK; rw [if_pos h]
theorem vws_len {n : Nat} {A : Nat → Option Addr} {L L' C : Nat → Nat} (h : ∀ j, L j = L' j) : vws n A L C = vws n A L' C := by
 have : L = L' := funext h
 rw [this]
theorem rowsT_sm {w : World} {gb lim n go : Nat} {A : Nat → Option Addr} {C : Nat → Nat} {f : Nat → Nat → Rat} (ho : Sl w (some ⟨go, 0, none⟩) (vws n A (lenK n n 0) C)) (h : RowsT w gb lim n n A f) : SM w (some ⟨go, 0, none⟩) (mtx n n f) := by
 refine ⟨A, C, ?_, fun i hi => ?_⟩
 ·have e : srws (mtx n n f) A C = vws n A (lenK n n 0) C := by
   unfold srws vws
   rw [mtx_length]
   apply List.map_congr_left
   intro j hj
   have := List.mem_range.1 hj
   rw [mtx_len this, lenK_all this]
  rw [e]; exact ho
 ·rw [mtx_length] at hi
  rw [mtx_row hi]
  exact (h i hi).1
theorem lenK_zero (n j : Nat) : lenK n 0 0 j = 0 := by unfold lenK; rw [if_neg (by omega)]; split <;> rfl
theorem strs_txs_snoc (k : Nat) (f : Nat → Rat) : strs (txs k f) ++ [.string ⟨⟨qtext (f k)⟩⟩] = strs (txs (k + 1) f) := by
 rw [txs_snoc, strs, strs, List.map_append]; rfl
theorem bits_prod {rows : List (List Int)} (h : Bits rows) (i k j : Nat) : 0 ≤ (irow rows j).getD i 0 * (irow rows j).getD k 0 ∧ (irow rows j).getD i 0 * (irow rows j).getD k 0 ≤ 1 := by
 rcases h j i with h1 | h1 <;> rcases h j k with h2 | h2 <;> rw [h1, h2] <;> omega
structure SysP (rows : List (List Int)) (n : Nat) (b : Nat → Rat) : Prop where
 h0 : 0 < n
 hn : n ≤ 7
 hl0 : 0 < rows.length
 hl : rows.length ≤ 13
 hrow : ∀ i, i < rows.length → (irow rows i).length = n
 bits : Bits rows
 reg : (gj n (nrm rows) n).2 = n
 sol : ∀ x, (∀ i, i < n → mapp n (nrm rows) x i = b i) → ∀ i, i < n → Small 4000 (x i)
 b : ∀ i, i < n → Small 15 (b i)
theorem SysP.nrm {rows : List (List Int)} {n : Nat} {b : Nat → Rat} (P : SysP rows n b) (i k : Nat) : Small 15 (nrm rows i k) := by
 rw [nrm_int]
 have := dotC_le P.bits i k rows.length
 have := P.hl
 exact small_int (by omega) (by omega)
def FitR (rows : List (List Int)) (n : Nat) (b : Nat → Rat) (v : Value) (w : World) : Prop := SolC n (Go.Proofs.YtejlpdbiacmfcaaGreatDoor.nrm rows) b v w
theorem lit_txs {w : World} {g n c : Nat} {f : Nat → Rat} (h : Sl w (some ⟨g, 0, none⟩) (strs (txs n f))) : Lit w (.slice (some ⟨g, 0, none⟩) n c) (txs n f) := ⟨_, c, by rw [txs_length], h⟩
end
section
set_option maxHeartbeats 1000000
open Go Go.Proofs Go.RowKit Go.Lib

section
variable {p q : Rat}
theorem radd_q (hp : Small 4000 p) (hq : Small 4000 q) (hr : Small 4000 (p + q)) (w : World) :
  Calls Tryz.prog 23 #[.string ⟨⟨qtext p⟩⟩, .string ⟨⟨qtext q⟩⟩] w (Ret fun v w' => v = .tuple ⟨[.string ⟨⟨qtext (p + q)⟩⟩, .int .i64 0]⟩ ∧ Below w.heap.size w w') :=
 (radd_calls _ _ (Nat.le_trans (qtext_len hp) (by omega)) (Nat.le_trans (qtext_len hq) (by omega)) w).mono (by rintro _ w' ⟨v, rfl, h, hB⟩; exact ⟨v, rfl, (h.text hp hq).ok hr, hB⟩)
theorem rmul_q (hp : Small 4000 p) (hq : Small 4000 q) (hr : Small 4000 (p * q)) (w : World) :
  Calls Tryz.prog 67 #[.string ⟨⟨qtext p⟩⟩, .string ⟨⟨qtext q⟩⟩] w (Ret fun v w' => v = .tuple ⟨[.string ⟨⟨qtext (p * q)⟩⟩, .int .i64 0]⟩ ∧ Below w.heap.size w w') :=
 (rmul_calls _ _ (Nat.le_trans (qtext_len hp) (by omega)) (Nat.le_trans (qtext_len hq) (by omega)) w).mono (by rintro _ w' ⟨v, rfl, h, hB⟩; exact ⟨v, rfl, (h.text hp hq).ok hr, hB⟩)
end
theorem txs_get {n i : Nat} {f : Nat → Rat} (hi : i < n) : (strs (txs n f))[i]? = some (.string ⟨⟨qtext (f i)⟩⟩) := by
 rw [getS (by rw [txs_length]; exact hi), txs_getD hi]
def InvC (n : Nat) (f : Mx) (v : Value) (e : Int) (w : World) : Prop :=
 ((gj n f n).2 ≠ n ∧ e = 17) ∨ ((gj n f n).2 = n ∧ e = 0 ∧ ∃ (x : Mx) (a : Option Addr) (c : Nat), (∀ i, i < n → ∀ j, j < n → mmul n f x i j = idn i j) ∧ (∀ i, i < n → ∀ j, j < n → Small 4000 (x i j)) ∧ v = .slice a n c ∧ SM w a (mtx n n x))
theorem InvC.stay {n : Nat} {f : Mx} {v : Value} {e : Int} {w w' : World} (h : InvC n f v e w) (hb : Below w.heap.size w w') : InvC n f v e w' := by
 rcases h with h | ⟨h1, h2, x, a, c, h3, h4, h5, h6⟩
 ·exact .inl h
 ·exact .inr ⟨h1, h2, x, a, c, h3, h4, h5, h6.stay hb⟩
end
end Go.Proofs.YtejlpdbiacmfcaaGreatDoor
