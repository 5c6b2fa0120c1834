/-
  A row of fractions with one element replaced.

  What reduce needs of plain things: how great its numbers grow; a row of a matrix is replaced.
  No conditions: each theorem names its own premises.

  What the functions of package linear answer, as plain relations between texts; each is settled by its arguments.
  No conditions: each theorem names its own premises.

  The spreads of the strategies, and what an exact histogram's answers are.
  No conditions: each theorem names its own premises.

  The spread of a range by the cells, by the prefixes, and its bounds by the tree.
  No conditions: each theorem names its own premises.

  The norms of the strategies.
  No conditions: each theorem names its own premises.
-/
import Derived.Test.YtejlpdbiacmfcaaGreatDoorYLb
import Derived.Test.YtejlpdbiacmfcaaGreatDoorYVe
section
set_option linter.unusedSimpArgs false
set_option linter.unusedVariables false
set_option maxHeartbeats 1000000
namespace Go.Proofs.YtejlpdbiacmfcaaGreatDoor
open Go Go.Proofs Go.RowKit Go.Lib

theorem els_length {cs vs : List Value} {j : Nat} (h : j * 3 + 3 ≤ cs.length) (hv : vs.length = 3) : (els cs j vs).length = cs.length := by
  unfold els
  simp only [List.length_append, List.length_take, List.length_drop]; omega
theorem els_get {cs vs : List Value} {j q : Nat} (h : j * 3 + 3 ≤ cs.length) (hv : vs.length = 3) : (els cs j vs)[q]? = if q < j * 3 then cs[q]? else if q < j * 3 + 3 then vs[q - j * 3]? else cs[q]? := by
  unfold els
  have h1 : (cs.take (j * 3)).length = j * 3 := by rw [List.length_take]; omega
  have h2 : (cs.take (j * 3) ++ vs).length = j * 3 + 3 := by rw [List.length_append, h1, hv]
  by_cases ha : q < j * 3
  · rw [if_pos ha, List.getElem?_append_left (by omega), List.getElem?_append_left (by omega), List.getElem?_take, if_pos ha]
  · rw [if_neg ha]
    by_cases hb : q < j * 3 + 3
    · rw [if_pos hb, List.getElem?_append_left (by omega), List.getElem?_append_right (by omega), h1]
    · rw [if_neg hb, List.getElem?_append_right (by omega), h2, List.getElem?_drop]
      congr 1; omega
theorem el_els {cs vs : List Value} {j i : Nat} (h : j * 3 + 3 ≤ cs.length) (hv : vs.length = 3) (hi : i * 3 + 3 ≤ cs.length) : el (els cs j vs) i = if i = j then vs else el cs i := by
  apply List.ext_getElem?
  intro q
  by_cases hq : q < 3
  · unfold el
    rw [List.getElem?_take, if_pos hq, List.getElem?_drop, els_get h hv]
    by_cases hij : i = j
    · subst hij
      rw [if_neg (by omega), if_pos (by omega), if_pos rfl]
      congr 1; omega
    · rw [if_neg hij, List.getElem?_take, if_pos hq, List.getElem?_drop]
      by_cases hlt : i < j
      · rw [if_pos (by omega)]
      · rw [if_neg (by omega), if_neg (by omega)]
  · rw [List.getElem?_eq_none (by rw [el_length (by rw [els_length h hv]; exact hi)]; omega)]
    split
    · rw [List.getElem?_eq_none (by omega)]
    · rw [List.getElem?_eq_none (by rw [el_length hi]; omega)]
theorem Els.set {w : World} {cs vs : List Value} {n j : Nat} {f : Nat → Rat} {x : Rat} (h : Els w cs n f) (hj : j < n) (hx : FQ w (.agg ⟨vs⟩) x) (hv : vs.length = 3) : Els w (els cs j vs) n (upd f j x) := by
  have hl : j * 3 + 3 ≤ cs.length := by rw [h.1]; omega
  refine ⟨by rw [els_length hl hv]; exact h.1, fun i hi => ?_⟩
  rw [el_els hl hv (by rw [h.1]; omega)]
  by_cases hij : i = j
  · subst hij; rw [if_pos rfl, upd_same]; exact hx
  · rw [if_neg hij, upd_ne _ _ hij]; exact h.2 i hi
end Go.Proofs.YtejlpdbiacmfcaaGreatDoor
end
section
set_option linter.unusedSimpArgs false
set_option linter.unusedVariables false
set_option maxHeartbeats 1000000
namespace Go.Proofs.YtejlpdbiacmfcaaGreatDoor
open Go Go.Proofs Go.RowKit Go.Lib

theorem Own2.congr {w : World} {base n : Nat} {A : Nat → Option Addr} {L C : Nat → Nat} {f g : Nat → Nat → Rat} (h : Own2 w base n A L C f) (he : ∀ i, i < n → ∀ t, t < L i → f i t = g i t) : Own2 w base n A L C g :=
  ⟨fun j hj => by
    obtain ⟨cs, h1, h2⟩ := h.1 j hj
    exact ⟨cs, h1, h2.congr (he j hj)⟩, h.2⟩
/-- A row's numbers are replaced where they lie. -/
theorem Own2.put {w w' : World} {base n k : Nat} {A : Nat → Option Addr} {L C : Nat → Nat} {f : Nat → Nat → Rat} {f' : Nat → Rat} {cs' : List Value} (h : Own2 w base n A L C f) (hk : k < n) (hg : w.grownBy w' (ab (A k)))
    (ho : w'.ownsRow base 76 3 (.slice (A k) (L k) (C k)) (L k) cs') (he : Els w' cs' (L k) f') : Own2 w' base n A L C (upd f k f') := by
  obtain ⟨csk, hok, hek⟩ := h.1 k hk
  have htag := own_tag hok
  refine ⟨fun j hj => ?_, h.2⟩
  by_cases hjk : j = k
  · subst hjk; rw [upd_same]; exact ⟨cs', ho, he⟩
  · rw [upd_ne _ _ hjk]
    obtain ⟨cs, h1, h2⟩ := h.1 j hj
    exact ⟨cs, own_keep h1 hg (fun g hga e => h.2 j k hj hk hjk g hga e), h2.push hg htag⟩
/-- Two rows change places. -/
theorem Own2.swap {w : World} {base m n r i : Nat} {A : Nat → Option Addr} {C : Nat → Nat} {f : Nat → Nat → Rat} (h : Own2 w base m A (fun _ => n) C f) (hr : r < m) (hi : i < m) :
    Own2 w base m (upd (upd A r (A i)) i (A r)) (fun _ => n) (upd (upd C r (C i)) i (C r)) (swp r i f) := by
  have key : ∀ j, ∃ j', (j < m → j' < m) ∧ upd (upd A r (A i)) i (A r) j = A j' ∧ upd (upd C r (C i)) i (C r) j = C j' ∧ swp r i f j = f j' ∧ j' = (if j = i then r else if j = r then i else j) := by
    intro j
    refine ⟨if j = i then r else if j = r then i else j, ?_, ?_, ?_, ?_, rfl⟩
    · intro hj; split
      · exact hr
      · split
        · exact hi
        · exact hj
    · unfold upd; split
      · rfl
      · split <;> rfl
    · unfold upd; split
      · rfl
      · split <;> rfl
    · unfold swp
      by_cases h1 : j = i
      · subst h1
        rw [if_pos rfl, if_pos rfl]
        split
        · rename_i h2; rw [h2]
        · rfl
      · rw [if_neg h1, if_neg h1]
        split <;> rfl
  refine ⟨fun j hj => ?_, fun j j' hj hj' hne g hga hga' => ?_⟩
  · obtain ⟨q, h1, h2, h3, h4, _⟩ := key j
    rw [h2, h3, h4]; exact h.1 q (h1 hj)
  · obtain ⟨q, h1, h2, _, _, hq⟩ := key j
    obtain ⟨q', h1', h2', _, _, hq'⟩ := key j'
    rw [h2] at hga
    rw [h2'] at hga'
    refine h.2 q q' (h1 hj) (h1' hj') ?_ g hga hga'
    rw [hq, hq']
    split <;> split <;> (try split) <;> (try split) <;> omega

/-- How great the numbers grow. -/
def grw : Nat → Nat → Nat
  | 0, L => L
  | k + 1, L => 4 * grw k L + 1
theorem small_elm {K : Nat} {x y z p : Rat} (hx : Small K x) (hy : Small K y) (hz : Small K z) (hp : Small K p) (h0 : p ≠ 0) : Small (4 * K + 1) (x + y * p⁻¹ * (-z)) :=
  small_mono (small_add hx (small_mul (small_mul hy (small_inv h0 hp)) (small_neg hz))) (by omega)
theorem gj_small {m n : Nat} {f : Mx} {L : Nat} (h : ∀ i t, i < m → t < n → Small L (f i t)) : ∀ k, k ≤ n → ∀ i t, i < m → t < n → Small (grw k L) ((gj m f k).1 i t)
  | 0, _ => h
  | k + 1, hk => by
    have ih := gj_small h k (by omega)
    have hle := gj_le m f k
    rw [gj, gstep, grw]
    generalize gj m f k = s at *
    obtain ⟨g, r⟩ := s
    simp only at *
    split
    · exact fun i t hi ht => small_mono (ih i t hi ht) (by omega)
    · rename_i q hq
      obtain ⟨e1, e2, e3, _⟩ := piv_some hq
      intro i t hi ht
      simp only
      unfold gnew elm
      have hsw : ∀ a, a < m → ∀ t, t < n → Small (grw k L) (swp r q g a t) := fun a ha t ht => by
        unfold swp
        split
        · exact ih q t e2 ht
        · split
          · exact ih r t (by omega) ht
          · exact ih a t ha ht
      have hp := ih q k e2 (by omega)
      split
      · unfold scl
        rw [if_pos rfl]
        exact small_mono (small_mul (hsw r (by omega) t ht) (small_inv e3 hp)) (by omega)
      · rename_i hne
        unfold scl
        rw [if_pos rfl, if_neg hne, if_neg hne]
        exact small_elm (hsw i hi t ht) (hsw r (by omega) t ht) (hsw i hi k (by omega)) hp e3
theorem grw_mono (L : Nat) : ∀ {j k : Nat}, j ≤ k → grw j L ≤ grw k L
  | j, 0, h => by obtain rfl : j = 0 := by omega
                  exact Nat.le_refl _
  | j, k + 1, h => by
    by_cases hj : j = k + 1
    · subst hj; exact Nat.le_refl _
    · have := grw_mono L (j := j) (k := k) (by omega)
      rw [grw]; omega
/-- Where all rows have been used, nothing changes any more. -/
theorem gj_stop {m k : Nat} {f : Mx} (h : (gj m f k).2 = m) : ∀ c, gj m f (k + c) = gj m f k
  | 0 => rfl
  | c + 1 => by
    rw [← Nat.add_assoc, gj, gj_stop h c, gstep]
    have : piv m (k + c) (gj m f k).1 (gj m f k).2 = none := by
      rw [h]; unfold piv; rw [Nat.sub_self]; rfl
    rw [this]
end Go.Proofs.YtejlpdbiacmfcaaGreatDoor
end
section
set_option linter.unusedSimpArgs false
set_option linter.unusedVariables false
set_option maxHeartbeats 1000000
namespace Go.Proofs.YtejlpdbiacmfcaaGreatDoor
open Go Go.Proofs Go.RowKit Go.Lib

abbrev Tx := List UInt8
/-- The texts of a vector, or the error. -/
def TxtS (n : Nat) (f : Nat → Rat) (ys : List Tx) (e : Int) : Prop :=
  ((∃ i, i < n ∧ ¬ Small 4000 (f i)) ∧ ys = [] ∧ e = 5) ∨ ((∀ i, i < n → Small 4000 (f i)) ∧ ys = txs n f ∧ e = 0)
theorem txs_congr {n : Nat} {f g : Nat → Rat} (h : ∀ i, i < n → f i = g i) : txs n f = txs n g := by
  unfold txs
  apply List.map_congr_left
  intro i hi
  rw [h i (List.mem_range.1 hi)]
theorem TxtS.uniq {n : Nat} {f g : Nat → Rat} {ys zs : List Tx} {e e' : Int} (h : TxtS n f ys e) (h' : TxtS n g zs e') (hfg : ∀ i, i < n → f i = g i) : ys = zs ∧ e = e' := by
  rcases h with ⟨⟨i, hi, h1⟩, rfl, rfl⟩ | ⟨h1, rfl, rfl⟩ <;> rcases h' with ⟨⟨j, hj, g1⟩, rfl, rfl⟩ | ⟨g1, rfl, rfl⟩
  · exact ⟨rfl, rfl⟩
  · exact absurd (by rw [hfg i hi]; exact g1 i hi) h1
  · exact absurd (by rw [← hfg j hj]; exact h1 j hj) g1
  · exact ⟨txs_congr hfg, rfl⟩
/-- The texts of a matrix, or the error. -/
def MtxS (m n : Nat) (f : Nat → Nat → Rat) (ys : List (List Tx)) (e : Int) : Prop :=
  ((∃ i, i < m ∧ ∃ k, k < n ∧ ¬ Small 4000 (f i k)) ∧ ys = [] ∧ e = 5) ∨ ((∀ i, i < m → ∀ k, k < n → Small 4000 (f i k)) ∧ ys = mtx m n f ∧ e = 0)
theorem mtx_congr {m n : Nat} {f g : Nat → Nat → Rat} (h : ∀ i, i < m → ∀ k, k < n → f i k = g i k) : mtx m n f = mtx m n g := by
  unfold mtx
  apply List.map_congr_left
  intro i hi
  exact txs_congr (h i (List.mem_range.1 hi))
theorem MtxS.uniq {m n : Nat} {f g : Nat → Nat → Rat} {ys zs : List (List Tx)} {e e' : Int} (h : MtxS m n f ys e) (h' : MtxS m n g zs e') (hfg : ∀ i, i < m → ∀ k, k < n → f i k = g i k) : ys = zs ∧ e = e' := by
  rcases h with ⟨⟨i, hi, k, hk, h1⟩, rfl, rfl⟩ | ⟨h1, rfl, rfl⟩ <;> rcases h' with ⟨⟨j, hj, q, hq, g1⟩, rfl, rfl⟩ | ⟨g1, rfl, rfl⟩
  · exact ⟨rfl, rfl⟩
  · exact absurd (by rw [hfg i hi k hk]; exact g1 i hi k hk) h1
  · exact absurd (by rw [← hfg j hj q hq]; exact h1 j hj q hq) g1
  · exact ⟨mtx_congr hfg, rfl⟩
/-- A list of texts and an error come back. -/
def VOut (ys : List Tx) (e : Int) (v : Value) (w : World) : Prop := ∃ a c, v = .tuple ⟨[.slice a ys.length c, .int .i64 e]⟩ ∧ Sl w a (strs ys) ∧ ys.length ≤ c ∧ ∀ g, ab a = some g → g < w.heap.size
/-- A list of lists of texts and an error come back. -/
def MOut (ys : List (List Tx)) (e : Int) (v : Value) (w : World) : Prop := ∃ a c, v = .tuple ⟨[.slice a ys.length c, .int .i64 e]⟩ ∧ SM w a ys
theorem VOut.nil (e : Int) (w : World) : VOut [] e (.tuple ⟨[.slice none 0 0, .int .i64 e]⟩) w := ⟨none, 0, rfl, Sl.nil _ _, Nat.le_refl _, fun g h => by cases h⟩
theorem SM.nil (w : World) : SM w none [] := ⟨fun _ => none, fun _ => 0, Sl.nil _ _, fun i hi => absurd hi (by simp)⟩
theorem MOut.nil (e : Int) (w : World) : MOut [] e (.tuple ⟨[.slice none 0 0, .int .i64 e]⟩) w := ⟨none, 0, rfl, SM.nil w⟩
theorem TxtR.spec {n : Nat} {f : Nat → Rat} {v : Value} {w : World} (h : TxtR n f v w) : ∃ ys e, TxtS n f ys e ∧ VOut ys e v w := by
  rcases h with ⟨h1, rfl⟩ | ⟨h1, a, c, rfl, hs, hc, ht⟩
  · exact ⟨[], 5, .inl ⟨h1, rfl, rfl⟩, VOut.nil _ _⟩
  · exact ⟨txs n f, 0, .inr ⟨h1, rfl, rfl⟩, a, c, by rw [txs_length], hs, by rw [txs_length]; exact hc, fun g hg => (ht g hg).lt⟩
theorem MtxR.spec {m n : Nat} {f : Nat → Nat → Rat} {v : Value} {w : World} (h : MtxR m n f v w) : ∃ ys e, MtxS m n f ys e ∧ MOut ys e v w := by
  rcases h with ⟨h1, rfl⟩ | ⟨h1, a, c, rfl, hs⟩
  · exact ⟨[], 5, .inl ⟨h1, rfl, rfl⟩, MOut.nil _ _⟩
  · exact ⟨mtx m n f, 0, .inr ⟨h1, rfl, rfl⟩, a, c, by rw [mtx_length], hs⟩

/-- Transpose. -/
def TraS (xss : List (List Tx)) (ys : List (List Tx)) (e : Int) : Prop :=
  (e ≠ 0 ∧ XErr xss e ∧ ys = []) ∨ (XErr xss 0 ∧ MtxS (rw' xss 0).length xss.length (fun j i => mval xss i j) ys e)
theorem TraS.uniq {xss ys zs : List (List Tx)} {e f : Int} (h : TraS xss ys e) (h' : TraS xss zs f) : ys = zs ∧ e = f := by
  rcases h with ⟨h1, h2, rfl⟩ | ⟨h1, h2⟩ <;> rcases h' with ⟨g1, g2, rfl⟩ | ⟨g1, g2⟩
  · exact ⟨rfl, h2.uniq g2⟩
  · exact absurd (h2.uniq g1) h1
  · exact absurd (g2.uniq h1) g1
  · exact h2.uniq g2 (fun _ _ _ _ => rfl)
theorem TraR.spec {xss : List (List Tx)} {v : Value} {w : World} (h : TraR xss v w) : ∃ ys e, TraS xss ys e ∧ MOut ys e v w := by
  rcases h with ⟨e, h1, h2, rfl⟩ | ⟨h1, h2⟩
  · exact ⟨[], e, .inl ⟨h1, h2, rfl⟩, MOut.nil _ _⟩
  · obtain ⟨ys, e, h3, h4⟩ := h2.spec
    exact ⟨ys, e, .inr ⟨h1, h3⟩, h4⟩
/-- The error of two matrices. -/
def DErr' (xss yss : List (List Tx)) (e : Int) : Prop := (e ≠ 0 ∧ XErr xss e) ∨ (XErr xss 0 ∧ XErr yss e)
theorem DErr'.uniq {xss yss : List (List Tx)} {e f : Int} (h : DErr' xss yss e) (h' : DErr' xss yss f) : e = f := by
  rcases h with ⟨h1, h2⟩ | ⟨h1, h2⟩ <;> rcases h' with ⟨g1, g2⟩ | ⟨g1, g2⟩
  · exact h2.uniq g2
  · exact absurd (h2.uniq g1) h1
  · exact absurd (g2.uniq h1) g1
  · exact h2.uniq g2
/-- Mul. -/
def MulS (xss yss : List (List Tx)) (ys : List (List Tx)) (e : Int) : Prop :=
  (e ≠ 0 ∧ DErr' xss yss e ∧ ys = []) ∨ (DErr' xss yss 0 ∧ (rw' xss 0).length ≠ yss.length ∧ ys = [] ∧ e = 10) ∨
  (DErr' xss yss 0 ∧ (rw' xss 0).length = yss.length ∧ MtxS xss.length (rw' yss 0).length (mmul yss.length (mval xss) (mval yss)) ys e)
theorem MulS.uniq {xss yss ys zs : List (List Tx)} {e f : Int} (h : MulS xss yss ys e) (h' : MulS xss yss zs f) : ys = zs ∧ e = f := by
  rcases h with ⟨h1, h2, rfl⟩ | ⟨h1, h2, rfl, rfl⟩ | ⟨h1, h2, h3⟩ <;> rcases h' with ⟨g1, g2, rfl⟩ | ⟨g1, g2, rfl, rfl⟩ | ⟨g1, g2, g3⟩
  · exact ⟨rfl, h2.uniq g2⟩
  · exact absurd (h2.uniq g1) h1
  · exact absurd (h2.uniq g1) h1
  · exact absurd (g2.uniq h1) g1
  · exact ⟨rfl, rfl⟩
  · exact absurd g2 h2
  · exact absurd (g2.uniq h1) g1
  · exact absurd h2 g2
  · exact h3.uniq g3 (fun _ _ _ _ => rfl)
theorem MtxS.congr {m n : Nat} {f g : Nat → Nat → Rat} {ys : List (List Tx)} {e : Int} (h : MtxS m n f ys e) (hfg : ∀ i, i < m → ∀ k, k < n → f i k = g i k) : MtxS m n g ys e := by
  rcases h with ⟨⟨i, hi, k, hk, h1⟩, h2, h3⟩ | ⟨h1, h2, h3⟩
  · exact .inl ⟨⟨i, hi, k, hk, by rw [← hfg i hi k hk]; exact h1⟩, h2, h3⟩
  · exact .inr ⟨fun i hi k hk => by rw [← hfg i hi k hk]; exact h1 i hi k hk, by rw [h2, mtx_congr hfg], h3⟩
theorem TxtS.congr {n : Nat} {f g : Nat → Rat} {ys : List Tx} {e : Int} (h : TxtS n f ys e) (hfg : ∀ i, i < n → f i = g i) : TxtS n g ys e := by
  rcases h with ⟨⟨i, hi, h1⟩, h2, h3⟩ | ⟨h1, h2, h3⟩
  · exact .inl ⟨⟨i, hi, by rw [← hfg i hi]; exact h1⟩, h2, h3⟩
  · exact .inr ⟨fun i hi => by rw [← hfg i hi]; exact h1 i hi, by rw [h2, txs_congr hfg], h3⟩
theorem MulR.spec {xss yss : List (List Tx)} {v : Value} {w : World} (h : MulR xss yss v w) : ∃ ys e, MulS xss yss ys e ∧ MOut ys e v w := by
  rcases h with ⟨e, h1, h2, rfl⟩ | ⟨h1, h2, h3, rfl⟩ | ⟨h1, h2, h3, h4⟩
  · exact ⟨[], e, .inl ⟨h1, by rcases h2 with h | h; exact .inl ⟨h1, h⟩; exact .inr h, rfl⟩, MOut.nil _ _⟩
  · exact ⟨[], 10, .inr (.inl ⟨.inr ⟨h1, h2⟩, h3, rfl, rfl⟩), MOut.nil _ _⟩
  · obtain ⟨ys, e, h5, h6⟩ := h4.spec
    refine ⟨ys, e, .inr (.inr ⟨.inr ⟨h1, h2⟩, h3, h5.congr (fun i hi k hk => ?_)⟩), h6⟩
    unfold mmul
    exact sm_congr fun t _ => by grind
/-- Apply. -/
def AppS (xss : List (List Tx)) (ys : List Tx) (zs : List Tx) (e : Int) : Prop :=
  (e ≠ 0 ∧ BErr xss ys e ∧ zs = []) ∨ (BErr xss ys 0 ∧ (rw' xss 0).length ≠ ys.length ∧ zs = [] ∧ e = 10) ∨
  (BErr xss ys 0 ∧ (rw' xss 0).length = ys.length ∧ TxtS xss.length (mapp ys.length (mval xss) (vval ys)) zs e)
theorem AppS.uniq {xss : List (List Tx)} {ys zs zs' : List Tx} {e f : Int} (h : AppS xss ys zs e) (h' : AppS xss ys zs' f) : zs = zs' ∧ e = f := by
  rcases h with ⟨h1, h2, rfl⟩ | ⟨h1, h2, rfl, rfl⟩ | ⟨h1, h2, h3⟩ <;> rcases h' with ⟨g1, g2, rfl⟩ | ⟨g1, g2, rfl, rfl⟩ | ⟨g1, g2, g3⟩
  · exact ⟨rfl, h2.uniq g2⟩
  · exact absurd (h2.uniq g1) h1
  · exact absurd (h2.uniq g1) h1
  · exact absurd (g2.uniq h1) g1
  · exact ⟨rfl, rfl⟩
  · exact absurd g2 h2
  · exact absurd (g2.uniq h1) g1
  · exact absurd h2 g2
  · exact h3.uniq g3 (fun _ _ => rfl)
theorem AppR.spec {xss : List (List Tx)} {ys : List Tx} {v : Value} {w : World} (h : AppR xss ys v w) : ∃ zs e, AppS xss ys zs e ∧ VOut zs e v w := by
  rcases h with ⟨e, h1, h2, rfl⟩ | ⟨h1, h2, rfl⟩ | ⟨h1, h2, h3⟩
  · exact ⟨[], e, .inl ⟨h1, h2, rfl⟩, VOut.nil _ _⟩
  · exact ⟨[], 10, .inr (.inl ⟨h1, h2, rfl, rfl⟩), VOut.nil _ _⟩
  · obtain ⟨ys, e, h5, h6⟩ := h3.spec
    exact ⟨ys, e, .inr (.inr ⟨h1, h2, h5⟩), h6⟩
/-- Rank. -/
def RnkS (xss : List (List Tx)) (n : Int) (e : Int) : Prop := (e ≠ 0 ∧ XErr xss e ∧ n = 0) ∨ (XErr xss 0 ∧ e = 0 ∧ n = ((gj xss.length (mval xss) (rw' xss 0).length).2 : Nat))
theorem RnkS.uniq {xss : List (List Tx)} {m n e f : Int} (h : RnkS xss m e) (h' : RnkS xss n f) : m = n ∧ e = f := by
  rcases h with ⟨h1, h2, rfl⟩ | ⟨h1, rfl, rfl⟩ <;> rcases h' with ⟨g1, g2, rfl⟩ | ⟨g1, rfl, rfl⟩
  · exact ⟨rfl, h2.uniq g2⟩
  · exact absurd (h2.uniq g1) h1
  · exact absurd (g2.uniq h1) g1
  · exact ⟨rfl, rfl⟩
/-- Two solutions of a system of full rank agree. -/
theorem sol_same {n : Nat} {f : Mx} {b x y : Nat → Rat} (h : (gj n f n).2 = n) (hx : ∀ i, i < n → mapp n f x i = b i) (hy : ∀ i, i < n → mapp n f y i = b i) (i : Nat) (hi : i < n) : x i = y i := by
  rw [(solve_iff (c := 1) (b := fun i _ => b i) h 0 (by omega) x).1 hx i hi, (solve_iff (c := 1) (b := fun i _ => b i) h 0 (by omega) y).1 hy i hi]
/-- What a square system is solved by, or that it is singular. -/
def SlvS (n : Nat) (f : Nat → Nat → Rat) (b : Nat → Rat) (zs : List Tx) (e : Int) : Prop :=
  ((gj n f n).2 ≠ n ∧ zs = [] ∧ e = 17) ∨ ((gj n f n).2 = n ∧ ∃ x, (∀ i, i < n → mapp n f x i = b i) ∧ TxtS n x zs e)
theorem SlvS.uniq {n : Nat} {f : Nat → Nat → Rat} {b : Nat → Rat} {ys zs : List Tx} {e e' : Int} (h : SlvS n f b ys e) (h' : SlvS n f b zs e') : ys = zs ∧ e = e' := by
  rcases h with ⟨h1, rfl, rfl⟩ | ⟨h1, x, h2, h3⟩ <;> rcases h' with ⟨g1, rfl, rfl⟩ | ⟨g1, y, g2, g3⟩
  · exact ⟨rfl, rfl⟩
  · exact absurd g1 h1
  · exact absurd h1 g1
  · exact h3.uniq g3 (sol_same h1 h2 g2)
theorem SlvS.congr {n : Nat} {f g : Nat → Nat → Rat} {b c : Nat → Rat} {zs : List Tx} {e : Int} (h : SlvS n f b zs e) (hf : ∀ i, i < n → ∀ k, k < n → f i k = g i k) (hb : ∀ i, i < n → b i = c i) : SlvS n g c zs e := by
  have hr : (gj n f n).2 = (gj n g n).2 := (gj_cols (n := n) (fun i k hi hk => hf i hi k hk) n (Nat.le_refl _)).1
  rcases h with ⟨h1, h2, h3⟩ | ⟨h1, x, h2, h3⟩
  · exact .inl ⟨by rw [← hr]; exact h1, h2, h3⟩
  · refine .inr ⟨by rw [← hr]; exact h1, x, fun i hi => ?_, h3⟩
    rw [← hb i hi, ← h2 i hi]
    exact sm_congr fun t ht => by rw [hf i hi t ht]
/-- Solve. -/
def SolS (xss : List (List Tx)) (ys : List Tx) (zs : List Tx) (e : Int) : Prop :=
  (e ≠ 0 ∧ BErr xss ys e ∧ zs = []) ∨ (BErr xss ys 0 ∧ (xss.length ≠ (rw' xss 0).length ∨ ys.length ≠ xss.length) ∧ zs = [] ∧ e = 10) ∨
  (BErr xss ys 0 ∧ xss.length = (rw' xss 0).length ∧ ys.length = xss.length ∧ SlvS xss.length (mval xss) (vval ys) zs e)
theorem SolS.uniq {xss : List (List Tx)} {ys zs zs' : List Tx} {e f : Int} (h : SolS xss ys zs e) (h' : SolS xss ys zs' f) : zs = zs' ∧ e = f := by
  rcases h with ⟨h1, h2, rfl⟩ | ⟨h1, h2, rfl, rfl⟩ | ⟨h1, h2, h3, h4⟩ <;> rcases h' with ⟨g1, g2, rfl⟩ | ⟨g1, g2, rfl, rfl⟩ | ⟨g1, g2, g3, g4⟩
  · exact ⟨rfl, h2.uniq g2⟩
  · exact absurd (h2.uniq g1) h1
  · exact absurd (h2.uniq g1) h1
  · exact absurd (g2.uniq h1) g1
  · exact ⟨rfl, rfl⟩
  · rcases h2 with h | h
    · exact absurd g2 h
    · exact absurd g3 h
  · exact absurd (g2.uniq h1) g1
  · rcases g2 with h | h
    · exact absurd h2 h
    · exact absurd h3 h
  · exact h4.uniq g4
/-- Least. -/
def LeaS (xss : List (List Tx)) (ys : List Tx) (zs : List Tx) (e : Int) : Prop :=
  (e ≠ 0 ∧ BErr xss ys e ∧ zs = []) ∨ (BErr xss ys 0 ∧ ys.length ≠ xss.length ∧ zs = [] ∧ e = 10) ∨
  (BErr xss ys 0 ∧ ys.length = xss.length ∧ SlvS (rw' xss 0).length (mmul xss.length (trp (mval xss)) (mval xss)) (mapp xss.length (trp (mval xss)) (vval ys)) zs e)
theorem LeaS.uniq {xss : List (List Tx)} {ys zs zs' : List Tx} {e f : Int} (h : LeaS xss ys zs e) (h' : LeaS xss ys zs' f) : zs = zs' ∧ e = f := by
  rcases h with ⟨h1, h2, rfl⟩ | ⟨h1, h2, rfl, rfl⟩ | ⟨h1, h2, h3⟩ <;> rcases h' with ⟨g1, g2, rfl⟩ | ⟨g1, g2, rfl, rfl⟩ | ⟨g1, g2, g3⟩
  · exact ⟨rfl, h2.uniq g2⟩
  · exact absurd (h2.uniq g1) h1
  · exact absurd (h2.uniq g1) h1
  · exact absurd (g2.uniq h1) g1
  · exact ⟨rfl, rfl⟩
  · exact absurd g2 h2
  · exact absurd (g2.uniq h1) g1
  · exact absurd h2 g2
  · exact h3.uniq g3
/-- The inverse of a square matrix, or that it is singular. -/
def IvsS (n : Nat) (f : Nat → Nat → Rat) (zs : List (List Tx)) (e : Int) : Prop :=
  ((gj n f n).2 ≠ n ∧ zs = [] ∧ e = 17) ∨ ((gj n f n).2 = n ∧ ∃ x : Mx, (∀ i, i < n → ∀ j, j < n → mmul n f x i j = idn i j) ∧ MtxS n n x zs e)
theorem IvsS.uniq {n : Nat} {f : Nat → Nat → Rat} {ys zs : List (List Tx)} {e e' : Int} (h : IvsS n f ys e) (h' : IvsS n f zs e') : ys = zs ∧ e = e' := by
  rcases h with ⟨h1, rfl, rfl⟩ | ⟨h1, x, h2, h3⟩ <;> rcases h' with ⟨g1, rfl, rfl⟩ | ⟨g1, y, g2, g3⟩
  · exact ⟨rfl, rfl⟩
  · exact absurd g1 h1
  · exact absurd h1 g1
  · exact h3.uniq g3 (fun i hi j hj => sol_same (b := fun i => idn i j) h1 (fun i hi => h2 i hi j hj) (fun i hi => g2 i hi j hj) i hi)
/-- Inverse. -/
def InvS (xss : List (List Tx)) (zs : List (List Tx)) (e : Int) : Prop :=
  (e ≠ 0 ∧ XErr xss e ∧ zs = []) ∨ (XErr xss 0 ∧ xss.length ≠ (rw' xss 0).length ∧ zs = [] ∧ e = 10) ∨
  (XErr xss 0 ∧ xss.length = (rw' xss 0).length ∧ IvsS xss.length (mval xss) zs e)
theorem InvS.uniq {xss ys zs : List (List Tx)} {e f : Int} (h : InvS xss ys e) (h' : InvS xss zs f) : ys = zs ∧ e = f := by
  rcases h with ⟨h1, h2, rfl⟩ | ⟨h1, h2, rfl, rfl⟩ | ⟨h1, h2, h3⟩ <;> rcases h' with ⟨g1, g2, rfl⟩ | ⟨g1, g2, rfl, rfl⟩ | ⟨g1, g2, g3⟩
  · exact ⟨rfl, h2.uniq g2⟩
  · exact absurd (h2.uniq g1) h1
  · exact absurd (h2.uniq g1) h1
  · exact absurd (g2.uniq h1) g1
  · exact ⟨rfl, rfl⟩
  · exact absurd g2 h2
  · exact absurd (g2.uniq h1) g1
  · exact absurd h2 g2
  · exact h3.uniq g3
end Go.Proofs.YtejlpdbiacmfcaaGreatDoor
end
section
set_option linter.unusedSimpArgs false
set_option linter.unusedVariables false
set_option maxHeartbeats 1000000
namespace Go.Proofs.YtejlpdbiacmfcaaGreatDoor
open Go.Lib

theorem fold_app : ∀ (l out : List (List Int)), ∃ t, l.foldl addRow out = out ++ t
  | [], out => ⟨[], by simp⟩
  | r :: l, out => by
    rw [List.foldl_cons]
    obtain ⟨t, ht⟩ := fold_app l (addRow out r)
    rw [ht]
    unfold addRow
    split
    · exact ⟨t, rfl⟩
    · exact ⟨r :: t, by simp⟩
theorem fold_nodup : ∀ (l out : List (List Int)), (out ++ l).Nodup → l.foldl addRow out = out ++ l
  | [], out, _ => by simp
  | r :: l, out, h => by
    have hr : r ∉ out := fun hm => by
      rw [List.nodup_append] at h
      exact h.2.2 r hm r (by simp) rfl
    rw [List.foldl_cons, addRow, if_neg hr, fold_nodup l (out ++ [r]) (by simpa using h)]
    simp
theorem unit_inj {n i j : Nat} (hi : i < n) (h : blkRow n i (i + 1) = blkRow n j (j + 1)) : i = j := by
  have h1 := congrArg (fun l => l.getD i 0) h
  simp only [blkRow_get hi] at h1
  rw [if_pos (by omega)] at h1
  split at h1
  · omega
  · simp at h1
theorem idRows_nodup (n : Nat) : (idRows n).Nodup := by
  unfold idRows
  rw [List.nodup_iff_pairwise_ne, List.pairwise_map]
  exact List.Pairwise.imp_of_mem (fun {a b} ha hb hab e => hab (unit_inj (List.mem_range.1 ha) e)) (List.nodup_iff_pairwise_ne.1 List.nodup_range)
theorem lvl_zero (n : Nat) : (lvl n 0).map (blkR n) = idRows n := by
  have hc : cnt n (2 ^ 0) = n := by unfold cnt; simp
  unfold lvl idRows
  rw [hc, List.map_map]
  apply List.map_congr_left
  intro i hi
  have := List.mem_range.1 hi
  show blkRow n (i * 2 ^ 0) (min n (i * 2 ^ 0 + 2 ^ 0)) = _
  rw [Nat.pow_zero, Nat.mul_one, Nat.min_eq_right (by omega)]
/-- The tree begins with the single cells. -/
theorem tree_units (n : Nat) : ∃ t, tree n = idRows n ++ t := by
  unfold tree blks
  have hl : lev n = (lev n - 1) + 1 := by unfold lev; omega
  rw [hl, List.range_succ_eq_map, List.flatMap_cons, List.map_append, List.foldl_append, lvl_zero, fold_nodup (idRows n) [] (by simpa using idRows_nodup n), List.nil_append]
  exact fold_app _ _
theorem idRows_length (n : Nat) : (idRows n).length = n := by simp [idRows]
theorem idRows_get {n i : Nat} (h : i < n) : (idRows n).getD i [] = blkRow n i (i + 1) := by simp [idRows, List.getD, h]
theorem preRows_length (n : Nat) : (preRows n).length = n := by simp [preRows]
theorem preRows_get {n i : Nat} (h : i < n) : (preRows n).getD i [] = blkRow n 0 (i + 1) := by simp [preRows, List.getD, h]
section
variable {n : Nat} {f : Mx} {w z s : Nat → Rat}
/-- The weights are the only ones where there are as many rows as cells. -/
theorem spread_eq (hF : (gj n f n).2 = n) (hz : ∀ k, k < n → mapp n (mmul n (trp f) f) z k = w k) (hs : ∀ k, k < n → mapp n (trp f) s k = w k) : sm n (fun k => w k * z k) = sm n (fun i => s i * s i) := by
  rw [← spread_sq hz]
  have hT : (gj n (trp f) n).2 = n := by rw [rank_trp]; exact hF
  have h1 := sol_same (b := w) hT (x := mapp n f z) (y := s) (fun k hk => by rw [← hz k hk, app_mul]) hs
  exact sm_congr fun i hi => by rw [h1 i hi]
/-- The weights of a range that is not empty are not all 0. -/
theorem spread_pos {m : Nat} (hz : ∀ k, k < n → mapp n (mmul m (trp f) f) z k = w k) {k : Nat} (hk : k < n) (hw : w k ≠ 0) : 0 < sm n (fun k => w k * z k) := by
  rw [← spread_sq hz]
  have h0 : 0 ≤ sm m (fun i => mapp n f z i * mapp n f z i) := sm_nonneg fun i _ => sq_nonneg _
  rcases Rat.le_iff_lt_or_eq.1 h0 with h | h
  · exact h
  · exfalso
    have h1 := sm_nonneg_zero (fun i _ => sq_nonneg (mapp n f z i)) h.symm
    apply hw
    rw [← hz k hk, app_mul]
    unfold mapp
    exact sm_zero' fun i hi => by
      have h2 := h1 i hi
      unfold mapp at h2
      rcases Rat.mul_eq_zero.1 h2 with h3 | h3 <;> rw [h3] <;> grind
end
end Go.Proofs.YtejlpdbiacmfcaaGreatDoor
end
section
set_option linter.unusedSimpArgs false
set_option linter.unusedVariables false
set_option maxHeartbeats 1000000
namespace Go.Proofs.YtejlpdbiacmfcaaGreatDoor
open Go.Lib

/-- A range of cells as numbers. -/
def rgw (lo hi : Nat) : Nat → Rat := fun k => if lo ≤ k ∧ k ≤ hi then 1 else 0
/-- The normal matrix of rows. -/
def nrm (rows : List (List Int)) : Mx := mmul rows.length (trp (stM rows)) (stM rows)
theorem stM_row {rows : List (List Int)} {i : Nat} {r : List Int} (h : rows.getD i [] = r) (k : Nat) : stM rows i k = ((r.getD k 0 : Int) : Rat) := by unfold stM; rw [h]
theorem stM_id {n i k : Nat} (hi : i < n) (hk : k < n) : stM (idRows n) i k = if i = k then 1 else 0 := by
  rw [stM_row (idRows_get hi), blkRow_get hk]
  by_cases e : i = k
  · rw [if_pos e, if_pos (by omega)]; rfl
  · rw [if_neg e, if_neg (by omega)]; rfl
theorem stM_pre {n i k : Nat} (hi : i < n) (hk : k < n) : stM (preRows n) i k = if k ≤ i then 1 else 0 := by
  rw [stM_row (preRows_get hi), blkRow_get hk]
  by_cases e : k ≤ i
  · rw [if_pos e, if_pos (by omega)]; rfl
  · rw [if_neg e, if_neg (by omega)]; rfl
theorem rat_le_eq {a b c : Rat} (h : a ≤ b) (e : b = c) : a ≤ c := e ▸ h
theorem getD_app {l t : List (List Int)} {i : Nat} (h : i < l.length) : (l ++ t).getD i [] = l.getD i [] := by simp [List.getD, List.getElem?_append_left h]
theorem sm_one (d : Nat) : sm d (fun _ => 1) = (d : Rat) := by
  induction d with
  | zero => rfl
  | succ d ih => rw [sm, ih]; push_cast; rfl
theorem rgw_sum {n lo hi : Nat} (h1 : lo ≤ hi) (h2 : hi < n) (x : Nat → Rat) : sm n (fun k => rgw lo hi k * x k) = sm (hi - lo + 1) (fun j => x (lo + j)) := by
  have h := blk_sum (n := n) (a := lo) (b := hi + 1) (x := x) (by omega) (by omega)
  rw [show hi + 1 - lo = hi - lo + 1 by omega] at h
  rw [← h]
  apply sm_congr
  intro k hk
  rw [blkRow_get hk]
  unfold rgw
  by_cases e : lo ≤ k ∧ k ≤ hi
  · rw [if_pos e, if_pos (by omega)]; rfl
  · rw [if_neg e, if_neg (by omega)]; rfl
theorem rgw_sq {n lo hi : Nat} (h1 : lo ≤ hi) (h2 : hi < n) : sm n (fun k => rgw lo hi k * rgw lo hi k) = ((hi - lo + 1 : Nat) : Rat) := by
  rw [rgw_sum h1 h2, ← sm_one]
  apply sm_congr
  intro j hj
  unfold rgw
  rw [if_pos (by omega)]
section
variable {n lo hi : Nat} {z : Nat → Rat}
theorem spread_cells (h0 : 0 < n) (hn : n ≤ 64) (h1 : lo ≤ hi) (h2 : hi < n) (hz : ∀ k, k < n → mapp n (nrm (idRows n)) z k = rgw lo hi k) : sm n (fun k => rgw lo hi k * z k) = ((hi - lo + 1 : Nat) : Rat) := by
  have hst : strat 0 n = idRows n := by unfold strat; rw [if_neg (by omega), if_pos rfl, Int.toNat_natCast]
  have hF := strat_rank (kind := 0) (n := n) (by omega) h0 hn
  rw [hst, idRows_length, rank_normal] at hF
  unfold nrm at hz
  rw [idRows_length] at hz
  rw [spread_eq (s := rgw lo hi) hF hz (fun k hk => by
    unfold mapp trp
    rw [sm_single hk (fun i hi' hne => by rw [stM_id hi' hk, if_neg hne]; grind), stM_id hk hk, if_pos rfl]; grind), rgw_sq h1 h2]
/-- The weights of a range by prefixes. -/
def prw (lo hi : Nat) : Nat → Rat := fun i => (if i = hi then 1 else 0) - (if i + 1 = lo then 1 else 0)
theorem spread_prefix (h0 : 0 < n) (hn : n ≤ 64) (h1 : lo ≤ hi) (h2 : hi < n) (hz : ∀ k, k < n → mapp n (nrm (preRows n)) z k = rgw lo hi k) : sm n (fun k => rgw lo hi k * z k) = if lo = 0 then 1 else 2 := by
  have hst : strat 1 n = preRows n := by unfold strat; rw [if_neg (by omega), if_neg (by omega), if_pos rfl, Int.toNat_natCast]
  have hF := strat_rank (kind := 1) (n := n) (by omega) h0 hn
  rw [hst, preRows_length, rank_normal] at hF
  unfold nrm at hz
  rw [preRows_length] at hz
  rw [spread_eq (s := prw lo hi) hF hz (fun k hk => by
    unfold mapp trp
    rw [sm_congr (g := fun i => (if i = hi then (if k ≤ hi then 1 else 0) else 0) - (if i + 1 = lo then (if k < lo then 1 else 0) else 0)) (fun i hi' => by
      rw [stM_pre hi' hk]
      unfold prw
      by_cases e1 : i = hi
      · subst e1
        rw [if_pos rfl, if_pos rfl, if_neg (by omega : ¬ i + 1 = lo), if_neg (by omega : ¬ i + 1 = lo)]; grind
      · rw [if_neg e1, if_neg e1]
        by_cases e2 : i + 1 = lo
        · rw [if_pos e2, if_pos e2]
          by_cases e3 : k ≤ i
          · rw [if_pos e3, if_pos (by omega)]; grind
          · rw [if_neg e3, if_neg (by omega)]; grind
        · rw [if_neg e2, if_neg e2]; grind), sm_sub, sm_single (f := fun i => if i = hi then (if k ≤ hi then (1 : Rat) else 0) else 0) h2 (fun i _ hne => if_neg hne)]
    simp only [if_pos]
    by_cases hl : lo = 0
    · rw [sm_zero' (f := fun i => if i + 1 = lo then (if k < lo then (1 : Rat) else 0) else 0) (fun i _ => if_neg (by omega))]
      unfold rgw
      by_cases e : k ≤ hi
      · rw [if_pos e, if_pos (by omega)]; grind
      · rw [if_neg e, if_neg (by omega)]; grind
    · rw [sm_single (f := fun i => if i + 1 = lo then (if k < lo then (1 : Rat) else 0) else 0) (j := lo - 1) (by omega) (fun i _ hne => if_neg (by omega))]
      simp only [show lo - 1 + 1 = lo by omega, if_pos]
      unfold rgw
      by_cases e : k ≤ hi
      · rw [if_pos e]
        by_cases e2 : k < lo
        · rw [if_pos e2, if_neg (by omega)]; grind
        · rw [if_neg e2, if_pos (by omega)]; grind
      · rw [if_neg e, if_neg (by omega), if_neg (by omega)]; grind)]
  rw [sm_congr (g := fun i => (if i = hi then 1 else 0) + (if i + 1 = lo then 1 else 0)) (fun i _ => by
    unfold prw
    by_cases e1 : i = hi
    · rw [if_pos e1, if_neg (by omega)]; grind
    · rw [if_neg e1]
      by_cases e2 : i + 1 = lo
      · rw [if_pos e2]; grind
      · rw [if_neg e2]; grind), sm_add, sm_single h2 (fun i _ hne => if_neg hne), if_pos rfl]
  by_cases hl : lo = 0
  · rw [sm_zero' (fun i _ => if_neg (by omega)), if_pos hl]; grind
  · rw [sm_single (j := lo - 1) (by omega) (fun i _ hne => if_neg (by omega)), if_pos (by omega), if_neg hl]; grind
/-- The tree's spread is at most that of the cells. -/
theorem spread_tree (h1 : lo ≤ hi) (h2 : hi < n) (hz : ∀ k, k < n → mapp n (nrm (tree n)) z k = rgw lo hi k) : sm n (fun k => rgw lo hi k * z k) ≤ ((hi - lo + 1 : Nat) : Rat) := by
  obtain ⟨t, ht⟩ := tree_units n
  have hlen : (tree n).length = n + t.length := by rw [ht, List.length_append, idRows_length]
  unfold nrm at hz
  rw [hlen] at hz
  refine rat_le_eq (spread_min (s := fun i => if i < n then rgw lo hi i else 0) hz (fun k hk => ?_)) ?_
  · unfold mapp trp
    rw [sm_split, sm_single hk (fun i hi' hne => by
      rw [stM_row (r := blkRow n i (i + 1)) (by rw [ht, getD_app (by rw [idRows_length]; exact hi')]; exact idRows_get hi'), blkRow_get hk, if_neg (by omega)]; simp), sm_zero' (n := t.length) (fun j _ => by simp only [if_neg (show ¬ n + j < n by omega)]; grind)]
    simp only [if_pos hk]
    rw [
      stM_row (r := blkRow n k (k + 1)) (by rw [ht, getD_app (by rw [idRows_length]; exact hk)]; exact idRows_get hk), blkRow_get hk, if_pos (by omega)]
    simp
    grind
  · rw [sm_split, sm_zero' (n := t.length) (fun j _ => by rw [if_neg (by omega)]; grind), sm_congr (g := fun k => rgw lo hi k * rgw lo hi k) (fun i hi' => by rw [if_pos hi']), rgw_sq h1 h2]
    grind
/-- A block of the tree has a spread of at most 1. -/
theorem spread_row {rows : List (List Int)} {i : Nat} (hi' : i < rows.length) (hr : rows.getD i [] = blkRow n lo (hi + 1)) (hz : ∀ k, k < n → mapp n (nrm rows) z k = rgw lo hi k) : sm n (fun k => rgw lo hi k * z k) ≤ 1 := by
  unfold nrm at hz
  refine rat_le_eq (spread_min (s := fun j => if j = i then 1 else 0) hz (fun k hk => ?_)) ?_
  · unfold mapp trp
    rw [sm_single hi' (fun j _ hne => by simp only [if_neg hne]; grind)]
    simp only [if_pos]
    rw [stM_row hr, blkRow_get hk]
    unfold rgw
    by_cases e : lo ≤ k ∧ k ≤ hi
    · rw [if_pos e, if_pos (by omega)]; simp
    · rw [if_neg e, if_neg (by omega)]; simp
  · rw [sm_single hi' (fun j _ hne => by simp only [if_neg hne]; grind)]; simp only [if_pos]; grind
end
end Go.Proofs.YtejlpdbiacmfcaaGreatDoor
end
section
set_option linter.unusedSimpArgs false
set_option linter.unusedVariables false
set_option maxHeartbeats 1000000
namespace Go.Proofs.YtejlpdbiacmfcaaGreatDoor
open Go.Lib

/-- A column's sum of absolute values. -/
def colS : List (List Int) → Nat → Int
  | [], _ => 0
  | r :: rows, k => max (r.getD k 0) (-(r.getD k 0)) + colS rows k
theorem colS_app (a b : List (List Int)) (k : Nat) : colS (a ++ b) k = colS a k + colS b k := by
  induction a with
  | nil => simp [colS]
  | cons r a ih => rw [List.cons_append, colS, colS, ih]; omega
theorem colS_nonneg (rows : List (List Int)) (k : Nat) : 0 ≤ colS rows k := by
  induction rows with
  | nil => simp [colS]
  | cons r a ih => rw [colS]; omega
theorem blk_abs {n a b k : Nat} (hk : k < n) : max ((blkRow n a b).getD k 0) (-((blkRow n a b).getD k 0)) = if a ≤ k ∧ k < b then 1 else 0 := by
  rw [blkRow_get hk]
  split <;> decide
theorem colS_pre {n m k : Nat} (hk : k < n) : colS ((List.range m).map fun i => blkRow n 0 (i + 1)) k = ((m - k : Nat) : Int) := by
  induction m with
  | zero => simp [colS]
  | succ m ih =>
    rw [List.range_succ, List.map_append, colS_app, ih, List.map_singleton, colS, colS, blk_abs hk]
    split <;> omega
theorem colS_id {n m k : Nat} (hk : k < n) : colS ((List.range m).map fun i => blkRow n i (i + 1)) k = if k < m then 1 else 0 := by
  induction m with
  | zero => simp [colS]
  | succ m ih =>
    rw [List.range_succ, List.map_append, colS_app, ih, List.map_singleton, colS, colS, blk_abs hk]
    split <;> split <;> split <;> omega
/-- Every cell lies in some row of a strategy. -/
theorem colS_pos {kind : Int} {n k : Nat} (hk : 0 ≤ kind ∧ kind ≤ 2) (hn : n ≤ 64) (h : k < n) : 1 ≤ colS (strat kind n) k := by
  have hst : strat kind n = if kind = 0 then idRows n else if kind = 1 then preRows n else if kind = 2 then tree n else [] := by
    unfold strat
    rw [if_neg (by omega), Int.toNat_natCast]
  have hid : colS (idRows n) k = 1 := by unfold idRows; rw [colS_id h, if_pos h]
  have hc : kind = 0 ∨ kind = 1 ∨ kind = 2 := by omega
  rw [hst]
  rcases hc with rfl | rfl | rfl
  · rw [if_pos rfl, hid]; omega
  · rw [if_neg (by omega), if_pos rfl]
    unfold preRows
    rw [colS_pre h]; omega
  · rw [if_neg (by omega), if_neg (by omega), if_pos rfl]
    obtain ⟨t, ht⟩ := tree_units n
    rw [ht, colS_app, hid]
    have := colS_nonneg t k
    omega
end Go.Proofs.YtejlpdbiacmfcaaGreatDoor
end
