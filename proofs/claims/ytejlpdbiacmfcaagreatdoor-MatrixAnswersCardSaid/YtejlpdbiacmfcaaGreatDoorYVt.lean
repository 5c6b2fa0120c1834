/-
  A store of a struct into an owned row of structs.
  A row of fractions with one element replaced.
  What reduce needs of plain things: how great its numbers grow; a row of a matrix is replaced.
  No conditions: each theorem names its own premises.
  What the functions of package linear answer, as plain relations between texts; each is settled by its arguments.
  Walk of matrix.reduce: it does what elimination does, in place.
  Conditions: a bound on the sizes of the numbers.
-/
import Derived.Test.YtejlpdbiacmfcaaGreatDoorYLb
set_option linter.unusedSimpArgs false
set_option linter.unusedVariables false
namespace Go.Proofs.YtejlpdbiacmfcaaGreatDoor
section
set_option maxHeartbeats 1000000
open Go Go.Proofs Go.RowKit Go.Lib

section
variable {P : Program} (U : Tys P) {ro : Option Nat} {n : Nat} {ds : List Deferred} {Q : PT} {l l' : Fr} {w w' : World} {arr : Array Oper} {r : List Oper} {k : List It}
def els (cs : List Value) (j : Nat) (vs : List Value) : List Value := cs.take (j * 3) ++ vs ++ cs.drop (j * 3 + 3)
theorem so3 {d : Option Nat} {t ty : TypeId} {x y : Operand} {ps : String} {af : Array Edge} {gg : Option (Nat × Bool)} {vs : List Value} {g : Nat} {p : Addr} {base e m c : Nat} {cs : List Value}
  (hx : ev l x = some (.pointer (some p))) (hy : ev l y = some (.agg ⟨vs⟩)) (hs : U.tb.sz t = some 3) (hg : gd arr l gg = some true) (hl : put1 n l d undef = some l')
  (hvl : vs.length = 3) (h1 : ∀ u ∈ vs, u.oneCell' = true) (j : Nat) (hp : p = ⟨g, j * 3, none⟩) (hj : j < m) (ho : w.ownsRow base e 3 (.slice (some ⟨g, 0, none⟩) m c) m cs)
  (t' : ∀ w1, w1.ownsRow base e 3 (.slice (some ⟨g, 0, none⟩) m c) m (els cs j vs) → w.grownBy w1 (some g) → w1.heap.size = w.heap.size → T P ro n ds Q l' w1 (.ops arr r) k) :
  T P ro n ds Q l w (.ops arr (⟨d, .store t x y, ty, ps, af, gg⟩ :: r)) k := by
 subst hp
 obtain ⟨hl0, h | ⟨g', cap, cur, h2, hb, hg2, hm, hcap, hsz, htk⟩⟩ := ho
 ·omega
 cases h2
 have hcs : cs.length = m * 3 := hl0
 have hcur : cur.toList.length = c * 3 := by simpa using hsz
 have hfit : j * 3 + vs.length ≤ cur.size := by omega
 obtain ⟨i, hi, hz⟩ := U.hs _ _ hs
 have hrun := run_storeCells_at P g (j * 3) e vs 0 cur w hg2 (by simpa using hfit) h1
 simp only [Nat.add_zero] at hrun
 have ho1 : (w.setRow g (cur.toList.take (j * 3) ++ vs ++ cur.toList.drop (j * 3 + vs.length)).toArray).ownsRow base e 3 (.slice (some ⟨g, 0, none⟩) m c) m (els cs j vs) := by
  refine ⟨by unfold els; simp only [List.length_append, List.length_take, List.length_drop]; omega, .inr ⟨g, c, _, rfl, hb, setRow_heap w g cur _ e (0, 0) hg2, hm, hcap, ?_, ?_⟩⟩
  ·simp only [List.size_toArray, List.length_append, List.length_take, List.length_drop]; omega
  ·rw [← htk]
   unfold els
   simp only
   have hx1 : (cur.toList.take (j * 3) ++ vs).length = j * 3 + 3 := by rw [List.length_append, List.length_take, hvl]; omega
   rw [hvl, List.take_take, Nat.min_eq_left (by omega), List.drop_take, List.take_append, hx1, List.take_of_length_le (by omega)]
 refine op0 (w' := w.setRow g (cur.toList.take (j * 3) ++ vs ++ cur.toList.drop (j * 3 + vs.length)).toArray) (by intro c h; cases h) hg hl (fun a hf => ?_) (t' _ ho1 (grownBy_setRow _ _ _) (by simp [World.setRow]))
 simp only [execOp, hf.ev hx, hf.ev hy, Instr.storeAt, Instr.sureAddr, storeVar, sizeOf, typeInfo, program]
 simp [Sem.run, hi, hz, hvl, Value.cells, hrun]
end
end
section
set_option maxHeartbeats 1000000
open Go Go.Proofs Go.RowKit Go.Lib

theorem els_length {cs vs : List Value} {j : Nat} (h : j * 3 + 3 ≤ cs.length) (hv : vs.length = 3) : (els cs j vs).length = cs.length := by
 unfold els
 simp only [List.length_append, List.length_take, List.length_drop]; omega
theorem els_get {cs vs : List Value} {j q : Nat} (h : j * 3 + 3 ≤ cs.length) (hv : vs.length = 3) : (els cs j vs)[q]? = if q < j * 3 then cs[q]? else if q < j * 3 + 3 then vs[q - j * 3]? else cs[q]? := by
 unfold els
 have h1 : (cs.take (j * 3)).length = j * 3 := by rw [List.length_take]; omega
 have h2 : (cs.take (j * 3) ++ vs).length = j * 3 + 3 := by rw [List.length_append, h1, hv]
 by_cases ha : q < j * 3
 ·rw [if_pos ha, List.getElem?_append_left (by omega), List.getElem?_append_left (by omega), List.getElem?_take, if_pos ha]
 ·rw [if_neg ha]
  by_cases hb : q < j * 3 + 3
  ·rw [if_pos hb, List.getElem?_append_left (by omega), List.getElem?_append_right (by omega), h1]
  ·rw [if_neg hb, List.getElem?_append_right (by omega), h2, List.getElem?_drop]
   congr 1; omega
theorem el_els {cs vs : List Value} {j i : Nat} (h : j * 3 + 3 ≤ cs.length) (hv : vs.length = 3) (hi : i * 3 + 3 ≤ cs.length) : el (els cs j vs) i = if i = j then vs else el cs i := by
 apply List.ext_getElem?
 intro q
 by_cases hq : q < 3
 ·unfold el
  rw [List.getElem?_take, if_pos hq, List.getElem?_drop, els_get h hv]
  by_cases hij : i = j
  ·subst hij
   rw [if_neg (by omega), if_pos (by omega), if_pos rfl]
   congr 1; omega
  ·rw [if_neg hij, List.getElem?_take, if_pos hq, List.getElem?_drop]
   by_cases hlt : i < j
   ·rw [if_pos (by omega)]
   ·rw [if_neg (by omega), if_neg (by omega)]
 ·rw [List.getElem?_eq_none (by rw [el_length (by rw [els_length h hv]; exact hi)]; omega)]
  split
  ·rw [List.getElem?_eq_none (by omega)]
  ·rw [List.getElem?_eq_none (by rw [el_length hi]; omega)]
theorem Els.set {w : World} {cs vs : List Value} {n j : Nat} {f : Nat → Rat} {x : Rat} (h : Els w cs n f) (hj : j < n) (hx : FQ w (.agg ⟨vs⟩) x) (hv : vs.length = 3) : Els w (els cs j vs) n (upd f j x) := by
 have hl : j * 3 + 3 ≤ cs.length := by rw [h.1]; omega
 refine ⟨by rw [els_length hl hv]; exact h.1, fun i hi => ?_⟩
 rw [el_els hl hv (by rw [h.1]; omega)]
 by_cases hij : i = j
 ·subst hij; rw [if_pos rfl, upd_same]; exact hx
 ·rw [if_neg hij, upd_ne _ _ hij]; exact h.2 i hi
end
section
set_option maxHeartbeats 1000000
open Go Go.Proofs Go.RowKit Go.Lib

theorem Own2.congr {w : World} {base n : Nat} {A : Nat → Option Addr} {L C : Nat → Nat} {f g : Nat → Nat → Rat} (h : Own2 w base n A L C f) (he : ∀ i, i < n → ∀ t, t < L i → f i t = g i t) : Own2 w base n A L C g :=
 ⟨fun j hj => by
  obtain ⟨cs, h1, h2⟩ := h.1 j hj
  exact ⟨cs, h1, h2.congr (he j hj)⟩, h.2⟩
theorem Own2.put {w w' : World} {base n k : Nat} {A : Nat → Option Addr} {L C : Nat → Nat} {f : Nat → Nat → Rat} {f' : Nat → Rat} {cs' : List Value} (h : Own2 w base n A L C f) (hk : k < n) (hg : w.grownBy w' (ab (A k)))
  (ho : w'.ownsRow base 76 3 (.slice (A k) (L k) (C k)) (L k) cs') (he : Els w' cs' (L k) f') : Own2 w' base n A L C (upd f k f') := by
 obtain ⟨csk, hok, hek⟩ := h.1 k hk
 have htag := own_tag hok
 refine ⟨fun j hj => ?_, h.2⟩
 by_cases hjk : j = k
 ·subst hjk; rw [upd_same]; exact ⟨cs', ho, he⟩
 ·rw [upd_ne _ _ hjk]
  obtain ⟨cs, h1, h2⟩ := h.1 j hj
  exact ⟨cs, own_keep h1 hg (fun g hga e => h.2 j k hj hk hjk g hga e), h2.push hg htag⟩
theorem Own2.swap {w : World} {base m n r i : Nat} {A : Nat → Option Addr} {C : Nat → Nat} {f : Nat → Nat → Rat} (h : Own2 w base m A (fun _ => n) C f) (hr : r < m) (hi : i < m) :
  Own2 w base m (upd (upd A r (A i)) i (A r)) (fun _ => n) (upd (upd C r (C i)) i (C r)) (swp r i f) := by
 have key : ∀ j, ∃ j', (j < m → j' < m) ∧ upd (upd A r (A i)) i (A r) j = A j' ∧ upd (upd C r (C i)) i (C r) j = C j' ∧ swp r i f j = f j' ∧ j' = (if j = i then r else if j = r then i else j) := by
  intro j
  refine ⟨if j = i then r else if j = r then i else j, ?_, ?_, ?_, ?_, rfl⟩
  ·intro hj; split
   ·exact hr
   ·split
    ·exact hi
    ·exact hj
  ·unfold upd; split
   ·rfl
   ·split <;> rfl
  ·unfold upd; split
   ·rfl
   ·split <;> rfl
  ·unfold swp
   by_cases h1 : j = i
   ·subst h1
    rw [if_pos rfl, if_pos rfl]
    split
    ·rename_i h2; rw [h2]
    ·rfl
   ·rw [if_neg h1, if_neg h1]
    split <;> rfl
 refine ⟨fun j hj => ?_, fun j j' hj hj' hne g hga hga' => ?_⟩
 ·obtain ⟨q, h1, h2, h3, h4, _⟩ := key j
  rw [h2, h3, h4]; exact h.1 q (h1 hj)
 ·obtain ⟨q, h1, h2, _, _, hq⟩ := key j
  obtain ⟨q', h1', h2', _, _, hq'⟩ := key j'
  rw [h2] at hga
  rw [h2'] at hga'
  refine h.2 q q' (h1 hj) (h1' hj') ?_ g hga hga'
  rw [hq, hq']
  split <;> split <;> (try split) <;> (try split) <;> omega

def grw : Nat → Nat → Nat
 | 0, L => L
 | k + 1, L => 4 * grw k L + 1
theorem small_elm {K : Nat} {x y z p : Rat} (hx : Small K x) (hy : Small K y) (hz : Small K z) (hp : Small K p) (h0 : p ≠ 0) : Small (4 * K + 1) (x + y * p⁻¹ * (-z)) :=
 small_mono (small_add hx (small_mul (small_mul hy (small_inv h0 hp)) (small_neg hz))) (by omega)
theorem gj_small {m n : Nat} {f : Mx} {L : Nat} (h : ∀ i t, i < m → t < n → Small L (f i t)) : ∀ k, k ≤ n → ∀ i t, i < m → t < n → Small (grw k L) ((gj m f k).1 i t)
 | 0, _ => h
 | k + 1, hk => by
  have ih := gj_small h k (by omega)
  have hle := gj_le m f k
  rw [gj, gstep, grw]
  generalize gj m f k = s at *
  obtain ⟨g, r⟩ := s
  simp only at *
  split
  ·exact fun i t hi ht => small_mono (ih i t hi ht) (by omega)
  ·rename_i q hq
   obtain ⟨e1, e2, e3, _⟩ := piv_some hq
   intro i t hi ht
   simp only
   unfold gnew elm
   have hsw : ∀ a, a < m → ∀ t, t < n → Small (grw k L) (swp r q g a t) := fun a ha t ht => by
    unfold swp
    split
    ·exact ih q t e2 ht
    ·split
     ·exact ih r t (by omega) ht
     ·exact ih a t ha ht
   have hp := ih q k e2 (by omega)
   split
   ·unfold scl
    rw [if_pos rfl]
    exact small_mono (small_mul (hsw r (by omega) t ht) (small_inv e3 hp)) (by omega)
   ·rename_i hne
    unfold scl
    rw [if_pos rfl, if_neg hne, if_neg hne]
    exact small_elm (hsw i hi t ht) (hsw r (by omega) t ht) (hsw i hi k (by omega)) hp e3
theorem grw_mono (L : Nat) : ∀ {j k : Nat}, j ≤ k → grw j L ≤ grw k L
 | j, 0, h => by obtain rfl : j = 0 := by omega
                 exact Nat.le_refl _
 | j, k + 1, h => by
  by_cases hj : j = k + 1
  ·subst hj; exact Nat.le_refl _
  ·have := grw_mono L (j := j) (k := k) (by omega)
   rw [grw]; omega
theorem gj_stop {m k : Nat} {f : Mx} (h : (gj m f k).2 = m) : ∀ c, gj m f (k + c) = gj m f k
 | 0 => rfl
 | c + 1 => by
  rw [← Nat.add_assoc, gj, gj_stop h c, gstep]
  have : piv m (k + c) (gj m f k).1 (gj m f k).2 = none := by
   rw [h]; unfold piv; rw [Nat.sub_self]; rfl
  rw [this]
end
section
set_option maxHeartbeats 1000000
open Go Go.Proofs Go.RowKit Go.Lib

abbrev Tx := List UInt8
def TxtS (n : Nat) (f : Nat → Rat) (ys : List Tx) (e : Int) : Prop :=
 ((∃ i, i < n ∧ ¬ Small 4000 (f i)) ∧ ys = [] ∧ e = 5) ∨ ((∀ i, i < n → Small 4000 (f i)) ∧ ys = txs n f ∧ e = 0)
theorem txs_congr {n : Nat} {f g : Nat → Rat} (h : ∀ i, i < n → f i = g i) : txs n f = txs n g := by
 unfold txs
 apply List.map_congr_left
 intro i hi
 rw [h i (List.mem_range.1 hi)]
theorem TxtS.uniq {n : Nat} {f g : Nat → Rat} {ys zs : List Tx} {e e' : Int} (h : TxtS n f ys e) (h' : TxtS n g zs e') (hfg : ∀ i, i < n → f i = g i) : ys = zs ∧ e = e' := by
 rcases h with ⟨⟨i, hi, h1⟩, rfl, rfl⟩ | ⟨h1, rfl, rfl⟩ <;> rcases h' with ⟨⟨j, hj, g1⟩, rfl, rfl⟩ | ⟨g1, rfl, rfl⟩
 ·exact ⟨rfl, rfl⟩
 ·exact absurd (by rw [hfg i hi]; exact g1 i hi) h1
 ·exact absurd (by rw [← hfg j hj]; exact h1 j hj) g1
 ·exact ⟨txs_congr hfg, rfl⟩
def MtxS (m n : Nat) (f : Nat → Nat → Rat) (ys : List (List Tx)) (e : Int) : Prop :=
 ((∃ i, i < m ∧ ∃ k, k < n ∧ ¬ Small 4000 (f i k)) ∧ ys = [] ∧ e = 5) ∨ ((∀ i, i < m → ∀ k, k < n → Small 4000 (f i k)) ∧ ys = mtx m n f ∧ e = 0)
theorem mtx_congr {m n : Nat} {f g : Nat → Nat → Rat} (h : ∀ i, i < m → ∀ k, k < n → f i k = g i k) : mtx m n f = mtx m n g := by
 unfold mtx
 apply List.map_congr_left
 intro i hi
 exact txs_congr (h i (List.mem_range.1 hi))
theorem MtxS.uniq {m n : Nat} {f g : Nat → Nat → Rat} {ys zs : List (List Tx)} {e e' : Int} (h : MtxS m n f ys e) (h' : MtxS m n g zs e') (hfg : ∀ i, i < m → ∀ k, k < n → f i k = g i k) : ys = zs ∧ e = e' := by
 rcases h with ⟨⟨i, hi, k, hk, h1⟩, rfl, rfl⟩ | ⟨h1, rfl, rfl⟩ <;> rcases h' with ⟨⟨j, hj, q, hq, g1⟩, rfl, rfl⟩ | ⟨g1, rfl, rfl⟩
 ·exact ⟨rfl, rfl⟩
 ·exact absurd (by rw [hfg i hi k hk]; exact g1 i hi k hk) h1
 ·exact absurd (by rw [← hfg j hj q hq]; exact h1 j hj q hq) g1
 ·exact ⟨mtx_congr hfg, rfl⟩
def VOut (ys : List Tx) (e : Int) (v : Value) (w : World) : Prop := ∃ a c, v = .tuple ⟨[.slice a ys.length c, .int .i64 e]⟩ ∧ Sl w a (strs ys) ∧ ys.length ≤ c ∧ ∀ g, ab a = some g → g < w.heap.size
def MOut (ys : List (List Tx)) (e : Int) (v : Value) (w : World) : Prop := ∃ a c, v = .tuple ⟨[.slice a ys.length c, .int .i64 e]⟩ ∧ SM w a ys
theorem VOut.nil (e : Int) (w : World) : VOut [] e (.tuple ⟨[.slice none 0 0, .int .i64 e]⟩) w := ⟨none, 0, rfl, Sl.nil _ _, Nat.le_refl _, fun g h => by cases h⟩
theorem SM.nil (w : World) : SM w none [] := ⟨fun _ => none, fun _ => 0, Sl.nil _ _, fun i hi => absurd hi (by simp)⟩
theorem MOut.nil (e : Int) (w : World) : MOut [] e (.tuple ⟨[.slice none 0 0, .int .i64 e]⟩) w := ⟨none, 0, rfl, SM.nil w⟩
theorem TxtR.spec {n : Nat} {f : Nat → Rat} {v : Value} {w : World} (h : TxtR n f v w) : ∃ ys e, TxtS n f ys e ∧ VOut ys e v w := by
 rcases h with ⟨h1, rfl⟩ | ⟨h1, a, c, rfl, hs, hc, ht⟩
 ·exact ⟨[], 5, .inl ⟨h1, rfl, rfl⟩, VOut.nil _ _⟩
 ·exact ⟨txs n f, 0, .inr ⟨h1, rfl, rfl⟩, a, c, by rw [txs_length], hs, by rw [txs_length]; exact hc, fun g hg => (ht g hg).lt⟩
theorem MtxR.spec {m n : Nat} {f : Nat → Nat → Rat} {v : Value} {w : World} (h : MtxR m n f v w) : ∃ ys e, MtxS m n f ys e ∧ MOut ys e v w := by
 rcases h with ⟨h1, rfl⟩ | ⟨h1, a, c, rfl, hs⟩
 ·exact ⟨[], 5, .inl ⟨h1, rfl, rfl⟩, MOut.nil _ _⟩
 ·exact ⟨mtx m n f, 0, .inr ⟨h1, rfl, rfl⟩, a, c, by rw [mtx_length], hs⟩

def TraS (xss : List (List Tx)) (ys : List (List Tx)) (e : Int) : Prop :=
 (e ≠ 0 ∧ XErr xss e ∧ ys = []) ∨ (XErr xss 0 ∧ MtxS (rw' xss 0).length xss.length (fun j i => mval xss i j) ys e)
theorem TraS.uniq {xss ys zs : List (List Tx)} {e f : Int} (h : TraS xss ys e) (h' : TraS xss zs f) : ys = zs ∧ e = f := by
 rcases h with ⟨h1, h2, rfl⟩ | ⟨h1, h2⟩ <;> rcases h' with ⟨g1, g2, rfl⟩ | ⟨g1, g2⟩
 ·exact ⟨rfl, h2.uniq g2⟩
 ·exact absurd (h2.uniq g1) h1
 ·exact absurd (g2.uniq h1) g1
 ·exact h2.uniq g2 (fun _ _ _ _ => rfl)
theorem TraR.spec {xss : List (List Tx)} {v : Value} {w : World} (h : TraR xss v w) : ∃ ys e, TraS xss ys e ∧ MOut ys e v w := by
 rcases h with ⟨e, h1, h2, rfl⟩ | ⟨h1, h2⟩
 ·exact ⟨[], e, .inl ⟨h1, h2, rfl⟩, MOut.nil _ _⟩
 ·obtain ⟨ys, e, h3, h4⟩ := h2.spec
  exact ⟨ys, e, .inr ⟨h1, h3⟩, h4⟩
def DErr' (xss yss : List (List Tx)) (e : Int) : Prop := (e ≠ 0 ∧ XErr xss e) ∨ (XErr xss 0 ∧ XErr yss e)
theorem DErr'.uniq {xss yss : List (List Tx)} {e f : Int} (h : DErr' xss yss e) (h' : DErr' xss yss f) : e = f := by
 rcases h with ⟨h1, h2⟩ | ⟨h1, h2⟩ <;> rcases h' with ⟨g1, g2⟩ | ⟨g1, g2⟩
 ·exact h2.uniq g2
 ·exact absurd (h2.uniq g1) h1
 ·exact absurd (g2.uniq h1) g1
 ·exact h2.uniq g2
def MulS (xss yss : List (List Tx)) (ys : List (List Tx)) (e : Int) : Prop :=
 (e ≠ 0 ∧ DErr' xss yss e ∧ ys = []) ∨ (DErr' xss yss 0 ∧ (rw' xss 0).length ≠ yss.length ∧ ys = [] ∧ e = 10) ∨
 (DErr' xss yss 0 ∧ (rw' xss 0).length = yss.length ∧ MtxS xss.length (rw' yss 0).length (mmul yss.length (mval xss) (mval yss)) ys e)
theorem MulS.uniq {xss yss ys zs : List (List Tx)} {e f : Int} (h : MulS xss yss ys e) (h' : MulS xss yss zs f) : ys = zs ∧ e = f := by
 rcases h with ⟨h1, h2, rfl⟩ | ⟨h1, h2, rfl, rfl⟩ | ⟨h1, h2, h3⟩ <;> rcases h' with ⟨g1, g2, rfl⟩ | ⟨g1, g2, rfl, rfl⟩ | ⟨g1, g2, g3⟩
 ·exact ⟨rfl, h2.uniq g2⟩
 ·exact absurd (h2.uniq g1) h1
 ·exact absurd (h2.uniq g1) h1
 ·exact absurd (g2.uniq h1) g1
 ·exact ⟨rfl, rfl⟩
 ·exact absurd g2 h2
 ·exact absurd (g2.uniq h1) g1
 ·exact absurd h2 g2
 ·exact h3.uniq g3 (fun _ _ _ _ => rfl)
theorem MtxS.congr {m n : Nat} {f g : Nat → Nat → Rat} {ys : List (List Tx)} {e : Int} (h : MtxS m n f ys e) (hfg : ∀ i, i < m → ∀ k, k < n → f i k = g i k) : MtxS m n g ys e := by
 rcases h with ⟨⟨i, hi, k, hk, h1⟩, h2, h3⟩ | ⟨h1, h2, h3⟩
 ·exact .inl ⟨⟨i, hi, k, hk, by rw [← hfg i hi k hk]; exact h1⟩, h2, h3⟩
 ·exact .inr ⟨fun i hi k hk => by rw [← hfg i hi k hk]; exact h1 i hi k hk, by rw [h2, mtx_congr hfg], h3⟩
theorem TxtS.congr {n : Nat} {f g : Nat → Rat} {ys : List Tx} {e : Int} (h : TxtS n f ys e) (hfg : ∀ i, i < n → f i = g i) : TxtS n g ys e := by
 rcases h with ⟨⟨i, hi, h1⟩, h2, h3⟩ | ⟨h1, h2, h3⟩
 ·exact .inl ⟨⟨i, hi, by rw [← hfg i hi]; exact h1⟩, h2, h3⟩
 ·exact .inr ⟨fun i hi => by rw [← hfg i hi]; exact h1 i hi, by rw [h2, txs_congr hfg], h3⟩
theorem MulR.spec {xss yss : List (List Tx)} {v : Value} {w : World} (h : MulR xss yss v w) : ∃ ys e, MulS xss yss ys e ∧ MOut ys e v w := by
 rcases h with ⟨e, h1, h2, rfl⟩ | ⟨h1, h2, h3, rfl⟩ | ⟨h1, h2, h3, h4⟩
 ·exact ⟨[], e, .inl ⟨h1, by rcases h2 with h | h; exact .inl ⟨h1, h⟩; exact .inr h, rfl⟩, MOut.nil _ _⟩
 ·exact ⟨[], 10, .inr (.inl ⟨.inr ⟨h1, h2⟩, h3, rfl, rfl⟩), MOut.nil _ _⟩
 ·obtain ⟨ys, e, h5, h6⟩ := h4.spec
  refine ⟨ys, e, .inr (.inr ⟨.inr ⟨h1, h2⟩, h3, h5.congr (fun i hi k hk => ?_)⟩), h6⟩
  unfold mmul
  exact sm_congr fun t _ => by grind
def AppS (xss : List (List Tx)) (ys : List Tx) (zs : List Tx) (e : Int) : Prop :=
 (e ≠ 0 ∧ BErr xss ys e ∧ zs = []) ∨ (BErr xss ys 0 ∧ (rw' xss 0).length ≠ ys.length ∧ zs = [] ∧ e = 10) ∨
 (BErr xss ys 0 ∧ (rw' xss 0).length = ys.length ∧ TxtS xss.length (mapp ys.length (mval xss) (vval ys)) zs e)
theorem AppS.uniq {xss : List (List Tx)} {ys zs zs' : List Tx} {e f : Int} (h : AppS xss ys zs e) (h' : AppS xss ys zs' f) : zs = zs' ∧ e = f := by
 rcases h with ⟨h1, h2, rfl⟩ | ⟨h1, h2, rfl, rfl⟩ | ⟨h1, h2, h3⟩ <;> rcases h' with ⟨g1, g2, rfl⟩ | ⟨g1, g2, rfl, rfl⟩ | ⟨g1, g2, g3⟩
 ·exact ⟨rfl, h2.uniq g2⟩
 ·exact absurd (h2.uniq g1) h1
 ·exact absurd (h2.uniq g1) h1
 ·exact absurd (g2.uniq h1) g1
 ·exact ⟨rfl, rfl⟩
 ·exact absurd g2 h2
 ·exact absurd (g2.uniq h1) g1
 ·exact absurd h2 g2
 ·exact h3.uniq g3 (fun _ _ => rfl)
theorem AppR.spec {xss : List (List Tx)} {ys : List Tx} {v : Value} {w : World} (h : AppR xss ys v w) : ∃ zs e, AppS xss ys zs e ∧ VOut zs e v w := by
 rcases h with ⟨e, h1, h2, rfl⟩ | ⟨h1, h2, rfl⟩ | ⟨h1, h2, h3⟩
 ·exact ⟨[], e, .inl ⟨h1, h2, rfl⟩, VOut.nil _ _⟩
 ·exact ⟨[], 10, .inr (.inl ⟨h1, h2, rfl, rfl⟩), VOut.nil _ _⟩
 ·obtain ⟨ys, e, h5, h6⟩ := h3.spec
  exact ⟨ys, e, .inr (.inr ⟨h1, h2, h5⟩), h6⟩
def RnkS (xss : List (List Tx)) (n : Int) (e : Int) : Prop := (e ≠ 0 ∧ XErr xss e ∧ n = 0) ∨ (XErr xss 0 ∧ e = 0 ∧ n = ((gj xss.length (mval xss) (rw' xss 0).length).2 : Nat))
theorem RnkS.uniq {xss : List (List Tx)} {m n e f : Int} (h : RnkS xss m e) (h' : RnkS xss n f) : m = n ∧ e = f := by
 rcases h with ⟨h1, h2, rfl⟩ | ⟨h1, rfl, rfl⟩ <;> rcases h' with ⟨g1, g2, rfl⟩ | ⟨g1, rfl, rfl⟩
 ·exact ⟨rfl, h2.uniq g2⟩
 ·exact absurd (h2.uniq g1) h1
 ·exact absurd (g2.uniq h1) g1
 ·exact ⟨rfl, rfl⟩
theorem sol_same {n : Nat} {f : Mx} {b x y : Nat → Rat} (h : (gj n f n).2 = n) (hx : ∀ i, i < n → mapp n f x i = b i) (hy : ∀ i, i < n → mapp n f y i = b i) (i : Nat) (hi : i < n) : x i = y i := by
 rw [(solve_iff (c := 1) (b := fun i _ => b i) h 0 (by omega) x).1 hx i hi, (solve_iff (c := 1) (b := fun i _ => b i) h 0 (by omega) y).1 hy i hi]
def SlvS (n : Nat) (f : Nat → Nat → Rat) (b : Nat → Rat) (zs : List Tx) (e : Int) : Prop :=
 ((gj n f n).2 ≠ n ∧ zs = [] ∧ e = 17) ∨ ((gj n f n).2 = n ∧ ∃ x, (∀ i, i < n → mapp n f x i = b i) ∧ TxtS n x zs e)
theorem SlvS.uniq {n : Nat} {f : Nat → Nat → Rat} {b : Nat → Rat} {ys zs : List Tx} {e e' : Int} (h : SlvS n f b ys e) (h' : SlvS n f b zs e') : ys = zs ∧ e = e' := by
 rcases h with ⟨h1, rfl, rfl⟩ | ⟨h1, x, h2, h3⟩ <;> rcases h' with ⟨g1, rfl, rfl⟩ | ⟨g1, y, g2, g3⟩
 ·exact ⟨rfl, rfl⟩
 ·exact absurd g1 h1
 ·exact absurd h1 g1
 ·exact h3.uniq g3 (sol_same h1 h2 g2)
theorem SlvS.congr {n : Nat} {f g : Nat → Nat → Rat} {b c : Nat → Rat} {zs : List Tx} {e : Int} (h : SlvS n f b zs e) (hf : ∀ i, i < n → ∀ k, k < n → f i k = g i k) (hb : ∀ i, i < n → b i = c i) : SlvS n g c zs e := by
 have hr : (gj n f n).2 = (gj n g n).2 := (gj_cols (n := n) (fun i k hi hk => hf i hi k hk) n (Nat.le_refl _)).1
 rcases h with ⟨h1, h2, h3⟩ | ⟨h1, x, h2, h3⟩
 ·exact .inl ⟨by rw [← hr]; exact h1, h2, h3⟩
 ·refine .inr ⟨by rw [← hr]; exact h1, x, fun i hi => ?_, h3⟩
  rw [← hb i hi, ← h2 i hi]
  exact sm_congr fun t ht => by rw [hf i hi t ht]
def SolS (xss : List (List Tx)) (ys : List Tx) (zs : List Tx) (e : Int) : Prop :=
 (e ≠ 0 ∧ BErr xss ys e ∧ zs = []) ∨ (BErr xss ys 0 ∧ (xss.length ≠ (rw' xss 0).length ∨ ys.length ≠ xss.length) ∧ zs = [] ∧ e = 10) ∨
 (BErr xss ys 0 ∧ xss.length = (rw' xss 0).length ∧ ys.length = xss.length ∧ SlvS xss.length (mval xss) (vval ys) zs e)
theorem SolS.uniq {xss : List (List Tx)} {ys zs zs' : List Tx} {e f : Int} (h : SolS xss ys zs e) (h' : SolS xss ys zs' f) : zs = zs' ∧ e = f := by
 rcases h with ⟨h1, h2, rfl⟩ | ⟨h1, h2, rfl, rfl⟩ | ⟨h1, h2, h3, h4⟩ <;> rcases h' with ⟨g1, g2, rfl⟩ | ⟨g1, g2, rfl, rfl⟩ | ⟨g1, g2, g3, g4⟩
 ·exact ⟨rfl, h2.uniq g2⟩
 ·exact absurd (h2.uniq g1) h1
 ·exact absurd (h2.uniq g1) h1
 ·exact absurd (g2.uniq h1) g1
 ·exact ⟨rfl, rfl⟩
 ·rcases h2 with h | h
  ·exact absurd g2 h
  ·exact absurd g3 h
 ·exact absurd (g2.uniq h1) g1
 ·rcases g2 with h | h
  ·exact absurd h2 h
  ·exact absurd h3 h
 ·exact h4.uniq g4
def LeaS (xss : List (List Tx)) (ys : List Tx) (zs : List Tx) (e : Int) : Prop :=
 (e ≠ 0 ∧ BErr xss ys e ∧ zs = []) ∨ (BErr xss ys 0 ∧ ys.length ≠ xss.length ∧ zs = [] ∧ e = 10) ∨
 (BErr xss ys 0 ∧ ys.length = xss.length ∧ SlvS (rw' xss 0).length (mmul xss.length (trp (mval xss)) (mval xss)) (mapp xss.length (trp (mval xss)) (vval ys)) zs e)
theorem LeaS.uniq {xss : List (List Tx)} {ys zs zs' : List Tx} {e f : Int} (h : LeaS xss ys zs e) (h' : LeaS xss ys zs' f) : zs = zs' ∧ e = f := by
 rcases h with ⟨h1, h2, rfl⟩ | ⟨h1, h2, rfl, rfl⟩ | ⟨h1, h2, h3⟩ <;> rcases h' with ⟨g1, g2, rfl⟩ | ⟨g1, g2, rfl, rfl⟩ | ⟨g1, g2, g3⟩
 ·exact ⟨rfl, h2.uniq g2⟩
 ·exact absurd (h2.uniq g1) h1
 ·exact absurd (h2.uniq g1) h1
 ·exact absurd (g2.uniq h1) g1
 ·exact ⟨rfl, rfl⟩
 ·exact absurd g2 h2
 ·exact absurd (g2.uniq h1) g1
 ·exact absurd h2 g2
 ·exact h3.uniq g3
def IvsS (n : Nat) (f : Nat → Nat → Rat) (zs : List (List Tx)) (e : Int) : Prop :=
 ((gj n f n).2 ≠ n ∧ zs = [] ∧ e = 17) ∨ ((gj n f n).2 = n ∧ ∃ x : Mx, (∀ i, i < n → ∀ j, j < n → mmul n f x i j = idn i j) ∧ MtxS n n x zs e)
theorem IvsS.uniq {n : Nat} {f : Nat → Nat → Rat} {ys zs : List (List Tx)} {e e' : Int} (h : IvsS n f ys e) (h' : IvsS n f zs e') : ys = zs ∧ e = e' := by
 rcases h with ⟨h1, rfl, rfl⟩ | ⟨h1, x, h2, h3⟩ <;> rcases h' with ⟨g1, rfl, rfl⟩ | ⟨g1, y, g2, g3⟩
 ·exact ⟨rfl, rfl⟩
 ·exact absurd g1 h1
 ·exact absurd h1 g1
 ·exact h3.uniq g3 (fun i hi j hj => sol_same (b := fun i => idn i j) h1 (fun i hi => h2 i hi j hj) (fun i hi => g2 i hi j hj) i hi)
def InvS (xss : List (List Tx)) (zs : List (List Tx)) (e : Int) : Prop :=
 (e ≠ 0 ∧ XErr xss e ∧ zs = []) ∨ (XErr xss 0 ∧ xss.length ≠ (rw' xss 0).length ∧ zs = [] ∧ e = 10) ∨
 (XErr xss 0 ∧ xss.length = (rw' xss 0).length ∧ IvsS xss.length (mval xss) zs e)
theorem InvS.uniq {xss ys zs : List (List Tx)} {e f : Int} (h : InvS xss ys e) (h' : InvS xss zs f) : ys = zs ∧ e = f := by
 rcases h with ⟨h1, h2, rfl⟩ | ⟨h1, h2, rfl, rfl⟩ | ⟨h1, h2, h3⟩ <;> rcases h' with ⟨g1, g2, rfl⟩ | ⟨g1, g2, rfl, rfl⟩ | ⟨g1, g2, g3⟩
 ·exact ⟨rfl, h2.uniq g2⟩
 ·exact absurd (h2.uniq g1) h1
 ·exact absurd (h2.uniq g1) h1
 ·exact absurd (g2.uniq h1) g1
 ·exact ⟨rfl, rfl⟩
 ·exact absurd g2 h2
 ·exact absurd (g2.uniq h1) g1
 ·exact absurd h2 g2
 ·exact h3.uniq g3
end
section
set_option maxHeartbeats 2000000
open Go Go.Proofs Go.RowKit Go.Lib

theorem stepR_scope {P : Program} {b : Frame} {a : Act} {k : List Item} {cs : List Frame} {w : World} {c : Code} : step P (lone (b.atR a (.code (.scope c) :: k)) cs w) = .next (lone (b.atR a (.code c :: .inScope c :: k)) cs w) :=
 step_lone_go (by simp [stepG, stepG.exec, Frame.atR])
theorem stepR_inScope {P : Program} {b : Frame} {a : Act} {k : List Item} {cs : List Frame} {w : World} {c : Code} : step P (lone (b.atR a (.inScope c :: k)) cs w) = .next (lone (b.atR a k) cs w) :=
 step_lone_go (by simp [stepG, stepG.exec, Frame.atR])
theorem wpIn_scope {F : Fence} {n : Nat} {P : Program} {Q : Exit → Act → World → Prop} {a : Act} {w : World} {c : Code} (hq : ∀ l a w, ¬ Q (.goto l) a w) (h : c.wpIn F n P Q a w) : (Code.scope c).wpIn F n P Q a w := by
 intro b k cs hro hb hr
 have h0 : (lone (b.atR a (.code (.scope c) :: k)) cs w).fenced P F := fenced_calm hb hr rfl
 obtain ⟨e, a₁, w₁, hqe, harr⟩ := h b (.inScope c :: k) cs hro hb hr
 cases e with
 | normal => exact ⟨.normal, a₁, w₁, hqe, .head h0 stepR_scope (StepsIn.trans harr (.one (fenced_calm hb hr rfl) stepR_inScope))⟩
 | exit id =>
  have hx : exitTo id (.inScope c :: k) = exitTo id k := by simp [exitTo]
  exact ⟨.exit id, a₁, w₁, hqe, fun k' hk => .head h0 stepR_scope (harr.1 k' (by rw [hx]; exact hk)),
   fun hr' hk => let ⟨k₁, h1, h2⟩ := harr.2 hr' (by rw [hx]; exact hk); ⟨k₁, h1, .head h0 stepR_scope h2⟩⟩
 | goto l => exact absurd hqe (hq l a₁ w₁)
 | ret => exact ⟨_, a₁, w₁, hqe, .of_steps (.one h0 stepR_scope) harr⟩
 | panic ch => exact ⟨_, a₁, w₁, hqe, .of_steps (.one h0 stepR_scope) harr⟩
 | outgrown => exact ⟨_, a₁, w₁, hqe, .of_steps (.one h0 stepR_scope) harr⟩
section
variable {P : Program} {ro : Option Nat} {n : Nat} {ds : List Deferred} {Q : PT} {l : Fr} {w : World} {k : List It}
theorem lbl {id : Nat} (t : T P ro n ds Q l w .nrm k) : T P ro n ds Q l w (.code (.label id)) k := fun a hf => wpIn_label (t a hf)
theorem KQ_goto : ∀ (k : List It) (Q : PT) (q : Nat) (a : Act) (w : World), KQ P ro k Q (.goto q) a w → Q (.goto q) a w
 | [], Q, q, a, w, h => h
 | .c y :: k, Q, q, a, w, h => KQ_goto k Q q a w h
 | .blk id :: k, Q, q, a, w, h => KQ_goto k Q q a w h
 | .inv J :: k, Q, q, a, w, h => KQ_goto k Q q a w h
theorem scp {c : Code} (hq : ∀ q a w, ¬ Q (.goto q) a w) (t : T P ro n ds Q l w (.code c) k) : T P ro n ds Q l w (.code (.scope c)) k :=
 fun a hf => wpIn_scope (fun q a w h => hq q a w (KQ_goto k Q q a w h)) (t a hf)
end
theorem rws_drop (m n r : Nat) (A : Nat → Option Addr) (C : Nat → Nat) : (rws m n A C).drop r = rws (m - r) n (fun j => A (r + j)) (fun j => C (r + j)) := by
 apply List.ext_getElem?
 intro j
 rw [List.getElem?_drop]
 by_cases h : j < m - r
 ·rw [rws_get h, rws_get (by omega)]
 ·rw [List.getElem?_eq_none (by rw [rws_length]; omega), List.getElem?_eq_none (by rw [rws_length]; omega)]
theorem sadd_ab (g o c l sz : Nat) : ab (sadd (some ⟨g, o, none⟩) c l sz) = some g := by
 unfold sadd
 split
 ·rfl
 ·show ab (some ((⟨g, o, none⟩ : Addr).add (l * sz))) = some g
  rw [add_plain]; rfl
theorem gj_succ_none {m k : Nat} {f : Mx} {g : Mx} {r : Nat} (hs : gj m f k = (g, r)) (hz : ∀ j, r ≤ j → j < m → g j k = 0) : gj m f (k + 1) = (g, r) := by
 rw [gj, hs, gstep]
 have : piv m k g r = none := fnz_no fun j h1 h2 => by rw [hz j h1 (by omega)]; simp
 rw [this]
theorem gj_succ_some {m k i : Nat} {f : Mx} {g : Mx} {r : Nat} (hs : gj m f k = (g, r)) (hri : r ≤ i) (hi : i < m) (hne : g i k ≠ 0) (hz : ∀ j, r ≤ j → j < i → g j k = 0) : gj m f (k + 1) = (gnew r i k g, r + 1) := by
 rw [gj, hs, gstep]
 have : piv m k g r = some i := fnz_at hri (by omega) (by simpa using hne) fun j h1 h2 => by rw [hz j h1 h2]; simp
 rw [this]
theorem bl_base {base : Nat} {w w1 w2 : World} (h : Below base w w1) (h' : Below w1.heap.size w1 w2) (hb : base ≤ w.heap.size) : Below base w w2 := bl_tr h h' (Nat.le_trans hb h.size)
def RdcI (w w' : World) (base go c m n : Nat) (A : Nat → Option Addr) (C : Nat → Nat) (g : Mx) : Prop :=
 w'.ownsRow base 105 1 (.slice (some ⟨go, 0, none⟩) m c) m (rws m n A C) ∧ Own2 w' base m A (fun _ => n) C g ∧ Below base w w'
theorem RdcI.step {w w1 w2 : World} {base go c m n : Nat} {A : Nat → Option Addr} {C : Nat → Nat} {g : Mx} (h : RdcI w w1 base go c m n A C g) (hb : Below w1.heap.size w1 w2) (hbase : base ≤ w.heap.size) : RdcI w w2 base go c m n A C g :=
 ⟨own_bw h.1 hb, h.2.1.below hb, bl_base h.2.2 hb hbase⟩
theorem RdcI.congr {w w1 : World} {base go c m n : Nat} {A : Nat → Option Addr} {C : Nat → Nat} {g g' : Mx} (h : RdcI w w1 base go c m n A C g) (he : ∀ i, i < m → ∀ t, t < n → g i t = g' i t) : RdcI w w1 base go c m n A C g' :=
 ⟨h.1, h.2.1.congr he, h.2.2⟩
theorem RdcI.lt {w w1 : World} {base go c m n : Nat} {A : Nat → Option Addr} {C : Nat → Nat} {g : Mx} (h : RdcI w w1 base go c m n A C g) : ∀ j, j < m → ∀ q, ab (A j) = some q → q < w1.heap.size := fun j hj q hq => by
 obtain ⟨cs, h1, _⟩ := h.2.1.1 j hj
 exact (own_block h1 q hq).2
theorem RdcI.tg {w w1 : World} {base go c m n : Nat} {A : Nat → Option Addr} {C : Nat → Nat} {g : Mx} (h : RdcI w w1 base go c m n A C g) : ∀ j, j < m → ∀ q, ab (A j) = some q → Tg w1 76 q := fun j hj q hq => by
 obtain ⟨cs, h1, _⟩ := h.2.1.1 j hj
 exact own_tag h1 q hq
theorem RdcI.row {w w1 : World} {base go c m n : Nat} {A : Nat → Option Addr} {C : Nat → Nat} {g : Mx} (h : RdcI w w1 base go c m n A C g) (hn : 0 < n) {j : Nat} (hj : j < m) : ∃ q cs, A j = some ⟨q, 0, none⟩ ∧ w1.ownsRow base 76 3 (.slice (some ⟨q, 0, none⟩) n (C j)) n cs ∧ Els w1 cs n (g j) := by
 obtain ⟨cs, h1, h2⟩ := h.2.1.1 j hj
 rcases h1.2 with ⟨_, e⟩ | ⟨q, cap, cur, e, _⟩
 ·have : n = 0 := e
  omega
 ·have e' : A j = some ⟨q, 0, none⟩ := by simp only [Value.slice.injEq] at e; exact e.1
  exact ⟨q, cs, e', by rw [← e']; exact h1, h2⟩
theorem RdcI.set {w w1 w2 : World} {base go c m n : Nat} {A : Nat → Option Addr} {C : Nat → Nat} {g : Mx} (h : RdcI w w1 base go c m n A C g) {j t q : Nat} {cs vs : List Value} {x : Rat} (hj : j < m) (ht : t < n) (hA : A j = some ⟨q, 0, none⟩)
  (he : Els w1 cs n (g j)) (hx : FQ w1 (.agg ⟨vs⟩) x) (hv : vs.length = 3) (ho : w2.ownsRow base 76 3 (.slice (some ⟨q, 0, none⟩) n (C j)) n (els cs t vs)) (hg : w1.grownBy w2 (some q)) (hbase : base ≤ w.heap.size) :
  RdcI w w2 base go c m n A C (upd g j (upd (g j) t x)) := by
 have hab : ab (A j) = some q := by rw [hA]; rfl
 have htq := h.tg j hj q hab
 have hbq : base ≤ q := by
  obtain ⟨cs', h1, _⟩ := h.2.1.1 j hj
  exact (own_block h1 q hab).1
 have hg' : w1.grownBy w2 (ab (A j)) := by rw [hab]; exact hg
 refine ⟨own_keep h.1 hg (fun p hp e => (own_tag h.1 p hp).ne (by cases e; exact htq) rfl rfl), h.2.1.put hj hg' (by rw [hA]; exact ho) ?_, h.2.2.grown hg (Nat.le_trans hbase h.2.2.size) (fun p e => by cases e; exact hbq)⟩
 exact ((he.set ht hx hv).push hg (fun p e => by cases e; exact htq))
def elq (r k q : Nat) (g : Mx) : Mx := fun a t => if a < q then elm r k g a t else g a t
theorem elq_zero (r k : Nat) (g : Mx) (a t : Nat) : elq r k 0 g a t = g a t := by unfold elq; rw [if_neg (by omega)]
theorem elq_at (r k q : Nat) (g : Mx) (t : Nat) : elq r k q g q t = g q t := by unfold elq; rw [if_neg (by omega)]
theorem elq_piv (r k q : Nat) (g : Mx) (t : Nat) : elq r k q g r t = g r t := by
 unfold elq elm
 split
 ·rw [if_pos rfl]
 ·rfl
theorem elq_skip {r k q : Nat} {g : Mx} (h : q = r ∨ g q k = 0) (a t : Nat) : elq r k q g a t = elq r k (q + 1) g a t := by
 unfold elq
 by_cases ha : a = q
 ·subst ha
  rw [if_neg (by omega), if_pos (by omega)]
  unfold elm
  rcases h with h | h
  ·rw [if_pos h, h]
  ·split
   ·rename_i h2; rw [h2]
   ·rw [h, Rat.neg_zero, Rat.mul_zero, Rat.add_zero]
 ·by_cases hlt : a < q
  ·rw [if_pos hlt, if_pos (by omega)]
  ·rw [if_neg hlt, if_neg (by omega)]
theorem elq_all {m r k : Nat} {g : Mx} {a : Nat} (ha : a < m) (t : Nat) : elq r k m g a t = elm r k g a t := by unfold elq; rw [if_pos ha]
def ela (x y : Nat → Rat) (b : Rat) (q : Nat) : Nat → Rat := fun t => if t < q then x t + y t * b else x t
theorem ela_zero (x y : Nat → Rat) (b : Rat) (t : Nat) : ela x y b 0 t = x t := by unfold ela; rw [if_neg (by omega)]
theorem ela_at (x y : Nat → Rat) (b : Rat) (q : Nat) : ela x y b q q = x q := by unfold ela; rw [if_neg (by omega)]
theorem ela_skip {x y : Nat → Rat} {b : Rat} {q : Nat} (h : y q = 0) (t : Nat) : ela x y b q t = ela x y b (q + 1) t := by
 unfold ela
 by_cases hq : t = q
 ·subst hq; rw [if_neg (by omega), if_pos (by omega), h, Rat.zero_mul, Rat.add_zero]
 ·by_cases hlt : t < q
  ·rw [if_pos hlt, if_pos (by omega)]
  ·rw [if_neg hlt, if_neg (by omega)]
theorem ela_step (x y : Nat → Rat) (b : Rat) (q t : Nat) : upd (ela x y b q) q (x q + y q * b) t = ela x y b (q + 1) t := by
 by_cases hq : t = q
 ·subst hq; rw [upd_same]; unfold ela; rw [if_pos (by omega)]
 ·rw [upd_ne _ _ hq]
  unfold ela
  by_cases hlt : t < q
  ·rw [if_pos hlt, if_pos (by omega)]
  ·rw [if_neg hlt, if_neg (by omega)]
theorem elq_step {n r k q : Nat} {g : Mx} (hq : q ≠ r) (a t : Nat) (ht : t < n) : upd (elq r k q g) q (ela (g q) (g r) (-(g q k)) n) a t = elq r k (q + 1) g a t := by
 by_cases ha : a = q
 ·subst ha
  rw [upd_same]
  unfold ela elq elm
  rw [if_pos ht, if_pos (by omega), if_neg hq]
 ·rw [upd_ne _ _ ha]
  unfold elq
  by_cases hlt : a < q
  ·rw [if_pos hlt, if_pos (by omega)]
  ·rw [if_neg hlt, if_neg (by omega)]
end
end Go.Proofs.YtejlpdbiacmfcaaGreatDoor
