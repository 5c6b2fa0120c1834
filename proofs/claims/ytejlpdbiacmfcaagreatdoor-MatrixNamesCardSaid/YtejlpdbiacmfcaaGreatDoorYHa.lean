/-
  The law package's lists of lists of texts: literals; own, light, same; the kit's Own.
  Conditions: what is copied fits into memory.

  Texts of numbers and back; written-out matrices.
  No conditions: each theorem names its own premises.

  Walks of package rat's Int and Add, at numbers; frac.Must.
  Conditions: the numbers' digits fit; the library's table of powers of ten is laid.

  Rows of the reference's rational numbers: vectors and matrices of them.
  No conditions: each theorem names its own premises.

  Walks of the reference's Vector, Check, number, vector, matrix, texts, table, zero.
  Conditions: texts take fewer than 2^40 bytes, lists fewer than 2^40 elements.

  Walks of the reference's vector, matrix, texts, table, zero.
  Conditions: texts take fewer than 2^40 bytes, lists at most a million elements.

  Walks of the reference's flip, dot, apply, times, scale, combine.
  Conditions: a bound on the sizes of the numbers.

  Walks of the reference's times, scale, combine.
  Conditions: a bound on the sizes of the numbers.
-/
import Derived.Test.YtejlpdbiacmfcaaGreatDoorYR5
import Derived.Test.YtejlpdbiacmfcaaGreatDoorYFa
import Derived.Test.YtejlpdbiacmfcaaGreatDoorYPs
import Derived.Test.YtejlpdbiacmfcaaGreatDoorYVb
import Derived.Test.YtejlpdbiacmfcaaGreatDoorYVu
import Derived.Test.YtejlpdbiacmfcaaGreatDoorYKa
import Derived.Test.YtejlpdbiacmfcaaGreatDoorYMl
section
set_option linter.unusedSimpArgs false
set_option linter.unusedVariables false
set_option maxHeartbeats 2000000
namespace Go.Proofs.YtejlpdbiacmfcaaGreatDoor
open Go Go.Proofs Go.RowKit Go.Lib

section
variable {P : Program} (U : Tys P) {ro : Option Nat} {n : Nat} {ds : List Deferred} {Q : PT} {l l' : Fr} {w w' : World} {arr : Array Oper} {r : List Oper} {k : List It}
/-- A slice of written-out values of one cell each. -/
theorem bsv {d1 len : Nat} {t e ty : TypeId} {ops : List (Nat × Operand)} {ps : String} {af : Array Edge} {g1 : Option (Nat × Bool)} {z : Value} {by_ : Nat} (vs : List Value)
    (hx : ops.mapM (fun p => (ev l p.2).map fun v => (p.1, v)) = some ((vs.zipIdx 0).map fun x => (x.2, x.1))) (ht : U.tb.u t = some (.slice e)) (hi : U.tb.inf e = some (1, by_, z)) (hg1 : gd arr l g1 = some true) (hd1 : Nat.blt d1 n = true)
    (hlen : vs.length = len) (hpos : 0 < len) (hsm : len ≤ 16777216) (hall : vs.all one1 = true)
    (t' : ∀ w1, Bk w1 w.heap.size e vs → w1.heap.size = w.heap.size + 1 → w.grownBy w1 none → T P ro n ds Q ((d1, .slice (some ⟨w.heap.size, 0, none⟩) len len) :: l) w1 (.ops arr r) k) :
    T P ro n ds Q l w (.ops arr (⟨some d1, .buildSlice t len ⟨ops⟩, ty, ps, af, g1⟩ :: r)) k := by
  obtain ⟨i, hi0, hz1, hz2, hz3⟩ := U.hi _ _ _ _ hi
  have hpt := U.hu _ _ ht
  have hone : ∀ v ∈ vs, v.cells = #[v] := fun v hv => one1_cells (List.all_eq_true.1 hall v hv)
  have hfill := Great.fill_whole (show 0 < 1 by omega) vs ((Array.range (len * i.size)).map (z.cells[· % z.cells.size]!)) (by
    intro v hv
    rw [hone v hv]; rfl) (by simp [hz1, hlen])
  have hcells : (List.flatMap (fun v => v.cells.toList) vs).toArray = ⟨vs⟩ := by
    have : ∀ us : List Value, (∀ v ∈ us, v.cells = #[v]) → List.flatMap (fun v => v.cells.toList) us = us := by
      intro us
      induction us with
      | nil => intro _; rfl
      | cons u us ih =>
        intro h
        rw [List.flatMap_cons, ih (fun v hv => h v (List.mem_cons_of_mem _ hv)), h u List.mem_cons_self]; rfl
    rw [this vs hone]
  rw [hcells] at hfill
  refine op1 (w' := w.alloc (.cells ⟨vs⟩ e)) (v := .slice (some ⟨w.heap.size, 0, none⟩) len len) (by intro c h; cases h) hg1 (put1_some hd1) (fun a hf => ?_) (t' _ (heap_alloc_new w _) (by simp) (World.grownBy_alloc w _ none))
  have hmap : ops.map (fun p => (p.1, a.eval p.2)) = (vs.zipIdx 0).map fun x => (x.2, x.1) := by
    have key : ∀ (os : List (Nat × Operand)) (rs : List (Nat × Value)), os.mapM (fun p => (ev l p.2).map fun v => (p.1, v)) = some rs → os.map (fun p => (p.1, a.eval p.2)) = rs := by
      intro os
      induction os with
      | nil => intro rs h; simp at h; subst h; rfl
      | cons o os ih =>
        intro rs h
        simp only [List.mapM_cons, Option.pure_def, Option.bind_eq_bind, Option.bind_eq_some_iff, Option.map_eq_some_iff] at h
        obtain ⟨q, ⟨v, hv, rfl⟩, us, hu, h⟩ := h
        simp at h
        subst h
        simp [hf.ev hv, ih us hu]
    exact key ops _ hx
  have hbuild := run_buildSlice (P := P) w t e len ⟨ops.map fun p => (p.1, a.eval p.2)⟩ ⟨vs⟩ i z hpt hi0 hz3 (by rw [hz1]; omega) (by rw [hz1]; omega) (by rw [hz1] at hfill ⊢; simp only [hmap]; exact hfill)
  simp only [execOp, List.map_toArray]
  simp [hbuild]
end

theorem strs_len (ls : List Tx) : (strs ls).length = ls.length := by unfold strs; rw [List.length_map]
/-- A new list of rows of texts. -/
def OwnM (w : World) (B : Nat) (a : Option Addr) (c : Nat) (xss : List (List Tx)) : Prop := ∃ A C, w.ownsRow B 29 1 (.slice a xss.length c) xss.length (srws xss A C) ∧ ∀ i, i < xss.length → Sl w (A i) (strs (rw' xss i)) ∧ ∀ g, ab (A i) = some g → Tg w 35 g
theorem OwnM.sm {w : World} {B : Nat} {a : Option Addr} {c : Nat} {xss : List (List Tx)} (h : OwnM w B a c xss) : SM w a xss := by
  obtain ⟨A, C, h1, h2⟩ := h
  exact ⟨A, C, own_sl h1, fun i hi => (h2 i hi).1⟩
theorem OwnM.nil (w : World) (B : Nat) : OwnM w B none 0 [] := ⟨fun _ => none, fun _ => 0, ⟨rfl, .inl ⟨rfl, rfl⟩⟩, fun i hi => absurd hi (by simp)⟩
theorem OwnM.stay {w w' : World} {B : Nat} {a : Option Addr} {c : Nat} {xss : List (List Tx)} (h : OwnM w B a c xss) (hb : Below w.heap.size w w') : OwnM w' B a c xss := by
  obtain ⟨A, C, h1, h2⟩ := h
  exact ⟨A, C, own_bw h1 hb, fun i hi => ⟨(h2 i hi).1.below hb (fun g hg => ((h2 i hi).2 g hg).lt), fun g hg => ((h2 i hi).2 g hg).below hb⟩⟩
theorem rw_app1 {xss : List (List Tx)} {xs : List Tx} {i : Nat} (h : i < xss.length) : rw' (xss ++ [xs]) i = rw' xss i := by
  unfold rw'; simp [List.getD, List.getElem?_append_left h]
theorem rw_app2 (xss : List (List Tx)) (xs : List Tx) : rw' (xss ++ [xs]) xss.length = xs := by
  unfold rw'; simp [List.getD]
theorem srws_snoc (xss : List (List Tx)) (xs : List Tx) (A : Nat → Option Addr) (C : Nat → Nat) (a : Option Addr) (c : Nat) : srws xss A C ++ [.slice a xs.length c] = srws (xss ++ [xs]) (upd A xss.length a) (upd C xss.length c) := by
  unfold srws
  rw [List.length_append, List.length_singleton, List.range_succ, List.map_append, List.map_singleton, upd_same, upd_same, rw_app2]
  congr 1
  apply List.map_congr_left
  intro i hi
  have := List.mem_range.1 hi
  rw [upd_ne _ _ (by omega), upd_ne _ _ (by omega), rw_app1 this]
/-- One more row. -/
theorem OwnM.snoc {w w' : World} {B : Nat} {a a' b : Option Addr} {c c' d : Nat} {xss : List (List Tx)} {xs : List Tx} {A : Nat → Option Addr} {C : Nat → Nat}
    (ho : w.ownsRow B 29 1 (.slice a xss.length c) xss.length (srws xss A C)) (h2 : ∀ i, i < xss.length → Sl w (A i) (strs (rw' xss i)) ∧ ∀ g, ab (A i) = some g → Tg w 35 g)
    (hb : Sl w b (strs xs)) (hbt : ∀ g, ab b = some g → Tg w 35 g) (hg : w.grownBy w' (ab a)) (ho' : w'.ownsRow B 29 1 (.slice a' (xss.length + 1) c') (xss.length + 1) (srws xss A C ++ [.slice b xs.length d])) : OwnM w' B a' c' (xss ++ [xs]) := by
  have key : ∀ (b : Option Addr) (vs : List Value), Sl w b vs → (∀ g, ab b = some g → Tg w 35 g) → Sl w' b vs ∧ ∀ g, ab b = some g → Tg w' 35 g := fun b vs h1 h2 =>
    have hne : ∀ g, ab b = some g → ab a ≠ some g := fun g hg e => (h2 g hg).ne (own_tag ho g e) rfl rfl
    ⟨h1.keep hg hne, fun q hq => (h2 q hq).grown hg (hne q hq)⟩
  rw [srws_snoc] at ho'
  refine ⟨_, _, by rw [List.length_append, List.length_singleton]; exact ho', fun i hi => ?_⟩
  rw [List.length_append, List.length_singleton] at hi
  by_cases h : i = xss.length
  · subst h; rw [upd_same, rw_app2]; exact key b _ hb hbt
  · rw [upd_ne _ _ h, rw_app1 (by omega)]; exact key _ _ (h2 i (by omega)).1 (h2 i (by omega)).2
/-- A row that is light. -/
def RowL (xs : List Tx) : Prop := xs.length ≤ 6 ∧ ∀ k, k < xs.length → (xs.getD k []).length ≤ 12
/-- Lists of rows that are light. -/
def LightM (xss ls : List (List Tx)) : Prop := (∀ i, i < (xss ++ ls).length → RowL (rw' (xss ++ ls) i)) ∧ xss.length ≤ 6
end Go.Proofs.YtejlpdbiacmfcaaGreatDoor
end
section
set_option linter.unusedSimpArgs false
set_option linter.unusedVariables false
set_option maxHeartbeats 2000000
namespace Go.Proofs.YtejlpdbiacmfcaaGreatDoor
open Go Go.Proofs Go.RowKit Go.Lib

theorem qval_of {s : Tx} (h : QErr s 0) : decide ((qval s).num < 0) = qneg s ∧ (qval s).num.natAbs = dval (qn s) ∧ (qval s).den = dval (qd s) := by
  obtain ⟨hQ, _, _, hg⟩ := h.ok
  have hd0 := qd_pos hQ
  unfold qval
  rw [mkq_num _ _ _ hd0, (mkq_form _ _ _ hd0).2, hg, Nat.div_one, Nat.div_one]
  refine ⟨?_, rfl, rfl⟩
  rw [Bool.eq_iff_iff]
  simp only [decide_eq_true_eq, mkq_neg _ _ _ hd0]
  constructor
  · exact fun h => h.1
  · exact fun hn => ⟨hn, fun h => hQ.2.1 ⟨hn, (dval_zero_iff hQ.1).2 h⟩⟩
theorem drop_first {p : UInt8 → Bool} : ∀ (l : List UInt8), l.dropWhile p = [] ∨ ∃ c t, l.dropWhile p = c :: t ∧ p c = false
  | [] => .inl rfl
  | c :: r => by
    rw [List.dropWhile_cons]
    split
    · exact drop_first r
    · rename_i h
      exact .inr ⟨c, r, rfl, by simpa using h⟩
theorem q_split (s : Tx) : s = (if qneg s = true then [45] else []) ++ qn s ++ (if qslash s = true then 47 :: s.drop ((qpre s).length + 1) else []) := by
  have h1 : (if qneg s = true then [45] else []) ++ qn s = qpre s := by
    unfold qn
    by_cases h : qneg s = true
    · rw [if_pos h, if_pos h]
      unfold qneg at h
      cases hp : qpre s with
      | nil => rw [hp] at h; cases h
      | cons c t =>
        rw [hp] at h
        simp at h
        subst h; rfl
    · rw [if_neg h, if_neg h]; rfl
  rw [h1]
  have h2 : s = qpre s ++ s.dropWhile fun c => c != 47 := (List.takeWhile_append_dropWhile).symm
  rcases drop_first (p := fun c => c != 47) s with h | ⟨c, t, h, hc⟩
  · rw [h, List.append_nil] at h2
    have : qslash s = false := by unfold qslash; rw [← h2]; simp
    rw [this, if_neg (by simp), List.append_nil]; exact h2
  · obtain rfl : c = 47 := by simpa using hc
    rw [h] at h2
    have hl : s.length = (qpre s).length + (t.length + 1) := by
      have := congrArg List.length h2
      rwa [List.length_append, List.length_cons] at this
    have : qslash s = true := by unfold qslash; exact decide_eq_true (by omega)
    rw [this, if_pos rfl]
    have h3 : s.drop ((qpre s).length + 1) = t := by
      have : s = (qpre s ++ [47]) ++ t := by rw [List.append_assoc]; exact h2
      rw [show (qpre s).length + 1 = (qpre s ++ [47]).length by rw [List.length_append]; rfl]
      exact (congrArg (List.drop (qpre s ++ [47]).length) this).trans List.drop_left
    rw [h3]; exact h2
/-- A number's text is the text of its number. -/
theorem q_text_back {s : Tx} (h : QErr s 0) : qtext (qval s) = s := by
  obtain ⟨e1, e2, e3⟩ := qval_of h
  obtain ⟨hQ, _, _, hg⟩ := h.ok
  have hn : decDigits (dval (qn s)) = qn s := (dec_of hQ.1.2.2 hQ.1.1 hQ.1.2.1).symm
  have hfd := qd_form hQ
  have hd : decDigits (dval (qd s)) = qd s := (dec_of hfd.2.2 hfd.1 hfd.2.1).symm
  conv => rhs; rw [q_split s]
  unfold qtext
  rw [e2, e3, hn, hd]
  congr 1
  · congr 1
    rw [← e1]
    by_cases h : (qval s).num < 0
    · rw [if_pos h, if_pos (decide_eq_true h)]
    · rw [if_neg h, if_neg (by rw [decide_eq_false h]; simp)]
  · by_cases hs : qslash s = true
    · rw [if_pos hs]
      have h1 := (hQ.2.2 hs).2.2.2
      rw [if_neg (fun e => h1 ((dval_one_iff hfd).2 e))]
      unfold qd; rw [if_pos hs]
    · rw [if_neg hs]
      rw [if_pos (by unfold qd; rw [if_neg hs]; rfl)]
theorem form_chk {l : Tx} (h : l ≠ [] ∧ (l = [48] ∨ l.head? ≠ some 48) ∧ (l.all fun c => decide (48 ≤ c.toNat ∧ c.toNat ≤ 57)) = true) : Form l :=
  ⟨h.1, h.2.1, fun c hc => by simpa [isD] using List.all_eq_true.1 h.2.2 c hc⟩
/-- A text that is written out as a number is one. -/
def QChk (s : Tx) : Prop :=
  (qn s ≠ [] ∧ (qn s = [48] ∨ (qn s).head? ≠ some 48) ∧ ((qn s).all fun c => decide (48 ≤ c.toNat ∧ c.toNat ≤ 57)) = true) ∧ ¬(qneg s = true ∧ qn s = [48]) ∧
  (qslash s = true → qn s ≠ [48] ∧ (qd s ≠ [] ∧ (qd s = [48] ∨ (qd s).head? ≠ some 48) ∧ ((qd s).all fun c => decide (48 ≤ c.toNat ∧ c.toNat ≤ 57)) = true) ∧ qd s ≠ [48] ∧ qd s ≠ [49]) ∧
  (qn s).length ≤ 4000 ∧ (qd s).length ≤ 4000 ∧ Nat.gcd (dval (qn s)) (dval (qd s)) = 1
instance (s : Tx) : Decidable (QChk s) := by unfold QChk; infer_instance
theorem qok_chk {s : Tx} (h : QChk s) : QErr s 0 :=
  .inr (.inr (.inr ⟨⟨form_chk h.1, h.2.1, fun hs => ⟨(h.2.2.1 hs).1, form_chk (h.2.2.1 hs).2.1, (h.2.2.1 hs).2.2⟩⟩, h.2.2.2.1, h.2.2.2.2.1, h.2.2.2.2.2, rfl⟩))
theorem form_nd {l : Tx} (h : Form l) : nDigits (dval l) = l.length := by
  have := dec_of h.2.2 h.1 h.2.1
  rw [← decDigits_length, ← this]
theorem q_len_small {s : Tx} {K : Nat} (h : QErr s 0) (hl : s.length ≤ K) : Small K (qval s) := by
  obtain ⟨e1, e2, e3⟩ := qval_of h
  obtain ⟨hQ, _, _, hg⟩ := h.ok
  have hsp := congrArg List.length (q_split s)
  simp only [List.length_append] at hsp
  unfold Small
  rw [e2, e3, form_nd hQ.1, form_nd (qd_form hQ)]
  refine ⟨by omega, ?_⟩
  by_cases hs : qslash s = true
  · rw [if_pos hs, List.length_cons] at hsp
    have : (qd s).length = (s.drop ((qpre s).length + 1)).length := by unfold qd; rw [if_pos hs]
    omega
  · have : (qd s).length = 1 := by unfold qd; rw [if_neg hs]; rfl
    have hne := hQ.1.1
    have : 0 < (qn s).length := List.length_pos_iff.2 hne
    omega

theorem txs_getD {n i : Nat} {f : Nat → Rat} (hi : i < n) : (txs n f).getD i [] = qtext (f i) := by simp [txs, List.getD, hi]
theorem txs_verr {n : Nat} {f : Nat → Rat} (h0 : 0 < n) (h64 : n ≤ 64) (hS : ∀ i, i < n → Small 4000 (f i)) : VErr (txs n f) 0 :=
  .inr (.inr (.inr ⟨by rw [txs_length]; exact h0, by rw [txs_length]; exact h64, fun j hj => by
    rw [txs_length] at hj
    rw [txs_getD hj]; exact (q_text_ok _ (hS j hj)).1, rfl⟩))
theorem txs_vval {n i : Nat} {f : Nat → Rat} (hS : ∀ i, i < n → Small 4000 (f i)) (hi : i < n) : vval (txs n f) i = f i := by
  unfold vval; rw [txs_getD hi]; exact (q_text_ok _ (hS i hi)).2
theorem mtx_xerr {m n : Nat} {f : Mx} (h0 : 0 < m) (h1 : 0 < n) (h64 : m ≤ 64) (h65 : n ≤ 64) (hS : ∀ i, i < m → ∀ k, k < n → Small 4000 (f i k)) : XErr (mtx m n f) 0 :=
  .inr (.inr (.inr ⟨by rw [mtx_length]; exact h0, by rw [mtx_len h0]; exact h1, by rw [mtx_length]; exact h64, by rw [mtx_len h0]; exact h65, fun j hj => by
    rw [mtx_length] at hj
    refine ⟨by rw [mtx_len hj, mtx_len h0], ?_⟩
    rw [mtx_row hj]; exact txs_verr h1 h65 (hS j hj), rfl⟩))
theorem mtx_mval {m n i k : Nat} {f : Mx} (hS : ∀ i, i < m → ∀ k, k < n → Small 4000 (f i k)) (hi : i < m) (hk : k < n) : mval (mtx m n f) i k = f i k := by
  unfold mval; rw [mtx_getD hi hk]; exact (q_text_ok _ (hS i hi k hk)).2
theorem qtext_len {r : Rat} (h : Small 4000 r) : (qtext r).length ≤ 8002 := by
  unfold qtext
  simp only [List.length_append, decDigits_length]
  have h1 := h.1
  have h2 := h.2
  have h3 : (if r.num < 0 then [45] else ([] : List UInt8)).length ≤ 1 := by split <;> simp
  have h4 : (if r.den = 1 then [] else 47 :: decDigits r.den).length ≤ 4001 := by
    split
    · simp
    · rw [List.length_cons, decDigits_length]; omega
  omega
theorem txs_lenv {n : Nat} {f : Nat → Rat} (hn : n ≤ 1000000) (hS : ∀ i, i < n → Small 4000 (f i)) : LenV (txs n f) :=
  ⟨by rw [txs_length]; omega, fun j hj => by
    rw [txs_length] at hj
    rw [txs_getD hj]; exact Nat.le_trans (qtext_len (hS j hj)) (by omega)⟩
theorem mtx_lens {m n : Nat} {f : Mx} (hm : m ≤ 1000000) (hn : n ≤ 1000000) (hS : ∀ i, i < m → ∀ k, k < n → Small 4000 (f i k)) : Lens (mtx m n f) :=
  ⟨by rw [mtx_length]; omega, fun i hi => by
    rw [mtx_length] at hi
    rw [mtx_len hi]; omega, fun i hi j hj => by
    rw [mtx_length] at hi
    rw [mtx_row hi] at hj ⊢
    exact (txs_lenv hn (hS i hi)).x j hj⟩

/-- Written-out numbers. -/
def mx (L : List (List Rat)) : Mx := fun i k => (L.getD i []).getD k 0
theorem nil_lens : Lens [] := ⟨by simp, fun i hi => absurd hi (by simp), fun i hi => absurd hi (by simp)⟩
end Go.Proofs.YtejlpdbiacmfcaaGreatDoor
end
section
set_option linter.unusedSimpArgs false
set_option linter.unusedVariables false
set_option maxHeartbeats 2000000
namespace Go.Proofs.YtejlpdbiacmfcaaGreatDoor
open Go Go.Proofs Go.RowKit Go.Lib

theorem qtext_int (z : Int) : qtext (z : Rat) = itoa z := by
  unfold qtext itoa
  rw [Rat.num_intCast, Rat.den_intCast, if_pos rfl, List.append_nil]
  by_cases h : z < 0
  · rw [if_pos h, if_pos h]; rfl
  · rw [if_neg h, if_neg h, List.nil_append]
    congr 1
    omega
theorem mint_calls (z : Int) (h0 : -9223372036854775808 ≤ z) (h1 : z ≤ 9223372036854775807) (w : World) (ht : TabOk w) :
    Calls Tryz.prog 43 #[.int .i64 z] w (Ret fun v w' => v = .string ⟨⟨qtext (z : Rat)⟩⟩ ∧ Below w.heap.size w w') := by
  refine enter Tryz.func43 rfl Tryz.ntmps43 (Nat.le_of_ble_eq_true rfl) ?_
  refine dr U 600 rfl trivial ?_
  have hc : Calls Tryz.prog 82 #[.int .i64 z] w (Ret fun v w' => v = .string ⟨⟨qtext (z : Rat)⟩⟩ ∧ Below w.heap.size w w') :=
    (Tryz.strconv_Itoa z h0 h1 w (ht.tab (by kernel_rfl))).mono (by
      rintro e w' ⟨rfl, k, os, rfl⟩
      exact ⟨_, rfl, by rw [qtext_int], grow_below w k os⟩)
  refine call (f := 82) rfl rfl cb82 hc ?_
  rintro v w1 ⟨rfl, hB⟩
  refine ⟨_, rfl, ?_⟩
  refine dr U 600 rfl trivial ?_
  exact ret Tryz.results43 rfl ⟨_, rfl, rfl, hB⟩

theorem mwith_calls (p : Rat) (hp : Small 4000 p) (s : List UInt8) (g : Nat) (lb : List Value) (J : World → Prop) (hJ : ∀ W W', J W → Below W.heap.size W W' → J W') (hcb : Callable Tryz.prog g)
    (hf : ∀ u W, FQ W u p → J W → TabOk W → Calls Tryz.prog g (u :: lb).toArray W (Ret fun v w' => v = .tuple ⟨[.string ⟨⟨s⟩⟩, .int .i64 0]⟩ ∧ Below W.heap.size W w')) (w : World) (hj : J w) (ht : TabOk w) :
    Calls Tryz.prog 113 #[.string ⟨⟨qtext p⟩⟩, .func (.func g) ⟨[]⟩ ⟨lb⟩] w (Ret fun v w' => v = .tuple ⟨[.string ⟨⟨s⟩⟩, .int .i64 0]⟩ ∧ Below w.heap.size w w') := by
  have hql := qtext_len hp
  obtain ⟨hq0, hqv⟩ := q_text_ok p hp
  refine enter Tryz.func113 rfl Tryz.ntmps113 (Nat.le_of_ble_eq_true rfl) ?_
  refine dr U 600 rfl trivial ?_
  refine call (f := 96) rfl rfl cb96 (frparse_calls (qtext p) (by omega) w) ?_
  rintro v w2 ⟨hr, hB2⟩
  obtain ⟨m, b1, n1, c1, b2, n2, cc2, e, rfl, hqe, hfq⟩ := hr.cases
  obtain rfl := hqe.uniq hq0
  have hf2 := hfq rfl
  rw [hqv] at hf2
  have hbz := hB2.size
  refine ⟨_, rfl, ?_⟩
  refine dr U 600 rfl trivial ?_
  refine al U rfl rfl rfl rfl ?_
  intro b7 w3 hb7 hs3 hk7 hg3
  have hB3 := hB2.grown hg3 hB2.size (fun k e => by cases e)
  refine dr U 600 rfl trivial ?_
  refine st U rfl rfl rfl rfl rfl rfl rfl rfl rfl rfl (hk7) ?_
  intro w4 hk7 hg4 hs4
  have hB4 := hB3.grown hg4 hB3.size (fun k e => by cases e; omega)
  have hB24 : Below w2.heap.size w2 w4 := ((Below.refl _ _).grown hg3 (Nat.le_refl _) (fun k e => by cases e)).grown hg4 (by omega) (fun k e => by cases e; omega)
  have hf4 := hf2.stay hB24
  refine dr U 600 rfl trivial ?_
  refine cF rfl rfl rfl ((fun h => h rfl)) ?_; refine dr U 600 rfl trivial ?_
  refine lg rfl ag_frac rfl rfl hk7 rfl ?_
  refine call (f := g) rfl rfl hcb (hf _ w4 hf4 (hJ _ _ hj hB4) (ht.below hB4)) ?_
  rintro v w5 ⟨rfl, hB5⟩
  refine ⟨_, rfl, ?_⟩
  refine dr U 600 rfl trivial ?_
  exact ret Tryz.results113 rfl ⟨_, rfl, rfl, bl_tr hB4 hB5 hB4.size⟩

theorem madd1_calls (p q : Rat) (hp : Small 4000 p) (hq : Small 4000 q) (hr : Small 4000 (p + q)) (v1 v2 : Value) (w : World) (h1 : FQ w v1 p) (h2 : FQ w v2 q) (ht : TabOk w) :
    Calls Tryz.prog 86 #[v1, v2] w (Ret fun v w' => v = .tuple ⟨[.string ⟨⟨qtext (p + q)⟩⟩, .int .i64 0]⟩ ∧ Below w.heap.size w w') := by
  obtain ⟨u1, u2, u3, u4, u5, u6, u7, rfl⟩ := h1.shape
  obtain ⟨y1, y2, y3, y4, y5, y6, y7, rfl⟩ := h2.shape
  refine enter Tryz.func86 rfl Tryz.ntmps86 (Nat.le_of_ble_eq_true rfl) ?_
  refine dr U 600 rfl trivial ?_
  refine bx rfl rfl rfl rfl ?_
  intro b1 wa hb1 hsa hk1 hga
  have hB1 : Below w.heap.size w wa := (Below.refl _ _).grown hga (Nat.le_refl _) (fun k e => by cases e)
  refine dr U 600 rfl trivial ?_
  refine bx rfl rfl rfl rfl ?_
  intro b2 wb hb2 hsb hk2 hgb
  have hk1 := hk1.keep hgb (by simp)
  have hB2 := hB1.grown hgb hB1.size (fun k e => by cases e)
  refine dr U 600 rfl trivial ?_
  refine lg rfl ag_frac rfl rfl hk1 rfl ?_
  refine lg rfl ag_frac rfl rfl hk2 rfl ?_
  refine call (f := 53) rfl rfl cb53 (fadd_calls p q 4000 (by omega) _ _ wb (h1.stay hB2) (h2.stay hB2) hp hq) ?_
  rintro v w3 ⟨hf3, hB3⟩
  have hB3' := bl_tr hB2 hB3 hB2.size
  refine ⟨_, rfl, ?_⟩
  refine call (f := 55) rfl rfl cb55 (frnumq_calls (p + q) _ w3 hf3 (hr.fits (by omega)) (ht.below hB3')) ?_
  rintro v w4 ⟨hres, hB4⟩
  obtain rfl := hres.ok hr
  refine ⟨_, rfl, ?_⟩
  refine dr U 600 rfl trivial ?_
  exact ret Tryz.results86 rfl ⟨_, rfl, rfl, bl_tr hB3' hB4 hB3'.size⟩
theorem mboth2_calls (p q : Rat) (hp : Small 4000 p) (hq : Small 4000 q) (hr : Small 4000 (p + q)) (b2 b3 : Nat) (x1 : Bool) (x2 x5 : Option Addr) (x3 x4 x6 x7 : Nat) (v2 : Value) (w : World)
    (h1 : FQ w (.agg ⟨[.bool x1, .slice x2 x3 x4, .slice x5 x6 x7]⟩) p) (hk2 : Bk w b2 110 [.func (.func 86) ⟨[]⟩ ⟨[]⟩]) (hk3 : Bk w b3 76 [.bool x1, .slice x2 x3 x4, .slice x5 x6 x7]) (h2 : FQ w v2 q) (ht : TabOk w) :
    Calls Tryz.prog 115 #[v2, .pointer (some ⟨b2, 0, none⟩), .pointer (some ⟨b3, 0, none⟩)] w (Ret fun v w' => v = .tuple ⟨[.string ⟨⟨qtext (p + q)⟩⟩, .int .i64 0]⟩ ∧ Below w.heap.size w w') := by
  obtain ⟨y1, y2, y3, y4, y5, y6, y7, rfl⟩ := h2.shape
  refine enter Tryz.func115 rfl Tryz.ntmps115 (Nat.le_of_ble_eq_true rfl) ?_
  refine dr U 600 rfl trivial ?_
  refine bx rfl rfl rfl rfl ?_
  intro b1 wa hb1 hsa hk1 hga
  have hB1 : Below w.heap.size w wa := (Below.refl _ _).grown hga (Nat.le_refl _) (fun k e => by cases e)
  have hk2 := hk2.keep hga (by simp)
  have hk3 := hk3.keep hga (by simp)
  refine dr U 600 rfl trivial ?_
  refine ld U rfl rfl rfl rfl ((hk2).cell rfl) ?_
  refine lg rfl ag_frac rfl rfl hk3 rfl ?_
  refine lg rfl ag_frac rfl rfl hk1 rfl ?_
  refine call (f := 86) rfl rfl cb86 (madd1_calls p q hp hq hr _ _ wa (h1.stay hB1) (h2.stay hB1) (ht.below hB1)) ?_
  rintro v w4 ⟨rfl, hB4⟩
  refine ⟨_, rfl, ?_⟩
  refine dr U 600 rfl trivial ?_
  exact ret Tryz.results115 rfl ⟨_, rfl, rfl, bl_tr hB1 hB4 hB1.size⟩
theorem mboth1_calls (p q : Rat) (hp : Small 4000 p) (hq : Small 4000 q) (hr : Small 4000 (p + q)) (b1 b2 : Nat) (v1 : Value) (w : World)
    (h1 : FQ w v1 p) (hk1 : Bk w b1 35 [.string ⟨⟨qtext q⟩⟩]) (hk2 : Bk w b2 110 [.func (.func 86) ⟨[]⟩ ⟨[]⟩]) (ht : TabOk w) :
    Calls Tryz.prog 114 #[v1, .pointer (some ⟨b1, 0, none⟩), .pointer (some ⟨b2, 0, none⟩)] w (Ret fun v w' => v = .tuple ⟨[.string ⟨⟨qtext (p + q)⟩⟩, .int .i64 0]⟩ ∧ Below w.heap.size w w') := by
  obtain ⟨y1, y2, y3, y4, y5, y6, y7, rfl⟩ := h1.shape
  refine enter Tryz.func114 rfl Tryz.ntmps114 (Nat.le_of_ble_eq_true rfl) ?_
  refine dr U 600 rfl trivial ?_
  refine bx rfl rfl rfl rfl ?_
  intro b3 wa hb3 hsa hk3 hga
  have hB1 : Below w.heap.size w wa := (Below.refl _ _).grown hga (Nat.le_refl _) (fun k e => by cases e)
  have hk1 := hk1.keep hga (by simp)
  have hk2 := hk2.keep hga (by simp)
  have h1 := h1.stay hB1
  refine dr U 600 rfl trivial ?_
  refine ld U rfl rfl rfl rfl ((hk1).cell rfl) ?_
  refine dr U 600 rfl trivial ?_
  refine call (f := 113) rfl rfl cb113 (mwith_calls q hq (qtext (p + q)) 115 [.pointer (some ⟨b2, 0, none⟩), .pointer (some ⟨b3, 0, none⟩)]
    (fun W => FQ W (.agg ⟨[.bool y1, .slice y2 y3 y4, .slice y5 y6 y7]⟩) p ∧ Bk W b2 110 [.func (.func 86) ⟨[]⟩ ⟨[]⟩] ∧ Bk W b3 76 [.bool y1, .slice y2 y3 y4, .slice y5 y6 y7])
    (fun W W' h hB => ⟨h.1.stay hB, h.2.1.below hB h.2.1.lt, h.2.2.below hB h.2.2.lt⟩) cb115
    (fun u W hu h htW => mboth2_calls p q hp hq hr b2 b3 y1 y2 y5 y3 y4 y6 y7 u W h.1 h.2.1 h.2.2 hu htW) wa ⟨h1, hk2, hk3⟩ (ht.below hB1)) ?_
  rintro v w4 ⟨rfl, hB4⟩
  refine ⟨_, rfl, ?_⟩
  refine dr U 600 rfl trivial ?_
  exact ret Tryz.results114 rfl ⟨_, rfl, rfl, bl_tr hB1 hB4 hB1.size⟩
theorem madd_q {p q : Rat} (hp : Small 4000 p) (hq : Small 4000 q) (hr : Small 4000 (p + q)) (w : World) (ht : TabOk w) :
    Calls Tryz.prog 49 #[.string ⟨⟨qtext p⟩⟩, .string ⟨⟨qtext q⟩⟩] w (Ret fun v w' => v = .tuple ⟨[.string ⟨⟨qtext (p + q)⟩⟩, .int .i64 0]⟩ ∧ Below w.heap.size w w') := by
  have hboth : Calls Tryz.prog 85 #[.string ⟨⟨qtext p⟩⟩, .string ⟨⟨qtext q⟩⟩, .func (.func 86) ⟨[]⟩ ⟨[]⟩] w (Ret fun v w' => v = .tuple ⟨[.string ⟨⟨qtext (p + q)⟩⟩, .int .i64 0]⟩ ∧ Below w.heap.size w w') := by
    refine enter Tryz.func85 rfl Tryz.ntmps85 (Nat.le_of_ble_eq_true rfl) ?_
    refine dr U 600 rfl trivial ?_
    refine bx rfl rfl rfl rfl ?_
    intro b1 wa hb1 hsa hk1 hga
    have hB1 : Below w.heap.size w wa := (Below.refl _ _).grown hga (Nat.le_refl _) (fun k e => by cases e)
    refine dr U 600 rfl trivial ?_
    refine bx rfl rfl rfl rfl ?_
    intro b2 wb hb2 hsb hk2 hgb
    have hk1 := hk1.keep hgb (by simp)
    have hB2 := hB1.grown hgb hB1.size (fun k e => by cases e)
    refine dr U 600 rfl trivial ?_
    refine call (f := 113) rfl rfl cb113 (mwith_calls p hp (qtext (p + q)) 114 [.pointer (some ⟨b1, 0, none⟩), .pointer (some ⟨b2, 0, none⟩)]
      (fun W => Bk W b1 35 [.string ⟨⟨qtext q⟩⟩] ∧ Bk W b2 110 [.func (.func 86) ⟨[]⟩ ⟨[]⟩])
      (fun W W' h hB => ⟨h.1.below hB h.1.lt, h.2.below hB h.2.lt⟩) cb114
      (fun u W hu h htW => mboth1_calls p q hp hq hr b1 b2 u W hu h.1 h.2 htW) wb ⟨hk1, hk2⟩ (ht.below hB2)) ?_
    rintro v w4 ⟨rfl, hB4⟩
    refine ⟨_, rfl, ?_⟩
    refine dr U 600 rfl trivial ?_
    exact ret Tryz.results85 rfl ⟨_, rfl, rfl, bl_tr hB2 hB4 hB2.size⟩
  refine enter Tryz.func49 rfl Tryz.ntmps49 (Nat.le_of_ble_eq_true rfl) ?_
  refine dr U 600 rfl trivial ?_
  refine call (f := 85) rfl rfl cb85 hboth ?_
  rintro v w1 ⟨rfl, hB⟩
  refine ⟨_, rfl, ?_⟩
  refine dr U 600 rfl trivial ?_
  exact ret Tryz.results49 rfl ⟨_, rfl, rfl, hB⟩

theorem must_calls (p : Rat) (hp : Small 4000 p) (w : World) :
    Calls Tryz.prog 54 #[.string ⟨⟨qtext p⟩⟩] w (Ret fun v w' => FQ w' v p ∧ Below w.heap.size w w') := by
  have hql := qtext_len hp
  obtain ⟨hq0, hqv⟩ := q_text_ok p hp
  refine enter Tryz.func54 rfl Tryz.ntmps54 (Nat.le_of_ble_eq_true rfl) ?_
  refine dr U 600 rfl trivial ?_
  refine al U rfl rfl rfl rfl ?_
  intro b2 w0 hb2 hs0 hk2 hg0
  have hB0 : Below w.heap.size w w0 := (Below.refl _ _).grown hg0 (Nat.le_refl _) (fun k e => by cases e)
  refine dr U 600 rfl trivial ?_
  refine call (f := 96) rfl rfl cb96 (frparse_calls (qtext p) (by omega) w0) ?_
  rintro v w1 ⟨hr, hB1⟩
  obtain ⟨m, a1, n1, c1, a2, n2, c2, e, rfl, hqe, hfq⟩ := hr.cases
  obtain rfl := hqe.uniq hq0
  have hf := hfq rfl
  rw [hqv] at hf
  have hk2 := hk2.below hB1 hk2.lt
  have hB1' := bl_tr hB0 hB1 hB0.size
  refine ⟨_, rfl, ?_⟩
  refine dr U 600 rfl trivial ?_
  refine al U rfl rfl rfl rfl ?_
  intro b3 w2 hb3 hs2 hk3 hg2
  have hlt2 := hk2.lt
  have hk2 := hk2.keep hg2 (by simp)
  refine dr U 600 rfl trivial ?_
  refine st U rfl rfl rfl rfl rfl rfl rfl rfl rfl rfl (hk3) ?_
  intro w3 hk3 hg3 hs3
  have hk2 := hk2.keep hg3 (by intro e; cases e; omega)
  have hB3 : Below w1.heap.size w1 w3 := ((Below.refl _ _).grown hg2 (Nat.le_refl _) (fun k e => by cases e)).grown hg3 (by omega) (fun k e => by cases e; omega)
  have hf := hf.stay hB3
  have hB3' := bl_tr hB1' hB3 hB1'.size
  refine dr U 600 rfl trivial ?_
  refine lg rfl ag_frac rfl rfl hk3 rfl ?_
  refine st U rfl rfl rfl rfl rfl rfl rfl rfl rfl rfl (hk2) ?_
  intro w4 hk4 hg4 hs4
  refine dr U 600 rfl trivial ?_
  exact retS Tryz.results54 (vs := [_]) ⟨⟨_, rfl, run_load_agg ag_frac hk4 rfl⟩, trivial⟩ ⟨_, rfl, hf.push hg4 (fun g e => by cases e; exact hk2.tg), hB3'.grown hg4 hB3'.size (fun k e => by cases e; omega)⟩
end Go.Proofs.YtejlpdbiacmfcaaGreatDoor
end
section
set_option linter.unusedSimpArgs false
set_option linter.unusedVariables false
set_option maxHeartbeats 1000000
namespace Go.Proofs.YtejlpdbiacmfcaaGreatDoor
open Go Go.Proofs Go.RowKit Go.Lib

theorem RdI.push {w w' : World} {a : Option Addr} {c : Nat} {xs : List Nat} {row : Option Nat} (h : RdI w a c xs) {t : Nat} (hg : w.grownBy w' row) (hr : ∀ g, row = some g → Tg w t g) (ht : Nat.beq 3 t = false := by rfl) : RdI w' a c xs := by
  have hne : ∀ g, ab a = some g → row ≠ some g := fun g hga e => (h.2.2 g hga).ne (hr g e) ht rfl
  exact ⟨h.1.keep hg hne, h.2.1, fun g hga => (h.2.2 g hga).grown hg (hne g hga)⟩
theorem QR.push {w w' : World} {v : Value} {r : Rat} {row : Option Nat} (h : QR w v r) {t : Nat} (hg : w.grownBy w' row) (hr : ∀ g, row = some g → Tg w t g) (ht : Nat.beq 3 t = false := by rfl) : QR w' v r := by
  obtain ⟨an, cn, ad, cd, rfl, h1, h2⟩ := h
  exact ⟨an, cn, ad, cd, rfl, h1.push hg hr ht, h2.push hg hr ht⟩
theorem QR.shape {w : World} {v : Value} {r : Rat} (h : QR w v r) : ∃ m a1 n1 c1 a2 n2 c2, v = .agg ⟨[.bool m, .slice a1 n1 c1, .slice a2 n2 c2]⟩ := by
  obtain ⟨an, cn, ad, cd, rfl, h1, h2⟩ := h
  exact ⟨_, _, _, _, _, _, _, rfl⟩
/-- The elements are these fractions. -/
def ElsQ (w : World) (cs : List Value) (n : Nat) (f : Nat → Rat) : Prop := cs.length = n * 3 ∧ ∀ i, i < n → QR w (.agg ⟨el cs i⟩) (f i)
theorem ElsQ.stay {w w' : World} {cs : List Value} {n : Nat} {f : Nat → Rat} (h : ElsQ w cs n f) (hb : Below w.heap.size w w') : ElsQ w' cs n f := ⟨h.1, fun i hi => (h.2 i hi).stay hb⟩
theorem ElsQ.push {w w' : World} {cs : List Value} {n : Nat} {f : Nat → Rat} {row : Option Nat} (h : ElsQ w cs n f) {t : Nat} (hg : w.grownBy w' row) (hr : ∀ g, row = some g → Tg w t g) (ht : Nat.beq 3 t = false := by rfl) : ElsQ w' cs n f := ⟨h.1, fun i hi => (h.2 i hi).push hg hr ht⟩
theorem ElsQ.snoc {w : World} {cs t : List Value} {n : Nat} {f : Nat → Rat} (h : ElsQ w cs n f) (ht : QR w (.agg ⟨t⟩) (f n)) : ElsQ w (cs ++ t) (n + 1) f := by
  obtain ⟨m, a1, n1, c1, a2, n2, c2, e⟩ := ht.shape
  have hl : t.length = 3 := by simp only [Value.agg.injEq, Array.mk.injEq] at e; rw [e]; rfl
  refine ⟨by rw [List.length_append, h.1, hl]; omega, fun i hi => ?_⟩
  by_cases hn : i < n
  · rw [el_app (by rw [h.1]; omega)]; exact h.2 i hn
  · obtain rfl : i = n := by omega
    rw [el_last h.1 hl]; exact ht
theorem ElsQ.nil (w : World) (f : Nat → Rat) : ElsQ w [] 0 f := ⟨rfl, fun i hi => absurd hi (by omega)⟩
/-- A slice of fractions. -/
def VecQ (w : World) (a : Option Addr) (n : Nat) (f : Nat → Rat) : Prop := ∃ cs, ElsQ w cs n f ∧ Sl w a cs ∧ ∀ g, ab a = some g → Tg w 86 g
theorem VecQ.stay {w w' : World} {a : Option Addr} {n : Nat} {f : Nat → Rat} (h : VecQ w a n f) (hb : Below w.heap.size w w') : VecQ w' a n f := by
  obtain ⟨cs, h1, h2, h3⟩ := h
  exact ⟨cs, h1.stay hb, h2.below hb (fun g hg => (h3 g hg).lt), fun g hg => (h3 g hg).below hb⟩
/-- A slice of m rows of n fractions. -/
def MatQ (w : World) (a : Option Addr) (m n : Nat) (f : Nat → Nat → Rat) : Prop := ∃ A C, Sl w a (rws m n A C) ∧ (∀ i, i < m → VecQ w (A i) n (f i) ∧ n ≤ C i) ∧ ∀ g, ab a = some g → Tg w 169 g
theorem MatQ.stay {w w' : World} {a : Option Addr} {m n : Nat} {f : Nat → Nat → Rat} (h : MatQ w a m n f) (hb : Below w.heap.size w w') : MatQ w' a m n f := by
  obtain ⟨A, C, h1, h2, h3⟩ := h
  exact ⟨A, C, h1.below hb (fun g hg => (h3 g hg).lt), fun i hi => ⟨(h2 i hi).1.stay hb, (h2 i hi).2⟩, fun g hg => (h3 g hg).below hb⟩
theorem VecQ.push {w w' : World} {a : Option Addr} {n : Nat} {f : Nat → Rat} {row : Option Nat} {t : Nat} (h : VecQ w a n f) (hg : w.grownBy w' row) (hr : ∀ g, row = some g → Tg w t g) (ht : Nat.beq 3 t = false := by rfl) (hf : Nat.beq 86 t = false := by rfl) : VecQ w' a n f := by
  obtain ⟨cs, h1, h2, h3⟩ := h
  have hne : ∀ g, ab a = some g → row ≠ some g := fun g hga e => (h3 g hga).ne (hr g e) hf rfl
  exact ⟨cs, h1.push hg hr ht, h2.keep hg hne, fun g hga => (h3 g hga).grown hg (hne g hga)⟩
/-- Rows of fractions that agree with a matrix. -/
def RwsQ (w : World) (m n : Nat) (A : Nat → Option Addr) (C : Nat → Nat) (f : Nat → Nat → Rat) : Prop := ∀ i, i < m → VecQ w (A i) n (f i) ∧ n ≤ C i
theorem RwsQ.stay {w w' : World} {m n : Nat} {A : Nat → Option Addr} {C : Nat → Nat} {f : Nat → Nat → Rat} (h : RwsQ w m n A C f) (hb : Below w.heap.size w w') : RwsQ w' m n A C f := fun i hi => ⟨(h i hi).1.stay hb, (h i hi).2⟩
theorem RwsQ.push {w w' : World} {m n : Nat} {A : Nat → Option Addr} {C : Nat → Nat} {f : Nat → Nat → Rat} {row : Option Nat} {t : Nat} (h : RwsQ w m n A C f) (hg : w.grownBy w' row) (hr : ∀ g, row = some g → Tg w t g) (ht : Nat.beq 3 t = false := by rfl) (hf : Nat.beq 86 t = false := by rfl) : RwsQ w' m n A C f := fun i hi => ⟨(h i hi).1.push hg hr ht hf, (h i hi).2⟩
theorem RwsQ.snoc {w : World} {m n : Nat} {A : Nat → Option Addr} {C : Nat → Nat} {f : Nat → Nat → Rat} {a : Option Addr} {c : Nat} (h : RwsQ w m n A C f) (hv : VecQ w a n (f m)) (hc : n ≤ c) : RwsQ w (m + 1) n (upd A m a) (upd C m c) f := by
  intro i hi
  by_cases hm : i = m
  · subst hm; rw [upd_same, upd_same]; exact ⟨hv, hc⟩
  · rw [upd_ne _ _ hm, upd_ne _ _ hm]; exact h i (by omega)
theorem RwsQ.none (w : World) (n : Nat) (A : Nat → Option Addr) (C : Nat → Nat) (f : Nat → Nat → Rat) : RwsQ w 0 n A C f := fun i hi => absurd hi (by omega)
/-- Rows in blocks of their own: row j holds the first L j numbers of column j. -/
def OwnQ (w : World) (base n : Nat) (A : Nat → Option Addr) (L C : Nat → Nat) (f : Nat → Nat → Rat) : Prop :=
  (∀ j, j < n → ∃ cs, w.ownsRow base 86 3 (.slice (A j) (L j) (C j)) (L j) cs ∧ ElsQ w cs (L j) (f j)) ∧ ∀ j j', j < n → j' < n → j ≠ j' → ∀ g, ab (A j) = some g → ab (A j') ≠ some g
theorem OwnQ.keep {w w' : World} {base n t : Nat} {A : Nat → Option Addr} {L C : Nat → Nat} {f : Nat → Nat → Rat} {row : Option Nat} (h : OwnQ w base n A L C f) (hg : w.grownBy w' row) (hr : ∀ g, row = some g → Tg w t g) (ht : Nat.beq 3 t = false) (hf : Nat.beq 86 t = false) : OwnQ w' base n A L C f :=
  ⟨fun j hj => by
    obtain ⟨cs, h1, h2⟩ := h.1 j hj
    exact ⟨cs, own_keep h1 hg (fun g hga e => (own_tag h1 g hga).ne (hr g e) hf rfl), h2.push hg hr ht⟩, h.2⟩
theorem OwnQ.below {w w' : World} {base n : Nat} {A : Nat → Option Addr} {L C : Nat → Nat} {f : Nat → Nat → Rat} (h : OwnQ w base n A L C f) (hb : Below w.heap.size w w') : OwnQ w' base n A L C f :=
  ⟨fun j hj => by
    obtain ⟨cs, h1, h2⟩ := h.1 j hj
    exact ⟨cs, own_bw h1 hb, h2.stay hb⟩, h.2⟩
/-- A row grows by one number. -/
theorem OwnQ.grow {w w' : World} {base n k : Nat} {A : Nat → Option Addr} {L C : Nat → Nat} {f : Nat → Nat → Rat} {a' : Option Addr} {c' : Nat} {cs' : List Value} (h : OwnQ w base n A L C f) (hk : k < n) (hg : w.grownBy w' (ab (A k)))
    (ho : w'.ownsRow base 86 3 (.slice a' (L k + 1) c') (L k + 1) cs') (he : ElsQ w' cs' (L k + 1) (f k)) (hp : ab a' = ab (A k) ∨ ab a' = some w.heap.size) : OwnQ w' base n (upd A k a') (upd L k (L k + 1)) (upd C k c') f := by
  obtain ⟨csk, hok, hek⟩ := h.1 k hk
  have htag := own_tag hok
  have hlt : ∀ j, j < n → ∀ g, ab (A j) = some g → g < w.heap.size := fun j hj g hga => by
    obtain ⟨cs, h1, _⟩ := h.1 j hj
    exact (own_block h1 g hga).2
  refine ⟨fun j hj => ?_, fun j j' hj hj' hne g hga hga' => ?_⟩
  · by_cases hjk : j = k
    · subst hjk; rw [upd_same, upd_same, upd_same]; exact ⟨cs', ho, he⟩
    · rw [upd_ne _ _ hjk, upd_ne _ _ hjk, upd_ne _ _ hjk]
      obtain ⟨cs, h1, h2⟩ := h.1 j hj
      exact ⟨cs, own_keep h1 hg (fun g hga e => h.2 j k hj hk hjk g hga e), h2.push hg htag⟩
  · by_cases hjk : j = k
    · subst hjk
      rw [upd_same] at hga
      rw [upd_ne _ _ (fun e => hne e.symm)] at hga'
      rcases hp with hp | hp
      · exact h.2 j j' hj hj' hne g (hp ▸ hga) hga'
      · have := hlt j' hj' g hga'; rw [hga] at hp; cases hp; omega
    · rw [upd_ne _ _ hjk] at hga
      by_cases hjk' : j' = k
      · subst hjk'
        rw [upd_same] at hga'
        rcases hp with hp | hp
        · exact h.2 j j' hj hj' hne g hga (hp ▸ hga')
        · have := hlt j hj g hga; rw [hga'] at hp; cases hp; omega
      · rw [upd_ne _ _ hjk'] at hga'
        exact h.2 j j' hj hj' hne g hga hga'
/-- One more row, in a new block. -/
theorem OwnQ.snoc {w : World} {base i n : Nat} {A : Nat → Option Addr} {C : Nat → Nat} {f : Nat → Nat → Rat} {a : Option Addr} {c B : Nat} {cs : List Value} (h : OwnQ w base i A (fun _ => n) C f) (ho : w.ownsRow B 86 3 (.slice a n c) n cs) (he : ElsQ w cs n (f i)) (hB : base ≤ B)
    (hlt : ∀ j, j < i → ∀ g, ab (A j) = some g → g < B) : OwnQ w base (i + 1) (upd A i a) (fun _ => n) (upd C i c) f := by
  refine ⟨fun j hj => ?_, fun j j' hj hj' hne g hga hga' => ?_⟩
  · by_cases hji : j = i
    · subst hji; rw [upd_same, upd_same]; exact ⟨cs, own_mono2 ho hB, he⟩
    · rw [upd_ne _ _ hji, upd_ne _ _ hji]; exact h.1 j (by omega)
  · by_cases hji : j = i
    · subst hji
      rw [upd_same] at hga
      rw [upd_ne _ _ (fun e => hne e.symm)] at hga'
      have h1 := (own_block ho g hga).1
      have h2 := hlt j' (by omega) g hga'
      omega
    · rw [upd_ne _ _ hji] at hga
      by_cases hji' : j' = i
      · subst hji'
        rw [upd_same] at hga'
        have h1 := (own_block ho g hga').1
        have h2 := hlt j (by omega) g hga
        omega
      · rw [upd_ne _ _ hji'] at hga'
        exact h.2 j j' (by omega) (by omega) hne g hga hga'
theorem OwnQ.start (w : World) (base n : Nat) (f : Nat → Nat → Rat) : OwnQ w base n (fun _ => none) (fun _ => 0) (fun _ => 0) f :=
  ⟨fun j hj => ⟨[], ⟨rfl, .inl ⟨rfl, rfl⟩⟩, ElsQ.nil _ _⟩, fun j j' _ _ _ g h => by cases h⟩
theorem ElsQ.one {w : World} {cs : List Value} {n : Nat} {f : Nat → Rat} (h : ElsQ w cs n f) : ∀ u ∈ cs, u.oneCell' = true := by
  intro u hu
  obtain ⟨q, hq, rfl⟩ := List.getElem_of_mem hu
  have hl := h.1
  have hi : q / 3 < n := by omega
  obtain ⟨m, a1, n1, c1, a2, n2, c2, e⟩ := (h.2 (q / 3) hi).shape
  simp only [Value.agg.injEq, Array.mk.injEq] at e
  have h1 : (el cs (q / 3))[q % 3]? = some cs[q] := by
    unfold el
    rw [List.getElem?_take, if_pos (by omega), List.getElem?_drop, show q / 3 * 3 + q % 3 = q by omega, List.getElem?_eq_getElem hq]
  rw [e] at h1
  have hm := List.mem_of_getElem? h1
  simp at hm
  rcases hm with h | h | h <;> rw [h] <;> rfl
/-- A row grows by some numbers. -/
theorem OwnQ.growp {w w' : World} {base n k : Nat} {A : Nat → Option Addr} {L C : Nat → Nat} {f : Nat → Nat → Rat} {a' : Option Addr} {c' : Nat} {cs' : List Value} {q : Nat} (h : OwnQ w base n A L C f) (hk : k < n) (hg : w.grownBy w' (ab (A k)))
    (ho : w'.ownsRow base 86 3 (.slice a' (q) c') (q) cs') (he : ElsQ w' cs' (q) (f k)) (hp : ab a' = ab (A k) ∨ ab a' = some w.heap.size) : OwnQ w' base n (upd A k a') (upd L k (q)) (upd C k c') f := by
  obtain ⟨csk, hok, hek⟩ := h.1 k hk
  have htag := own_tag hok
  have hlt : ∀ j, j < n → ∀ g, ab (A j) = some g → g < w.heap.size := fun j hj g hga => by
    obtain ⟨cs, h1, _⟩ := h.1 j hj
    exact (own_block h1 g hga).2
  refine ⟨fun j hj => ?_, fun j j' hj hj' hne g hga hga' => ?_⟩
  · by_cases hjk : j = k
    · subst hjk; rw [upd_same, upd_same, upd_same]; exact ⟨cs', ho, he⟩
    · rw [upd_ne _ _ hjk, upd_ne _ _ hjk, upd_ne _ _ hjk]
      obtain ⟨cs, h1, h2⟩ := h.1 j hj
      exact ⟨cs, own_keep h1 hg (fun g hga e => h.2 j k hj hk hjk g hga e), h2.push hg htag⟩
  · by_cases hjk : j = k
    · subst hjk
      rw [upd_same] at hga
      rw [upd_ne _ _ (fun e => hne e.symm)] at hga'
      rcases hp with hp | hp
      · exact h.2 j j' hj hj' hne g (hp ▸ hga) hga'
      · have := hlt j' hj' g hga'; rw [hga] at hp; cases hp; omega
    · rw [upd_ne _ _ hjk] at hga
      by_cases hjk' : j' = k
      · subst hjk'
        rw [upd_same] at hga'
        rcases hp with hp | hp
        · exact h.2 j j' hj hj' hne g hga (hp ▸ hga')
        · have := hlt j hj g hga; rw [hga'] at hp; cases hp; omega
      · rw [upd_ne _ _ hjk'] at hga'
        exact h.2 j j' hj hj' hne g hga hga'
theorem ElsQ.congr {w : World} {cs : List Value} {n : Nat} {f g : Nat → Rat} (h : ElsQ w cs n f) (he : ∀ i, i < n → f i = g i) : ElsQ w cs n g := ⟨h.1, fun i hi => by rw [← he i hi]; exact h.2 i hi⟩
theorem ElsQ.app {w : World} {cs ds : List Value} {n p : Nat} {f g : Nat → Rat} (h : ElsQ w cs n f) (h' : ElsQ w ds p g) : ElsQ w (cs ++ ds) (n + p) (fun t => if t < n then f t else g (t - n)) := by
  refine ⟨by rw [List.length_append, h.1, h'.1]; omega, fun i hi => ?_⟩
  show QR w _ (if i < n then f i else g (i - n))
  by_cases hn : i < n
  · rw [el_app (by rw [h.1]; omega), if_pos hn]; exact h.2 i hn
  · rw [el_app2 h.1 (by omega), if_neg hn]; exact h'.2 (i - n) (by omega)
theorem ElsQ.set {w : World} {cs vs : List Value} {n j : Nat} {f : Nat → Rat} {x : Rat} (h : ElsQ w cs n f) (hj : j < n) (hx : QR w (.agg ⟨vs⟩) x) (hv : vs.length = 3) : ElsQ w (els cs j vs) n (upd f j x) := by
  have hl : j * 3 + 3 ≤ cs.length := by rw [h.1]; omega
  refine ⟨by rw [els_length hl hv]; exact h.1, fun i hi => ?_⟩
  rw [el_els hl hv (by rw [h.1]; omega)]
  by_cases hij : i = j
  · subst hij; rw [if_pos rfl, upd_same]; exact hx
  · rw [if_neg hij, upd_ne _ _ hij]; exact h.2 i hi
theorem OwnQ.congr {w : World} {base n : Nat} {A : Nat → Option Addr} {L C : Nat → Nat} {f g : Nat → Nat → Rat} (h : OwnQ w base n A L C f) (he : ∀ i, i < n → ∀ t, t < L i → f i t = g i t) : OwnQ w base n A L C g :=
  ⟨fun j hj => by
    obtain ⟨cs, h1, h2⟩ := h.1 j hj
    exact ⟨cs, h1, h2.congr (he j hj)⟩, h.2⟩
/-- A row's numbers are replaced where they lie. -/
theorem OwnQ.put {w w' : World} {base n k : Nat} {A : Nat → Option Addr} {L C : Nat → Nat} {f : Nat → Nat → Rat} {f' : Nat → Rat} {cs' : List Value} (h : OwnQ w base n A L C f) (hk : k < n) (hg : w.grownBy w' (ab (A k)))
    (ho : w'.ownsRow base 86 3 (.slice (A k) (L k) (C k)) (L k) cs') (he : ElsQ w' cs' (L k) f') : OwnQ w' base n A L C (upd f k f') := by
  obtain ⟨csk, hok, hek⟩ := h.1 k hk
  have htag := own_tag hok
  refine ⟨fun j hj => ?_, h.2⟩
  by_cases hjk : j = k
  · subst hjk; rw [upd_same]; exact ⟨cs', ho, he⟩
  · rw [upd_ne _ _ hjk]
    obtain ⟨cs, h1, h2⟩ := h.1 j hj
    exact ⟨cs, own_keep h1 hg (fun g hga e => h.2 j k hj hk hjk g hga e), h2.push hg htag⟩
/-- Two rows change places. -/
theorem OwnQ.swap {w : World} {base m n r i : Nat} {A : Nat → Option Addr} {C : Nat → Nat} {f : Nat → Nat → Rat} (h : OwnQ w base m A (fun _ => n) C f) (hr : r < m) (hi : i < m) :
    OwnQ w base m (upd (upd A r (A i)) i (A r)) (fun _ => n) (upd (upd C r (C i)) i (C r)) (swp r i f) := by
  have key : ∀ j, ∃ j', (j < m → j' < m) ∧ upd (upd A r (A i)) i (A r) j = A j' ∧ upd (upd C r (C i)) i (C r) j = C j' ∧ swp r i f j = f j' ∧ j' = (if j = i then r else if j = r then i else j) := by
    intro j
    refine ⟨if j = i then r else if j = r then i else j, ?_, ?_, ?_, ?_, rfl⟩
    · intro hj; split
      · exact hr
      · split
        · exact hi
        · exact hj
    · unfold upd; split
      · rfl
      · split <;> rfl
    · unfold upd; split
      · rfl
      · split <;> rfl
    · unfold swp
      by_cases h1 : j = i
      · subst h1
        rw [if_pos rfl, if_pos rfl]
        split
        · rename_i h2; rw [h2]
        · rfl
      · rw [if_neg h1, if_neg h1]
        split <;> rfl
  refine ⟨fun j hj => ?_, fun j j' hj hj' hne g hga hga' => ?_⟩
  · obtain ⟨q, h1, h2, h3, h4, _⟩ := key j
    rw [h2, h3, h4]; exact h.1 q (h1 hj)
  · obtain ⟨q, h1, h2, _, _, hq⟩ := key j
    obtain ⟨q', h1', h2', _, _, hq'⟩ := key j'
    rw [h2] at hga
    rw [h2'] at hga'
    refine h.2 q q' (h1 hj) (h1' hj') ?_ g hga hga'
    rw [hq, hq']
    split <;> split <;> (try split) <;> (try split) <;> omega
end Go.Proofs.YtejlpdbiacmfcaaGreatDoor
end
section
set_option linter.unusedSimpArgs false
set_option linter.unusedVariables false
set_option maxHeartbeats 2000000
namespace Go.Proofs.YtejlpdbiacmfcaaGreatDoor
open Go Go.Proofs Go.RowKit Go.Lib

end Go.Proofs.YtejlpdbiacmfcaaGreatDoor
end
section
set_option linter.unusedSimpArgs false
set_option linter.unusedVariables false
set_option maxHeartbeats 2000000
namespace Go.Proofs.YtejlpdbiacmfcaaGreatDoor
open Go Go.Proofs Go.RowKit Go.Lib

end Go.Proofs.YtejlpdbiacmfcaaGreatDoor
end
section
set_option linter.unusedSimpArgs false
set_option linter.unusedVariables false
set_option maxHeartbeats 2000000
namespace Go.Proofs.YtejlpdbiacmfcaaGreatDoor
open Go Go.Proofs Go.RowKit Go.Lib

end Go.Proofs.YtejlpdbiacmfcaaGreatDoor
end
section
set_option linter.unusedSimpArgs false
set_option linter.unusedVariables false
set_option maxHeartbeats 2000000
namespace Go.Proofs.YtejlpdbiacmfcaaGreatDoor
open Go Go.Proofs Go.RowKit Go.Lib


end Go.Proofs.YtejlpdbiacmfcaaGreatDoor
end
