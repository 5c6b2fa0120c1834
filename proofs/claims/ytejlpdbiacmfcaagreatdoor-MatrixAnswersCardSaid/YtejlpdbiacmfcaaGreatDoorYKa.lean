/-
  Walks of linear.Rank, Solve, Inverse, Least.
  Conditions: a bound on the sizes of the numbers; the library's table of powers of ten is laid.
  Plain things of lists of texts that are numbers.
  No conditions: each theorem names its own premises.
  The law package's lists of lists of texts: literals; own, light, same; the kit's Own.
  Conditions: what is copied fits into memory.
  Texts of numbers and back; written-out matrices.
  Package linear at light arguments; what it answers at written-out ones.
  Conditions: rows of at most 6 texts of 12 bytes; the library's table of powers of ten is laid.
  The law package's lives, and LinearNames: it returns true. Printed by names27.py.
  Conditions: the library's table of powers of ten is laid.
  What the rows of this seat share where an argument is a list of texts or a list of lists of texts: what it reads as, and how great it may be.
  How great the numbers of a solution are.
-/
import Derived.Test.YtejlpdbiacmfcaaGreatDoorYRF
import Derived.Test.YtejlpdbiacmfcaaGreatDoorYLa
import Derived.Test.YtejlpdbiacmfcaaGreatDoorYVy
import Derived.SizedLaws
set_option linter.unusedSimpArgs false
set_option linter.unusedVariables false
namespace Go.Proofs.YtejlpdbiacmfcaaGreatDoor
section
set_option maxHeartbeats 2000000
open Go Go.Proofs Go.RowKit Go.Lib

theorem own_go {w : World} {base e m c : Nat} {a : Option Addr} {cs : List Value} (h : w.ownsRow base e 1 (.slice a m c) m cs) (hm : 0 < m) : ∃ go, a = some ⟨go, 0, none⟩ := by
 rcases h.2 with ⟨_, e⟩ | ⟨q, cap, cur, e, _⟩
 ·have : m = 0 := e
  omega
 ·simp only [Value.slice.injEq] at e; exact ⟨q, e.1⟩

theorem gj_sol {n : Nat} {f : Mx} {b : Nat → Rat} (h : (gj n f n).2 = n) : ∀ i, i < n → mapp n f (fun i => (gj n (aug n f (fun i _ => b i)) n).1 i (n + 0)) i = b i := fun i hi =>
 (solve_iff (c := 1) (b := fun i _ => b i) h 0 (by omega) (fun i => (gj n (aug n f (fun i _ => b i)) n).1 i (n + 0))).2 (fun _ _ => rfl) i hi
theorem gj_aug_small {n p S : Nat} {f b : Mx} (hfS : ∀ i t, i < n → t < n → Small S (f i t)) (hbS : ∀ i t, i < n → t < p → Small S (b i t)) (hG : grw n S ≤ 1000000) : ∀ i t, i < n → t < n + p → Small 1000000 ((gj n (aug n f b) n).1 i t) :=
 fun i t hi ht => small_mono (gj_small (aug_small hfS hbS) n (by omega) i t hi ht) hG

theorem BErr.xok {xss : List (List Tx)} {ys : List Tx} (h : BErr xss ys 0) : 0 < xss.length ∧ 0 < (rw' xss 0).length ∧ xss.length ≤ 64 ∧ (rw' xss 0).length ≤ 64 := by
 obtain ⟨h1, _⟩ := h.ok
 obtain ⟨a, b, c, d, _⟩ := h1.ok
 exact ⟨a, b, c, d⟩

theorem lSolve_calls (xss : List (List Tx)) (ys : List Tx) (S : Nat) (a b : Option Addr) (c d : Nat) (w : World) (hs : SM w a xss) (hl : xss.length ≤ 1099511627776) (hl2 : ∀ i, i < xss.length → (rw' xss i).length ≤ 1099511627776) (hx : ∀ i, i < xss.length → ∀ j, j < (rw' xss i).length → ((rw' xss i).getD j []).length ≤ 1099511627776)
  (hsy : Sl w b (strs ys)) (hly : ys.length ≤ 1099511627776) (hy : ∀ j, j < ys.length → (ys.getD j []).length ≤ 1099511627776) (ht : TabOk w)
  (hS : BErr xss ys 0 → (∀ i t, i < xss.length → t < (rw' xss 0).length → Small S (mval xss i t)) ∧ (∀ i, i < ys.length → Small S (vval ys i)) ∧ grw xss.length S ≤ 1000000) :
  Calls Tryz.prog 50 #[.slice a xss.length c, .slice b ys.length d] w (Ret fun v w' => (∃ zs e, SolS xss ys zs e ∧ VOut zs e v w') ∧ Below w.heap.size w w') := by
 refine enter Tryz.func50 rfl Tryz.ntmps50 (Nat.le_of_ble_eq_true rfl) ?_
 refine dT rfl ?_
 refine call (f := 87) rfl rfl cb87 (lboth_calls xss ys a b c d w hs hl hl2 hx hsy hly hy) ?_
 rintro v w1 ⟨⟨am, nm, cm, av, nv, cv, e, rfl, he, hok⟩, hB1⟩
 refine ⟨_, rfl, ?_⟩
 refine dT rfl ?_
 refine cS rfl rfl rfl rfl (fun hq1 => ?_) (fun hq1 => ?_)
 ·refine dT rfl ?_
  exact ret Tryz.results50 rfl ⟨_, rfl, ⟨[], e, .inl ⟨hq1, he, rfl⟩, VOut.nil _ _⟩, hB1⟩
 obtain rfl := Classical.not_not.1 hq1
 obtain ⟨rfl, rfl, hM, hV⟩ := hok rfl
 obtain ⟨h0, h1, h64, h65⟩ := he.xok
 obtain ⟨hSm, hSv, hG⟩ := hS he
 have hM0 := hM
 obtain ⟨A, C, hSl, hR, hTb⟩ := hM0
 refine dT rfl ?_
 refine il U rfl rfl rfl rfl rfl rfl rfl (fun _ => rfl) rfl 0 rfl h0 hSl (rws_get h0) ?_
 refine dT rfl ?_
 refine cS rfl rfl rfl rfl (fun hq2 => ?_) (fun hq2 => ?_)
 ·refine dT rfl ?_
  exact ret Tryz.results50 rfl ⟨_, rfl, ⟨[], 10, .inr (.inl ⟨he, .inl (fun h => hq2 (by rw [← h])), rfl, rfl⟩), VOut.nil _ _⟩, hB1⟩
 have hsq : xss.length = (rw' xss 0).length := by omega
 refine dT rfl ?_
 refine cS rfl rfl rfl rfl (fun hq3 => ?_) (fun hq3 => ?_)
 ·refine dT rfl ?_
  exact ret Tryz.results50 rfl ⟨_, rfl, ⟨[], 10, .inr (.inl ⟨he, .inr (fun h => hq3 (by rw [← h])), rfl, rfl⟩), VOut.nil _ _⟩, hB1⟩
 have hlen : ys.length = xss.length := by omega
 rw [hlen] at hV hSv
 rw [← hsq] at hM hSm
 rw [hlen]
 refine dT rfl ?_
 refine call (f := 90) rfl rfl cb90 (lcolumn_calls xss.length (vval ys) (by omega) av cv w1 hV) ?_
 rintro v w2 ⟨⟨a2, c2, rfl, hN⟩, hB2⟩
 have hB2' := bl_tr hB1 hB2 hB1.size
 refine ⟨_, rfl, ?_⟩
 refine call (f := 89) rfl rfl cb89 (lsolve_calls xss.length 1 S (mval xss) (fun i _ => vval ys i) h0 (by omega) (by omega) (by omega) hSm (fun i t hi _ => hSv i hi) hG am a2 cm c2 w2 (hM.stay hB2) hN) ?_
 rintro v w3 ⟨hr, hB3⟩
 have hB3' := bl_tr hB2' hB3 hB2'.size
 rcases hr with ⟨hns, rfl⟩ | ⟨hfull, a3, c3, rfl, hX⟩
 ·refine ⟨_, rfl, ?_⟩
  refine dT rfl ?_
  refine call (f := 88) rfl rfl cb88 (lsolved_no w3) ?_
  rintro v w4 ⟨⟨a4, c4, rfl, h4⟩, hB4⟩
  refine ⟨_, rfl, ?_⟩
  refine dT rfl ?_
  exact ret Tryz.results50 rfl ⟨_, rfl, ⟨[], 17, .inr (.inr ⟨he, hsq, hlen, .inl ⟨hns, rfl, rfl⟩⟩), a4, c4, rfl, h4⟩, bl_tr hB3' hB4 hB3'.size⟩
 ·refine ⟨_, rfl, ?_⟩
  refine dT rfl ?_
  refine call (f := 88) rfl rfl cb88 (lsolved_calls xss.length _ h0 (by omega) (fun i hi => gj_aug_small (p := 1) hSm (fun i t hi _ => hSv i hi) hG i (xss.length + 0) hi (by omega)) a3 c3 w3 hX (ht.below hB3')) ?_
  rintro v w4 ⟨⟨zs, e4, h3, a4, c4, rfl, h4⟩, hB4⟩
  refine ⟨_, rfl, ?_⟩
  refine dT rfl ?_
  exact ret Tryz.results50 rfl ⟨_, rfl, ⟨zs, e4, .inr (.inr ⟨he, hsq, hlen, .inr ⟨hfull, _, gj_sol hfull, h3⟩⟩), a4, c4, rfl, h4⟩, bl_tr hB3' hB4 hB3'.size⟩
end
section
open Go Go.Proofs Go.RowKit Go.Lib

theorem XErr.rows {xss : List (List Tx)} (h : XErr xss 0) : (∀ i, i < xss.length → (rw' xss i).length = (rw' xss 0).length) ∧ ∀ i, i < xss.length → ∀ j, j < (rw' xss 0).length → QErr ((rw' xss i).getD j []) 0 := by
 have hr := h.ok.2.2.2.2
 exact ⟨fun i hi => (hr i hi).1, fun i hi j hj => (hr i hi).2.ok.2.2 j (by rw [(hr i hi).1]; exact hj)⟩
structure Lens (xss : List (List Tx)) : Prop where
 l : xss.length ≤ 1099511627776
 l2 : ∀ i, i < xss.length → (rw' xss i).length ≤ 1099511627776
 x : ∀ i, i < xss.length → ∀ j, j < (rw' xss i).length → ((rw' xss i).getD j []).length ≤ 1099511627776
theorem Lens.row {xss : List (List Tx)} (h : Lens xss) (he : XErr xss 0) : ∀ i, i < xss.length → ∀ j, j < (rw' xss 0).length → ((rw' xss i).getD j []).length ≤ 1099511627776 := fun i hi j hj => h.x i hi j (by rw [he.rows.1 i hi]; exact hj)
structure LenV (ys : List Tx) : Prop where
 l : ys.length ≤ 1099511627776
 x : ∀ j, j < ys.length → (ys.getD j []).length ≤ 1099511627776

theorem txs_snoc (n : Nat) (f : Nat → Rat) : txs (n + 1) f = txs n f ++ [qtext (f n)] := by unfold txs; rw [List.range_succ, List.map_append]; rfl
theorem qtext_zero : qtext 0 = [48] := by have := qtext_nat 0; rw [decDigits_one (by omega)] at this; simpa using this
theorem qtext_one : qtext 1 = [49] := by have := qtext_nat 1; rw [decDigits_one (by omega)] at this; simpa using this
theorem VErr.qok {ys : List Tx} (h : VErr ys 0) : ∀ i, i < ys.length → QErr (ys.getD i []) 0 := h.ok.2.2
theorem mtx_getD {m n i j : Nat} {f : Nat → Nat → Rat} (hi : i < m) (hj : j < n) : (rw' (mtx m n f) i).getD j [] = qtext (f i j) := by
 rw [mtx_row hi]
 simp [txs, List.getD, hj]
theorem mtx_len {m n i : Nat} {f : Nat → Nat → Rat} (hi : i < m) : (rw' (mtx m n f) i).length = n := by rw [mtx_row hi, txs_length]
end
section
set_option maxHeartbeats 2000000
open Go Go.Proofs Go.RowKit Go.Lib

section
variable {P : Program} (U : Tys P) {ro : Option Nat} {n : Nat} {ds : List Deferred} {Q : PT} {l l' : Fr} {w w' : World} {arr : Array Oper} {r : List Oper} {k : List It}
theorem bsv {d1 len : Nat} {t e ty : TypeId} {ops : List (Nat × Operand)} {ps : String} {af : Array Edge} {g1 : Option (Nat × Bool)} {z : Value} {by_ : Nat} (vs : List Value)
  (hx : ops.mapM (fun p => (ev l p.2).map fun v => (p.1, v)) = some ((vs.zipIdx 0).map fun x => (x.2, x.1))) (ht : U.tb.u t = some (.slice e)) (hi : U.tb.inf e = some (1, by_, z)) (hg1 : gd arr l g1 = some true) (hd1 : Nat.blt d1 n = true)
  (hlen : vs.length = len) (hpos : 0 < len) (hsm : len ≤ 16777216) (hall : vs.all one1 = true)
  (t' : ∀ w1, Bk w1 w.heap.size e vs → w1.heap.size = w.heap.size + 1 → w.grownBy w1 none → T P ro n ds Q ((d1, .slice (some ⟨w.heap.size, 0, none⟩) len len) :: l) w1 (.ops arr r) k) :
  T P ro n ds Q l w (.ops arr (⟨some d1, .buildSlice t len ⟨ops⟩, ty, ps, af, g1⟩ :: r)) k := by
 obtain ⟨i, hi0, hz1, hz2, hz3⟩ := U.hi _ _ _ _ hi
 have hpt := U.hu _ _ ht
 have hone : ∀ v ∈ vs, v.cells = #[v] := fun v hv => one1_cells (List.all_eq_true.1 hall v hv)
 have hfill := Great.fill_whole (show 0 < 1 by omega) vs ((Array.range (len * i.size)).map (z.cells[· % z.cells.size]!)) (by
  intro v hv
  rw [hone v hv]; rfl) (by simp [hz1, hlen])
 have hcells : (List.flatMap (fun v => v.cells.toList) vs).toArray = ⟨vs⟩ := by
  have : ∀ us : List Value, (∀ v ∈ us, v.cells = #[v]) → List.flatMap (fun v => v.cells.toList) us = us := by
   intro us
   induction us with
   | nil => intro _; rfl
   | cons u us ih =>
    intro h
    rw [List.flatMap_cons, ih (fun v hv => h v (List.mem_cons_of_mem _ hv)), h u List.mem_cons_self]; rfl
  rw [this vs hone]
 rw [hcells] at hfill
 refine op1 (w' := w.alloc (.cells ⟨vs⟩ e)) (v := .slice (some ⟨w.heap.size, 0, none⟩) len len) (by intro c h; cases h) hg1 (put1_some hd1) (fun a hf => ?_) (t' _ (heap_alloc_new w _) (by simp) (World.grownBy_alloc w _ none))
 have hmap : ops.map (fun p => (p.1, a.eval p.2)) = (vs.zipIdx 0).map fun x => (x.2, x.1) := by
  have key : ∀ (os : List (Nat × Operand)) (rs : List (Nat × Value)), os.mapM (fun p => (ev l p.2).map fun v => (p.1, v)) = some rs → os.map (fun p => (p.1, a.eval p.2)) = rs := by
   intro os
   induction os with
   | nil => intro rs h; simp at h; subst h; rfl
   | cons o os ih =>
    intro rs h
    simp only [List.mapM_cons, Option.pure_def, Option.bind_eq_bind, Option.bind_eq_some_iff, Option.map_eq_some_iff] at h
    obtain ⟨q, ⟨v, hv, rfl⟩, us, hu, h⟩ := h
    simp at h
    subst h
    simp [hf.ev hv, ih us hu]
  exact key ops _ hx
 have hbuild := run_buildSlice (P := P) w t e len ⟨ops.map fun p => (p.1, a.eval p.2)⟩ ⟨vs⟩ i z hpt hi0 hz3 (by rw [hz1]; omega) (by rw [hz1]; omega) (by rw [hz1] at hfill ⊢; simp only [hmap]; exact hfill)
 simp only [execOp, List.map_toArray]
 simp [hbuild]
end

theorem strs_len (ls : List Tx) : (strs ls).length = ls.length := by unfold strs; rw [List.length_map]
def OwnM (w : World) (B : Nat) (a : Option Addr) (c : Nat) (xss : List (List Tx)) : Prop := ∃ A C, w.ownsRow B 29 1 (.slice a xss.length c) xss.length (srws xss A C) ∧ ∀ i, i < xss.length → Sl w (A i) (strs (rw' xss i)) ∧ ∀ g, ab (A i) = some g → Tg w 35 g
theorem OwnM.sm {w : World} {B : Nat} {a : Option Addr} {c : Nat} {xss : List (List Tx)} (h : OwnM w B a c xss) : SM w a xss := by
 obtain ⟨A, C, h1, h2⟩ := h
 exact ⟨A, C, own_sl h1, fun i hi => (h2 i hi).1⟩
theorem OwnM.nil (w : World) (B : Nat) : OwnM w B none 0 [] := ⟨fun _ => none, fun _ => 0, ⟨rfl, .inl ⟨rfl, rfl⟩⟩, fun i hi => absurd hi (by simp)⟩
theorem OwnM.stay {w w' : World} {B : Nat} {a : Option Addr} {c : Nat} {xss : List (List Tx)} (h : OwnM w B a c xss) (hb : Below w.heap.size w w') : OwnM w' B a c xss := by
 obtain ⟨A, C, h1, h2⟩ := h
 exact ⟨A, C, own_bw h1 hb, fun i hi => ⟨(h2 i hi).1.below hb (fun g hg => ((h2 i hi).2 g hg).lt), fun g hg => ((h2 i hi).2 g hg).below hb⟩⟩
theorem rw_app1 {xss : List (List Tx)} {xs : List Tx} {i : Nat} (h : i < xss.length) : rw' (xss ++ [xs]) i = rw' xss i := by
 unfold rw'; simp [List.getD, List.getElem?_append_left h]
theorem rw_app2 (xss : List (List Tx)) (xs : List Tx) : rw' (xss ++ [xs]) xss.length = xs := by
 unfold rw'; simp [List.getD]
theorem srws_snoc (xss : List (List Tx)) (xs : List Tx) (A : Nat → Option Addr) (C : Nat → Nat) (a : Option Addr) (c : Nat) : srws xss A C ++ [.slice a xs.length c] = srws (xss ++ [xs]) (upd A xss.length a) (upd C xss.length c) := by
 unfold srws
 rw [List.length_append, List.length_singleton, List.range_succ, List.map_append, List.map_singleton, upd_same, upd_same, rw_app2]
 congr 1
 apply List.map_congr_left
 intro i hi
 have := List.mem_range.1 hi
 rw [upd_ne _ _ (by omega), upd_ne _ _ (by omega), rw_app1 this]
theorem OwnM.snoc {w w' : World} {B : Nat} {a a' b : Option Addr} {c c' d : Nat} {xss : List (List Tx)} {xs : List Tx} {A : Nat → Option Addr} {C : Nat → Nat}
  (ho : w.ownsRow B 29 1 (.slice a xss.length c) xss.length (srws xss A C)) (h2 : ∀ i, i < xss.length → Sl w (A i) (strs (rw' xss i)) ∧ ∀ g, ab (A i) = some g → Tg w 35 g)
  (hb : Sl w b (strs xs)) (hbt : ∀ g, ab b = some g → Tg w 35 g) (hg : w.grownBy w' (ab a)) (ho' : w'.ownsRow B 29 1 (.slice a' (xss.length + 1) c') (xss.length + 1) (srws xss A C ++ [.slice b xs.length d])) : OwnM w' B a' c' (xss ++ [xs]) := by
 have key : ∀ (b : Option Addr) (vs : List Value), Sl w b vs → (∀ g, ab b = some g → Tg w 35 g) → Sl w' b vs ∧ ∀ g, ab b = some g → Tg w' 35 g := fun b vs h1 h2 =>
  have hne : ∀ g, ab b = some g → ab a ≠ some g := fun g hg e => (h2 g hg).ne (own_tag ho g e) rfl rfl
  ⟨h1.keep hg hne, fun q hq => (h2 q hq).grown hg (hne q hq)⟩
 rw [srws_snoc] at ho'
 refine ⟨_, _, by rw [List.length_append, List.length_singleton]; exact ho', fun i hi => ?_⟩
 rw [List.length_append, List.length_singleton] at hi
 by_cases h : i = xss.length
 ·subst h; rw [upd_same, rw_app2]; exact key b _ hb hbt
 ·rw [upd_ne _ _ h, rw_app1 (by omega)]; exact key _ _ (h2 i (by omega)).1 (h2 i (by omega)).2
def RowL (xs : List Tx) : Prop := xs.length ≤ 6 ∧ ∀ k, k < xs.length → (xs.getD k []).length ≤ 12
def LightM (xss ls : List (List Tx)) : Prop := (∀ i, i < (xss ++ ls).length → RowL (rw' (xss ++ ls) i)) ∧ xss.length ≤ 6
end
section
set_option maxHeartbeats 2000000
open Go Go.Proofs Go.RowKit Go.Lib

theorem qval_of {s : Tx} (h : QErr s 0) : decide ((qval s).num < 0) = qneg s ∧ (qval s).num.natAbs = dval (qn s) ∧ (qval s).den = dval (qd s) := by
 obtain ⟨hQ, _, _, hg⟩ := h.ok
 have hd0 := qd_pos hQ
 unfold qval
 rw [mkq_num _ _ _ hd0, (mkq_form _ _ _ hd0).2, hg, Nat.div_one, Nat.div_one]
 refine ⟨?_, rfl, rfl⟩
 rw [Bool.eq_iff_iff]
 simp only [decide_eq_true_eq, mkq_neg _ _ _ hd0]
 constructor
 ·exact fun h => h.1
 ·exact fun hn => ⟨hn, fun h => hQ.2.1 ⟨hn, (dval_zero_iff hQ.1).2 h⟩⟩
theorem drop_first {p : UInt8 → Bool} : ∀ (l : List UInt8), l.dropWhile p = [] ∨ ∃ c t, l.dropWhile p = c :: t ∧ p c = false
 | [] => .inl rfl
 | c :: r => by
  rw [List.dropWhile_cons]
  split
  ·exact drop_first r
  ·rename_i h
   exact .inr ⟨c, r, rfl, by simpa using h⟩
theorem q_split (s : Tx) : s = (if qneg s = true then [45] else []) ++ qn s ++ (if qslash s = true then 47 :: s.drop ((qpre s).length + 1) else []) := by
 have h1 : (if qneg s = true then [45] else []) ++ qn s = qpre s := by
  unfold qn
  by_cases h : qneg s = true
  ·rw [if_pos h, if_pos h]
   unfold qneg at h
   cases hp : qpre s with
   | nil => rw [hp] at h; cases h
   | cons c t =>
    rw [hp] at h
    simp at h
    subst h; rfl
  ·rw [if_neg h, if_neg h]; rfl
 rw [h1]
 have h2 : s = qpre s ++ s.dropWhile fun c => c != 47 := (List.takeWhile_append_dropWhile).symm
 rcases drop_first (p := fun c => c != 47) s with h | ⟨c, t, h, hc⟩
 ·rw [h, List.append_nil] at h2
  have : qslash s = false := by unfold qslash; rw [← h2]; simp
  rw [this, if_neg (by simp), List.append_nil]; exact h2
 ·obtain rfl : c = 47 := by simpa using hc
  rw [h] at h2
  have hl : s.length = (qpre s).length + (t.length + 1) := by
   have := congrArg List.length h2
   rwa [List.length_append, List.length_cons] at this
  have : qslash s = true := by unfold qslash; exact decide_eq_true (by omega)
  rw [this, if_pos rfl]
  have h3 : s.drop ((qpre s).length + 1) = t := by
   have : s = (qpre s ++ [47]) ++ t := by rw [List.append_assoc]; exact h2
   rw [show (qpre s).length + 1 = (qpre s ++ [47]).length by rw [List.length_append]; rfl]
   exact (congrArg (List.drop (qpre s ++ [47]).length) this).trans List.drop_left
  rw [h3]; exact h2
theorem q_text_back {s : Tx} (h : QErr s 0) : qtext (qval s) = s := by
 obtain ⟨e1, e2, e3⟩ := qval_of h
 obtain ⟨hQ, _, _, hg⟩ := h.ok
 have hn : decDigits (dval (qn s)) = qn s := (dec_of hQ.1.2.2 hQ.1.1 hQ.1.2.1).symm
 have hfd := qd_form hQ
 have hd : decDigits (dval (qd s)) = qd s := (dec_of hfd.2.2 hfd.1 hfd.2.1).symm
 conv => rhs; rw [q_split s]
 unfold qtext
 rw [e2, e3, hn, hd]
 congr 1
 ·congr 1
  rw [← e1]
  by_cases h : (qval s).num < 0
  ·rw [if_pos h, if_pos (decide_eq_true h)]
  ·rw [if_neg h, if_neg (by rw [decide_eq_false h]; simp)]
 ·by_cases hs : qslash s = true
  ·rw [if_pos hs]
   have h1 := (hQ.2.2 hs).2.2.2
   rw [if_neg (fun e => h1 ((dval_one_iff hfd).2 e))]
   unfold qd; rw [if_pos hs]
  ·rw [if_neg hs]
   rw [if_pos (by unfold qd; rw [if_neg hs]; rfl)]
theorem form_chk {l : Tx} (h : l ≠ [] ∧ (l = [48] ∨ l.head? ≠ some 48) ∧ (l.all fun c => decide (48 ≤ c.toNat ∧ c.toNat ≤ 57)) = true) : Form l :=
 ⟨h.1, h.2.1, fun c hc => by simpa [isD] using List.all_eq_true.1 h.2.2 c hc⟩
def QChk (s : Tx) : Prop :=
 (qn s ≠ [] ∧ (qn s = [48] ∨ (qn s).head? ≠ some 48) ∧ ((qn s).all fun c => decide (48 ≤ c.toNat ∧ c.toNat ≤ 57)) = true) ∧ ¬(qneg s = true ∧ qn s = [48]) ∧
 (qslash s = true → qn s ≠ [48] ∧ (qd s ≠ [] ∧ (qd s = [48] ∨ (qd s).head? ≠ some 48) ∧ ((qd s).all fun c => decide (48 ≤ c.toNat ∧ c.toNat ≤ 57)) = true) ∧ qd s ≠ [48] ∧ qd s ≠ [49]) ∧
 (qn s).length ≤ 4000 ∧ (qd s).length ≤ 4000 ∧ Nat.gcd (dval (qn s)) (dval (qd s)) = 1
instance (s : Tx) : Decidable (QChk s) := by unfold QChk; infer_instance
theorem qok_chk {s : Tx} (h : QChk s) : QErr s 0 :=
 .inr (.inr (.inr ⟨⟨form_chk h.1, h.2.1, fun hs => ⟨(h.2.2.1 hs).1, form_chk (h.2.2.1 hs).2.1, (h.2.2.1 hs).2.2⟩⟩, h.2.2.2.1, h.2.2.2.2.1, h.2.2.2.2.2, rfl⟩))
theorem form_nd {l : Tx} (h : Form l) : nDigits (dval l) = l.length := by
 have := dec_of h.2.2 h.1 h.2.1
 rw [← decDigits_length, ← this]
theorem q_len_small {s : Tx} {K : Nat} (h : QErr s 0) (hl : s.length ≤ K) : Small K (qval s) := by
 obtain ⟨e1, e2, e3⟩ := qval_of h
 obtain ⟨hQ, _, _, hg⟩ := h.ok
 have hsp := congrArg List.length (q_split s)
 simp only [List.length_append] at hsp
 unfold Small
 rw [e2, e3, form_nd hQ.1, form_nd (qd_form hQ)]
 refine ⟨by omega, ?_⟩
 by_cases hs : qslash s = true
 ·rw [if_pos hs, List.length_cons] at hsp
  have : (qd s).length = (s.drop ((qpre s).length + 1)).length := by unfold qd; rw [if_pos hs]
  omega
 ·have : (qd s).length = 1 := by unfold qd; rw [if_neg hs]; rfl
  have hne := hQ.1.1
  have : 0 < (qn s).length := List.length_pos_iff.2 hne
  omega

theorem txs_getD {n i : Nat} {f : Nat → Rat} (hi : i < n) : (txs n f).getD i [] = qtext (f i) := by simp [txs, List.getD, hi]
theorem txs_verr {n : Nat} {f : Nat → Rat} (h0 : 0 < n) (h64 : n ≤ 64) (hS : ∀ i, i < n → Small 4000 (f i)) : VErr (txs n f) 0 :=
 .inr (.inr (.inr ⟨by rw [txs_length]; exact h0, by rw [txs_length]; exact h64, fun j hj => by
  rw [txs_length] at hj
  rw [txs_getD hj]; exact (q_text_ok _ (hS j hj)).1, rfl⟩))
theorem txs_vval {n i : Nat} {f : Nat → Rat} (hS : ∀ i, i < n → Small 4000 (f i)) (hi : i < n) : vval (txs n f) i = f i := by
 unfold vval; rw [txs_getD hi]; exact (q_text_ok _ (hS i hi)).2
theorem mtx_xerr {m n : Nat} {f : Mx} (h0 : 0 < m) (h1 : 0 < n) (h64 : m ≤ 64) (h65 : n ≤ 64) (hS : ∀ i, i < m → ∀ k, k < n → Small 4000 (f i k)) : XErr (mtx m n f) 0 :=
 .inr (.inr (.inr ⟨by rw [mtx_length]; exact h0, by rw [mtx_len h0]; exact h1, by rw [mtx_length]; exact h64, by rw [mtx_len h0]; exact h65, fun j hj => by
  rw [mtx_length] at hj
  refine ⟨by rw [mtx_len hj, mtx_len h0], ?_⟩
  rw [mtx_row hj]; exact txs_verr h1 h65 (hS j hj), rfl⟩))
theorem mtx_mval {m n i k : Nat} {f : Mx} (hS : ∀ i, i < m → ∀ k, k < n → Small 4000 (f i k)) (hi : i < m) (hk : k < n) : mval (mtx m n f) i k = f i k := by
 unfold mval; rw [mtx_getD hi hk]; exact (q_text_ok _ (hS i hi k hk)).2
theorem qtext_len {r : Rat} (h : Small 4000 r) : (qtext r).length ≤ 8002 := by
 unfold qtext
 simp only [List.length_append, decDigits_length]
 have h1 := h.1
 have h2 := h.2
 have h3 : (if r.num < 0 then [45] else ([] : List UInt8)).length ≤ 1 := by split <;> simp
 have h4 : (if r.den = 1 then [] else 47 :: decDigits r.den).length ≤ 4001 := by
  split
  ·simp
  ·rw [List.length_cons, decDigits_length]; omega
 omega
theorem txs_lenv {n : Nat} {f : Nat → Rat} (hn : n ≤ 1000000) (hS : ∀ i, i < n → Small 4000 (f i)) : LenV (txs n f) :=
 ⟨by rw [txs_length]; omega, fun j hj => by
  rw [txs_length] at hj
  rw [txs_getD hj]; exact Nat.le_trans (qtext_len (hS j hj)) (by omega)⟩
theorem mtx_lens {m n : Nat} {f : Mx} (hm : m ≤ 1000000) (hn : n ≤ 1000000) (hS : ∀ i, i < m → ∀ k, k < n → Small 4000 (f i k)) : Lens (mtx m n f) :=
 ⟨by rw [mtx_length]; omega, fun i hi => by
  rw [mtx_length] at hi
  rw [mtx_len hi]; omega, fun i hi j hj => by
  rw [mtx_length] at hi
  rw [mtx_row hi] at hj ⊢
  exact (txs_lenv hn (hS i hi)).x j hj⟩

def mx (L : List (List Rat)) : Mx := fun i k => (L.getD i []).getD k 0
theorem nil_lens : Lens [] := ⟨by simp, fun i hi => absurd hi (by simp), fun i hi => absurd hi (by simp)⟩
end
section
set_option maxHeartbeats 2000000
open Go Go.Proofs Go.RowKit Go.Lib

def LtM (xss : List (List Tx)) : Prop := xss.length ≤ 7 ∧ ∀ i, i < xss.length → RowL (rw' xss i)
theorem RowL.small {ys : List Tx} (h : RowL ys) (he : VErr ys 0) : ∀ i, i < ys.length → Small 12 (vval ys i) := fun i hi => q_len_small (he.qok i hi) (h.2 i hi)
theorem LtM.small {xss : List (List Tx)} (h : LtM xss) (he : XErr xss 0) : ∀ i t, i < xss.length → t < (rw' xss 0).length → Small 12 (mval xss i t) := fun i t hi ht =>
 q_len_small (he.rows.2 i hi t ht) ((h.2 i hi).2 t (by rw [he.rows.1 i hi]; exact ht))
theorem LtM.cols {xss : List (List Tx)} (h : LtM xss) (he : XErr xss 0) : (rw' xss 0).length ≤ 6 := (h.2 0 he.ok.1).1
theorem grw_at {n k L B : Nat} (hn : n ≤ k) (hB : grw k L ≤ B) : grw n L ≤ B := Nat.le_trans (grw_mono L hn) hB
theorem grw_mono2 {L M : Nat} (h : L ≤ M) : ∀ k, grw k L ≤ grw k M
 | 0 => h
 | k + 1 => by have := grw_mono2 h k; rw [grw, grw]; omega

def VChk (ys : List Tx) : Prop := 0 < ys.length ∧ ys.length ≤ 64 ∧ ∀ j, j < ys.length → QChk (ys.getD j [])
instance (ys : List Tx) : Decidable (VChk ys) := by unfold VChk; infer_instance
theorem VChk.ok {ys : List Tx} (h : VChk ys) : VErr ys 0 := .inr (.inr (.inr ⟨h.1, h.2.1, fun j hj => qok_chk (h.2.2 j hj), rfl⟩))
def XChk (xss : List (List Tx)) : Prop := 0 < xss.length ∧ xss.length ≤ 64 ∧ ∀ i, i < xss.length → (rw' xss i).length = (rw' xss 0).length ∧ VChk (rw' xss i)
instance (xss : List (List Tx)) : Decidable (XChk xss) := by unfold XChk; infer_instance
theorem XChk.ok {xss : List (List Tx)} (h : XChk xss) : XErr xss 0 :=
 .inr (.inr (.inr ⟨h.1, (h.2.2 0 h.1).2.1, h.2.1, (h.2.2 0 h.1).2.2.1, fun i hi => ⟨(h.2.2 i hi).1, (h.2.2 i hi).2.ok⟩, rfl⟩))
theorem txs_back {ys : List Tx} (h : VErr ys 0) : txs ys.length (vval ys) = ys := by
 apply List.ext_getElem (txs_length _ _)
 intro i h1 h2
 have e := q_text_back (h.qok i h2)
 simp only [txs, List.getElem_map, List.getElem_range, vval]
 rw [e]; simp [List.getD, h2]
theorem mtx_back {xss : List (List Tx)} (h : XErr xss 0) : mtx xss.length (rw' xss 0).length (mval xss) = xss := by
 apply List.ext_getElem (mtx_length _ _ _)
 intro i h1 h2
 have hr := h.ok.2.2.2.2 i h2
 have e := txs_back hr.2
 have hg : xss[i] = rw' xss i := by simp [rw', List.getD, h2]
 rw [hr.1] at e
 simp only [mtx, List.getElem_map, List.getElem_range]
 rw [hg]; exact e
theorem TxtS.lit {zs : List Tx} {n : Nat} {f : Nat → Rat} (hz : VErr zs 0) (hn : zs.length = n) (hf : ∀ i, i < n → f i = vval zs i) : TxtS n f zs 0 := by
 subst hn
 exact TxtS.congr (f := vval zs) (.inr ⟨hz.small, (txs_back hz).symm, rfl⟩) (fun i hi => (hf i hi).symm)
theorem MtxS.lit {zss : List (List Tx)} {m n : Nat} {f : Mx} (hz : XErr zss 0) (hm : zss.length = m) (hn : (rw' zss 0).length = n) (hf : ∀ i, i < m → ∀ k, k < n → f i k = mval zss i k) : MtxS m n f zss 0 := by
 subst hm; subst hn
 exact MtxS.congr (f := mval zss) (.inr ⟨hz.small, (mtx_back hz).symm, rfl⟩) (fun i hi k hk => (hf i hi k hk).symm)
instance (ys : List Tx) : Decidable (RowL ys) := by unfold RowL; infer_instance
instance (xss : List (List Tx)) : Decidable (LtM xss) := by unfold LtM; infer_instance
end
section
set_option maxHeartbeats 4000000
open Go Go.Proofs Go.RowKit Go.Lib

def Lit (w : World) (v : Value) (xs : List Tx) : Prop := ∃ a c, v = .slice a xs.length c ∧ Sl w a (strs xs)
theorem Lit.stay {w w' : World} {v : Value} {xs : List Tx} (h : Lit w v xs) (hb : Below w.heap.size w w') : Lit w' v xs := by
 obtain ⟨a, c, rfl, h1⟩ := h
 exact ⟨a, c, rfl, h1.stay hb⟩
theorem lit_bk {w : World} {g n c : Nat} {t : TypeId} {xs : List Tx} (h : Bk w g t (strs xs)) (hn : n = xs.length) : Lit w (.slice (some ⟨g, 0, none⟩) n c) xs :=
 ⟨some ⟨g, 0, none⟩, c, by rw [hn], h.sl 0⟩
theorem Lit.sl {w : World} {a : Option Addr} {n c : Nat} {xs : List Tx} (h : Lit w (.slice a n c) xs) : Sl w a (strs xs) ∧ n = xs.length := by
 obtain ⟨a', c', e, h1⟩ := h
 simp only [Value.slice.injEq] at e
 obtain ⟨rfl, rfl, rfl⟩ := e
 exact ⟨h1, rfl⟩
def vadr : Option Value → Option Addr | some (.slice a _ _) => a | _ => none
def vcap : Option Value → Nat | some (.slice _ _ c) => c | _ => 0
section
variable {xss yss zss : List (List Tx)} {ys zs : List Tx} {e : Int}
theorem nsame_x {xs zs' : List Tx} (a b : Option Addr) (c d m n : Nat) (w : World) (h1 : Lit w (.slice a m c) xs) (h2 : Lit w (.slice b n d) zs') (hx : xs.length ≤ 1099511627776) (hy : zs'.length ≤ 1099511627776) :
  Calls Tryz.prog 16 #[.slice a m c, .slice b n d] w (Ret fun v w' => v = .bool (decide (xs = zs')) ∧ Below w.heap.size w w') := by
 obtain ⟨g1, rfl⟩ := h1.sl
 obtain ⟨k1, rfl⟩ := h2.sl
 exact nsame_calls xs zs' a b c d w g1 k1 hx hy
end
end
section
open Go Go.Proofs Go.RowKit Go.Lib Go.WideShapes Go.ChangeAt
open Go.ChangeShapes hiding strs

theorem cells_num : Tryz.prog.cellsOf 35 = 1 := by kernel_rfl
theorem bytes_num : Tryz.prog.bytesOf 35 = 16 := by kernel_rfl
section
variable {H : Type} {enc : TypeId × Value → H}

set_option maxRecDepth 100000 in
/-- A list of texts, wherever it stands. -/
theorem nums_at {W : World} {fuel : Nat} {cs : List Value} {x : DataW H × List MemPlace} (hf : DataW.trod enc Tryz.prog W 0 (fun _ => true) true fuel 29 cs = some x) :
  ∃ (ls : List Tx) (a : Option Addr) (c : Nat), cs = [.slice a ls.length c] ∧ Sl W a (YtejlpdbiacmfcaaGreatDoor.strs ls) ∧ ((∀ n ∈ x.1.weights Tryz.prog 29, n ≤ reachBytes) → ls.length ≤ 8796093022208) := by
 rcases Go.ChangeShapes.open_strings Tryz.underlying29 Tryz.underlying35 cells_num hf with ⟨hcs, hx⟩ | ⟨a, len, cap, ss, hcs, _, hl, hm, hz, hx, hcell, hsz⟩
 ·exact ⟨[], none, 0, hcs, Sl.nil _ _, fun _ => by simp⟩
 ·simp only [if_true] at hz
  have hlen : ((ss.take len).map fun s => s.data.toList).length = len := by simp; omega
  refine ⟨(ss.take len).map fun s => s.data.toList, some a, cap, by rw [hlen]; exact hcs, fun j v hv => ?_, fun hw => ?_⟩
  ·have hj : j < len := by
    have := (List.getElem?_eq_some_iff.1 hv).1
    simp [YtejlpdbiacmfcaaGreatDoor.strs] at this
    omega
   obtain ⟨ab, ao, spot⟩ := a
   have hspot : spot = none := by simpa [Addr.add] using World.cell?_spot (hcell 0 (by omega))
   subst hspot
   refine ⟨ab, ao, rfl, ?_⟩
   have hcj := hcell j (by omega)
   rw [add_plain] at hcj
   rw [hcj]
   have hjz : j < ss.length := by omega
   simp [YtejlpdbiacmfcaaGreatDoor.strs, hj, hjz] at hv
   rw [← hv]
   simp [List.getD, List.getElem?_eq_getElem hjz]
  ·subst hx
   have h1 := hw (((Go.ChangeShapes.strs (ss.take len) : List (DataW H)).length + (Go.ChangeShapes.strs (ss.drop len) : List (DataW H)).length) * Tryz.prog.bytesOf 35) (by
    simp [DataW.weights, Tryz.underlying29])
   rw [bytes_num] at h1
   have h2 : (Go.ChangeShapes.strs (ss.take len) : List (DataW H)).length = len := by simp [Go.ChangeShapes.strs]; omega
   rw [h2] at h1
   rw [hlen]
   unfold reachBytes at h1
   omega
theorem nums_in {W : World} {v : Value} {d : DataW H} {p : List MemPlace} (hval : ∃ a len cap, v = .slice a len cap) (h : DataW.Trod enc Tryz.prog W 0 (fun _ => true) true 29 v d p) :
  ∃ (ls : List Tx) (a : Option Addr) (c : Nat), v = .slice a ls.length c ∧ Lit W v ls ∧ ((∀ n ∈ d.weights Tryz.prog 29, n ≤ reachBytes) → ls.length ≤ 8796093022208) := by
 obtain ⟨a1, len, cap, rfl⟩ := hval
 obtain ⟨fuel, hf⟩ := h
 obtain ⟨ls, a, c, e, hs, hw⟩ := nums_at hf
 have e' : Value.slice a1 len cap = .slice a ls.length c := List.head_eq_of_cons_eq e
 exact ⟨ls, a, c, e', ⟨a, c, e', hs⟩, hw⟩
theorem sized_at {ts : List TypeId} {ds : List (DataW H)} (h : (DataW.weightsEach Tryz.prog ts ds).all (· ≤ reachBytes) = true) {j : Nat} {t : TypeId} {d : DataW H} (ht : ts[j]? = some t) (hd : ds[j]? = some d) : ∀ n ∈ d.weights Tryz.prog t, n ≤ reachBytes := fun n hn => by
 have := List.all_eq_true.1 h n (DataW.weights_mem_each ht hd n hn)
 simpa using this
end
end
section
def Isn (B : Nat) (a : Rat) : Prop := ∃ z : Int, a = (z : Rat) ∧ z.natAbs ≤ B
theorem Isn.mono {B C : Nat} {a : Rat} (h : Isn B a) (hc : B ≤ C) : Isn C a := by
 obtain ⟨z, h1, h2⟩ := h; exact ⟨z, h1, by omega⟩
theorem isn_zero (B : Nat) : Isn B 0 := ⟨0, by simp, by simp⟩
theorem Isn.mul {B C : Nat} {a b : Rat} (h : Isn B a) (g : Isn C b) : Isn (B * C) (a * b) := by
 obtain ⟨z, rfl, h2⟩ := h
 obtain ⟨y, rfl, g2⟩ := g
 exact ⟨z * y, by rw [Rat.intCast_mul], by rw [Int.natAbs_mul]; exact Nat.mul_le_mul h2 g2⟩
theorem Isn.add {B C : Nat} {a b : Rat} (h : Isn B a) (g : Isn C b) : Isn (B + C) (a + b) := by
 obtain ⟨z, rfl, h2⟩ := h
 obtain ⟨y, rfl, g2⟩ := g
 exact ⟨z + y, by rw [Rat.intCast_add], by omega⟩
theorem Isn.sub {B C : Nat} {a b : Rat} (h : Isn B a) (g : Isn C b) : Isn (B + C) (a - b) := by
 obtain ⟨z, rfl, h2⟩ := h
 obtain ⟨y, rfl, g2⟩ := g
 exact ⟨z - y, by rw [Rat.intCast_sub], by omega⟩
theorem isn_sm {B : Nat} {f : Nat → Rat} : ∀ {n : Nat}, (∀ i, i < n → Isn B (f i)) → Isn (n * B) (sm n f)
 | 0, _ => isn_zero _
 | n + 1, h => by
  rw [sm, Nat.succ_mul]
  exact (isn_sm (fun i hi => h i (by omega))).add (h n (by omega))
end
end Go.Proofs.YtejlpdbiacmfcaaGreatDoor
