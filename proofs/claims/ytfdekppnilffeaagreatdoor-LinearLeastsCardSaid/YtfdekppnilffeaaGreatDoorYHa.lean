/-
  The law package's lists of lists of texts: literals; own, light, same; the kit's Own.
  Conditions: what is copied fits into memory.

  Texts of numbers and back; written-out matrices.
  No conditions: each theorem names its own premises.

  Package linear at light arguments; what it answers at written-out ones.
  Conditions: rows of at most 6 texts of 12 bytes; the library's table of powers of ten is laid.
-/
import Derived.Test.YtfdekppnilffeaaGreatDoorYLd
section
set_option linter.unusedSimpArgs false
set_option linter.unusedVariables false
set_option maxHeartbeats 2000000
namespace Go.Proofs.YtfdekppnilffeaaGreatDoor
open Go Go.Proofs Go.RowKit Go.Lib

section
variable {P : Program} (U : Tys P) {ro : Option Nat} {n : Nat} {ds : List Deferred} {Q : PT} {l l' : Fr} {w w' : World} {arr : Array Oper} {r : List Oper} {k : List It}
/-- A slice of written-out values of one cell each. -/
theorem bsv {d1 len : Nat} {t e ty : TypeId} {ops : List (Nat × Operand)} {ps : String} {af : Array Edge} {g1 : Option (Nat × Bool)} {z : Value} {by_ : Nat} (vs : List Value)
    (hx : ops.mapM (fun p => (ev l p.2).map fun v => (p.1, v)) = some ((vs.zipIdx 0).map fun x => (x.2, x.1))) (ht : U.tb.u t = some (.slice e)) (hi : U.tb.inf e = some (1, by_, z)) (hg1 : gd arr l g1 = some true) (hd1 : Nat.blt d1 n = true)
    (hlen : vs.length = len) (hpos : 0 < len) (hsm : len ≤ 16777216) (hall : vs.all one1 = true)
    (t' : ∀ w1, Bk w1 w.heap.size e vs → w1.heap.size = w.heap.size + 1 → w.grownBy w1 none → T P ro n ds Q ((d1, .slice (some ⟨w.heap.size, 0, none⟩) len len) :: l) w1 (.ops arr r) k) :
    T P ro n ds Q l w (.ops arr (⟨some d1, .buildSlice t len ⟨ops⟩, ty, ps, af, g1⟩ :: r)) k := by
  obtain ⟨i, hi0, hz1, hz2, hz3⟩ := U.hi _ _ _ _ hi
  have hpt := U.hu _ _ ht
  have hone : ∀ v ∈ vs, v.cells = #[v] := fun v hv => one1_cells (List.all_eq_true.1 hall v hv)
  have hfill := Great.fill_whole (show 0 < 1 by omega) vs ((Array.range (len * i.size)).map (z.cells[· % z.cells.size]!)) (by
    intro v hv
    rw [hone v hv]; rfl) (by simp [hz1, hlen])
  have hcells : (List.flatMap (fun v => v.cells.toList) vs).toArray = ⟨vs⟩ := by
    have : ∀ us : List Value, (∀ v ∈ us, v.cells = #[v]) → List.flatMap (fun v => v.cells.toList) us = us := by
      intro us
      induction us with
      | nil => intro _; rfl
      | cons u us ih =>
        intro h
        rw [List.flatMap_cons, ih (fun v hv => h v (List.mem_cons_of_mem _ hv)), h u List.mem_cons_self]; rfl
    rw [this vs hone]
  rw [hcells] at hfill
  refine op1 (w' := w.alloc (.cells ⟨vs⟩ e)) (v := .slice (some ⟨w.heap.size, 0, none⟩) len len) (by intro c h; cases h) hg1 (put1_some hd1) (fun a hf => ?_) (t' _ (heap_alloc_new w _) (by simp) (World.grownBy_alloc w _ none))
  have hmap : ops.map (fun p => (p.1, a.eval p.2)) = (vs.zipIdx 0).map fun x => (x.2, x.1) := by
    have key : ∀ (os : List (Nat × Operand)) (rs : List (Nat × Value)), os.mapM (fun p => (ev l p.2).map fun v => (p.1, v)) = some rs → os.map (fun p => (p.1, a.eval p.2)) = rs := by
      intro os
      induction os with
      | nil => intro rs h; simp at h; subst h; rfl
      | cons o os ih =>
        intro rs h
        simp only [List.mapM_cons, Option.pure_def, Option.bind_eq_bind, Option.bind_eq_some_iff, Option.map_eq_some_iff] at h
        obtain ⟨q, ⟨v, hv, rfl⟩, us, hu, h⟩ := h
        simp at h
        subst h
        simp [hf.ev hv, ih us hu]
    exact key ops _ hx
  have hbuild := run_buildSlice (P := P) w t e len ⟨ops.map fun p => (p.1, a.eval p.2)⟩ ⟨vs⟩ i z hpt hi0 hz3 (by rw [hz1]; omega) (by rw [hz1]; omega) (by rw [hz1] at hfill ⊢; simp only [hmap]; exact hfill)
  simp only [execOp, List.map_toArray]
  simp [hbuild]
end

theorem strs_one (ls : List Tx) : ∀ u ∈ strs ls, u.oneCell' = true := fun u hu => by
  unfold strs at hu
  obtain ⟨x, _, rfl⟩ := List.mem_map.1 hu; rfl
theorem strs_len (ls : List Tx) : (strs ls).length = ls.length := by unfold strs; rw [List.length_map]
/-- The kit's Own of a list of texts. -/
theorem nown_calls (ls : List Tx) (a : Option Addr) (c : Nat) (w : World) (hs : Sl w a (strs ls)) (hl : ls.length ≤ 8796093022208) :
    Calls Tryz.prog 28 #[.slice a ls.length c] w (Ret fun v w' => (∃ a' c', v = .slice a' ls.length c' ∧ w'.ownsRow w.heap.size 34 1 (.slice a' ls.length c') ls.length (strs ls)) ∧ Below w.heap.size w w') := by
  refine enter Tryz.func28 rfl Tryz.ntmps28 (Nat.le_of_ble_eq_true rfl) ?_
  refine dr U 600 rfl trivial ?_
  refine bs0 U rfl rfl rfl rfl ?_
  intro w1 ho1 hs1 hg1
  have hB1 : Below w.heap.size w w1 := (Below.refl _ _).grown hg1 (Nat.le_refl _) (fun k e => by cases e)
  refine dr U 600 rfl trivial ?_
  refine aw U rfl rfl rfl rfl rfl rfl rfl rfl rfl ho1 (hs.stay hB1) (by rw [strs_len, Nat.mul_one]) (strs_one ls) hB1.size (by omega) rfl ?_
  intro a2 c2 w2 ho2 hg2
  rw [Nat.zero_add, List.nil_append] at ho2
  simp only [Nat.zero_add]
  refine dr U 600 rfl trivial ?_
  exact ret Tryz.results28 rfl ⟨_, rfl, ⟨a2, c2, rfl, ho2⟩, hB1.grown hg2 hB1.size (fun g e => (own_block ho1 g e).1)⟩

/-- A new list of rows of texts. -/
def OwnM (w : World) (B : Nat) (a : Option Addr) (c : Nat) (xss : List (List Tx)) : Prop := ∃ A C, w.ownsRow B 23 1 (.slice a xss.length c) xss.length (srws xss A C) ∧ ∀ i, i < xss.length → Sl w (A i) (strs (rw' xss i)) ∧ ∀ g, ab (A i) = some g → Tg w 34 g
theorem OwnM.sm {w : World} {B : Nat} {a : Option Addr} {c : Nat} {xss : List (List Tx)} (h : OwnM w B a c xss) : SM w a xss := by
  obtain ⟨A, C, h1, h2⟩ := h
  exact ⟨A, C, own_sl h1, fun i hi => (h2 i hi).1⟩
theorem OwnM.nil (w : World) (B : Nat) : OwnM w B none 0 [] := ⟨fun _ => none, fun _ => 0, ⟨rfl, .inl ⟨rfl, rfl⟩⟩, fun i hi => absurd hi (by simp)⟩
theorem OwnM.stay {w w' : World} {B : Nat} {a : Option Addr} {c : Nat} {xss : List (List Tx)} (h : OwnM w B a c xss) (hb : Below w.heap.size w w') : OwnM w' B a c xss := by
  obtain ⟨A, C, h1, h2⟩ := h
  exact ⟨A, C, own_bw h1 hb, fun i hi => ⟨(h2 i hi).1.below hb (fun g hg => ((h2 i hi).2 g hg).lt), fun g hg => ((h2 i hi).2 g hg).below hb⟩⟩
theorem rw_app1 {xss : List (List Tx)} {xs : List Tx} {i : Nat} (h : i < xss.length) : rw' (xss ++ [xs]) i = rw' xss i := by
  unfold rw'; simp [List.getD, List.getElem?_append_left h]
theorem rw_app2 (xss : List (List Tx)) (xs : List Tx) : rw' (xss ++ [xs]) xss.length = xs := by
  unfold rw'; simp [List.getD]
theorem srws_snoc (xss : List (List Tx)) (xs : List Tx) (A : Nat → Option Addr) (C : Nat → Nat) (a : Option Addr) (c : Nat) : srws xss A C ++ [.slice a xs.length c] = srws (xss ++ [xs]) (upd A xss.length a) (upd C xss.length c) := by
  unfold srws
  rw [List.length_append, List.length_singleton, List.range_succ, List.map_append, List.map_singleton, upd_same, upd_same, rw_app2]
  congr 1
  apply List.map_congr_left
  intro i hi
  have := List.mem_range.1 hi
  rw [upd_ne _ _ (by omega), upd_ne _ _ (by omega), rw_app1 this]
/-- One more row. -/
theorem OwnM.snoc {w w' : World} {B : Nat} {a a' b : Option Addr} {c c' d : Nat} {xss : List (List Tx)} {xs : List Tx} {A : Nat → Option Addr} {C : Nat → Nat}
    (ho : w.ownsRow B 23 1 (.slice a xss.length c) xss.length (srws xss A C)) (h2 : ∀ i, i < xss.length → Sl w (A i) (strs (rw' xss i)) ∧ ∀ g, ab (A i) = some g → Tg w 34 g)
    (hb : Sl w b (strs xs)) (hbt : ∀ g, ab b = some g → Tg w 34 g) (hg : w.grownBy w' (ab a)) (ho' : w'.ownsRow B 23 1 (.slice a' (xss.length + 1) c') (xss.length + 1) (srws xss A C ++ [.slice b xs.length d])) : OwnM w' B a' c' (xss ++ [xs]) := by
  have key : ∀ (b : Option Addr) (vs : List Value), Sl w b vs → (∀ g, ab b = some g → Tg w 34 g) → Sl w' b vs ∧ ∀ g, ab b = some g → Tg w' 34 g := fun b vs h1 h2 =>
    have hne : ∀ g, ab b = some g → ab a ≠ some g := fun g hg e => (h2 g hg).ne (own_tag ho g e) rfl rfl
    ⟨h1.keep hg hne, fun q hq => (h2 q hq).grown hg (hne q hq)⟩
  rw [srws_snoc] at ho'
  refine ⟨_, _, by rw [List.length_append, List.length_singleton]; exact ho', fun i hi => ?_⟩
  rw [List.length_append, List.length_singleton] at hi
  by_cases h : i = xss.length
  · subst h; rw [upd_same, rw_app2]; exact key b _ hb hbt
  · rw [upd_ne _ _ h, rw_app1 (by omega)]; exact key _ _ (h2 i (by omega)).1 (h2 i (by omega)).2
theorem xtake_snoc {xss : List (List Tx)} {i : Nat} (h : i < xss.length) : xss.take i ++ [rw' xss i] = xss.take (i + 1) := by
  rw [List.take_succ_eq_append_getElem h]
  congr 1
  simp [rw', List.getD, h]

/-- A list of rows of texts that may be copied. -/
structure FitM (xss : List (List Tx)) (k : Nat) : Prop where
  l : (xss.length + k) * 24 ≤ 140737488355328
  r : ∀ i, i < xss.length → (rw' xss i).length ≤ 8796093022208
theorem xown_calls (xss : List (List Tx)) (a : Option Addr) (c : Nat) (w : World) (hs : SM w a xss) (hf : FitM xss 0) :
    Calls Tryz.prog 29 #[.slice a xss.length c] w (Ret fun v w' => (∃ a' c', v = .slice a' xss.length c' ∧ OwnM w' w.heap.size a' c' xss) ∧ Below w.heap.size w w') := by
  obtain ⟨A0, C0, hSl, hR⟩ := hs
  have hfl := hf.l
  refine enter Tryz.func29 rfl Tryz.ntmps29 (Nat.le_of_ble_eq_true rfl) ?_
  refine dr U 600 rfl trivial ?_
  refine loopR (fun fr w' mm => ∃ (i : Nat) (a2 : Option Addr) (c2 : Nat), fr = [(0, .slice a xss.length c), (3, .slice a2 i c2), (4, .int .i64 (i : Nat))] ∧ i ≤ xss.length ∧ OwnM w' w.heap.size a2 c2 (xss.take i) ∧ Below w.heap.size w w' ∧ mm = xss.length - i)
    ⟨0, none, 0, rfl, by omega, OwnM.nil _ _, Below.refl _ _, rfl⟩ ⟨rfl, rfl, rfl, trivial⟩ ?_
  rintro fr w1 mm ⟨i, a2, c2, rfl, hi, hO, hB, rfl⟩
  have hlt : (xss.take i).length = i := by rw [List.length_take]; omega
  refine dr U 600 rfl trivial ?_
  refine cS rfl rfl rfl rfl (fun hq => ?_) (fun hq => ?_)
  · have hil : i < xss.length := by omega
    refine dr U 600 rfl trivial ?_
    refine il U rfl rfl rfl rfl rfl rfl rfl (fun _ => rfl) rfl i rfl hil (hSl.stay hB) (srws_get hil) ?_
    have hRi := hR i hil
    refine call (f := 28) rfl rfl cb28 (nown_calls (rw' xss i) (A0 i) (C0 i) w1 (hRi.stay hB) (hf.r i hil)) ?_
    rintro v w2 ⟨⟨a3, c3, rfl, ho3⟩, hB2⟩
    have hB2' := bl_tr hB hB2 hB.size
    have hO2 := hO.stay hB2
    obtain ⟨A2, C2, ho2, h2⟩ := hO2
    rw [hlt] at ho2
    refine ⟨_, rfl, ?_⟩
    refine ap U (v := (.slice a3 (rw' xss i).length c3)) rfl rfl rfl rfl rfl rfl (fun _ => rfl) rfl (fun _ => rfl) rfl rfl rfl ho2 hB2'.size (by omega) (by decide) ?_
    intro a5 c5 w5 ho5 hg5
    have hB5 := hB2'.grown hg5 hB2'.size (fun g e => (own_block ho2 g e).1)
    have hO5 := OwnM.snoc (xss := xss.take i) (a := a2) (c := c2) (by rw [hlt]; exact ho2) h2 (own_sl ho3) (own_tag ho3) hg5 (by rw [hlt]; exact ho5)
    rw [xtake_snoc hil] at hO5
    refine dr U 600 rfl (by first | exact True.intro | (simp only [AllP, InR, List.nil_append, List.cons_append, and_true]; omega)) ?_
    exact rend _ _ ⟨i + 1, a5, c5, rfl, by omega, hO5, hB5, rfl⟩ (by omega) ⟨rfl, rfl, iv (by omega), trivial⟩
  · obtain rfl : i = xss.length := by omega
    rw [List.take_length] at hO
    refine dr U 600 rfl trivial ?_
    exact ret Tryz.results29 rfl ⟨_, rfl, ⟨a2, c2, rfl, hO⟩, hB⟩

theorem rw_app {xss yss : List (List Tx)} {i : Nat} (h : i < xss.length) : rw' (xss ++ yss) i = rw' xss i := by
  unfold rw'; simp [List.getD, List.getElem?_append_left h]
theorem rw_appr {xss yss : List (List Tx)} {i : Nat} (h : xss.length ≤ i) : rw' (xss ++ yss) i = rw' yss (i - xss.length) := by
  unfold rw'; simp [List.getD, List.getElem?_append_right h]
theorem srws_length (xss : List (List Tx)) (A : Nat → Option Addr) (C : Nat → Nat) : (srws xss A C).length = xss.length := by simp [srws]
theorem srws_one (xss : List (List Tx)) (A : Nat → Option Addr) (C : Nat → Nat) : ∀ u ∈ srws xss A C, u.oneCell' = true := by
  intro u hu
  unfold srws at hu
  obtain ⟨i, _, rfl⟩ := List.mem_map.1 hu
  rfl
theorem srws_app (xss yss : List (List Tx)) (A A1 : Nat → Option Addr) (C C1 : Nat → Nat) : srws xss A C ++ srws yss A1 C1 = srws (xss ++ yss) (fun i => if i < xss.length then A i else A1 (i - xss.length)) (fun i => if i < xss.length then C i else C1 (i - xss.length)) := by
  apply List.ext_getElem?
  intro i
  by_cases h : i < xss.length
  · rw [List.getElem?_append_left (by rw [srws_length]; exact h), srws_get h, srws_get (by rw [List.length_append]; omega), if_pos h, if_pos h, rw_app h]
  · rw [List.getElem?_append_right (by rw [srws_length]; omega), srws_length]
    by_cases h2 : i < (xss ++ yss).length
    · have : i - xss.length < yss.length := by rw [List.length_append] at h2; omega
      rw [srws_get this, srws_get h2, if_neg h, if_neg h, rw_appr (by omega)]
    · rw [List.getElem?_eq_none (by rw [srws_length]; rw [List.length_append] at h2; omega), List.getElem?_eq_none (by rw [srws_length]; omega)]
/-- A row that is light. -/
def RowL (xs : List Tx) : Prop := xs.length ≤ 6 ∧ ∀ k, k < xs.length → (xs.getD k []).length ≤ 12
/-- Lists of rows that are light. -/
def LightM (xss ls : List (List Tx)) : Prop := (∀ i, i < (xss ++ ls).length → RowL (rw' (xss ++ ls) i)) ∧ xss.length ≤ 6
theorem xlight_calls (xss ls : List (List Tx)) (a b : Option Addr) (c d : Nat) (w : World) (hs : SM w a xss) (hb : SM w b ls) (hf : FitM xss ls.length) (hr : ∀ i, i < ls.length → (rw' ls i).length ≤ 8796093022208) :
    Calls Tryz.prog 32 #[.slice a xss.length c, .slice b ls.length d] w (Ret fun v w' => (∃ q, v = .bool q ∧ (q = true ↔ LightM xss ls)) ∧ Below w.heap.size w w') := by
  obtain ⟨Al, Cl, hSl, hRl⟩ := hb
  have hfl := hf.l
  refine enter Tryz.func32 rfl Tryz.ntmps32 (Nat.le_of_ble_eq_true rfl) ?_
  refine dr U 600 rfl trivial ?_
  refine call (f := 29) rfl rfl cb29 (xown_calls xss a c w hs ⟨by omega, hf.r⟩) ?_
  rintro v w1 ⟨⟨a1, c1, rfl, hO1⟩, hB1⟩
  obtain ⟨A1, C1, ho1, hR1⟩ := hO1
  refine ⟨_, rfl, ?_⟩
  refine dr U 600 rfl trivial ?_
  refine aw U rfl rfl rfl rfl rfl rfl rfl rfl rfl ho1 (hSl.stay hB1) (by rw [srws_length, Nat.mul_one]) (srws_one _ _ _) hB1.size (by omega) rfl ?_
  intro a2 c2 w2 ho2 hg2
  have hB2 := hB1.grown hg2 hB1.size (fun g e => (own_block ho1 g e).1)
  rw [srws_app, ← List.length_append] at ho2
  rw [← List.length_append]
  have hne : ∀ (b : Option Addr), (∀ g, ab b = some g → Tg w1 34 g) → ∀ g, ab b = some g → ab a1 ≠ some g := fun b h2 g hg e => (h2 g hg).ne (own_tag ho1 g e) rfl rfl
  have hR2 : ∀ i, i < (xss ++ ls).length → Sl w2 ((fun i => if i < xss.length then A1 i else Al (i - xss.length)) i) (strs (rw' (xss ++ ls) i)) := by
    intro i hi
    by_cases h : i < xss.length
    · simp only [if_pos h]
      rw [rw_app h]
      exact (hR1 i h).1.keep hg2 (hne _ (hR1 i h).2)
    · have hj : i - xss.length < ls.length := by rw [List.length_append] at hi; omega
      simp only [if_neg h]
      rw [rw_appr (by omega)]
      exact (hRl _ hj).stay hB2
  have hS2 := own_sl ho2
  have hA2 : ∀ g, ab a2 = some g → g < w2.heap.size := fun g hg => (own_block ho2 g hg).2
  have hrl : ∀ i, i < (xss ++ ls).length → (rw' (xss ++ ls) i).length ≤ 8796093022208 := fun i hi => by
    by_cases h : i < xss.length
    · rw [rw_app h]; exact hf.r i h
    · rw [rw_appr (by omega)]; exact hr _ (by rw [List.length_append] at hi; omega)
  have hlen : (xss ++ ls).length = xss.length + ls.length := List.length_append
  unfold LightM
  generalize (fun i => if i < xss.length then A1 i else Al (i - xss.length)) = A2 at *
  generalize (fun i => if i < xss.length then C1 i else Cl (i - xss.length)) = C2 at *
  generalize xss ++ ls = all at *
  refine dr U 600 rfl trivial ?_
  refine loopR (fun f w' m => ∃ i : Nat, f = [(0, .slice a xss.length c), (5, .slice a2 all.length c2), (6, .int .i64 (i : Nat))] ∧ i ≤ all.length ∧ (∀ j, j < i → RowL (rw' all j)) ∧ Below w2.heap.size w2 w' ∧ m = all.length - i)
    ⟨0, rfl, by omega, fun j hj => absurd hj (by omega), Below.refl _ _, rfl⟩ ⟨rfl, rfl, rfl, trivial⟩ ?_
  rintro f w3 m ⟨i, rfl, hi, he, hB, rfl⟩
  refine dr U 600 rfl trivial ?_
  refine cS rfl rfl rfl rfl (fun hq => ?_) (fun hq => ?_)
  · have hil : i < all.length := by omega
    have hli := hrl i hil
    have hRi := hR2 i hil
    refine dr U 600 rfl trivial ?_
    refine loopR (fun f w' m => ∃ k : Nat, f = [(0, .slice a xss.length c), (5, .slice a2 all.length c2), (6, .int .i64 (i : Nat)), (7, .int .i64 (k : Nat))] ∧ k ≤ (rw' all i).length ∧ (∀ j, j < k → ((rw' all i).getD j []).length ≤ 12) ∧ Below w2.heap.size w2 w' ∧ m = (rw' all i).length - k)
      ⟨0, rfl, by omega, fun j hj => absurd hj (by omega), hB, rfl⟩ ⟨rfl, rfl, rfl, rfl, trivial⟩ ?_
    rintro f w4 m ⟨k, rfl, hk, hek, hB4, rfl⟩
    refine dr U 600 rfl trivial ?_
    refine il U rfl rfl rfl rfl rfl rfl rfl (fun _ => rfl) rfl i rfl hil (hS2.below hB4 hA2) (srws_get hil) ?_
    refine dr U 600 rfl trivial ?_
    refine cS rfl rfl rfl rfl (fun hq => ?_) (fun hq => ?_)
    · have hkl : k < (rw' all i).length := by omega
      refine dr U 600 rfl trivial ?_
      refine il U rfl rfl rfl rfl rfl rfl rfl (fun _ => rfl) rfl i rfl hil (hS2.below hB4 hA2) (srws_get hil) ?_
      refine dr U 600 rfl trivial ?_
      refine il U rfl rfl rfl rfl rfl rfl rfl (fun _ => rfl) rfl k rfl hkl (hRi.stay hB4) (getS hkl) ?_
      refine dr U 600 rfl trivial ?_
      refine cS rfl rfl rfl rfl (fun hq3 => ?_) (fun hq3 => ?_)
      · refine dr U 600 rfl trivial ?_
        exact ret Tryz.results32 rfl ⟨_, rfl, ⟨false, rfl, ⟨fun h => (by cases h), fun h => by have := (h.1 i hil).2 k hkl; omega⟩⟩, bl_tr hB2 hB4 hB2.size⟩
      · refine dr U 600 rfl (by first | exact True.intro | (simp only [AllP, InR, List.nil_append, List.cons_append, and_true]; omega)) ?_
        refine rend _ _ ⟨k + 1, rfl, by omega, fun j hj => ?_, hB4, rfl⟩ (by omega) ⟨rfl, rfl, rfl, iv (by omega), trivial⟩
        rcases Nat.lt_succ_iff_lt_or_eq.1 hj with h' | rfl
        · exact hek j h'
        · omega
    · obtain hk' : k = (rw' all i).length := by omega
      subst hk'
      refine dr U 600 rfl trivial ?_
      refine il U rfl rfl rfl rfl rfl rfl rfl (fun _ => rfl) rfl i rfl hil (hS2.below hB4 hA2) (srws_get hil) ?_
      refine dr U 600 rfl trivial ?_
      refine cS rfl rfl rfl rfl (fun hq3 => ?_) (fun hq3 => ?_)
      · refine dr U 600 rfl trivial ?_
        exact ret Tryz.results32 rfl ⟨_, rfl, ⟨false, rfl, ⟨fun h => (by cases h), fun h => by have := (h.1 i hil).1; omega⟩⟩, bl_tr hB2 hB4 hB2.size⟩
      · refine dr U 600 rfl (by first | exact True.intro | (simp only [AllP, InR, List.nil_append, List.cons_append, and_true]; omega)) ?_
        refine rend _ _ ⟨i + 1, rfl, by omega, fun j hj => ?_, hB4, rfl⟩ (by omega) ⟨rfl, rfl, iv (by omega), trivial⟩
        rcases Nat.lt_succ_iff_lt_or_eq.1 hj with h' | rfl
        · exact he j h'
        · exact ⟨by omega, hek⟩
  · obtain hi' : i = all.length := by omega
    subst hi'
    refine dr U 600 rfl trivial ?_
    refine cS rfl rfl rfl rfl (fun hq3 => ?_) (fun hq3 => ?_)
    · refine dr U 600 rfl trivial ?_
      exact ret Tryz.results32 rfl ⟨_, rfl, ⟨true, rfl, ⟨fun _ => ⟨he, by omega⟩, fun _ => rfl⟩⟩, bl_tr hB2 hB hB2.size⟩
    · refine dr U 600 rfl trivial ?_
      exact ret Tryz.results32 rfl ⟨_, rfl, ⟨false, rfl, ⟨fun h => (by cases h), fun h => by have := h.2; omega⟩⟩, bl_tr hB2 hB hB2.size⟩

end Go.Proofs.YtfdekppnilffeaaGreatDoor
end
section
set_option linter.unusedSimpArgs false
set_option linter.unusedVariables false
set_option maxHeartbeats 2000000
namespace Go.Proofs.YtfdekppnilffeaaGreatDoor
open Go Go.Proofs Go.RowKit Go.Lib

theorem qval_of {s : Tx} (h : QErr s 0) : decide ((qval s).num < 0) = qneg s ∧ (qval s).num.natAbs = dval (qn s) ∧ (qval s).den = dval (qd s) := by
  obtain ⟨hQ, _, _, hg⟩ := h.ok
  have hd0 := qd_pos hQ
  unfold qval
  rw [mkq_num _ _ _ hd0, (mkq_form _ _ _ hd0).2, hg, Nat.div_one, Nat.div_one]
  refine ⟨?_, rfl, rfl⟩
  rw [Bool.eq_iff_iff]
  simp only [decide_eq_true_eq, mkq_neg _ _ _ hd0]
  constructor
  · exact fun h => h.1
  · exact fun hn => ⟨hn, fun h => hQ.2.1 ⟨hn, (dval_zero_iff hQ.1).2 h⟩⟩
theorem drop_first {p : UInt8 → Bool} : ∀ (l : List UInt8), l.dropWhile p = [] ∨ ∃ c t, l.dropWhile p = c :: t ∧ p c = false
  | [] => .inl rfl
  | c :: r => by
    rw [List.dropWhile_cons]
    split
    · exact drop_first r
    · rename_i h
      exact .inr ⟨c, r, rfl, by simpa using h⟩
theorem q_split (s : Tx) : s = (if qneg s = true then [45] else []) ++ qn s ++ (if qslash s = true then 47 :: s.drop ((qpre s).length + 1) else []) := by
  have h1 : (if qneg s = true then [45] else []) ++ qn s = qpre s := by
    unfold qn
    by_cases h : qneg s = true
    · rw [if_pos h, if_pos h]
      unfold qneg at h
      cases hp : qpre s with
      | nil => rw [hp] at h; cases h
      | cons c t =>
        rw [hp] at h
        simp at h
        subst h; rfl
    · rw [if_neg h, if_neg h]; rfl
  rw [h1]
  have h2 : s = qpre s ++ s.dropWhile fun c => c != 47 := (List.takeWhile_append_dropWhile).symm
  rcases drop_first (p := fun c => c != 47) s with h | ⟨c, t, h, hc⟩
  · rw [h, List.append_nil] at h2
    have : qslash s = false := by unfold qslash; rw [← h2]; simp
    rw [this, if_neg (by simp), List.append_nil]; exact h2
  · obtain rfl : c = 47 := by simpa using hc
    rw [h] at h2
    have hl : s.length = (qpre s).length + (t.length + 1) := by
      have := congrArg List.length h2
      rwa [List.length_append, List.length_cons] at this
    have : qslash s = true := by unfold qslash; exact decide_eq_true (by omega)
    rw [this, if_pos rfl]
    have h3 : s.drop ((qpre s).length + 1) = t := by
      have : s = (qpre s ++ [47]) ++ t := by rw [List.append_assoc]; exact h2
      rw [show (qpre s).length + 1 = (qpre s ++ [47]).length by rw [List.length_append]; rfl]
      exact (congrArg (List.drop (qpre s ++ [47]).length) this).trans List.drop_left
    rw [h3]; exact h2
/-- A number's text is the text of its number. -/
theorem q_text_back {s : Tx} (h : QErr s 0) : qtext (qval s) = s := by
  obtain ⟨e1, e2, e3⟩ := qval_of h
  obtain ⟨hQ, _, _, hg⟩ := h.ok
  have hn : decDigits (dval (qn s)) = qn s := (dec_of hQ.1.2.2 hQ.1.1 hQ.1.2.1).symm
  have hfd := qd_form hQ
  have hd : decDigits (dval (qd s)) = qd s := (dec_of hfd.2.2 hfd.1 hfd.2.1).symm
  conv => rhs; rw [q_split s]
  unfold qtext
  rw [e2, e3, hn, hd]
  congr 1
  · congr 1
    rw [← e1]
    by_cases h : (qval s).num < 0
    · rw [if_pos h, if_pos (decide_eq_true h)]
    · rw [if_neg h, if_neg (by rw [decide_eq_false h]; simp)]
  · by_cases hs : qslash s = true
    · rw [if_pos hs]
      have h1 := (hQ.2.2 hs).2.2.2
      rw [if_neg (fun e => h1 ((dval_one_iff hfd).2 e))]
      unfold qd; rw [if_pos hs]
    · rw [if_neg hs]
      rw [if_pos (by unfold qd; rw [if_neg hs]; rfl)]
theorem form_chk {l : Tx} (h : l ≠ [] ∧ (l = [48] ∨ l.head? ≠ some 48) ∧ (l.all fun c => decide (48 ≤ c.toNat ∧ c.toNat ≤ 57)) = true) : Form l :=
  ⟨h.1, h.2.1, fun c hc => by simpa [isD] using List.all_eq_true.1 h.2.2 c hc⟩
/-- A text that is written out as a number is one. -/
def QChk (s : Tx) : Prop :=
  (qn s ≠ [] ∧ (qn s = [48] ∨ (qn s).head? ≠ some 48) ∧ ((qn s).all fun c => decide (48 ≤ c.toNat ∧ c.toNat ≤ 57)) = true) ∧ ¬(qneg s = true ∧ qn s = [48]) ∧
  (qslash s = true → qn s ≠ [48] ∧ (qd s ≠ [] ∧ (qd s = [48] ∨ (qd s).head? ≠ some 48) ∧ ((qd s).all fun c => decide (48 ≤ c.toNat ∧ c.toNat ≤ 57)) = true) ∧ qd s ≠ [48] ∧ qd s ≠ [49]) ∧
  (qn s).length ≤ 4000 ∧ (qd s).length ≤ 4000 ∧ Nat.gcd (dval (qn s)) (dval (qd s)) = 1
instance (s : Tx) : Decidable (QChk s) := by unfold QChk; infer_instance
theorem qok_chk {s : Tx} (h : QChk s) : QErr s 0 :=
  .inr (.inr (.inr ⟨⟨form_chk h.1, h.2.1, fun hs => ⟨(h.2.2.1 hs).1, form_chk (h.2.2.1 hs).2.1, (h.2.2.1 hs).2.2⟩⟩, h.2.2.2.1, h.2.2.2.2.1, h.2.2.2.2.2, rfl⟩))
theorem form_nd {l : Tx} (h : Form l) : nDigits (dval l) = l.length := by
  have := dec_of h.2.2 h.1 h.2.1
  rw [← decDigits_length, ← this]
theorem q_len_small {s : Tx} {K : Nat} (h : QErr s 0) (hl : s.length ≤ K) : Small K (qval s) := by
  obtain ⟨e1, e2, e3⟩ := qval_of h
  obtain ⟨hQ, _, _, hg⟩ := h.ok
  have hsp := congrArg List.length (q_split s)
  simp only [List.length_append] at hsp
  unfold Small
  rw [e2, e3, form_nd hQ.1, form_nd (qd_form hQ)]
  refine ⟨by omega, ?_⟩
  by_cases hs : qslash s = true
  · rw [if_pos hs, List.length_cons] at hsp
    have : (qd s).length = (s.drop ((qpre s).length + 1)).length := by unfold qd; rw [if_pos hs]
    omega
  · have : (qd s).length = 1 := by unfold qd; rw [if_neg hs]; rfl
    have hne := hQ.1.1
    have : 0 < (qn s).length := List.length_pos_iff.2 hne
    omega

theorem txs_getD {n i : Nat} {f : Nat → Rat} (hi : i < n) : (txs n f).getD i [] = qtext (f i) := by simp [txs, List.getD, hi]
theorem txs_verr {n : Nat} {f : Nat → Rat} (h0 : 0 < n) (h64 : n ≤ 64) (hS : ∀ i, i < n → Small 4000 (f i)) : VErr (txs n f) 0 :=
  .inr (.inr (.inr ⟨by rw [txs_length]; exact h0, by rw [txs_length]; exact h64, fun j hj => by
    rw [txs_length] at hj
    rw [txs_getD hj]; exact (q_text_ok _ (hS j hj)).1, rfl⟩))
theorem txs_vval {n i : Nat} {f : Nat → Rat} (hS : ∀ i, i < n → Small 4000 (f i)) (hi : i < n) : vval (txs n f) i = f i := by
  unfold vval; rw [txs_getD hi]; exact (q_text_ok _ (hS i hi)).2
theorem mtx_xerr {m n : Nat} {f : Mx} (h0 : 0 < m) (h1 : 0 < n) (h64 : m ≤ 64) (h65 : n ≤ 64) (hS : ∀ i, i < m → ∀ k, k < n → Small 4000 (f i k)) : XErr (mtx m n f) 0 :=
  .inr (.inr (.inr ⟨by rw [mtx_length]; exact h0, by rw [mtx_len h0]; exact h1, by rw [mtx_length]; exact h64, by rw [mtx_len h0]; exact h65, fun j hj => by
    rw [mtx_length] at hj
    refine ⟨by rw [mtx_len hj, mtx_len h0], ?_⟩
    rw [mtx_row hj]; exact txs_verr h1 h65 (hS j hj), rfl⟩))
theorem mtx_mval {m n i k : Nat} {f : Mx} (hS : ∀ i, i < m → ∀ k, k < n → Small 4000 (f i k)) (hi : i < m) (hk : k < n) : mval (mtx m n f) i k = f i k := by
  unfold mval; rw [mtx_getD hi hk]; exact (q_text_ok _ (hS i hi k hk)).2
theorem qtext_len {r : Rat} (h : Small 4000 r) : (qtext r).length ≤ 8002 := by
  unfold qtext
  simp only [List.length_append, decDigits_length]
  have h1 := h.1
  have h2 := h.2
  have h3 : (if r.num < 0 then [45] else ([] : List UInt8)).length ≤ 1 := by split <;> simp
  have h4 : (if r.den = 1 then [] else 47 :: decDigits r.den).length ≤ 4001 := by
    split
    · simp
    · rw [List.length_cons, decDigits_length]; omega
  omega
theorem txs_lenv {n : Nat} {f : Nat → Rat} (hn : n ≤ 1000000) (hS : ∀ i, i < n → Small 4000 (f i)) : LenV (txs n f) :=
  ⟨by rw [txs_length]; omega, fun j hj => by
    rw [txs_length] at hj
    rw [txs_getD hj]; exact Nat.le_trans (qtext_len (hS j hj)) (by omega)⟩
theorem mtx_lens {m n : Nat} {f : Mx} (hm : m ≤ 1000000) (hn : n ≤ 1000000) (hS : ∀ i, i < m → ∀ k, k < n → Small 4000 (f i k)) : Lens (mtx m n f) :=
  ⟨by rw [mtx_length]; omega, fun i hi => by
    rw [mtx_length] at hi
    rw [mtx_len hi]; omega, fun i hi j hj => by
    rw [mtx_length] at hi
    rw [mtx_row hi] at hj ⊢
    exact (txs_lenv hn (hS i hi)).x j hj⟩

/-- Written-out numbers. -/
def mx (L : List (List Rat)) : Mx := fun i k => (L.getD i []).getD k 0
theorem nil_lens : Lens [] := ⟨by simp, fun i hi => absurd hi (by simp), fun i hi => absurd hi (by simp)⟩
theorem nil_lenv : LenV [] := ⟨by simp, fun i hi => absurd hi (by simp)⟩
end Go.Proofs.YtfdekppnilffeaaGreatDoor
end
section
set_option linter.unusedSimpArgs false
set_option linter.unusedVariables false
set_option maxHeartbeats 2000000
namespace Go.Proofs.YtfdekppnilffeaaGreatDoor
open Go Go.Proofs Go.RowKit Go.Lib

/-- At most 7 light rows. -/
def LtM (xss : List (List Tx)) : Prop := xss.length ≤ 7 ∧ ∀ i, i < xss.length → RowL (rw' xss i)
theorem RowL.lenv {ys : List Tx} (h : RowL ys) : LenV ys := ⟨by have := h.1; omega, fun j hj => by have := h.2 j hj; omega⟩
theorem RowL.small {ys : List Tx} (h : RowL ys) (he : VErr ys 0) : ∀ i, i < ys.length → Small 12 (vval ys i) := fun i hi => q_len_small (he.qok i hi) (h.2 i hi)
theorem LtM.lens {xss : List (List Tx)} (h : LtM xss) : Lens xss := ⟨by have := h.1; omega, fun i hi => by have := (h.2 i hi).1; omega, fun i hi j hj => by have := (h.2 i hi).2 j hj; omega⟩
theorem LtM.small {xss : List (List Tx)} (h : LtM xss) (he : XErr xss 0) : ∀ i t, i < xss.length → t < (rw' xss 0).length → Small 12 (mval xss i t) := fun i t hi ht =>
  q_len_small (he.rows.2 i hi t ht) ((h.2 i hi).2 t (by rw [he.rows.1 i hi]; exact ht))
theorem LtM.cols {xss : List (List Tx)} (h : LtM xss) (he : XErr xss 0) : (rw' xss 0).length ≤ 6 := (h.2 0 he.ok.1).1
theorem grw_at {n k L B : Nat} (hn : n ≤ k) (hB : grw k L ≤ B) : grw n L ≤ B := Nat.le_trans (grw_mono L hn) hB
theorem grw_mono2 {L M : Nat} (h : L ≤ M) : ∀ k, grw k L ≤ grw k M
  | 0 => h
  | k + 1 => by have := grw_mono2 h k; rw [grw, grw]; omega

theorem lSolve_l (xss : List (List Tx)) (ys : List Tx) (hx : LtM xss) (hy : RowL ys) (a b : Option Addr) (c d : Nat) (w : World) (hs : SM w a xss) (hsy : Sl w b (strs ys)) (ht : TabOk w) :
    Calls Tryz.prog 12 #[.slice a xss.length c, .slice b ys.length d] w (Ret fun v w' => (∃ zs e, SolS xss ys zs e ∧ VOut zs e v w') ∧ Below w.heap.size w w') :=
  lSolve_calls xss ys 12 a b c d w hs hx.lens.l hx.lens.l2 hx.lens.x hsy hy.lenv.l hy.lenv.x ht (fun he => ⟨hx.small he.ok.1, hy.small he.ok.2, grw_at hx.1 (by decide)⟩)
theorem lLeast_l (xss : List (List Tx)) (ys : List Tx) (hx : LtM xss) (hy : RowL ys) (a b : Option Addr) (c d : Nat) (w : World) (hs : SM w a xss) (hsy : Sl w b (strs ys)) (ht : TabOk w) :
    Calls Tryz.prog 17 #[.slice a xss.length c, .slice b ys.length d] w (Ret fun v w' => (∃ zs e, LeaS xss ys zs e ∧ VOut zs e v w') ∧ Below w.heap.size w w') :=
  lLeast_calls xss ys 12 12 a b c d w hs hx.lens.l hx.lens.l2 hx.lens.x hsy hy.lenv.l hy.lenv.x ht (fun he => ⟨Nat.le_refl _, hx.small he.ok.1, hy.small he.ok.2, by have := hx.1; omega, Nat.le_trans (grw_mono2 (L := xss.length * (12 + 12 + 1) + 1) (M := 176) (by have := hx.1; omega) _) (grw_at (hx.cols he.ok.1) (by decide))⟩)
theorem lApply_s (xss : List (List Tx)) (ys : List Tx) (hx : Lens xss) (hy : LenV ys) (a b : Option Addr) (c d : Nat) (w : World) (hs : SM w a xss) (hsy : Sl w b (strs ys)) (ht : TabOk w) :
    Calls Tryz.prog 13 #[.slice a xss.length c, .slice b ys.length d] w (Ret fun v w' => (∃ zs e, AppS xss ys zs e ∧ VOut zs e v w') ∧ Below w.heap.size w w') :=
  (lApply_calls xss ys a b c d w hs hx.l hx.l2 hx.x hsy hy.l hy.x ht).mono (by rintro e w' ⟨v, rfl, h, hB⟩; exact ⟨v, rfl, h.spec, hB⟩)

/-! Written-out arguments. -/
def VChk (ys : List Tx) : Prop := 0 < ys.length ∧ ys.length ≤ 64 ∧ ∀ j, j < ys.length → QChk (ys.getD j [])
instance (ys : List Tx) : Decidable (VChk ys) := by unfold VChk; infer_instance
theorem VChk.ok {ys : List Tx} (h : VChk ys) : VErr ys 0 := .inr (.inr (.inr ⟨h.1, h.2.1, fun j hj => qok_chk (h.2.2 j hj), rfl⟩))
def XChk (xss : List (List Tx)) : Prop := 0 < xss.length ∧ xss.length ≤ 64 ∧ ∀ i, i < xss.length → (rw' xss i).length = (rw' xss 0).length ∧ VChk (rw' xss i)
instance (xss : List (List Tx)) : Decidable (XChk xss) := by unfold XChk; infer_instance
theorem XChk.ok {xss : List (List Tx)} (h : XChk xss) : XErr xss 0 :=
  .inr (.inr (.inr ⟨h.1, (h.2.2 0 h.1).2.1, h.2.1, (h.2.2 0 h.1).2.2.1, fun i hi => ⟨(h.2.2 i hi).1, (h.2.2 i hi).2.ok⟩, rfl⟩))
theorem txs_back {ys : List Tx} (h : VErr ys 0) : txs ys.length (vval ys) = ys := by
  apply List.ext_getElem (txs_length _ _)
  intro i h1 h2
  have e := q_text_back (h.qok i h2)
  simp only [txs, List.getElem_map, List.getElem_range, vval]
  rw [e]; simp [List.getD, h2]
theorem mtx_back {xss : List (List Tx)} (h : XErr xss 0) : mtx xss.length (rw' xss 0).length (mval xss) = xss := by
  apply List.ext_getElem (mtx_length _ _ _)
  intro i h1 h2
  have hr := h.ok.2.2.2.2 i h2
  have e := txs_back hr.2
  have hg : xss[i] = rw' xss i := by simp [rw', List.getD, h2]
  rw [hr.1] at e
  simp only [mtx, List.getElem_map, List.getElem_range]
  rw [hg]; exact e
theorem TxtS.lit {zs : List Tx} {n : Nat} {f : Nat → Rat} (hz : VErr zs 0) (hn : zs.length = n) (hf : ∀ i, i < n → f i = vval zs i) : TxtS n f zs 0 := by
  subst hn
  exact TxtS.congr (f := vval zs) (.inr ⟨hz.small, (txs_back hz).symm, rfl⟩) (fun i hi => (hf i hi).symm)
theorem MtxS.lit {zss : List (List Tx)} {m n : Nat} {f : Mx} (hz : XErr zss 0) (hm : zss.length = m) (hn : (rw' zss 0).length = n) (hf : ∀ i, i < m → ∀ k, k < n → f i k = mval zss i k) : MtxS m n f zss 0 := by
  subst hm; subst hn
  exact MtxS.congr (f := mval zss) (.inr ⟨hz.small, (mtx_back hz).symm, rfl⟩) (fun i hi k hk => (hf i hi k hk).symm)
theorem sol_ex {xss : List (List Tx)} {ys zs : List Tx} (hx : XChk xss) (hy : VChk ys) (hz : VChk zs) (h1 : xss.length = (rw' xss 0).length) (h2 : ys.length = xss.length) (h3 : zs.length = xss.length)
    (hg : (gj xss.length (mval xss) xss.length).2 = xss.length) (he : ∀ i, i < xss.length → mapp xss.length (mval xss) (vval zs) i = vval ys i) : SolS xss ys zs 0 :=
  .inr (.inr ⟨.inr ⟨hx.ok, hy.ok⟩, h1, h2, .inr ⟨hg, vval zs, he, TxtS.lit hz.ok h3 (fun _ _ => rfl)⟩⟩)
theorem lea_ex {xss : List (List Tx)} {ys zs : List Tx} (hx : XChk xss) (hy : VChk ys) (hz : VChk zs) (h2 : ys.length = xss.length) (h3 : zs.length = (rw' xss 0).length)
    (hg : (gj (rw' xss 0).length (mmul xss.length (trp (mval xss)) (mval xss)) (rw' xss 0).length).2 = (rw' xss 0).length) (he : ∀ i, i < (rw' xss 0).length → mapp (rw' xss 0).length (mmul xss.length (trp (mval xss)) (mval xss)) (vval zs) i = mapp xss.length (trp (mval xss)) (vval ys) i) : LeaS xss ys zs 0 :=
  .inr (.inr ⟨.inr ⟨hx.ok, hy.ok⟩, h2, .inr ⟨hg, vval zs, he, TxtS.lit hz.ok h3 (fun _ _ => rfl)⟩⟩)
instance (ys : List Tx) : Decidable (RowL ys) := by unfold RowL; infer_instance
instance (xss : List (List Tx)) : Decidable (LtM xss) := by unfold LtM; infer_instance
theorem ex1 : SolS [[[50], [49]], [[49], [51]]] [[51], [53]] [[52, 47, 53], [55, 47, 53]] 0 := sol_ex (by decide +kernel) (by decide +kernel) (by decide +kernel) rfl rfl rfl (by decide +kernel) (by decide +kernel)
theorem ex2 : LeaS [[[49]], [[49]], [[49]]] [[49], [50], [54]] [[51]] 0 := lea_ex (by decide +kernel) (by decide +kernel) (by decide +kernel) rfl rfl (by decide +kernel) (by decide +kernel)
end Go.Proofs.YtfdekppnilffeaaGreatDoor
end
