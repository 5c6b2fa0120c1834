/-
  The law package's lives, and LinearNames: it returns true. Printed by names27.py.
  Conditions: the library's table of powers of ten is laid.
-/
import Derived.Test.YtfdekppnilffeaaGreatDoorYHa
set_option linter.unusedSimpArgs false
set_option linter.unusedVariables false
set_option maxHeartbeats 4000000
namespace Go.Proofs.YtfdekppnilffeaaGreatDoor
open Go Go.Proofs Go.RowKit Go.Lib

/-- A value that is a list of texts. -/
def Lit (w : World) (v : Value) (xs : List Tx) : Prop := ∃ a c, v = .slice a xs.length c ∧ Sl w a (strs xs)
theorem Lit.stay {w w' : World} {v : Value} {xs : List Tx} (h : Lit w v xs) (hb : Below w.heap.size w w') : Lit w' v xs := by
  obtain ⟨a, c, rfl, h1⟩ := h
  exact ⟨a, c, rfl, h1.stay hb⟩
theorem lit_bk {w : World} {g n c : Nat} {t : TypeId} {xs : List Tx} (h : Bk w g t (strs xs)) (hn : n = xs.length) : Lit w (.slice (some ⟨g, 0, none⟩) n c) xs :=
  ⟨some ⟨g, 0, none⟩, c, by rw [hn], h.sl 0⟩
theorem Lit.sl {w : World} {a : Option Addr} {n c : Nat} {xs : List Tx} (h : Lit w (.slice a n c) xs) : Sl w a (strs xs) ∧ n = xs.length := by
  obtain ⟨a', c', e, h1⟩ := h
  simp only [Value.slice.injEq] at e
  obtain ⟨rfl, rfl, rfl⟩ := e
  exact ⟨h1, rfl⟩
/-- Rows of texts, one after the other. -/
def Rwl (w : World) : List Value → List (List Tx) → Prop
  | [], [] => True
  | v :: vs, x :: xs => Lit w v x ∧ Rwl w vs xs
  | _, _ => False
theorem rwl_get {w : World} : ∀ {vs : List Value} {xss : List (List Tx)}, Rwl w vs xss → vs.length = xss.length ∧ ∀ i, i < xss.length → ∃ v, vs[i]? = some v ∧ Lit w v (rw' xss i)
  | [], [], _ => ⟨rfl, fun i hi => absurd hi (by simp)⟩
  | v :: vs, x :: xs, h => by
    obtain ⟨h1, h2⟩ := rwl_get h.2
    refine ⟨by simp [h1], fun i hi => ?_⟩
    cases i with
    | zero => exact ⟨v, rfl, h.1⟩
    | succ i => exact h2 i (by simpa using hi)
  | [], _ :: _, h => h.elim
  | _ :: _, [], h => h.elim
def vadr : Option Value → Option Addr | some (.slice a _ _) => a | _ => none
def vcap : Option Value → Nat | some (.slice _ _ c) => c | _ => 0
theorem rwl_sm {w : World} {a : Option Addr} {vs : List Value} {xss : List (List Tx)} (hs : Sl w a vs) (h : Rwl w vs xss) : SM w a xss := by
  obtain ⟨h1, h2⟩ := rwl_get h
  refine ⟨fun i => vadr vs[i]?, fun i => vcap vs[i]?, ?_, fun i hi => ?_⟩
  · have : srws xss (fun i => vadr vs[i]?) (fun i => vcap vs[i]?) = vs := by
      apply List.ext_getElem?
      intro i
      by_cases hi : i < xss.length
      · obtain ⟨v, hv, a', c', rfl, _⟩ := h2 i hi
        rw [srws_get hi, hv]; rfl
      · rw [List.getElem?_eq_none (by rw [srws_length]; omega), List.getElem?_eq_none (by omega)]
    rw [this]; exact hs
  · obtain ⟨v, hv, a', c', rfl, h3⟩ := h2 i hi
    show Sl w (vadr vs[i]?) _
    rw [hv]; exact h3
theorem rwl_bk {w : World} {g : Nat} {t : TypeId} {vs : List Value} {xss : List (List Tx)} (h : Bk w g t vs) (hr : Rwl w vs xss) : SM w (some ⟨g, 0, none⟩) xss :=
  rwl_sm (h.sl 0) hr

section
variable {xss yss zss : List (List Tx)} {ys zs : List Tx} {e : Int}
theorem lSolve_x (h : SolS xss ys zs e) (hx : LtM xss) (hy : RowL ys) (a b : Option Addr) (c d m n : Nat) (w : World) (hs : SM w a xss) (hl : Lit w (.slice b n d) ys) (ht : TabOk w) (hm : m = xss.length) :
    Calls Tryz.prog 12 #[.slice a m c, .slice b n d] w (Ret fun v w' => VOut zs e v w' ∧ Below w.heap.size w w') := by
  subst hm
  obtain ⟨h1, rfl⟩ := hl.sl
  exact (lSolve_l xss ys hx hy a b c d w hs h1 ht).mono (by rintro _ w' ⟨v, rfl, ⟨zs', e', g1, g2⟩, hB⟩; obtain ⟨rfl, rfl⟩ := g1.uniq h; exact ⟨v, rfl, g2, hB⟩)
theorem lLeast_x (h : LeaS xss ys zs e) (hx : LtM xss) (hy : RowL ys) (a b : Option Addr) (c d m n : Nat) (w : World) (hs : SM w a xss) (hl : Lit w (.slice b n d) ys) (ht : TabOk w) (hm : m = xss.length) :
    Calls Tryz.prog 17 #[.slice a m c, .slice b n d] w (Ret fun v w' => VOut zs e v w' ∧ Below w.heap.size w w') := by
  subst hm
  obtain ⟨h1, rfl⟩ := hl.sl
  exact (lLeast_l xss ys hx hy a b c d w hs h1 ht).mono (by rintro _ w' ⟨v, rfl, ⟨zs', e', g1, g2⟩, hB⟩; obtain ⟨rfl, rfl⟩ := g1.uniq h; exact ⟨v, rfl, g2, hB⟩)
theorem nsame_x {xs zs' : List Tx} (a b : Option Addr) (c d m n : Nat) (w : World) (h1 : Lit w (.slice a m c) xs) (h2 : Lit w (.slice b n d) zs') (hx : xs.length ≤ 1099511627776) (hy : zs'.length ≤ 1099511627776) :
    Calls Tryz.prog 15 #[.slice a m c, .slice b n d] w (Ret fun v w' => v = .bool (decide (xs = zs')) ∧ Below w.heap.size w w') := by
  obtain ⟨g1, rfl⟩ := h1.sl
  obtain ⟨k1, rfl⟩ := h2.sl
  exact nsame_calls xs zs' a b c d w g1 k1 hx hy
end

theorem lives27_calls (w : World) (ht : TabOk w) : Calls Tryz.prog 9 #[] w (Ret fun v w' => v = .bool true ∧ Below w.heap.size w w') := by
  refine enter Tryz.func9 rfl Tryz.ntmps9 (Nat.le_of_ble_eq_true rfl) ?_
  refine dr U 600 rfl trivial ?_
  have hB0 := Below.refl w.heap.size w
  refine bsv U (strs [[50], [49]]) rfl rfl rfl rfl rfl rfl (by decide) (by decide) rfl ?_
  intro w1 hk1 hz1 hg1
  have hs1 : Below w.heap.size w w1 := (Below.refl _ _).grown hg1 (Nat.le_refl _) (fun k e => by cases e)
  have hr1 := hs1
  have hmr0 := lit_bk (n := 2) (c := 2) hk1 rfl
  refine bsv U (strs [[49], [51]]) rfl rfl rfl rfl rfl rfl (by decide) (by decide) rfl ?_
  intro w2 hk2 hz2 hg2
  have hs2 : Below w1.heap.size w1 w2 := (Below.refl _ _).grown hg2 (Nat.le_refl _) (fun k e => by cases e)
  have hr2 := bl_tr hr1 hs2 hr1.size
  have hmr0 := hmr0.stay hs2
  have hmr1 := lit_bk (n := 2) (c := 2) hk2 rfl
  refine bsv U [.slice (some ⟨w.heap.size, 0, none⟩) 2 2, .slice (some ⟨w1.heap.size, 0, none⟩) 2 2] rfl rfl rfl rfl rfl rfl (by decide) (by decide) rfl ?_
  intro w3 hk3 hz3 hg3
  have hs3 : Below w2.heap.size w2 w3 := (Below.refl _ _).grown hg3 (Nat.le_refl _) (fun k e => by cases e)
  have hr3 := bl_tr hr2 hs3 hr2.size
  have hmr0 := hmr0.stay hs3
  have hmr1 := hmr1.stay hs3
  have hm := rwl_bk (xss := [[[50], [49]], [[49], [51]]]) hk3 ⟨hmr0, hmr1, trivial⟩
  refine bsv U (strs [[51], [53]]) rfl rfl rfl rfl rfl rfl (by decide) (by decide) rfl ?_
  intro w4 hk4 hz4 hg4
  have hs4 : Below w3.heap.size w3 w4 := (Below.refl _ _).grown hg4 (Nat.le_refl _) (fun k e => by cases e)
  have hr4 := bl_tr hr3 hs4 hr3.size
  have hm := hm.stay hs4
  have hv := lit_bk (n := 2) (c := 2) hk4 rfl
  have ht5 := ht.below (bl_tr hB0 hr4 hB0.size)
  refine call (f := 12) rfl rfl cb12 (lSolve_x ex1 (by decide +kernel) (by decide +kernel) _ _ _ _ _ _ w4 hm hv ht5 rfl) ?_
  rintro v w5 ⟨⟨a5, c5, rfl, hS5, hC5, hA5⟩, hq5⟩
  have hs5 : Below w4.heap.size w4 w5 := hq5
  have hr5 := bl_tr hr4 hs5 hr4.size
  refine ⟨_, rfl, ?_⟩
  refine dr U 600 rfl trivial ?_
  have hR1 : Lit w5 (.slice a5 2 c5) [[52, 47, 53], [55, 47, 53]] := ⟨a5, c5, rfl, hS5⟩
  have hB5 := bl_tr hB0 hr5 hB0.size
  refine bsv U (strs [[49]]) rfl rfl rfl rfl rfl rfl (by decide) (by decide) rfl ?_
  intro w6 hk6 hz6 hg6
  have hs6 : Below w5.heap.size w5 w6 := (Below.refl _ _).grown hg6 (Nat.le_refl _) (fun k e => by cases e)
  have hr6 := hs6
  have hmr0 := lit_bk (n := 1) (c := 1) hk6 rfl
  refine bsv U (strs [[49]]) rfl rfl rfl rfl rfl rfl (by decide) (by decide) rfl ?_
  intro w7 hk7 hz7 hg7
  have hs7 : Below w6.heap.size w6 w7 := (Below.refl _ _).grown hg7 (Nat.le_refl _) (fun k e => by cases e)
  have hr7 := bl_tr hr6 hs7 hr6.size
  have hmr0 := hmr0.stay hs7
  have hmr1 := lit_bk (n := 1) (c := 1) hk7 rfl
  refine bsv U (strs [[49]]) rfl rfl rfl rfl rfl rfl (by decide) (by decide) rfl ?_
  intro w8 hk8 hz8 hg8
  have hs8 : Below w7.heap.size w7 w8 := (Below.refl _ _).grown hg8 (Nat.le_refl _) (fun k e => by cases e)
  have hr8 := bl_tr hr7 hs8 hr7.size
  have hmr0 := hmr0.stay hs8
  have hmr1 := hmr1.stay hs8
  have hmr2 := lit_bk (n := 1) (c := 1) hk8 rfl
  refine bsv U [.slice (some ⟨w5.heap.size, 0, none⟩) 1 1, .slice (some ⟨w6.heap.size, 0, none⟩) 1 1, .slice (some ⟨w7.heap.size, 0, none⟩) 1 1] rfl rfl rfl rfl rfl rfl (by decide) (by decide) rfl ?_
  intro w9 hk9 hz9 hg9
  have hs9 : Below w8.heap.size w8 w9 := (Below.refl _ _).grown hg9 (Nat.le_refl _) (fun k e => by cases e)
  have hr9 := bl_tr hr8 hs9 hr8.size
  have hmr0 := hmr0.stay hs9
  have hmr1 := hmr1.stay hs9
  have hmr2 := hmr2.stay hs9
  have hm := rwl_bk (xss := [[[49]], [[49]], [[49]]]) hk9 ⟨hmr0, hmr1, hmr2, trivial⟩
  refine bsv U (strs [[49], [50], [54]]) rfl rfl rfl rfl rfl rfl (by decide) (by decide) rfl ?_
  intro w10 hk10 hz10 hg10
  have hs10 : Below w9.heap.size w9 w10 := (Below.refl _ _).grown hg10 (Nat.le_refl _) (fun k e => by cases e)
  have hr10 := bl_tr hr9 hs10 hr9.size
  have hm := hm.stay hs10
  have hv := lit_bk (n := 3) (c := 3) hk10 rfl
  have ht11 := ht.below (bl_tr hB5 hr10 hB5.size)
  refine call (f := 17) rfl rfl cb17 (lLeast_x ex2 (by decide +kernel) (by decide +kernel) _ _ _ _ _ _ w10 hm hv ht11 rfl) ?_
  rintro v w11 ⟨⟨a11, c11, rfl, hS11, hC11, hA11⟩, hq11⟩
  have hs11 : Below w10.heap.size w10 w11 := hq11
  have hr11 := bl_tr hr10 hs11 hr10.size
  refine ⟨_, rfl, ?_⟩
  refine dr U 600 rfl trivial ?_
  have hR2 : Lit w11 (.slice a11 1 c11) [[51]] := ⟨a11, c11, rfl, hS11⟩
  have hR1 := hR1.stay hr11
  have hB11 := bl_tr hB5 hr11 hB5.size
  refine cT rfl rfl rfl rfl ?_
  refine dr U 600 rfl trivial ?_
  refine bsv U (strs [[52, 47, 53], [55, 47, 53]]) rfl rfl rfl rfl rfl rfl (by decide) (by decide) rfl ?_
  intro w12 hk12 hz12 hg12
  have hs12 : Below w11.heap.size w11 w12 := (Below.refl _ _).grown hg12 (Nat.le_refl _) (fun k e => by cases e)
  have hr12 := hs12
  have hv := lit_bk (n := 2) (c := 2) hk12 rfl
  have hR1 := hR1.stay hr12
  have hR2 := hR2.stay hr12
  refine call (f := 15) rfl rfl cb15 (nsame_x _ _ _ _ _ _ w12 hR1 hv (by decide) (by decide)) ?_
  rintro v w13 ⟨rfl, hq13⟩
  have hr13 := bl_tr hr12 hq13 hr12.size
  have hR1 := hR1.stay hq13
  have hR2 := hR2.stay hq13
  rw [decide_eq_true rfl]
  refine ⟨_, rfl, ?_⟩
  refine dr U 600 rfl trivial ?_
  have hB13 := bl_tr hB11 hr13 hB11.size
  refine cT rfl rfl rfl rfl ?_
  refine dr U 600 rfl trivial ?_
  refine bsv U (strs [[51]]) rfl rfl rfl rfl rfl rfl (by decide) (by decide) rfl ?_
  intro w14 hk14 hz14 hg14
  have hs14 : Below w13.heap.size w13 w14 := (Below.refl _ _).grown hg14 (Nat.le_refl _) (fun k e => by cases e)
  have hr14 := hs14
  have hv := lit_bk (n := 1) (c := 1) hk14 rfl
  have hR1 := hR1.stay hr14
  have hR2 := hR2.stay hr14
  refine call (f := 15) rfl rfl cb15 (nsame_x _ _ _ _ _ _ w14 hR2 hv (by decide) (by decide)) ?_
  rintro v w15 ⟨rfl, hq15⟩
  have hr15 := bl_tr hr14 hq15 hr14.size
  have hR1 := hR1.stay hq15
  have hR2 := hR2.stay hq15
  rw [decide_eq_true rfl]
  refine ⟨_, rfl, ?_⟩
  refine dr U 600 rfl trivial ?_
  have hB15 := bl_tr hB13 hr15 hB13.size
  exact ret Tryz.results9 rfl ⟨_, rfl, rfl, hB15⟩
end Go.Proofs.YtfdekppnilffeaaGreatDoor
