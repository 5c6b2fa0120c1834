/-
  Structs by value: a struct is read out of its block, and a function returns results that lie in cells.
  No conditions: each theorem names its own premises.

  Walks of package frac: Zero, Make, Num.
  Conditions: numbers take fewer than 2^36 limbs; the library's table of powers of ten is laid.

  Walks of frac.Integer and rat.Make; the cells of bit strings.
  Conditions: texts take fewer than 2^40 bytes; the library's table of powers of ten is laid.
-/
import Derived.Test.YtfdekppnilffeaaGreatDoorYEng
import Derived.Test.YtfdekppnilffeaaGreatDoorYRng
import Derived.Test.YtfdekppnilffeaaGreatDoorYTab
import Derived.Test.YtfdekppnilffeaaGreatDoorYLmF
import Derived.Test.YtfdekppnilffeaaGreatDoorYBld
import Derived.Test.YtfdekppnilffeaaGreatDoorYPar
import Derived.Test.YtfdekppnilffeaaGreatDoorYLaw
import Derived.Test.YtfdekppnilffeaaGreatDoorYQ
import Derived.Deep.MidRow
section
namespace Go.Proofs.YtfdekppnilffeaaGreatDoor
open Go.RowKit

/-- This type is a struct of so many cells. -/
def AggOk (P : Program) (t : TypeId) (s : Nat) : Prop := (∃ fs, P.underlying t = some (.struct fs)) ∧ ∃ i, P.info? t = some i ∧ i.size = s

theorem run_load_agg {P : Program} {t bt : TypeId} {s b : Nat} {cs : List Value} {w : World} (h : AggOk P t s) (hb : Bk w b bt cs) (hs : cs.length = s) :
    (loadVar t ⟨b, 0, none⟩).run P w = .ok (.agg ⟨cs⟩) w := by
  obtain ⟨⟨fs, hu⟩, i, hi, hz⟩ := h
  exact run_loadVar_mid w b 0 t cs (.struct fs) (fun j v hv => by rw [Nat.zero_add]; exact hb.cell hv) hu rfl (by rw [hi]; simp [hz, hs])

/-- No cell of this block holds a number: a store into it leaves what slices read as numbers. -/
def NoInt (cs : List Value) : Prop := ∀ v ∈ cs, ∀ k x, v ≠ .int k x
theorem Sl.past {w w' : World} {a : Option Addr} {vs : List Value} {b t : Nat} {cs : List Value} (h : Sl w a vs) (hi : ∀ v ∈ vs, ∃ k x, v = .int k x) (hk : Bk w b t cs) (hn : NoInt cs) (hg : w.grownBy w' (some b)) : Sl w' a vs := by
  intro j v hv
  obtain ⟨g, off, rfl, hc⟩ := h j v hv
  refine ⟨g, off, rfl, hg.cell hc (fun e => ?_)⟩
  simp only at e
  cases e
  have : cs[off + j]? = some v := by
    simp only [World.cell?] at hc
    unfold Bk at hk
    simp_all
  obtain ⟨k, x, rfl⟩ := hi v (List.mem_of_getElem? hv)
  exact hn _ (List.mem_of_getElem? this) k x rfl
theorem Rd.past {w w' : World} {a : Option Addr} {c : Nat} {xs : List Nat} {b t : Nat} {cs : List Value} (h : Rd w a c xs) (hk : Bk w b t cs) (hn : NoInt cs) (hg : w.grownBy w' (some b)) (ht : Nat.beq 142 t = false := by rfl) : Rd w' a c xs :=
  ⟨h.1.past (fun v hv => by obtain ⟨x, _, rfl⟩ := List.mem_map.1 hv; exact ⟨_, _, rfl⟩) hk hn hg, h.2.1, fun g e => (h.2.2 g e).grown hg (fun e' => (h.2.2 g e).ne hk.tg ht (by cases e'; rfl))⟩

section
variable {P : Program} (U : Tys P) {ro : Option Nat} {n : Nat} {ds : List Deferred} {Q : PT} {l l' : Fr} {w w' : World} {arr : Array Oper} {r : List Oper} {k : List It}

/-- A load of a struct. -/
theorem lg {dst : Option Nat} {t ty bt : TypeId} {x : Operand} {ps : String} {af : Array Edge} {g : Option (Nat × Bool)} {b s : Nat} {cs : List Value} (hx : ev l x = some (.pointer (some ⟨b, 0, none⟩))) (ht : AggOk P t s) (hg : gd arr l g = some true)
    (hl : put1 n l dst (.agg ⟨cs⟩) = some l') (hb : Bk w b bt cs) (hs : cs.length = s) (t' : T P ro n ds Q l' w (.ops arr r) k) : T P ro n ds Q l w (.ops arr (⟨dst, .load t x, ty, ps, af, g⟩ :: r)) k :=
  op1 (by intro c h; cases h) hg hl (fun a hf => by
    simp only [execOp, hf.ev hx, Instr.loadAt, Instr.sureAddr]
    simp [run_load_agg ht hb hs]) t'

/-- The results, of which some lie in cells, structs among them. -/
def RsvS (P : Program) (l : Fr) (w : World) : List ResultVar → List Value → Prop
  | [], [] => True
  | .tmp t :: r, v :: vs => look l t = some v ∧ RsvS P l w r vs
  | .cell t ty :: r, v :: vs => (∃ p, look l t = some (.pointer (some p)) ∧ (loadVar ty p).run P w = .ok v w) ∧ RsvS P l w r vs
  | _, _ => False

theorem run_RsvS {tmps : Array Value} (hd : ∀ t v, look l t = some v → tmps[t]? = some v) (f : ResultVar → Sem Value)
    (h1 : ∀ t, f (.tmp t) = Pure.pure (tmps.getD t undef)) (h2 : ∀ a t, f (.cell a t) = do loadVar t (← asAddr (tmps.getD a undef))) :
    ∀ (rs : List ResultVar) (vs : List Value), RsvS P l w rs vs → (rs.mapM f).run P w = .ok vs w
  | [], [], _ => by simp
  | .tmp t :: r, v :: vs, ⟨e, h⟩ => by
    have := run_RsvS hd f h1 h2 r vs h
    simp only [List.mapM_cons]
    simp [h1, hd t v e, this]
  | .cell t ty :: r, v :: vs, ⟨⟨p, e, hc⟩, h⟩ => by
    have := run_RsvS hd f h1 h2 r vs h
    simp only [List.mapM_cons, h2]
    simp [hd t _ e, this, asAddr, hc]
  | [], _ :: _, h => h.elim
  | .tmp _ :: _, [], h => h.elim
  | .cell .. :: _, [], h => h.elim

/-- A return of a plain function, of which some results may lie in cells, structs among them. -/
theorem retS {fn : Func} {R : Ending → World → Prop} {rs : List ResultVar} {vs : List Value} (hr : fn.results = ⟨rs⟩) (hv : RsvS P l w rs vs) (hR : R (.returned (pack vs)) w) :
    T P ro n [] (bodyPost P fn R) l w (.code .ret) k := by
  intro a hf
  refine wpIn_ret ((KQ_ret k _ a w).2 ⟨hf.df, pack vs, ?_, hR⟩)
  unfold results
  rw [hr, Array.mapM_eq_mapM_toList]
  simp only [Sem.run_bind, Sem.run_map]
  rw [run_RsvS (l := l) (P := P) (w := w) hf.rd _ (fun _ => rfl) (fun _ _ => rfl) rs vs hv]
  simp [pack_eq]
end
end Go.Proofs.YtfdekppnilffeaaGreatDoor
end
section
set_option linter.unusedSimpArgs false
set_option linter.unusedVariables false
set_option maxHeartbeats 1000000
namespace Go.Proofs.YtfdekppnilffeaaGreatDoor
open Go Go.Proofs Go.RowKit Go.Lib

/-- A fraction that reads as these numbers. -/
def FV (w : World) (v : Value) (m : Bool) (n d : Nat) : Prop := ∃ an cn ad cd, v = .agg ⟨[.bool m, .slice an (lim n).length cn, .slice ad (lim d).length cd]⟩ ∧ Rd w an cn (lim n) ∧ Rd w ad cd (lim d)
theorem FV.below {w w' : World} {v : Value} {m : Bool} {n d : Nat} (h : FV w v m n d) (hb : Below w.heap.size w w') : FV w' v m n d := by
  obtain ⟨an, cn, ad, cd, rfl, h1, h2⟩ := h
  exact ⟨an, cn, ad, cd, rfl, h1.below hb, h2.below hb⟩

theorem ag_frac : AggOk Tryz.prog 105 3 := ⟨⟨_, Tryz.underlying105⟩, inf105.sz⟩

theorem ni0 : NoInt [.bool false, .slice none 0 0, .slice none 0 0] := fun v hv k x => by simp at hv; rcases hv with rfl | rfl <;> intro h <;> cases h


theorem frzero_calls (w : World) : Calls Tryz.prog 91 #[] w (Ret fun v w' => FV w' v false 0 1 ∧ Below w.heap.size w w') := by
  refine enter Tryz.func91 rfl Tryz.ntmps91 (Nat.le_of_ble_eq_true rfl) ?_
  refine dr U 600 rfl trivial ?_
  refine al U rfl rfl rfl rfl ?_
  intro b w0 hb0 hs0 hk0 hg0
  have hB0 : Below w.heap.size w w0 := (Below.refl _ _).grown hg0 (Nat.le_refl _) (fun k e => by cases e)
  refine dr U 600 rfl trivial ?_
  refine call (f := 120) rfl rfl cb120 (of_calls 1 (by omega) w0) ?_
  rintro v w1 ⟨a, c, rfl, ho, hB⟩
  refine ⟨_, rfl, ?_⟩
  have hk1 := hk0.below hB (by omega)
  have hB1 := bl_tr hB0 hB hB0.size
  refine dr U 600 rfl trivial ?_
  refine st U rfl rfl rfl rfl rfl rfl rfl rfl rfl rfl (hk1) ?_
  intro w2 hkW hgW hsW
  refine dr U 600 rfl trivial ?_
  have hBW := hB1.grown hgW hB1.size (fun k e => by cases e; omega)
  refine retS Tryz.results91 (vs := [_]) ⟨⟨_, rfl, run_load_agg ag_frac hkW rfl⟩, trivial⟩ ⟨_, rfl, ?_, hBW⟩
  exact ⟨none, 0, a, c, by rw [lim_zero]; rfl, by rw [lim_zero]; exact Rd.nil _, (own_rd ho).past hk1 ni0 hgW⟩

theorem frmake_calls (m : Bool) (n d : Nat) (hd : d ≠ 0) (a b : Option Addr) (c e : Nat) (w : World) (ha : Rd w a c (lim n)) (hb : Rd w b e (lim d)) (hnl : (lim n).length ≤ 68719476736) (hdl : (lim d).length ≤ 68719476736) :
    Calls Tryz.prog 112 #[.bool m, .slice a (lim n).length c, .slice b (lim d).length e] w
      (Ret fun v w' => FV w' v (m && decide (n ≠ 0)) (n / Nat.gcd n d) (d / Nat.gcd n d) ∧ Below w.heap.size w w') := by
  have hg0 : Nat.gcd n d ≠ 0 := Nat.ne_of_gt (Nat.gcd_pos_of_pos_right n (Nat.pos_of_ne_zero hd))
  refine enter Tryz.func112 rfl Tryz.ntmps112 (Nat.le_of_ble_eq_true rfl) ?_
  refine dr U 600 rfl trivial ?_
  refine al U rfl rfl rfl rfl ?_
  intro bb w0 hb0 hs0 hk0 hg0'
  have hB0 : Below w.heap.size w w0 := (Below.refl _ _).grown hg0' (Nat.le_refl _) (fun k e => by cases e)
  have ha0 := ha.below hB0
  have hbb0 := hb.below hB0
  refine dr U 600 rfl trivial ?_
  refine call (f := 111) rfl rfl cb111 (zero_calls (lim n) a c w0) ?_
  rintro v w1 ⟨rfl, rfl⟩
  refine ⟨_, rfl, ?_⟩
  by_cases hn : n = 0
  · subst hn
    rw [decide_eq_true (lim_zero)]
    refine dr U 600 rfl trivial ?_
    refine call (f := 91) rfl rfl cb91 (frzero_calls w0) ?_
    rintro v w1 ⟨hv, hB⟩
    obtain ⟨an, cn, ad, cd, rfl, h1, h2⟩ := hv
    refine ⟨_, rfl, ?_⟩
    have hk1 := hk0.below hB (by omega)
    have hB1 := bl_tr hB0 hB hB0.size
    refine dr U 600 rfl trivial ?_
    refine st U rfl rfl rfl rfl rfl rfl rfl rfl rfl rfl (hk1) ?_
    intro w2 hkW hgW hsW
    refine dr U 600 rfl trivial ?_
    have hBW := hB1.grown hgW hB1.size (fun k e => by cases e; omega)
    refine retS Tryz.results112 (vs := [_]) ⟨⟨_, rfl, run_load_agg ag_frac hkW rfl⟩, trivial⟩ ⟨_, rfl, ?_, hBW⟩
    rw [Nat.gcd_zero_left, Nat.zero_div, Nat.div_self (Nat.pos_of_ne_zero hd)]
    exact ⟨an, cn, ad, cd, by simp [pack], h1.past hk1 ni0 hgW, h2.past hk1 ni0 hgW⟩
  · have hdn : decide (n ≠ 0) = true := decide_eq_true hn
    rw [decide_eq_false (fun h => hn (lim_eq_nil.1 h))]
    refine dr U 600 rfl trivial ?_
    refine call (f := 108) rfl rfl cb108 (one_calls d b e w0 hbb0) ?_
    rintro v w1 ⟨rfl, rfl⟩
    refine ⟨_, rfl, ?_⟩
    by_cases hd1 : d = 1
    · subst hd1
      rw [decide_eq_true rfl]
      refine dr U 600 rfl trivial ?_
      refine st U rfl rfl rfl rfl rfl rfl rfl rfl rfl rfl (hk0) ?_
      intro w2 hkW hgW hsW
      refine dr U 600 rfl trivial ?_
      have hBW := hB0.grown hgW hB0.size (fun k e => by cases e; omega)
      refine retS Tryz.results112 (vs := [_]) ⟨⟨_, rfl, run_load_agg ag_frac hkW rfl⟩, trivial⟩ ⟨_, rfl, ?_, hBW⟩
      rw [Nat.gcd_one_right, Nat.div_one, hdn, Bool.and_true]
      exact ⟨a, c, b, e, rfl, ha0.past hk0 ni0 hgW, hbb0.past hk0 ni0 hgW⟩
    · rw [decide_eq_false hd1]
      refine dr U 600 rfl trivial ?_
      refine call (f := 125) rfl rfl cb125 (gcd_calls n d a b c e w0 ha0 hbb0 hnl hdl) ?_
      rintro v w1 ⟨⟨ag, cg, rfl, hg⟩, hB1'⟩
      refine ⟨_, rfl, ?_⟩
      have hk1 := hk0.below hB1' (by omega)
      have hB1 := bl_tr hB0 hB1' hB0.size
      have ha1 := ha0.below hB1'
      have hb1 := hbb0.below hB1'
      refine dr U 600 rfl trivial ?_
      refine call (f := 108) rfl rfl cb108 (one_calls (Nat.gcd n d) ag cg w1 hg) ?_
      rintro v w2 ⟨rfl, rfl⟩
      refine ⟨_, rfl, ?_⟩
      by_cases hg1 : Nat.gcd n d = 1
      · rw [decide_eq_true hg1]
        refine dr U 600 rfl trivial ?_
        refine st U rfl rfl rfl rfl rfl rfl rfl rfl rfl rfl (hk1) ?_
        intro w2 hkW hgW hsW
        refine dr U 600 rfl trivial ?_
        have hBW := hB1.grown hgW hB1.size (fun k e => by cases e; omega)
        refine retS Tryz.results112 (vs := [_]) ⟨⟨_, rfl, run_load_agg ag_frac hkW rfl⟩, trivial⟩ ⟨_, rfl, ?_, hBW⟩
        rw [hg1, Nat.div_one, Nat.div_one, hdn, Bool.and_true]
        exact ⟨a, c, b, e, rfl, ha1.past hk1 ni0 hgW, hb1.past hk1 ni0 hgW⟩
      · rw [decide_eq_false hg1]
        have hgl : (lim (Nat.gcd n d)).length ≤ 68719476736 := Nat.le_trans (lim_len_mono (Nat.gcd_le_left d (Nat.pos_of_ne_zero hn))) hnl
        refine dr U 600 rfl trivial ?_
        refine call (f := 133) rfl rfl cb133 (divmod_calls n (Nat.gcd n d) (Nat.pos_of_ne_zero hg0) a ag c cg w1 ha1 hg hnl hgl) ?_
        rintro v w2 ⟨v1, v2, rfl, ⟨a3, c3, rfl, hr3⟩, _, hB2'⟩
        refine ⟨_, rfl, ?_⟩
        have hk2 := hk1.below hB2' (by have := hB1'.size; omega)
        have hB2 := bl_tr hB1 hB2' hB1.size
        refine dr U 600 rfl trivial ?_
        refine call (f := 133) rfl rfl cb133 (divmod_calls d (Nat.gcd n d) (Nat.pos_of_ne_zero hg0) b ag e cg w2 (hb1.below hB2') (hg.below hB2') hdl hgl) ?_
        rintro v w3 ⟨v3, v4, rfl, ⟨a4, c4, rfl, hr4⟩, _, hB3'⟩
        refine ⟨_, rfl, ?_⟩
        have hk3 := hk2.below hB3' (by have := hB1'.size; have := hB2'.size; omega)
        have hB3 := bl_tr hB2 hB3' hB2.size
        refine dr U 600 rfl trivial ?_
        refine st U rfl rfl rfl rfl rfl rfl rfl rfl rfl rfl (hk3) ?_
        intro w4 hkW hgW hsW
        refine dr U 600 rfl trivial ?_
        have hBW := hB3.grown hgW hB3.size (fun k e => by cases e; omega)
        refine retS Tryz.results112 (vs := [_]) ⟨⟨_, rfl, run_load_agg ag_frac hkW rfl⟩, trivial⟩ ⟨_, rfl, ?_, hBW⟩
        rw [hdn, Bool.and_true]
        exact ⟨a3, c3, a4, c4, rfl, (hr3.below hB3').past hk3 ni0 hgW, hr4.past hk3 ni0 hgW⟩

/-- The text of a fraction. -/
def ftext (m : Bool) (n d : Nat) : List UInt8 := (if m = true then [45] else []) ++ decDigits n ++ (if d = 1 then [] else 47 :: decDigits d)
/-- A number as a result, if its parts are not too long. -/
def FRes (m : Bool) (n d : Nat) (v : Value) : Prop := (nDigits n ≤ 4000 ∧ nDigits d ≤ 4000 ∧ v = .tuple ⟨[.string ⟨⟨ftext m n d⟩⟩, .int .i64 0]⟩) ∨ ((4000 < nDigits n ∨ 4000 < nDigits d) ∧ v = .tuple ⟨[.string ⟨⟨[]⟩⟩, .int .i64 5]⟩)


theorem frnum_calls (m : Bool) (n d : Nat) (v : Value) (w : World) (hv : FV w v m n d) (hnl : (lim n).length ≤ 68719476736) (hdl : (lim d).length ≤ 68719476736) (ht : TabOk w) :
    Calls Tryz.prog 75 #[v] w (Ret fun r w' => FRes m n d r ∧ Below w.heap.size w w') := by
  obtain ⟨an, cn, ad, cd, rfl, h1, h2⟩ := hv
  have hln := decDigits_length n
  have hld := decDigits_length d
  refine enter Tryz.func75 rfl Tryz.ntmps75 (Nat.le_of_ble_eq_true rfl) ?_
  refine dr U 600 rfl trivial ?_
  refine bx rfl rfl rfl rfl ?_
  intro b w0 hb0 hs0 hk0 hg0
  have hB0 : Below w.heap.size w w0 := (Below.refl _ _).grown hg0 (Nat.le_refl _) (fun k e => by cases e)
  have ht0 := ht.below hB0
  have h10 := h1.below hB0
  have h20 := h2.below hB0
  refine dr U 600 rfl trivial ?_
  refine ld U rfl rfl rfl rfl ((hk0).cell rfl) ?_
  refine dr U 600 rfl trivial ?_
  refine call (f := 106) rfl rfl cb106 (digits_calls n an cn w0 h10 hnl ht0) ?_
  rintro v w1 ⟨rfl, hB1'⟩
  refine ⟨_, rfl, ?_⟩
  have hB1 := bl_tr hB0 hB1' hB0.size
  have hk1 := hk0.below hB1' (by omega)
  have ht1 := ht0.below hB1'
  have h11 := h10.below hB1'
  have h21 := h20.below hB1'
  refine dr U 600 rfl trivial ?_
  refine cS rfl rfl rfl rfl (fun hq => ?_) (fun hq => ?_)
  · refine dr U 600 rfl trivial ?_
    exact ret Tryz.results75 rfl ⟨_, rfl, .inr ⟨.inl (by omega), rfl⟩, hB1⟩
  · refine dr U 600 rfl trivial ?_
    refine ld U rfl rfl rfl rfl ((hk1).cell rfl) ?_
    refine dr U 600 rfl trivial ?_
    refine call (f := 106) rfl rfl cb106 (digits_calls d ad cd w1 h21 hdl ht1) ?_
    rintro v w2 ⟨rfl, hB2'⟩
    refine ⟨_, rfl, ?_⟩
    have ht2 := ht1.below hB2'
    have h12 := h11.below hB2'
    have h22 := h21.below hB2'
    have hB2 := bl_tr hB1 hB2' hB1.size
    have hk2 := hk1.below hB2' (by have := hB1'.size; omega)
    refine dr U 600 rfl trivial ?_
    refine cS rfl rfl rfl rfl (fun hq => ?_) (fun hq => ?_)
    · refine dr U 600 rfl trivial ?_
      exact ret Tryz.results75 rfl ⟨_, rfl, .inr ⟨.inr (by omega), rfl⟩, hB2⟩
    · refine dr U 600 rfl trivial ?_
      refine ld U rfl rfl rfl rfl ((hk2).cell rfl) ?_
      refine dr U 600 rfl trivial ?_
      refine call (f := 107) rfl rfl cb107 (string_calls n an cn w2 h12 hnl ht2) ?_
      rintro v w3 ⟨rfl, hB3'⟩
      refine ⟨_, rfl, ?_⟩
      have ht3 := ht2.below hB3'
      have h23 := h22.below hB3'
      have hB3 := bl_tr hB2 hB3' hB2.size
      have hk3 := hk2.below hB3' (by have := hB1'.size; have := hB2'.size; omega)
      refine dr U 600 rfl trivial ?_
      refine ld U rfl rfl rfl rfl ((hk3).cell rfl) ?_
      cases m with
      | false =>
        refine dr U 600 rfl trivial ?_
        refine ld U rfl rfl rfl rfl ((hk3).cell rfl) ?_
        refine dr U 600 rfl trivial ?_
        refine call (f := 108) rfl rfl cb108 (one_calls d ad cd w3 h23) ?_
        rintro v w5 ⟨rfl, rfl⟩
        refine ⟨_, rfl, ?_⟩
        by_cases hd1 : d = 1
        · rw [decide_eq_true hd1]
          refine dr U 600 rfl trivial ?_
          refine ret Tryz.results75 rfl ⟨_, rfl, .inl ⟨by omega, by omega, ?_⟩, hB3⟩
          unfold ftext
          rw [if_pos hd1]
          simp [pack, str]
        · rw [decide_eq_false hd1]
          refine dr U 600 rfl trivial ?_
          refine ld U rfl rfl rfl rfl ((hk3).cell rfl) ?_
          refine dr U 600 rfl trivial ?_
          refine call (f := 107) rfl rfl cb107 (string_calls d ad cd w3 h23 hdl ht3) ?_
          rintro v w6 ⟨rfl, hB6⟩
          refine ⟨_, rfl, ?_⟩
          refine dr U 600 rfl (by simp only [AllP, InR, List.nil_append, List.cons_append, and_true, List.length_cons, List.length_nil, List.length_append]; omega) ?_
          refine ret Tryz.results75 rfl ⟨_, rfl, .inl ⟨by omega, by omega, ?_⟩, bl_tr hB3 hB6 hB3.size⟩
          unfold ftext
          rw [if_neg hd1]
          simp [pack, str]
      | true =>
        refine dr U 600 rfl (by simp only [AllP, InR, List.nil_append, List.cons_append, and_true, List.length_cons, List.length_nil, List.length_append]; omega) ?_
        refine dr U 600 rfl trivial ?_
        refine ld U rfl rfl rfl rfl ((hk3).cell rfl) ?_
        refine dr U 600 rfl trivial ?_
        refine call (f := 108) rfl rfl cb108 (one_calls d ad cd w3 h23) ?_
        rintro v w5 ⟨rfl, rfl⟩
        refine ⟨_, rfl, ?_⟩
        by_cases hd1 : d = 1
        · rw [decide_eq_true hd1]
          refine dr U 600 rfl trivial ?_
          refine ret Tryz.results75 rfl ⟨_, rfl, .inl ⟨by omega, by omega, ?_⟩, hB3⟩
          unfold ftext
          rw [if_pos hd1]
          simp [pack, str]
        · rw [decide_eq_false hd1]
          refine dr U 600 rfl trivial ?_
          refine ld U rfl rfl rfl rfl ((hk3).cell rfl) ?_
          refine dr U 600 rfl trivial ?_
          refine call (f := 107) rfl rfl cb107 (string_calls d ad cd w3 h23 hdl ht3) ?_
          rintro v w6 ⟨rfl, hB6⟩
          refine ⟨_, rfl, ?_⟩
          refine dr U 600 rfl (by simp only [AllP, InR, List.nil_append, List.cons_append, and_true, List.length_cons, List.length_nil, List.length_append]; omega) ?_
          refine ret Tryz.results75 rfl ⟨_, rfl, .inl ⟨by omega, by omega, ?_⟩, bl_tr hB3 hB6 hB3.size⟩
          unfold ftext
          rw [if_neg hd1]
          simp [pack, str]

/-- A fraction that is this number. -/
def FQ (w : World) (v : Value) (r : Rat) : Prop := FV w v (decide (r.num < 0)) r.num.natAbs r.den
theorem FQ.below {w w' : World} {v : Value} {r : Rat} (h : FQ w v r) (hb : Below w.heap.size w w') : FQ w' v r := FV.below h hb
/-- The two numbers of a fraction fit the library of limbs. -/
def Fits (r : Rat) : Prop := (lim r.num.natAbs).length ≤ 68719476736 ∧ (lim r.den).length ≤ 68719476736
theorem fv_fq {w : World} {v : Value} {m : Bool} {n d : Nat} (hd : d ≠ 0) (h : FV w v (m && decide (n ≠ 0)) (n / Nat.gcd n d) (d / Nat.gcd n d)) : FQ w v (mkq m n d) := by
  unfold FQ
  rw [mkq_num m n d hd, (mkq_form m n d hd).2, show decide ((mkq m n d).num < 0) = (m && decide (n ≠ 0)) from by rw [Bool.eq_iff_iff]; simp [mkq_neg m n d hd]]
  exact h
/-- What a function that computes this number answers: its text, or that it has too many digits. -/
def QRes (r : Rat) (v : Value) : Prop := (Small 4000 r ∧ v = .tuple ⟨[.string ⟨⟨qtext r⟩⟩, .int .i64 0]⟩) ∨ (¬ Small 4000 r ∧ v = .tuple ⟨[.string ⟨⟨[]⟩⟩, .int .i64 5]⟩)
theorem QRes.uniq {r : Rat} {v v' : Value} (h : QRes r v) (h' : QRes r v') : v = v' := by
  rcases h with ⟨h1, rfl⟩ | ⟨h1, rfl⟩ <;> rcases h' with ⟨h2, rfl⟩ | ⟨h2, rfl⟩ <;> first | rfl | contradiction
theorem QRes.tup {r : Rat} {v : Value} (h : QRes r v) : ∃ s e, v = .tuple ⟨[.string ⟨⟨s⟩⟩, .int .i64 e]⟩ := by
  rcases h with ⟨_, rfl⟩ | ⟨_, rfl⟩ <;> exact ⟨_, _, rfl⟩
theorem QRes.ok {r : Rat} {v : Value} (h : QRes r v) (hs : Small 4000 r) : v = .tuple ⟨[.string ⟨⟨qtext r⟩⟩, .int .i64 0]⟩ := h.uniq (.inl ⟨hs, rfl⟩)
theorem fres_qres {r : Rat} {v : Value} (h : FRes (decide (r.num < 0)) r.num.natAbs r.den v) : QRes r v := by
  rcases h with ⟨h1, h2, rfl⟩ | ⟨h1, rfl⟩
  · refine .inl ⟨⟨h1, h2⟩, ?_⟩
    unfold ftext qtext
    simp
  · exact .inr ⟨fun h => by have := h.1; have := h.2; omega, rfl⟩
theorem frnumq_calls (r : Rat) (v : Value) (w : World) (hv : FQ w v r) (hf : Fits r) (ht : TabOk w) :
    Calls Tryz.prog 75 #[v] w (Ret fun v' w' => QRes r v' ∧ Below w.heap.size w w') :=
  (frnum_calls _ _ _ v w hv hf.1 hf.2 ht).mono (by rintro e w' ⟨v, rfl, h, hB⟩; exact ⟨v, rfl, fres_qres h, hB⟩)
end Go.Proofs.YtfdekppnilffeaaGreatDoor
end
section
set_option linter.unusedSimpArgs false
set_option linter.unusedVariables false
set_option maxHeartbeats 1000000
namespace Go.Proofs.YtfdekppnilffeaaGreatDoor
open Go Go.Proofs Go.RowKit Go.Lib

def ineg (x : List UInt8) : Bool := hasPrefix x [45]
def irest (x : List UInt8) : List UInt8 := trimPrefix x [45]
/-- A text of an integer. -/
def IOk (x : List UInt8) : Prop := Form (irest x) ∧ ¬(ineg x = true ∧ irest x = [48])
theorem irest_len (x : List UInt8) : (irest x).length ≤ x.length := by
  unfold irest trimPrefix
  split
  · simp
  · exact Nat.le_refl _

theorem cutminus (x : List UInt8) (w : World) : Calls Tryz.prog 141 #[.string ⟨⟨x⟩⟩, .string ⟨⟨[45]⟩⟩] w (Ret fun v w' => v = .tuple ⟨[.string ⟨⟨irest x⟩⟩, .bool (ineg x)]⟩ ∧ w = w') :=
  (Tryz.strings_CutPrefix ⟨⟨x⟩⟩ ⟨⟨[45]⟩⟩ w).mono (by rintro e w' ⟨rfl, rfl⟩; exact ⟨_, rfl, rfl, rfl⟩)

theorem integer_calls (x : List UInt8) (hx : x.length ≤ 1099511627776) (w : World) :
    Calls Tryz.prog 122 #[.string ⟨⟨x⟩⟩] w (Ret fun v w' => (∃ b, v = .tuple ⟨[.bool (ineg x), .string ⟨⟨irest x⟩⟩, .bool b]⟩ ∧ (b = true ↔ IOk x)) ∧ Below w.heap.size w w') := by
  have hlen := irest_len x
  have hio : IOk x ↔ Form (irest x) ∧ ¬(ineg x = true ∧ irest x = [48]) := Iff.rfl
  refine enter Tryz.func122 rfl Tryz.ntmps122 (Nat.le_of_ble_eq_true rfl) ?_
  refine dr U 600 rfl trivial ?_
  refine call (f := 141) rfl rfl cb141 (cutminus x w) ?_
  rintro v w1 ⟨rfl, rfl⟩
  refine ⟨_, rfl, ?_⟩
  generalize ineg x = ng at *
  generalize irest x = rs at *
  refine dr U 600 rfl trivial ?_
  refine call (f := 123) rfl rfl cb123 (form_calls rs (by omega) w) ?_
  rintro v w1 ⟨⟨b, rfl, hb⟩, hB⟩
  refine ⟨_, rfl, ?_⟩
  cases b with
  | false =>
    refine dr U 600 rfl trivial ?_
    exact ret Tryz.results122 rfl ⟨_, rfl, ⟨false, rfl, by rw [hio]; simp at hb; simp [hb]⟩, hB⟩
  | true =>
    have hf := hb.1 rfl
    cases ng with
    | false =>
      refine dr U 600 rfl trivial ?_
      exact ret Tryz.results122 rfl ⟨_, rfl, ⟨true, rfl, by rw [hio]; simp [hf]⟩, hB⟩
    | true =>
      refine dr U 600 rfl trivial ?_
      refine cS rfl rfl rfl rfl (fun hq => ?_) (fun hq => ?_)
      · refine dr U 600 rfl trivial ?_
        exact ret Tryz.results122 rfl ⟨_, rfl, ⟨false, rfl, by rw [hio]; simp [hq]⟩, hB⟩
      · refine dr U 600 rfl trivial ?_
        exact ret Tryz.results122 rfl ⟨_, rfl, ⟨true, rfl, by rw [hio]; simp [hf, hq]⟩, hB⟩

/-- The errors of Make. -/
def MErr (x y : List UInt8) (e : Int) : Prop :=
  (¬ IOk x ∧ e = 3) ∨ (IOk x ∧ 4000 < (irest x).length ∧ e = 5) ∨ (IOk x ∧ (irest x).length ≤ 4000 ∧ e ≠ 0 ∧ Chk y e) ∨
  (IOk x ∧ (irest x).length ≤ 4000 ∧ Chk y 0 ∧ y = [48] ∧ e = 6) ∨ (IOk x ∧ (irest x).length ≤ 4000 ∧ Chk y 0 ∧ y ≠ [48] ∧ e = 0)
theorem Chk.uniq' {l : List UInt8} {e f : Int} (h : Chk l e) (h' : Chk l f) : e = f := by
  rcases h with ⟨h1, h2, rfl⟩ | ⟨h1, h2, rfl⟩ | ⟨h1, rfl⟩ <;> rcases h' with ⟨h3, h4, rfl⟩ | ⟨h3, h4, rfl⟩ | ⟨h3, rfl⟩ <;> first | rfl | contradiction | omega
theorem MErr.uniq {x y : List UInt8} {e f : Int} (h : MErr x y e) (h' : MErr x y f) : e = f := by
  rcases h with ⟨h1, rfl⟩ | ⟨h1, h2, rfl⟩ | ⟨h1, h2, h3, h4⟩ | ⟨h1, h2, h3, h4, rfl⟩ | ⟨h1, h2, h3, h4, rfl⟩ <;>
    rcases h' with ⟨g1, rfl⟩ | ⟨g1, g2, rfl⟩ | ⟨g1, g2, g3, g4⟩ | ⟨g1, g2, g3, g4, rfl⟩ | ⟨g1, g2, g3, g4, rfl⟩ <;> first
    | rfl
    | contradiction
    | omega
    | exact h4.uniq' g4
    | exact absurd (h4.uniq' g3) h3
    | exact absurd (g4.uniq' h3) g3
/-- What Make answers. -/
def MakeR (x y : List UInt8) (v : Value) : Prop :=
  (∃ e, e ≠ 0 ∧ MErr x y e ∧ v = .tuple ⟨[.string ⟨⟨[]⟩⟩, .int .i64 e]⟩) ∨ (MErr x y 0 ∧ QRes (mkq (ineg x) (dval (irest x)) (dval y)) v)
theorem MakeR.uniq {x y : List UInt8} {v v' : Value} (h : MakeR x y v) (h' : MakeR x y v') : v = v' := by
  rcases h with ⟨e, h1, h2, rfl⟩ | ⟨h2, h⟩ <;> rcases h' with ⟨e', h3, h4, rfl⟩ | ⟨h4, h'⟩
  · rw [h2.uniq h4]
  · exact absurd (h2.uniq h4) h1
  · exact absurd (h4.uniq h2) h3
  · exact h.uniq h'
theorem MakeR.tup {x y : List UInt8} {v : Value} (h : MakeR x y v) : ∃ s e, v = .tuple ⟨[.string ⟨⟨s⟩⟩, .int .i64 e]⟩ := by
  rcases h with ⟨e, _, _, rfl⟩ | ⟨_, h⟩
  · exact ⟨_, _, rfl⟩
  · exact h.tup

end Go.Proofs.YtfdekppnilffeaaGreatDoor
end
