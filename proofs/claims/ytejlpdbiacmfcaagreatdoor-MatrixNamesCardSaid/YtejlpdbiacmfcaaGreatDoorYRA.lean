/-
  Walks of the reference's limbs: trim, Read, Write.
  Conditions: fewer than 2^36 limbs.

  Walks of the reference's limbs: Plus, Minus, Order.
  Conditions: fewer than 2^36 limbs.

  Walks of the reference's limbs: Order, Times.
  Conditions: fewer than 2^36 limbs.

  Walks of the reference's limbs: short, scaled.
  Conditions: fewer than 2^36 limbs; the small number is below the base (and not 0 where it divides).

  The remainder of an int that may be negative, as the program computes it.
  No conditions: each theorem names its own premises.

  Walk of the reference's step, one digit of a long division.
  Conditions: as the theorem says (a divisor of at least two limbs, the highest not 0; the number is below the divisor times the base).

  Walks of the reference's limbs: Divide, Common.
  Conditions: fewer than 2^36 limbs; the divisor is not 0.

  Walks of the reference: Write, number, both, Add, Sub, Mul, DivMod, Gcd, Cmp.
  Conditions: fewer than 2^36 limbs; texts are no longer than an int can tell.

  Walks of the reference: number, both, Add, Sub, Mul, DivMod, Gcd, Cmp.
  Conditions: texts are no longer than an int can tell.

  Structs by value: a struct is read out of its block, and a function returns results that lie in cells.
  No conditions: each theorem names its own premises.

  Walks of package frac: Zero, Make, Num.
  Conditions: numbers take fewer than 2^36 limbs; the library's table of powers of ten is laid.

  Walks of the reference's rational numbers: one, Reduce, Write, Plus.
  Conditions: numbers take fewer than 2^34 limbs.

  How a text is read as a rational number, in plain arithmetic.
  No conditions: each theorem names its own premises.

  Walks of the reference's rational numbers: slash, digits, integer, Read, two, Add.
  Conditions: texts take fewer than 2^40 bytes.

  Walk of the reference's sum of rational numbers.
  Conditions: numbers take fewer than 2^34 limbs.

  Walks of the law package's helpers: Pick, sum, product; the texts of given numbers.
  Conditions: texts take fewer than 2^40 bytes; the library's table of powers of ten is laid.

  Walks of frac.Integer and rat.Make; the cells of bit strings.
  Conditions: texts take fewer than 2^40 bytes; the library's table of powers of ten is laid.

  Walks of the reference's rational numbers: integer, Make.
  Conditions: texts take fewer than 2^40 bytes.
-/
import Derived.Test.YtejlpdbiacmfcaaGreatDoorYRul
import Derived.Test.YtejlpdbiacmfcaaGreatDoorYTab
import Derived.Test.YtejlpdbiacmfcaaGreatDoorYLmC
import Derived.Test.YtejlpdbiacmfcaaGreatDoorYLmG
import Derived.Test.YtejlpdbiacmfcaaGreatDoorYNumD
import Derived.Test.YtejlpdbiacmfcaaGreatDoorYBld
import Derived.Deep.MidRow
section
set_option linter.unusedSimpArgs false
set_option linter.unusedVariables false
set_option maxHeartbeats 1000000
namespace Go.Proofs.YtejlpdbiacmfcaaGreatDoor
open Go Go.Proofs Go.RowKit Go.Lib

def i64n (n : Nat) : Value := .int .i64 (n : Int)

/-- A slice of limbs that reads as this list. -/
def RdI (w : World) (a : Option Addr) (c : Nat) (xs : List Nat) : Prop := Sl w a (xs.map i64n) ∧ xs.length ≤ c ∧ ∀ g, ab a = some g → Tg w 3 g

theorem RdI.below {w w' : World} {a : Option Addr} {c : Nat} {xs : List Nat} (h : RdI w a c xs) (hb : Below w.heap.size w w') : RdI w' a c xs :=
  ⟨h.1.below hb (fun g hg => (h.2.2 g hg).lt), h.2.1, fun g hg => (h.2.2 g hg).below hb⟩

/-- A fresh slice of limbs, as a result. -/
def OwnI (w w' : World) (v : Value) (zs : List Nat) : Prop := ∃ a c, v = .slice a zs.length c ∧ w'.ownsRow w.heap.size 3 1 (.slice a zs.length c) zs.length (zs.map i64n) ∧ Below w.heap.size w w'

theorem ownI_rd {w : World} {base : Nat} {a : Option Addr} {m c : Nat} {xs : List Nat} (h : w.ownsRow base 3 1 (.slice a m c) m (xs.map i64n)) : RdI w a c xs := by
  have hl := own_len h
  simp at hl
  refine ⟨own_sl h, ?_, own_tag h⟩
  rcases h.2 with ⟨h1, h2⟩ | ⟨g, cap, cur, h1, _, _, h4, _⟩
  · omega
  · simp at h1; omega

theorem OwnI.rd {w w' : World} {v : Value} {zs : List Nat} (h : OwnI w w' v zs) : ∃ a c, v = .slice a zs.length c ∧ RdI w' a c zs ∧ Below w.heap.size w w' := by
  obtain ⟨a, c, rfl, h1, h2⟩ := h
  exact ⟨a, c, rfl, ownI_rd h1, h2⟩

end Go.Proofs.YtejlpdbiacmfcaaGreatDoor
end
section
set_option linter.unusedSimpArgs false
set_option linter.unusedVariables false
set_option maxHeartbeats 1000000
namespace Go.Proofs.YtejlpdbiacmfcaaGreatDoor
open Go Go.Proofs Go.RowKit Go.Lib

end Go.Proofs.YtejlpdbiacmfcaaGreatDoor
end
section
set_option linter.unusedSimpArgs false
set_option linter.unusedVariables false
set_option maxHeartbeats 1000000
namespace Go.Proofs.YtejlpdbiacmfcaaGreatDoor
open Go Go.Proofs Go.RowKit Go.Lib

end Go.Proofs.YtejlpdbiacmfcaaGreatDoor
end
section
set_option linter.unusedSimpArgs false
set_option linter.unusedVariables false
set_option maxHeartbeats 1000000
namespace Go.Proofs.YtejlpdbiacmfcaaGreatDoor
open Go Go.Proofs Go.RowKit Go.Lib

end Go.Proofs.YtejlpdbiacmfcaaGreatDoor
end
section
set_option linter.unusedSimpArgs false
set_option linter.unusedVariables false
namespace Go.Proofs.YtejlpdbiacmfcaaGreatDoor
open Go Go.Proofs Go.RowKit

section
variable {P : Program} {ro : Option Nat} {n : Nat} {ds : List Deferred} {Q : PT} {l l' : Fr} {w w' : World} {arr : Array Oper} {r : List Oper} {k : List It}
end
end Go.Proofs.YtejlpdbiacmfcaaGreatDoor
end
section
set_option linter.unusedSimpArgs false
set_option linter.unusedVariables false
set_option maxHeartbeats 2000000
namespace Go.Proofs.YtejlpdbiacmfcaaGreatDoor
open Go Go.Proofs Go.RowKit Go.Lib

end Go.Proofs.YtejlpdbiacmfcaaGreatDoor
end
section
set_option linter.unusedSimpArgs false
set_option linter.unusedVariables false
set_option maxHeartbeats 2000000
namespace Go.Proofs.YtejlpdbiacmfcaaGreatDoor
open Go Go.Proofs Go.RowKit Go.Lib

/-- A result that reads as these limbs. -/
def RedI (w : World) (v : Value) (zs : List Nat) : Prop := ∃ a c, v = .slice a zs.length c ∧ RdI w a c zs
theorem OwnI.red {w w' : World} {v : Value} {zs : List Nat} (h : OwnI w w' v zs) : RedI w' v zs := by
  obtain ⟨a, c, rfl, ho, _⟩ := h
  exact ⟨a, c, rfl, ownI_rd ho⟩
theorem RedI.below {w w' : World} {v : Value} {zs : List Nat} (h : RedI w v zs) (hb : Below w.heap.size w w') : RedI w' v zs := by
  obtain ⟨a, c, rfl, hr⟩ := h
  exact ⟨a, c, rfl, hr.below hb⟩
theorem RdI.nil (w : World) : RdI w none 0 [] := ⟨Sl.nil _ _, Nat.le_refl _, fun g h => by cases h⟩

end Go.Proofs.YtejlpdbiacmfcaaGreatDoor
end
section
set_option linter.unusedSimpArgs false
set_option linter.unusedVariables false
set_option maxHeartbeats 1000000
namespace Go.Proofs.YtejlpdbiacmfcaaGreatDoor
open Go Go.Proofs Go.RowKit Go.Lib

section
variable {P : Program} (U : Tys P) {ro : Option Nat} {n : Nat} {ds : List Deferred} {Q : PT} {l l' : Fr} {w w' : World} {arr : Array Oper} {r : List Oper} {k : List It}
end

end Go.Proofs.YtejlpdbiacmfcaaGreatDoor
end
section
set_option linter.unusedSimpArgs false
set_option linter.unusedVariables false
set_option maxHeartbeats 1000000
namespace Go.Proofs.YtejlpdbiacmfcaaGreatDoor
open Go Go.Proofs Go.RowKit Go.Lib

end Go.Proofs.YtejlpdbiacmfcaaGreatDoor
end
section
namespace Go.Proofs.YtejlpdbiacmfcaaGreatDoor
open Go.RowKit

/-- This type is a struct of so many cells. -/
def AggOk (P : Program) (t : TypeId) (s : Nat) : Prop := (∃ fs, P.underlying t = some (.struct fs)) ∧ ∃ i, P.info? t = some i ∧ i.size = s

theorem run_load_agg {P : Program} {t bt : TypeId} {s b : Nat} {cs : List Value} {w : World} (h : AggOk P t s) (hb : Bk w b bt cs) (hs : cs.length = s) :
    (loadVar t ⟨b, 0, none⟩).run P w = .ok (.agg ⟨cs⟩) w := by
  obtain ⟨⟨fs, hu⟩, i, hi, hz⟩ := h
  exact run_loadVar_mid w b 0 t cs (.struct fs) (fun j v hv => by rw [Nat.zero_add]; exact hb.cell hv) hu rfl (by rw [hi]; simp [hz, hs])

/-- No cell of this block holds a number: a store into it leaves what slices read as numbers. -/
def NoInt (cs : List Value) : Prop := ∀ v ∈ cs, ∀ k x, v ≠ .int k x
theorem Sl.past {w w' : World} {a : Option Addr} {vs : List Value} {b t : Nat} {cs : List Value} (h : Sl w a vs) (hi : ∀ v ∈ vs, ∃ k x, v = .int k x) (hk : Bk w b t cs) (hn : NoInt cs) (hg : w.grownBy w' (some b)) : Sl w' a vs := by
  intro j v hv
  obtain ⟨g, off, rfl, hc⟩ := h j v hv
  refine ⟨g, off, rfl, hg.cell hc (fun e => ?_)⟩
  simp only at e
  cases e
  have : cs[off + j]? = some v := by
    simp only [World.cell?] at hc
    unfold Bk at hk
    simp_all
  obtain ⟨k, x, rfl⟩ := hi v (List.mem_of_getElem? hv)
  exact hn _ (List.mem_of_getElem? this) k x rfl
theorem Rd.past {w w' : World} {a : Option Addr} {c : Nat} {xs : List Nat} {b t : Nat} {cs : List Value} (h : Rd w a c xs) (hk : Bk w b t cs) (hn : NoInt cs) (hg : w.grownBy w' (some b)) (ht : Nat.beq 79 t = false := by rfl) : Rd w' a c xs :=
  ⟨h.1.past (fun v hv => by obtain ⟨x, _, rfl⟩ := List.mem_map.1 hv; exact ⟨_, _, rfl⟩) hk hn hg, h.2.1, fun g e => (h.2.2 g e).grown hg (fun e' => (h.2.2 g e).ne hk.tg ht (by cases e'; rfl))⟩

section
variable {P : Program} (U : Tys P) {ro : Option Nat} {n : Nat} {ds : List Deferred} {Q : PT} {l l' : Fr} {w w' : World} {arr : Array Oper} {r : List Oper} {k : List It}

/-- A load of a struct. -/
theorem lg {dst : Option Nat} {t ty bt : TypeId} {x : Operand} {ps : String} {af : Array Edge} {g : Option (Nat × Bool)} {b s : Nat} {cs : List Value} (hx : ev l x = some (.pointer (some ⟨b, 0, none⟩))) (ht : AggOk P t s) (hg : gd arr l g = some true)
    (hl : put1 n l dst (.agg ⟨cs⟩) = some l') (hb : Bk w b bt cs) (hs : cs.length = s) (t' : T P ro n ds Q l' w (.ops arr r) k) : T P ro n ds Q l w (.ops arr (⟨dst, .load t x, ty, ps, af, g⟩ :: r)) k :=
  op1 (by intro c h; cases h) hg hl (fun a hf => by
    simp only [execOp, hf.ev hx, Instr.loadAt, Instr.sureAddr]
    simp [run_load_agg ht hb hs]) t'

/-- The results, of which some lie in cells, structs among them. -/
def RsvS (P : Program) (l : Fr) (w : World) : List ResultVar → List Value → Prop
  | [], [] => True
  | .tmp t :: r, v :: vs => look l t = some v ∧ RsvS P l w r vs
  | .cell t ty :: r, v :: vs => (∃ p, look l t = some (.pointer (some p)) ∧ (loadVar ty p).run P w = .ok v w) ∧ RsvS P l w r vs
  | _, _ => False

theorem run_RsvS {tmps : Array Value} (hd : ∀ t v, look l t = some v → tmps[t]? = some v) (f : ResultVar → Sem Value)
    (h1 : ∀ t, f (.tmp t) = Pure.pure (tmps.getD t undef)) (h2 : ∀ a t, f (.cell a t) = do loadVar t (← asAddr (tmps.getD a undef))) :
    ∀ (rs : List ResultVar) (vs : List Value), RsvS P l w rs vs → (rs.mapM f).run P w = .ok vs w
  | [], [], _ => by simp
  | .tmp t :: r, v :: vs, ⟨e, h⟩ => by
    have := run_RsvS hd f h1 h2 r vs h
    simp only [List.mapM_cons]
    simp [h1, hd t v e, this]
  | .cell t ty :: r, v :: vs, ⟨⟨p, e, hc⟩, h⟩ => by
    have := run_RsvS hd f h1 h2 r vs h
    simp only [List.mapM_cons, h2]
    simp [hd t _ e, this, asAddr, hc]
  | [], _ :: _, h => h.elim
  | .tmp _ :: _, [], h => h.elim
  | .cell .. :: _, [], h => h.elim

/-- A return of a plain function, of which some results may lie in cells, structs among them. -/
theorem retS {fn : Func} {R : Ending → World → Prop} {rs : List ResultVar} {vs : List Value} (hr : fn.results = ⟨rs⟩) (hv : RsvS P l w rs vs) (hR : R (.returned (pack vs)) w) :
    T P ro n [] (bodyPost P fn R) l w (.code .ret) k := by
  intro a hf
  refine wpIn_ret ((KQ_ret k _ a w).2 ⟨hf.df, pack vs, ?_, hR⟩)
  unfold results
  rw [hr, Array.mapM_eq_mapM_toList]
  simp only [Sem.run_bind, Sem.run_map]
  rw [run_RsvS (l := l) (P := P) (w := w) hf.rd _ (fun _ => rfl) (fun _ _ => rfl) rs vs hv]
  simp [pack_eq]
end
end Go.Proofs.YtejlpdbiacmfcaaGreatDoor
end
section
set_option linter.unusedSimpArgs false
set_option linter.unusedVariables false
set_option maxHeartbeats 1000000
namespace Go.Proofs.YtejlpdbiacmfcaaGreatDoor
open Go Go.Proofs Go.RowKit Go.Lib

/-- A fraction that reads as these numbers. -/
def FV (w : World) (v : Value) (m : Bool) (n d : Nat) : Prop := ∃ an cn ad cd, v = .agg ⟨[.bool m, .slice an (lim n).length cn, .slice ad (lim d).length cd]⟩ ∧ Rd w an cn (lim n) ∧ Rd w ad cd (lim d)
theorem FV.below {w w' : World} {v : Value} {m : Bool} {n d : Nat} (h : FV w v m n d) (hb : Below w.heap.size w w') : FV w' v m n d := by
  obtain ⟨an, cn, ad, cd, rfl, h1, h2⟩ := h
  exact ⟨an, cn, ad, cd, rfl, h1.below hb, h2.below hb⟩

theorem ag_frac : AggOk Tryz.prog 76 3 := ⟨⟨_, Tryz.underlying76⟩, inf76.sz⟩

theorem ni0 : NoInt [.bool false, .slice none 0 0, .slice none 0 0] := fun v hv k x => by simp at hv; rcases hv with rfl | rfl <;> intro h <;> cases h


theorem frzero_calls (w : World) : Calls Tryz.prog 126 #[] w (Ret fun v w' => FV w' v false 0 1 ∧ Below w.heap.size w w') := by
  refine enter Tryz.func126 rfl Tryz.ntmps126 (Nat.le_of_ble_eq_true rfl) ?_
  refine dr U 600 rfl trivial ?_
  refine al U rfl rfl rfl rfl ?_
  intro b w0 hb0 hs0 hk0 hg0
  have hB0 : Below w.heap.size w w0 := (Below.refl _ _).grown hg0 (Nat.le_refl _) (fun k e => by cases e)
  refine dr U 600 rfl trivial ?_
  refine call (f := 52) rfl rfl cb52 (of_calls 1 (by omega) w0) ?_
  rintro v w1 ⟨a, c, rfl, ho, hB⟩
  refine ⟨_, rfl, ?_⟩
  have hk1 := hk0.below hB (by omega)
  have hB1 := bl_tr hB0 hB hB0.size
  refine dr U 600 rfl trivial ?_
  refine st U rfl rfl rfl rfl rfl rfl rfl rfl rfl rfl (hk1) ?_
  intro w2 hkW hgW hsW
  refine dr U 600 rfl trivial ?_
  have hBW := hB1.grown hgW hB1.size (fun k e => by cases e; omega)
  refine retS Tryz.results126 (vs := [_]) ⟨⟨_, rfl, run_load_agg ag_frac hkW rfl⟩, trivial⟩ ⟨_, rfl, ?_, hBW⟩
  exact ⟨none, 0, a, c, by rw [lim_zero]; rfl, by rw [lim_zero]; exact Rd.nil _, (own_rd ho).past hk1 ni0 hgW⟩

theorem frmake_calls (m : Bool) (n d : Nat) (hd : d ≠ 0) (a b : Option Addr) (c e : Nat) (w : World) (ha : Rd w a c (lim n)) (hb : Rd w b e (lim d)) (hnl : (lim n).length ≤ 68719476736) (hdl : (lim d).length ≤ 68719476736) :
    Calls Tryz.prog 93 #[.bool m, .slice a (lim n).length c, .slice b (lim d).length e] w
      (Ret fun v w' => FV w' v (m && decide (n ≠ 0)) (n / Nat.gcd n d) (d / Nat.gcd n d) ∧ Below w.heap.size w w') := by
  have hg0 : Nat.gcd n d ≠ 0 := Nat.ne_of_gt (Nat.gcd_pos_of_pos_right n (Nat.pos_of_ne_zero hd))
  refine enter Tryz.func93 rfl Tryz.ntmps93 (Nat.le_of_ble_eq_true rfl) ?_
  refine dr U 600 rfl trivial ?_
  refine al U rfl rfl rfl rfl ?_
  intro bb w0 hb0 hs0 hk0 hg0'
  have hB0 : Below w.heap.size w w0 := (Below.refl _ _).grown hg0' (Nat.le_refl _) (fun k e => by cases e)
  have ha0 := ha.below hB0
  have hbb0 := hb.below hB0
  refine dr U 600 rfl trivial ?_
  refine call (f := 125) rfl rfl cb125 (zero_calls (lim n) a c w0) ?_
  rintro v w1 ⟨rfl, rfl⟩
  refine ⟨_, rfl, ?_⟩
  by_cases hn : n = 0
  · subst hn
    rw [decide_eq_true (lim_zero)]
    refine dr U 600 rfl trivial ?_
    refine call (f := 126) rfl rfl cb126 (frzero_calls w0) ?_
    rintro v w1 ⟨hv, hB⟩
    obtain ⟨an, cn, ad, cd, rfl, h1, h2⟩ := hv
    refine ⟨_, rfl, ?_⟩
    have hk1 := hk0.below hB (by omega)
    have hB1 := bl_tr hB0 hB hB0.size
    refine dr U 600 rfl trivial ?_
    refine st U rfl rfl rfl rfl rfl rfl rfl rfl rfl rfl (hk1) ?_
    intro w2 hkW hgW hsW
    refine dr U 600 rfl trivial ?_
    have hBW := hB1.grown hgW hB1.size (fun k e => by cases e; omega)
    refine retS Tryz.results93 (vs := [_]) ⟨⟨_, rfl, run_load_agg ag_frac hkW rfl⟩, trivial⟩ ⟨_, rfl, ?_, hBW⟩
    rw [Nat.gcd_zero_left, Nat.zero_div, Nat.div_self (Nat.pos_of_ne_zero hd)]
    exact ⟨an, cn, ad, cd, by simp [pack], h1.past hk1 ni0 hgW, h2.past hk1 ni0 hgW⟩
  · have hdn : decide (n ≠ 0) = true := decide_eq_true hn
    rw [decide_eq_false (fun h => hn (lim_eq_nil.1 h))]
    refine dr U 600 rfl trivial ?_
    refine call (f := 99) rfl rfl cb99 (one_calls d b e w0 hbb0) ?_
    rintro v w1 ⟨rfl, rfl⟩
    refine ⟨_, rfl, ?_⟩
    by_cases hd1 : d = 1
    · subst hd1
      rw [decide_eq_true rfl]
      refine dr U 600 rfl trivial ?_
      refine st U rfl rfl rfl rfl rfl rfl rfl rfl rfl rfl (hk0) ?_
      intro w2 hkW hgW hsW
      refine dr U 600 rfl trivial ?_
      have hBW := hB0.grown hgW hB0.size (fun k e => by cases e; omega)
      refine retS Tryz.results93 (vs := [_]) ⟨⟨_, rfl, run_load_agg ag_frac hkW rfl⟩, trivial⟩ ⟨_, rfl, ?_, hBW⟩
      rw [Nat.gcd_one_right, Nat.div_one, hdn, Bool.and_true]
      exact ⟨a, c, b, e, rfl, ha0.past hk0 ni0 hgW, hbb0.past hk0 ni0 hgW⟩
    · rw [decide_eq_false hd1]
      refine dr U 600 rfl trivial ?_
      refine call (f := 127) rfl rfl cb127 (gcd_calls n d a b c e w0 ha0 hbb0 hnl hdl) ?_
      rintro v w1 ⟨⟨ag, cg, rfl, hg⟩, hB1'⟩
      refine ⟨_, rfl, ?_⟩
      have hk1 := hk0.below hB1' (by omega)
      have hB1 := bl_tr hB0 hB1' hB0.size
      have ha1 := ha0.below hB1'
      have hb1 := hbb0.below hB1'
      refine dr U 600 rfl trivial ?_
      refine call (f := 99) rfl rfl cb99 (one_calls (Nat.gcd n d) ag cg w1 hg) ?_
      rintro v w2 ⟨rfl, rfl⟩
      refine ⟨_, rfl, ?_⟩
      by_cases hg1 : Nat.gcd n d = 1
      · rw [decide_eq_true hg1]
        refine dr U 600 rfl trivial ?_
        refine st U rfl rfl rfl rfl rfl rfl rfl rfl rfl rfl (hk1) ?_
        intro w2 hkW hgW hsW
        refine dr U 600 rfl trivial ?_
        have hBW := hB1.grown hgW hB1.size (fun k e => by cases e; omega)
        refine retS Tryz.results93 (vs := [_]) ⟨⟨_, rfl, run_load_agg ag_frac hkW rfl⟩, trivial⟩ ⟨_, rfl, ?_, hBW⟩
        rw [hg1, Nat.div_one, Nat.div_one, hdn, Bool.and_true]
        exact ⟨a, c, b, e, rfl, ha1.past hk1 ni0 hgW, hb1.past hk1 ni0 hgW⟩
      · rw [decide_eq_false hg1]
        have hgl : (lim (Nat.gcd n d)).length ≤ 68719476736 := Nat.le_trans (lim_len_mono (Nat.gcd_le_left d (Nat.pos_of_ne_zero hn))) hnl
        refine dr U 600 rfl trivial ?_
        refine call (f := 128) rfl rfl cb128 (divmod_calls n (Nat.gcd n d) (Nat.pos_of_ne_zero hg0) a ag c cg w1 ha1 hg hnl hgl) ?_
        rintro v w2 ⟨v1, v2, rfl, ⟨a3, c3, rfl, hr3⟩, _, hB2'⟩
        refine ⟨_, rfl, ?_⟩
        have hk2 := hk1.below hB2' (by have := hB1'.size; omega)
        have hB2 := bl_tr hB1 hB2' hB1.size
        refine dr U 600 rfl trivial ?_
        refine call (f := 128) rfl rfl cb128 (divmod_calls d (Nat.gcd n d) (Nat.pos_of_ne_zero hg0) b ag e cg w2 (hb1.below hB2') (hg.below hB2') hdl hgl) ?_
        rintro v w3 ⟨v3, v4, rfl, ⟨a4, c4, rfl, hr4⟩, _, hB3'⟩
        refine ⟨_, rfl, ?_⟩
        have hk3 := hk2.below hB3' (by have := hB1'.size; have := hB2'.size; omega)
        have hB3 := bl_tr hB2 hB3' hB2.size
        refine dr U 600 rfl trivial ?_
        refine st U rfl rfl rfl rfl rfl rfl rfl rfl rfl rfl (hk3) ?_
        intro w4 hkW hgW hsW
        refine dr U 600 rfl trivial ?_
        have hBW := hB3.grown hgW hB3.size (fun k e => by cases e; omega)
        refine retS Tryz.results93 (vs := [_]) ⟨⟨_, rfl, run_load_agg ag_frac hkW rfl⟩, trivial⟩ ⟨_, rfl, ?_, hBW⟩
        rw [hdn, Bool.and_true]
        exact ⟨a3, c3, a4, c4, rfl, (hr3.below hB3').past hk3 ni0 hgW, hr4.past hk3 ni0 hgW⟩

/-- The text of a fraction. -/
def ftext (m : Bool) (n d : Nat) : List UInt8 := (if m = true then [45] else []) ++ decDigits n ++ (if d = 1 then [] else 47 :: decDigits d)
/-- A number as a result, if its parts are not too long. -/
def FRes (m : Bool) (n d : Nat) (v : Value) : Prop := (nDigits n ≤ 4000 ∧ nDigits d ≤ 4000 ∧ v = .tuple ⟨[.string ⟨⟨ftext m n d⟩⟩, .int .i64 0]⟩) ∨ ((4000 < nDigits n ∨ 4000 < nDigits d) ∧ v = .tuple ⟨[.string ⟨⟨[]⟩⟩, .int .i64 5]⟩)


theorem frnum_calls (m : Bool) (n d : Nat) (v : Value) (w : World) (hv : FV w v m n d) (hnl : (lim n).length ≤ 68719476736) (hdl : (lim d).length ≤ 68719476736) (ht : TabOk w) :
    Calls Tryz.prog 55 #[v] w (Ret fun r w' => FRes m n d r ∧ Below w.heap.size w w') := by
  obtain ⟨an, cn, ad, cd, rfl, h1, h2⟩ := hv
  have hln := decDigits_length n
  have hld := decDigits_length d
  refine enter Tryz.func55 rfl Tryz.ntmps55 (Nat.le_of_ble_eq_true rfl) ?_
  refine dr U 600 rfl trivial ?_
  refine bx rfl rfl rfl rfl ?_
  intro b w0 hb0 hs0 hk0 hg0
  have hB0 : Below w.heap.size w w0 := (Below.refl _ _).grown hg0 (Nat.le_refl _) (fun k e => by cases e)
  have ht0 := ht.below hB0
  have h10 := h1.below hB0
  have h20 := h2.below hB0
  refine dr U 600 rfl trivial ?_
  refine ld U rfl rfl rfl rfl ((hk0).cell rfl) ?_
  refine dr U 600 rfl trivial ?_
  refine call (f := 97) rfl rfl cb97 (digits_calls n an cn w0 h10 hnl ht0) ?_
  rintro v w1 ⟨rfl, hB1'⟩
  refine ⟨_, rfl, ?_⟩
  have hB1 := bl_tr hB0 hB1' hB0.size
  have hk1 := hk0.below hB1' (by omega)
  have ht1 := ht0.below hB1'
  have h11 := h10.below hB1'
  have h21 := h20.below hB1'
  refine dr U 600 rfl trivial ?_
  refine cS rfl rfl rfl rfl (fun hq => ?_) (fun hq => ?_)
  · refine dr U 600 rfl trivial ?_
    exact ret Tryz.results55 rfl ⟨_, rfl, .inr ⟨.inl (by omega), rfl⟩, hB1⟩
  · refine dr U 600 rfl trivial ?_
    refine ld U rfl rfl rfl rfl ((hk1).cell rfl) ?_
    refine dr U 600 rfl trivial ?_
    refine call (f := 97) rfl rfl cb97 (digits_calls d ad cd w1 h21 hdl ht1) ?_
    rintro v w2 ⟨rfl, hB2'⟩
    refine ⟨_, rfl, ?_⟩
    have ht2 := ht1.below hB2'
    have h12 := h11.below hB2'
    have h22 := h21.below hB2'
    have hB2 := bl_tr hB1 hB2' hB1.size
    have hk2 := hk1.below hB2' (by have := hB1'.size; omega)
    refine dr U 600 rfl trivial ?_
    refine cS rfl rfl rfl rfl (fun hq => ?_) (fun hq => ?_)
    · refine dr U 600 rfl trivial ?_
      exact ret Tryz.results55 rfl ⟨_, rfl, .inr ⟨.inr (by omega), rfl⟩, hB2⟩
    · refine dr U 600 rfl trivial ?_
      refine ld U rfl rfl rfl rfl ((hk2).cell rfl) ?_
      refine dr U 600 rfl trivial ?_
      refine call (f := 98) rfl rfl cb98 (string_calls n an cn w2 h12 hnl ht2) ?_
      rintro v w3 ⟨rfl, hB3'⟩
      refine ⟨_, rfl, ?_⟩
      have ht3 := ht2.below hB3'
      have h23 := h22.below hB3'
      have hB3 := bl_tr hB2 hB3' hB2.size
      have hk3 := hk2.below hB3' (by have := hB1'.size; have := hB2'.size; omega)
      refine dr U 600 rfl trivial ?_
      refine ld U rfl rfl rfl rfl ((hk3).cell rfl) ?_
      cases m with
      | false =>
        refine dr U 600 rfl trivial ?_
        refine ld U rfl rfl rfl rfl ((hk3).cell rfl) ?_
        refine dr U 600 rfl trivial ?_
        refine call (f := 99) rfl rfl cb99 (one_calls d ad cd w3 h23) ?_
        rintro v w5 ⟨rfl, rfl⟩
        refine ⟨_, rfl, ?_⟩
        by_cases hd1 : d = 1
        · rw [decide_eq_true hd1]
          refine dr U 600 rfl trivial ?_
          refine ret Tryz.results55 rfl ⟨_, rfl, .inl ⟨by omega, by omega, ?_⟩, hB3⟩
          unfold ftext
          rw [if_pos hd1]
          simp [pack, str]
        · rw [decide_eq_false hd1]
          refine dr U 600 rfl trivial ?_
          refine ld U rfl rfl rfl rfl ((hk3).cell rfl) ?_
          refine dr U 600 rfl trivial ?_
          refine call (f := 98) rfl rfl cb98 (string_calls d ad cd w3 h23 hdl ht3) ?_
          rintro v w6 ⟨rfl, hB6⟩
          refine ⟨_, rfl, ?_⟩
          refine dr U 600 rfl (by simp only [AllP, InR, List.nil_append, List.cons_append, and_true, List.length_cons, List.length_nil, List.length_append]; omega) ?_
          refine ret Tryz.results55 rfl ⟨_, rfl, .inl ⟨by omega, by omega, ?_⟩, bl_tr hB3 hB6 hB3.size⟩
          unfold ftext
          rw [if_neg hd1]
          simp [pack, str]
      | true =>
        refine dr U 600 rfl (by simp only [AllP, InR, List.nil_append, List.cons_append, and_true, List.length_cons, List.length_nil, List.length_append]; omega) ?_
        refine dr U 600 rfl trivial ?_
        refine ld U rfl rfl rfl rfl ((hk3).cell rfl) ?_
        refine dr U 600 rfl trivial ?_
        refine call (f := 99) rfl rfl cb99 (one_calls d ad cd w3 h23) ?_
        rintro v w5 ⟨rfl, rfl⟩
        refine ⟨_, rfl, ?_⟩
        by_cases hd1 : d = 1
        · rw [decide_eq_true hd1]
          refine dr U 600 rfl trivial ?_
          refine ret Tryz.results55 rfl ⟨_, rfl, .inl ⟨by omega, by omega, ?_⟩, hB3⟩
          unfold ftext
          rw [if_pos hd1]
          simp [pack, str]
        · rw [decide_eq_false hd1]
          refine dr U 600 rfl trivial ?_
          refine ld U rfl rfl rfl rfl ((hk3).cell rfl) ?_
          refine dr U 600 rfl trivial ?_
          refine call (f := 98) rfl rfl cb98 (string_calls d ad cd w3 h23 hdl ht3) ?_
          rintro v w6 ⟨rfl, hB6⟩
          refine ⟨_, rfl, ?_⟩
          refine dr U 600 rfl (by simp only [AllP, InR, List.nil_append, List.cons_append, and_true, List.length_cons, List.length_nil, List.length_append]; omega) ?_
          refine ret Tryz.results55 rfl ⟨_, rfl, .inl ⟨by omega, by omega, ?_⟩, bl_tr hB3 hB6 hB3.size⟩
          unfold ftext
          rw [if_neg hd1]
          simp [pack, str]

/-- A fraction that is this number. -/
def FQ (w : World) (v : Value) (r : Rat) : Prop := FV w v (decide (r.num < 0)) r.num.natAbs r.den
theorem FQ.below {w w' : World} {v : Value} {r : Rat} (h : FQ w v r) (hb : Below w.heap.size w w') : FQ w' v r := FV.below h hb
/-- The two numbers of a fraction fit the library of limbs. -/
def Fits (r : Rat) : Prop := (lim r.num.natAbs).length ≤ 68719476736 ∧ (lim r.den).length ≤ 68719476736
theorem fv_fq {w : World} {v : Value} {m : Bool} {n d : Nat} (hd : d ≠ 0) (h : FV w v (m && decide (n ≠ 0)) (n / Nat.gcd n d) (d / Nat.gcd n d)) : FQ w v (mkq m n d) := by
  unfold FQ
  rw [mkq_num m n d hd, (mkq_form m n d hd).2, show decide ((mkq m n d).num < 0) = (m && decide (n ≠ 0)) from by rw [Bool.eq_iff_iff]; simp [mkq_neg m n d hd]]
  exact h
/-- What a function that computes this number answers: its text, or that it has too many digits. -/
def QRes (r : Rat) (v : Value) : Prop := (Small 4000 r ∧ v = .tuple ⟨[.string ⟨⟨qtext r⟩⟩, .int .i64 0]⟩) ∨ (¬ Small 4000 r ∧ v = .tuple ⟨[.string ⟨⟨[]⟩⟩, .int .i64 5]⟩)
theorem QRes.uniq {r : Rat} {v v' : Value} (h : QRes r v) (h' : QRes r v') : v = v' := by
  rcases h with ⟨h1, rfl⟩ | ⟨h1, rfl⟩ <;> rcases h' with ⟨h2, rfl⟩ | ⟨h2, rfl⟩ <;> first | rfl | contradiction
theorem QRes.ok {r : Rat} {v : Value} (h : QRes r v) (hs : Small 4000 r) : v = .tuple ⟨[.string ⟨⟨qtext r⟩⟩, .int .i64 0]⟩ := h.uniq (.inl ⟨hs, rfl⟩)
theorem fres_qres {r : Rat} {v : Value} (h : FRes (decide (r.num < 0)) r.num.natAbs r.den v) : QRes r v := by
  rcases h with ⟨h1, h2, rfl⟩ | ⟨h1, rfl⟩
  · refine .inl ⟨⟨h1, h2⟩, ?_⟩
    unfold ftext qtext
    simp
  · exact .inr ⟨fun h => by have := h.1; have := h.2; omega, rfl⟩
theorem frnumq_calls (r : Rat) (v : Value) (w : World) (hv : FQ w v r) (hf : Fits r) (ht : TabOk w) :
    Calls Tryz.prog 55 #[v] w (Ret fun v' w' => QRes r v' ∧ Below w.heap.size w w') :=
  (frnum_calls _ _ _ v w hv hf.1 hf.2 ht).mono (by rintro e w' ⟨v, rfl, h, hB⟩; exact ⟨v, rfl, fres_qres h, hB⟩)
end Go.Proofs.YtejlpdbiacmfcaaGreatDoor
end
section
set_option linter.unusedSimpArgs false
set_option linter.unusedVariables false
set_option maxHeartbeats 1000000
namespace Go.Proofs.YtejlpdbiacmfcaaGreatDoor
open Go Go.Proofs Go.RowKit Go.Lib

/-- A number of the reference that reads so. -/
def QV (w : World) (v : Value) (m : Bool) (n d : Nat) : Prop := ∃ an cn ad cd, v = .agg ⟨[.bool m, .slice an (lim n).length cn, .slice ad (lim d).length cd]⟩ ∧ RdI w an cn (lim n) ∧ RdI w ad cd (lim d)
theorem QV.below {w w' : World} {v : Value} {m : Bool} {n d : Nat} (h : QV w v m n d) (hb : Below w.heap.size w w') : QV w' v m n d := by
  obtain ⟨an, cn, ad, cd, rfl, h1, h2⟩ := h
  exact ⟨an, cn, ad, cd, rfl, h1.below hb, h2.below hb⟩
theorem RdI.past {w w' : World} {a : Option Addr} {c : Nat} {xs : List Nat} {b t : Nat} {cs : List Value} (h : RdI w a c xs) (hk : Bk w b t cs) (hn : NoInt cs) (hg : w.grownBy w' (some b)) (ht : Nat.beq 3 t = false := by rfl) : RdI w' a c xs :=
  ⟨h.1.past (fun v hv => by obtain ⟨x, _, rfl⟩ := List.mem_map.1 hv; exact ⟨_, _, rfl⟩) hk hn hg, h.2.1, fun g e => (h.2.2 g e).grown hg (fun e' => (h.2.2 g e).ne hk.tg ht (by cases e'; rfl))⟩
/-- A number of the reference that is this one. -/
def QR (w : World) (v : Value) (r : Rat) : Prop := QV w v (decide (r.num < 0)) r.num.natAbs r.den
section
variable {P : Program} (U : Tys P) {ro : Option Nat} {n : Nat} {ds : List Deferred} {Q : PT} {l l' : Fr} {w w' : World} {arr : Array Oper} {r : List Oper} {k : List It}
/-- Two bools are compared. -/
theorem eqlB {d : Nat} {t t2 ty : TypeId} {x y : Operand} {ps : String} {af : Array Edge} {g : Option (Nat × Bool)} {a b c : Bool} (hx : ev l x = some (.bool a)) (hy : ev l y = some (.bool b)) (ht : U.tb.u t = some .bool) (hc : (a == b) = c) (hg : gd arr l g = some true) (hd : Nat.blt d n = true)
    (t' : T P ro n ds Q ((d, .bool c) :: l) w (.ops arr r) k) : T P ro n ds Q l w (.ops arr (⟨some d, .binOp .eql t x y t2, ty, ps, af, g⟩ :: r)) k :=
  op1 (v := .bool c) (by intro c h; cases h) hg (put1_some hd) (fun act hf => by
    have h1 := run_equal_bool (P := P) w t a b (U.hu _ _ ht)
    rw [hc] at h1
    simp [execOp, hf.ev hx, hf.ev hy, eqGuard, binOp, h1]) t'
end

theorem mkq_add_same (m : Bool) (a b c d : Nat) (hb : b ≠ 0) (hd : d ≠ 0) : mkq m a b + mkq m c d = mkq m (a * d + c * b) (b * d) := by
  rw [mkq_add m m a b c d hb hd]
  unfold mkq
  congr 1
  cases m <;> simp [Int.neg_add]
theorem mkq_add_lt (m : Bool) (a b c d : Nat) (hb : b ≠ 0) (hd : d ≠ 0) (h : a * d ≤ c * b) : mkq m a b + mkq (!m) c d = mkq (!m) (c * b - a * d) (b * d) := by
  rw [mkq_add m (!m) a b c d hb hd]
  unfold mkq
  congr 1
  generalize a * d = x at *
  generalize c * b = y at *
  cases m <;> simp <;> omega
theorem mkq_add_ge (m : Bool) (a b c d : Nat) (hb : b ≠ 0) (hd : d ≠ 0) (h : c * b ≤ a * d) : mkq m a b + mkq (!m) c d = mkq m (a * d - c * b) (b * d) := by
  rw [mkq_add m (!m) a b c d hb hd]
  unfold mkq
  congr 1
  generalize a * d = x at *
  generalize c * b = y at *
  cases m <;> simp <;> omega
theorem Small.lim {k : Nat} {r : Rat} (h : Small k r) : (lim r.num.natAbs).length ≤ k ∧ (lim r.den).length ≤ k := ⟨Nat.le_trans (lim_le_nD _) h.1, Nat.le_trans (lim_le_nD _) h.2⟩
end Go.Proofs.YtejlpdbiacmfcaaGreatDoor
end
section
set_option linter.unusedSimpArgs false
set_option linter.unusedVariables false
namespace Go.Proofs.YtejlpdbiacmfcaaGreatDoor
open Go.Lib

def qpre (s : List UInt8) : List UInt8 := s.takeWhile fun c => c != 47
def qneg (s : List UInt8) : Bool := (qpre s).head? == some 45
def qn (s : List UInt8) : List UInt8 := if qneg s = true then (qpre s).tail else qpre s
def qslash (s : List UInt8) : Bool := decide ((qpre s).length < s.length)
def qd (s : List UInt8) : List UInt8 := if qslash s = true then s.drop ((qpre s).length + 1) else [49]
def QIs (s : List UInt8) : Prop := Form (qn s) ∧ ¬(qneg s = true ∧ qn s = [48]) ∧ (qslash s = true → qn s ≠ [48] ∧ Form (qd s) ∧ qd s ≠ [48] ∧ qd s ≠ [49])
/-- The error that a text has as a number. -/
def QErr (s : List UInt8) (e : Int) : Prop :=
  (¬ QIs s ∧ e = 3) ∨ (QIs s ∧ (4000 < (qn s).length ∨ 4000 < (qd s).length) ∧ e = 5) ∨
  (QIs s ∧ (qn s).length ≤ 4000 ∧ (qd s).length ≤ 4000 ∧ Nat.gcd (dval (qn s)) (dval (qd s)) ≠ 1 ∧ e = 3) ∨
  (QIs s ∧ (qn s).length ≤ 4000 ∧ (qd s).length ≤ 4000 ∧ Nat.gcd (dval (qn s)) (dval (qd s)) = 1 ∧ e = 0)
theorem QErr.uniq {s : List UInt8} {e e' : Int} (h : QErr s e) (h' : QErr s e') : e = e' := by
  rcases h with ⟨h1, rfl⟩ | ⟨h1, h2, rfl⟩ | ⟨h1, h2, h3, h4, rfl⟩ | ⟨h1, h2, h3, h4, rfl⟩ <;>
    rcases h' with ⟨g1, rfl⟩ | ⟨g1, g2, rfl⟩ | ⟨g1, g2, g3, g4, rfl⟩ | ⟨g1, g2, g3, g4, rfl⟩ <;> first
    | rfl
    | exact absurd h1 g1
    | exact absurd g1 h1
    | (exfalso; omega)
    | exact absurd h4 g4
    | exact absurd g4 h4
/-- The number of a text. -/
def qval (s : List UInt8) : Rat := mkq (qneg s) (dval (qn s)) (dval (qd s))

theorem form_digit {l : List UInt8} (h : Form l) : ∀ c ∈ l, c ≠ 47 ∧ c ≠ 45 := fun c hc => by
  have := h.2.2 c hc
  unfold isD at this
  constructor <;> (rintro rfl; revert this; decide)
theorem form_dec (n : Nat) : Form (decDigits n) := form_iff.2 ⟨n, rfl⟩
theorem qd_pos {s : List UInt8} (h : QIs s) : dval (qd s) ≠ 0 := by
  unfold qd
  split
  · rename_i hs
    obtain ⟨_, h1, h2, _⟩ := h.2.2 hs
    unfold qd at h1 h2
    rw [if_pos hs] at h1 h2
    intro h0
    apply h2
    have := dec_of h1.2.2 h1.1 h1.2.1
    rw [this, h0, decDigits, dif_pos (by omega)]; rfl
  · decide
theorem dval_zero_iff {l : List UInt8} (h : Form l) : l = [48] ↔ dval l = 0 := by
  constructor
  · rintro rfl; rfl
  · intro h0
    rw [dec_of h.2.2 h.1 h.2.1, h0, decDigits, dif_pos (by omega)]; rfl
theorem dval_one_iff {l : List UInt8} (h : Form l) : l = [49] ↔ dval l = 1 := by
  constructor
  · rintro rfl; rfl
  · intro h0
    rw [dec_of h.2.2 h.1 h.2.1, h0, decDigits, dif_pos (by omega)]; rfl

theorem takeW_all {p : UInt8 → Bool} : ∀ (l : List UInt8), (∀ c ∈ l, p c = true) → l.takeWhile p = l
  | [], _ => rfl
  | c :: r, h => by
    rw [List.takeWhile_cons, h c (by simp), takeW_all r (fun x hx => h x (by simp [hx]))]; simp
theorem takeW_stop {p : UInt8 → Bool} (c : UInt8) (t : List UInt8) (hc : p c = false) : ∀ (l : List UInt8), (∀ c ∈ l, p c = true) → (l ++ c :: t).takeWhile p = l
  | [], _ => by simp [List.takeWhile_cons, hc]
  | a :: r, h => by
    rw [List.cons_append, List.takeWhile_cons, h a (by simp), takeW_stop c t hc r (fun x hx => h x (by simp [hx]))]; simp
/-- A number's text is read as the number. -/
theorem q_text (r : Rat) : qneg (qtext r) = decide (r.num < 0) ∧ qn (qtext r) = decDigits r.num.natAbs ∧ qd (qtext r) = decDigits r.den ∧ QIs (qtext r) := by
  have hfn := form_dec r.num.natAbs
  have hfd := form_dec r.den
  have hd1 : decDigits 1 = [49] := by rw [decDigits, dif_pos (by omega)]; rfl
  have hA : ∀ c ∈ (if r.num < 0 then [45] else []) ++ decDigits r.num.natAbs, (c != 47) = true := by
    intro c hc
    rcases List.mem_append.1 hc with h | h
    · split at h
      · rw [List.mem_singleton.1 h]; decide
      · cases h
    · simpa using (form_digit hfn c h).1
  have hpre : qpre (qtext r) = (if r.num < 0 then [45] else []) ++ decDigits r.num.natAbs := by
    unfold qpre qtext
    by_cases hd : r.den = 1
    · rw [if_pos hd, List.append_nil]; exact takeW_all _ hA
    · rw [if_neg hd]; exact takeW_stop 47 _ (by decide) _ hA
  have hneg : qneg (qtext r) = decide (r.num < 0) := by
    unfold qneg
    rw [hpre]
    by_cases h : r.num < 0
    · rw [if_pos h]; simp [h]
    · rw [if_neg h]
      rw [decide_eq_false h, List.nil_append]
      cases hl : decDigits r.num.natAbs with
      | nil => exact absurd hl hfn.1
      | cons c t =>
        have := (form_digit hfn c (by rw [hl]; simp)).2
        simpa using this
  have hn : qn (qtext r) = decDigits r.num.natAbs := by
    unfold qn
    rw [hneg, hpre]
    by_cases h : r.num < 0
    · simp [h]
    · simp [h]
  have hsl : qslash (qtext r) = decide (r.den ≠ 1) := by
    unfold qslash
    rw [hpre]
    unfold qtext
    by_cases h : r.den = 1
    · simp [h]
    · simp [h]
  have hqd : qd (qtext r) = decDigits r.den := by
    unfold qd
    rw [hsl]
    by_cases h : r.den = 1
    · simp [h, hd1]
    · rw [if_pos (by simpa using h), hpre]
      have hdrop : ∀ (A D : List UInt8), (A ++ 47 :: D).drop (A.length + 1) = D := fun A D => by
        rw [show A ++ 47 :: D = (A ++ [47]) ++ D by simp, List.drop_left' (by simp)]
      unfold qtext
      rw [if_neg h]
      exact hdrop _ _
  refine ⟨hneg, hn, hqd, ?_⟩
  unfold QIs
  rw [hn, hneg, hsl, hqd]
  refine ⟨hfn, fun h => ?_, fun h => ?_⟩
  · have h1 : r.num < 0 := by simpa using h.1
    have h2 := (dval_zero_iff hfn).1 h.2
    rw [(dec_dval _).2] at h2
    omega
  · have h1 : r.den ≠ 1 := by simpa using h
    refine ⟨fun h2 => ?_, hfd, fun h2 => ?_, fun h2 => ?_⟩
    · have h2 := (dval_zero_iff hfn).1 h2
      rw [(dec_dval _).2] at h2
      have := r.reduced
      rw [h2, Nat.coprime_zero_left] at this
      exact h1 this
    · have h2 := (dval_zero_iff hfd).1 h2
      rw [(dec_dval _).2] at h2
      exact r.den_nz h2
    · have h2 := (dval_one_iff hfd).1 h2
      rw [(dec_dval _).2] at h2
      exact h1 h2
theorem q_text_ok (r : Rat) (h : Small 4000 r) : QErr (qtext r) 0 ∧ qval (qtext r) = r := by
  obtain ⟨h1, h2, h3, h4⟩ := q_text r
  refine ⟨.inr (.inr (.inr ⟨h4, ?_, ?_, ?_, rfl⟩)), ?_⟩
  · rw [h2, decDigits_length]; exact h.1
  · rw [h3, decDigits_length]; exact h.2
  · rw [h2, h3, (dec_dval _).2, (dec_dval _).2]; exact r.reduced
  · unfold qval
    rw [h1, h2, h3, (dec_dval _).2, (dec_dval _).2]
    exact mkq_self r
end Go.Proofs.YtejlpdbiacmfcaaGreatDoor
end
section
set_option linter.unusedSimpArgs false
set_option linter.unusedVariables false
set_option maxHeartbeats 1000000
namespace Go.Proofs.YtejlpdbiacmfcaaGreatDoor
open Go Go.Proofs Go.RowKit Go.Lib

theorem qpre_len (s : List UInt8) (i : Nat) (h1 : ∀ c ∈ s.take i, c ≠ 47) (h2 : i = s.length ∨ s[i]? = some 47) (hi : i ≤ s.length) : (qpre s).length = i := by
  have h := List.take_append_drop i s
  unfold qpre
  rw [← h]
  have hA : ∀ c ∈ s.take i, (c != 47) = true := fun c hc => by simpa using h1 c hc
  rcases h2 with h2 | h2
  · rw [List.drop_of_length_le (by omega), List.append_nil, takeW_all _ hA]; simp; omega
  · have hlt : i < s.length := by
      rcases Nat.lt_or_ge i s.length with h | h
      · exact h
      · rw [List.getElem?_eq_none h] at h2; cases h2
    rw [List.drop_eq_getElem_cons hlt]
    rw [List.getElem?_eq_getElem hlt] at h2
    rw [Option.some.inj h2, takeW_stop 47 _ (by decide) _ hA]; simp; omega

end Go.Proofs.YtejlpdbiacmfcaaGreatDoor
end
section
set_option linter.unusedSimpArgs false
set_option linter.unusedVariables false
set_option maxHeartbeats 1000000
namespace Go.Proofs.YtejlpdbiacmfcaaGreatDoor
open Go Go.Proofs Go.RowKit Go.Lib



end Go.Proofs.YtejlpdbiacmfcaaGreatDoor
end
section
set_option linter.unusedSimpArgs false
set_option linter.unusedVariables false
set_option maxHeartbeats 1000000
namespace Go.Proofs.YtejlpdbiacmfcaaGreatDoor
open Go Go.Proofs Go.RowKit Go.Lib

/-- A text of a number of at most so many digits. -/
def Num (k : Nat) (x : List UInt8) (n : Nat) : Prop := x = decDigits n ∧ nDigits n ≤ k
theorem Num.of {l : List UInt8} (h : (l.all fun c => decide (48 ≤ c.toNat) && decide (c.toNat ≤ 57)) = true) (hne : l ≠ []) (hz : l = [48] ∨ l.head? ≠ some 48) : Num l.length l (dval l) := by
  have hd : Dgs l := fun c hc => by
    have := List.all_eq_true.1 h c hc
    simp at this; exact this
  have := dec_of hd hne hz
  exact ⟨this, by rw [← decDigits_length, ← this]; exact Nat.le_refl _⟩
theorem Num.mono {k k' : Nat} {x : List UInt8} {n : Nat} (h : Num k x n) (hk : k ≤ k') : Num k' x n := ⟨h.1, Nat.le_trans h.2 hk⟩

end Go.Proofs.YtejlpdbiacmfcaaGreatDoor
end
section
set_option linter.unusedSimpArgs false
set_option linter.unusedVariables false
set_option maxHeartbeats 1000000
namespace Go.Proofs.YtejlpdbiacmfcaaGreatDoor
open Go Go.Proofs Go.RowKit Go.Lib

def ineg (x : List UInt8) : Bool := hasPrefix x [45]
def irest (x : List UInt8) : List UInt8 := trimPrefix x [45]
/-- A text of an integer. -/
def IOk (x : List UInt8) : Prop := Form (irest x) ∧ ¬(ineg x = true ∧ irest x = [48])
theorem irest_len (x : List UInt8) : (irest x).length ≤ x.length := by
  unfold irest trimPrefix
  split
  · simp
  · exact Nat.le_refl _

theorem cutminus (x : List UInt8) (w : World) : Calls Tryz.prog 161 #[.string ⟨⟨x⟩⟩, .string ⟨⟨[45]⟩⟩] w (Ret fun v w' => v = .tuple ⟨[.string ⟨⟨irest x⟩⟩, .bool (ineg x)]⟩ ∧ w = w') :=
  (Tryz.strings_CutPrefix ⟨⟨x⟩⟩ ⟨⟨[45]⟩⟩ w).mono (by rintro e w' ⟨rfl, rfl⟩; exact ⟨_, rfl, rfl, rfl⟩)

theorem integer_calls (x : List UInt8) (hx : x.length ≤ 1099511627776) (w : World) :
    Calls Tryz.prog 130 #[.string ⟨⟨x⟩⟩] w (Ret fun v w' => (∃ b, v = .tuple ⟨[.bool (ineg x), .string ⟨⟨irest x⟩⟩, .bool b]⟩ ∧ (b = true ↔ IOk x)) ∧ Below w.heap.size w w') := by
  have hlen := irest_len x
  have hio : IOk x ↔ Form (irest x) ∧ ¬(ineg x = true ∧ irest x = [48]) := Iff.rfl
  refine enter Tryz.func130 rfl Tryz.ntmps130 (Nat.le_of_ble_eq_true rfl) ?_
  refine dr U 600 rfl trivial ?_
  refine call (f := 161) rfl rfl cb161 (cutminus x w) ?_
  rintro v w1 ⟨rfl, rfl⟩
  refine ⟨_, rfl, ?_⟩
  generalize ineg x = ng at *
  generalize irest x = rs at *
  refine dr U 600 rfl trivial ?_
  refine call (f := 131) rfl rfl cb131 (form_calls rs (by omega) w) ?_
  rintro v w1 ⟨⟨b, rfl, hb⟩, hB⟩
  refine ⟨_, rfl, ?_⟩
  cases b with
  | false =>
    refine dr U 600 rfl trivial ?_
    exact ret Tryz.results130 rfl ⟨_, rfl, ⟨false, rfl, by rw [hio]; simp at hb; simp [hb]⟩, hB⟩
  | true =>
    have hf := hb.1 rfl
    cases ng with
    | false =>
      refine dr U 600 rfl trivial ?_
      exact ret Tryz.results130 rfl ⟨_, rfl, ⟨true, rfl, by rw [hio]; simp [hf]⟩, hB⟩
    | true =>
      refine dr U 600 rfl trivial ?_
      refine cS rfl rfl rfl rfl (fun hq => ?_) (fun hq => ?_)
      · refine dr U 600 rfl trivial ?_
        exact ret Tryz.results130 rfl ⟨_, rfl, ⟨false, rfl, by rw [hio]; simp [hq]⟩, hB⟩
      · refine dr U 600 rfl trivial ?_
        exact ret Tryz.results130 rfl ⟨_, rfl, ⟨true, rfl, by rw [hio]; simp [hf, hq]⟩, hB⟩

/-- The errors of Make. -/
def MErr (x y : List UInt8) (e : Int) : Prop :=
  (¬ IOk x ∧ e = 3) ∨ (IOk x ∧ 4000 < (irest x).length ∧ e = 5) ∨ (IOk x ∧ (irest x).length ≤ 4000 ∧ e ≠ 0 ∧ Chk y e) ∨
  (IOk x ∧ (irest x).length ≤ 4000 ∧ Chk y 0 ∧ y = [48] ∧ e = 6) ∨ (IOk x ∧ (irest x).length ≤ 4000 ∧ Chk y 0 ∧ y ≠ [48] ∧ e = 0)
theorem Chk.uniq' {l : List UInt8} {e f : Int} (h : Chk l e) (h' : Chk l f) : e = f := by
  rcases h with ⟨h1, h2, rfl⟩ | ⟨h1, h2, rfl⟩ | ⟨h1, rfl⟩ <;> rcases h' with ⟨h3, h4, rfl⟩ | ⟨h3, h4, rfl⟩ | ⟨h3, rfl⟩ <;> first | rfl | contradiction | omega
theorem MErr.uniq {x y : List UInt8} {e f : Int} (h : MErr x y e) (h' : MErr x y f) : e = f := by
  rcases h with ⟨h1, rfl⟩ | ⟨h1, h2, rfl⟩ | ⟨h1, h2, h3, h4⟩ | ⟨h1, h2, h3, h4, rfl⟩ | ⟨h1, h2, h3, h4, rfl⟩ <;>
    rcases h' with ⟨g1, rfl⟩ | ⟨g1, g2, rfl⟩ | ⟨g1, g2, g3, g4⟩ | ⟨g1, g2, g3, g4, rfl⟩ | ⟨g1, g2, g3, g4, rfl⟩ <;> first
    | rfl
    | contradiction
    | omega
    | exact h4.uniq' g4
    | exact absurd (h4.uniq' g3) h3
    | exact absurd (g4.uniq' h3) g3
/-- What Make answers. -/
def MakeR (x y : List UInt8) (v : Value) : Prop :=
  (∃ e, e ≠ 0 ∧ MErr x y e ∧ v = .tuple ⟨[.string ⟨⟨[]⟩⟩, .int .i64 e]⟩) ∨ (MErr x y 0 ∧ QRes (mkq (ineg x) (dval (irest x)) (dval y)) v)
theorem MakeR.uniq {x y : List UInt8} {v v' : Value} (h : MakeR x y v) (h' : MakeR x y v') : v = v' := by
  rcases h with ⟨e, h1, h2, rfl⟩ | ⟨h2, h⟩ <;> rcases h' with ⟨e', h3, h4, rfl⟩ | ⟨h4, h'⟩
  · rw [h2.uniq h4]
  · exact absurd (h2.uniq h4) h1
  · exact absurd (h4.uniq h2) h3
  · exact h.uniq h'
end Go.Proofs.YtejlpdbiacmfcaaGreatDoor
end
section
set_option linter.unusedSimpArgs false
set_option linter.unusedVariables false
set_option maxHeartbeats 1000000
namespace Go.Proofs.YtejlpdbiacmfcaaGreatDoor
open Go Go.Proofs Go.RowKit Go.Lib

theorem ineg_cons (c : UInt8) (t : List UInt8) : ineg (c :: t) = decide (c = 45) ∧ irest (c :: t) = if c = 45 then t else c :: t := by
  have h : ineg (c :: t) = decide (c = 45) := by
    unfold ineg hasPrefix
    simp only [List.isPrefixOf, Bool.and_true]
    by_cases hc : c = 45
    · subst hc; rfl
    · rw [decide_eq_false hc, beq_eq_false_iff_ne]; exact fun h => hc h.symm
  refine ⟨h, ?_⟩
  unfold irest trimPrefix
  unfold ineg at h
  rw [h]
  simp

end Go.Proofs.YtejlpdbiacmfcaaGreatDoor
end
