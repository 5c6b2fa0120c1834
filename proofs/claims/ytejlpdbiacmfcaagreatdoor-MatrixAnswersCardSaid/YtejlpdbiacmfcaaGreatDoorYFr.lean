/-
  Walks of package frac: Zero, Make, Num.
  Conditions: numbers take fewer than 2^36 limbs; the library's table of powers of ten is laid.
  Walks of frac.Integer and rat.Make; the cells of bit strings.
  Conditions: texts take fewer than 2^40 bytes; the library's table of powers of ten is laid.
  Walks of the reference's limbs: trim, Read, Write.
  Conditions: fewer than 2^36 limbs.
-/
import Derived.Test.YtejlpdbiacmfcaaGreatDoorYTab
import Derived.Test.YtejlpdbiacmfcaaGreatDoorYBld
import Derived.Test.YtejlpdbiacmfcaaGreatDoorYPar
set_option linter.unusedSimpArgs false
set_option linter.unusedVariables false
namespace Go.Proofs.YtejlpdbiacmfcaaGreatDoor
section
set_option maxHeartbeats 1000000
open Go Go.Proofs Go.RowKit Go.Lib

def FV (w : World) (v : Value) (m : Bool) (n d : Nat) : Prop := ∃ an cn ad cd, v = .agg ⟨[.bool m, .slice an (lim n).length cn, .slice ad (lim d).length cd]⟩ ∧ Rd w an cn (lim n) ∧ Rd w ad cd (lim d)
theorem FV.below {w w' : World} {v : Value} {m : Bool} {n d : Nat} (h : FV w v m n d) (hb : Below w.heap.size w w') : FV w' v m n d := by
 obtain ⟨an, cn, ad, cd, rfl, h1, h2⟩ := h
 exact ⟨an, cn, ad, cd, rfl, h1.below hb, h2.below hb⟩

theorem ag_frac : AggOk Tryz.prog 76 3 := ⟨⟨_, Tryz.underlying76⟩, inf76.sz⟩

theorem ni0 : NoInt [.bool false, .slice none 0 0, .slice none 0 0] := fun v hv k x => by simp at hv; rcases hv with rfl | rfl <;> intro h <;> cases h


theorem frzero_calls (w : World) : Calls Tryz.prog 126 #[] w (Ret fun v w' => FV w' v false 0 1 ∧ Below w.heap.size w w') := by
 refine enter Tryz.func126 rfl Tryz.ntmps126 (Nat.le_of_ble_eq_true rfl) ?_
 refine dT rfl ?_
 refine al U rfl rfl rfl rfl ?_
 intro b w0 hb0 hs0 hk0 hg0
 have hB0 : Below w.heap.size w w0 := (Below.refl _ _).grown hg0 (Nat.le_refl _) (fun k e => by cases e)
 refine dT rfl ?_
 refine call (f := 52) rfl rfl cb52 (of_calls 1 (by omega) w0) ?_
 rintro v w1 ⟨a, c, rfl, ho, hB⟩
 refine ⟨_, rfl, ?_⟩
 have hk1 := hk0.below hB (by omega)
 have hB1 := bl_tr hB0 hB hB0.size
 refine dT rfl ?_
 refine st U rfl rfl rfl rfl rfl rfl rfl rfl rfl rfl (hk1) ?_
 intro w2 hkW hgW hsW
 refine dT rfl ?_
 have hBW := hB1.grown hgW hB1.size (fun k e => by cases e; omega)
 refine retS Tryz.results126 (vs := [_]) ⟨⟨_, rfl, run_load_agg ag_frac hkW rfl⟩, trivial⟩ ⟨_, rfl, ?_, hBW⟩
 exact ⟨none, 0, a, c, by rw [lim_zero]; rfl, by rw [lim_zero]; exact Rd.nil _, (own_rd ho).past hk1 ni0 hgW⟩

theorem frmake_calls (m : Bool) (n d : Nat) (hd : d ≠ 0) (a b : Option Addr) (c e : Nat) (w : World) (ha : Rd w a c (lim n)) (hb : Rd w b e (lim d)) (hnl : (lim n).length ≤ 68719476736) (hdl : (lim d).length ≤ 68719476736) :
  Calls Tryz.prog 93 #[.bool m, .slice a (lim n).length c, .slice b (lim d).length e] w
   (Ret fun v w' => FV w' v (m && decide (n ≠ 0)) (n / Nat.gcd n d) (d / Nat.gcd n d) ∧ Below w.heap.size w w') := by
 have hg0 : Nat.gcd n d ≠ 0 := Nat.ne_of_gt (Nat.gcd_pos_of_pos_right n (Nat.pos_of_ne_zero hd))
 refine enter Tryz.func93 rfl Tryz.ntmps93 (Nat.le_of_ble_eq_true rfl) ?_
 refine dT rfl ?_
 refine al U rfl rfl rfl rfl ?_
 intro bb w0 hb0 hs0 hk0 hg0'
 have hB0 : Below w.heap.size w w0 := (Below.refl _ _).grown hg0' (Nat.le_refl _) (fun k e => by cases e)
 have ha0 := ha.below hB0
 have hbb0 := hb.below hB0
 refine dT rfl ?_
 refine call (f := 125) rfl rfl cb125 (zero_calls (lim n) a c w0) ?_
 rintro v w1 ⟨rfl, rfl⟩
 refine ⟨_, rfl, ?_⟩
 by_cases hn : n = 0
 ·subst hn
  rw [decide_eq_true (lim_zero)]
  refine dT rfl ?_
  refine call (f := 126) rfl rfl cb126 (frzero_calls w0) ?_
  rintro v w1 ⟨hv, hB⟩
  obtain ⟨an, cn, ad, cd, rfl, h1, h2⟩ := hv
  refine ⟨_, rfl, ?_⟩
  have hk1 := hk0.below hB (by omega)
  have hB1 := bl_tr hB0 hB hB0.size
  refine dT rfl ?_
  refine st U rfl rfl rfl rfl rfl rfl rfl rfl rfl rfl (hk1) ?_
  intro w2 hkW hgW hsW
  refine dT rfl ?_
  have hBW := hB1.grown hgW hB1.size (fun k e => by cases e; omega)
  refine retS Tryz.results93 (vs := [_]) ⟨⟨_, rfl, run_load_agg ag_frac hkW rfl⟩, trivial⟩ ⟨_, rfl, ?_, hBW⟩
  rw [Nat.gcd_zero_left, Nat.zero_div, Nat.div_self (Nat.pos_of_ne_zero hd)]
  exact ⟨an, cn, ad, cd, by simp [pack], h1.past hk1 ni0 hgW, h2.past hk1 ni0 hgW⟩
 ·have hdn : decide (n ≠ 0) = true := decide_eq_true hn
  rw [decide_eq_false (fun h => hn (lim_eq_nil.1 h))]
  refine dT rfl ?_
  refine call (f := 99) rfl rfl cb99 (one_calls d b e w0 hbb0) ?_
  rintro v w1 ⟨rfl, rfl⟩
  refine ⟨_, rfl, ?_⟩
  by_cases hd1 : d = 1
  ·subst hd1
   rw [decide_eq_true rfl]
   refine dT rfl ?_
   refine st U rfl rfl rfl rfl rfl rfl rfl rfl rfl rfl (hk0) ?_
   intro w2 hkW hgW hsW
   refine dT rfl ?_
   have hBW := hB0.grown hgW hB0.size (fun k e => by cases e; omega)
   refine retS Tryz.results93 (vs := [_]) ⟨⟨_, rfl, run_load_agg ag_frac hkW rfl⟩, trivial⟩ ⟨_, rfl, ?_, hBW⟩
   rw [Nat.gcd_one_right, Nat.div_one, hdn, Bool.and_true]
   exact ⟨a, c, b, e, rfl, ha0.past hk0 ni0 hgW, hbb0.past hk0 ni0 hgW⟩
  ·rw [decide_eq_false hd1]
   refine dT rfl ?_
   refine call (f := 127) rfl rfl cb127 (gcd_calls n d a b c e w0 ha0 hbb0 hnl hdl) ?_
   rintro v w1 ⟨⟨ag, cg, rfl, hg⟩, hB1'⟩
   refine ⟨_, rfl, ?_⟩
   have hk1 := hk0.below hB1' (by omega)
   have hB1 := bl_tr hB0 hB1' hB0.size
   have ha1 := ha0.below hB1'
   have hb1 := hbb0.below hB1'
   refine dT rfl ?_
   refine call (f := 99) rfl rfl cb99 (one_calls (Nat.gcd n d) ag cg w1 hg) ?_
   rintro v w2 ⟨rfl, rfl⟩
   refine ⟨_, rfl, ?_⟩
   by_cases hg1 : Nat.gcd n d = 1
   ·rw [decide_eq_true hg1]
    refine dT rfl ?_
    refine st U rfl rfl rfl rfl rfl rfl rfl rfl rfl rfl (hk1) ?_
    intro w2 hkW hgW hsW
    refine dT rfl ?_
    have hBW := hB1.grown hgW hB1.size (fun k e => by cases e; omega)
    refine retS Tryz.results93 (vs := [_]) ⟨⟨_, rfl, run_load_agg ag_frac hkW rfl⟩, trivial⟩ ⟨_, rfl, ?_, hBW⟩
    rw [hg1, Nat.div_one, Nat.div_one, hdn, Bool.and_true]
    exact ⟨a, c, b, e, rfl, ha1.past hk1 ni0 hgW, hb1.past hk1 ni0 hgW⟩
   ·rw [decide_eq_false hg1]
    have hgl : (lim (Nat.gcd n d)).length ≤ 68719476736 := Nat.le_trans (lim_len_mono (Nat.gcd_le_left d (Nat.pos_of_ne_zero hn))) hnl
    refine dT rfl ?_
    refine call (f := 128) rfl rfl cb128 (divmod_calls n (Nat.gcd n d) (Nat.pos_of_ne_zero hg0) a ag c cg w1 ha1 hg hnl hgl) ?_
    rintro v w2 ⟨v1, v2, rfl, ⟨a3, c3, rfl, hr3⟩, _, hB2'⟩
    refine ⟨_, rfl, ?_⟩
    have hk2 := hk1.below hB2' (by have := hB1'.size; omega)
    have hB2 := bl_tr hB1 hB2' hB1.size
    refine dT rfl ?_
    refine call (f := 128) rfl rfl cb128 (divmod_calls d (Nat.gcd n d) (Nat.pos_of_ne_zero hg0) b ag e cg w2 (hb1.below hB2') (hg.below hB2') hdl hgl) ?_
    rintro v w3 ⟨v3, v4, rfl, ⟨a4, c4, rfl, hr4⟩, _, hB3'⟩
    refine ⟨_, rfl, ?_⟩
    have hk3 := hk2.below hB3' (by have := hB1'.size; have := hB2'.size; omega)
    have hB3 := bl_tr hB2 hB3' hB2.size
    refine dT rfl ?_
    refine st U rfl rfl rfl rfl rfl rfl rfl rfl rfl rfl (hk3) ?_
    intro w4 hkW hgW hsW
    refine dT rfl ?_
    have hBW := hB3.grown hgW hB3.size (fun k e => by cases e; omega)
    refine retS Tryz.results93 (vs := [_]) ⟨⟨_, rfl, run_load_agg ag_frac hkW rfl⟩, trivial⟩ ⟨_, rfl, ?_, hBW⟩
    rw [hdn, Bool.and_true]
    exact ⟨a3, c3, a4, c4, rfl, (hr3.below hB3').past hk3 ni0 hgW, hr4.past hk3 ni0 hgW⟩

def ftext (m : Bool) (n d : Nat) : List UInt8 := (if m = true then [45] else []) ++ decDigits n ++ (if d = 1 then [] else 47 :: decDigits d)
def FRes (m : Bool) (n d : Nat) (v : Value) : Prop := (nDigits n ≤ 4000 ∧ nDigits d ≤ 4000 ∧ v = .tuple ⟨[.string ⟨⟨ftext m n d⟩⟩, .int .i64 0]⟩) ∨ ((4000 < nDigits n ∨ 4000 < nDigits d) ∧ v = .tuple ⟨[.string ⟨⟨[]⟩⟩, .int .i64 5]⟩)


theorem frnum_calls (m : Bool) (n d : Nat) (v : Value) (w : World) (hv : FV w v m n d) (hnl : (lim n).length ≤ 68719476736) (hdl : (lim d).length ≤ 68719476736) (ht : TabOk w) :
  Calls Tryz.prog 55 #[v] w (Ret fun r w' => FRes m n d r ∧ Below w.heap.size w w') := by
 obtain ⟨an, cn, ad, cd, rfl, h1, h2⟩ := hv
 have hln := decDigits_length n
 have hld := decDigits_length d
 refine enter Tryz.func55 rfl Tryz.ntmps55 (Nat.le_of_ble_eq_true rfl) ?_
 refine dT rfl ?_
 refine bx rfl rfl rfl rfl ?_
 intro b w0 hb0 hs0 hk0 hg0
 have hB0 : Below w.heap.size w w0 := (Below.refl _ _).grown hg0 (Nat.le_refl _) (fun k e => by cases e)
 have ht0 := ht.below hB0
 have h10 := h1.below hB0
 have h20 := h2.below hB0
 refine dT rfl ?_
 refine ld U rfl rfl rfl rfl ((hk0).cell rfl) ?_
 refine dT rfl ?_
 refine call (f := 97) rfl rfl cb97 (digits_calls n an cn w0 h10 hnl ht0) ?_
 rintro v w1 ⟨rfl, hB1'⟩
 refine ⟨_, rfl, ?_⟩
 have hB1 := bl_tr hB0 hB1' hB0.size
 have hk1 := hk0.below hB1' (by omega)
 have ht1 := ht0.below hB1'
 have h11 := h10.below hB1'
 have h21 := h20.below hB1'
 refine dT rfl ?_
 refine cS rfl rfl rfl rfl (fun hq => ?_) (fun hq => ?_)
 ·refine dT rfl ?_
  exact ret Tryz.results55 rfl ⟨_, rfl, .inr ⟨.inl (by omega), rfl⟩, hB1⟩
 ·refine dT rfl ?_
  refine ld U rfl rfl rfl rfl ((hk1).cell rfl) ?_
  refine dT rfl ?_
  refine call (f := 97) rfl rfl cb97 (digits_calls d ad cd w1 h21 hdl ht1) ?_
  rintro v w2 ⟨rfl, hB2'⟩
  refine ⟨_, rfl, ?_⟩
  have ht2 := ht1.below hB2'
  have h12 := h11.below hB2'
  have h22 := h21.below hB2'
  have hB2 := bl_tr hB1 hB2' hB1.size
  have hk2 := hk1.below hB2' (by have := hB1'.size; omega)
  refine dT rfl ?_
  refine cS rfl rfl rfl rfl (fun hq => ?_) (fun hq => ?_)
  ·refine dT rfl ?_
   exact ret Tryz.results55 rfl ⟨_, rfl, .inr ⟨.inr (by omega), rfl⟩, hB2⟩
  ·refine dT rfl ?_
   refine ld U rfl rfl rfl rfl ((hk2).cell rfl) ?_
   refine dT rfl ?_
   refine call (f := 98) rfl rfl cb98 (string_calls n an cn w2 h12 hnl ht2) ?_
   rintro v w3 ⟨rfl, hB3'⟩
   refine ⟨_, rfl, ?_⟩
   have ht3 := ht2.below hB3'
   have h23 := h22.below hB3'
   have hB3 := bl_tr hB2 hB3' hB2.size
   have hk3 := hk2.below hB3' (by have := hB1'.size; have := hB2'.size; omega)
   refine dT rfl ?_
   refine ld U rfl rfl rfl rfl ((hk3).cell rfl) ?_
   cases m with
   | false =>
    refine dT rfl ?_
    refine ld U rfl rfl rfl rfl ((hk3).cell rfl) ?_
    refine dT rfl ?_
    refine call (f := 99) rfl rfl cb99 (one_calls d ad cd w3 h23) ?_
    rintro v w5 ⟨rfl, rfl⟩
    refine ⟨_, rfl, ?_⟩
    by_cases hd1 : d = 1
    ·rw [decide_eq_true hd1]
     refine dT rfl ?_
     refine ret Tryz.results55 rfl ⟨_, rfl, .inl ⟨by omega, by omega, ?_⟩, hB3⟩
     unfold ftext
     rw [if_pos hd1]
     simp [pack, str]
    ·rw [decide_eq_false hd1]
     refine dT rfl ?_
     refine ld U rfl rfl rfl rfl ((hk3).cell rfl) ?_
     refine dT rfl ?_
     refine call (f := 98) rfl rfl cb98 (string_calls d ad cd w3 h23 hdl ht3) ?_
     rintro v w6 ⟨rfl, hB6⟩
     refine ⟨_, rfl, ?_⟩
     refine dr U 600 rfl (by simp only [AllP, InR, List.nil_append, List.cons_append, and_true, List.length_cons, List.length_nil, List.length_append]; omega) ?_
     refine ret Tryz.results55 rfl ⟨_, rfl, .inl ⟨by omega, by omega, ?_⟩, bl_tr hB3 hB6 hB3.size⟩
     unfold ftext
     rw [if_neg hd1]
     simp [pack, str]
   | true =>
    refine dr U 600 rfl (by simp only [AllP, InR, List.nil_append, List.cons_append, and_true, List.length_cons, List.length_nil, List.length_append]; omega) ?_
    refine dT rfl ?_
    refine ld U rfl rfl rfl rfl ((hk3).cell rfl) ?_
    refine dT rfl ?_
    refine call (f := 99) rfl rfl cb99 (one_calls d ad cd w3 h23) ?_
    rintro v w5 ⟨rfl, rfl⟩
    refine ⟨_, rfl, ?_⟩
    by_cases hd1 : d = 1
    ·rw [decide_eq_true hd1]
     refine dT rfl ?_
     refine ret Tryz.results55 rfl ⟨_, rfl, .inl ⟨by omega, by omega, ?_⟩, hB3⟩
     unfold ftext
     rw [if_pos hd1]
     simp [pack, str]
    ·rw [decide_eq_false hd1]
     refine dT rfl ?_
     refine ld U rfl rfl rfl rfl ((hk3).cell rfl) ?_
     refine dT rfl ?_
     refine call (f := 98) rfl rfl cb98 (string_calls d ad cd w3 h23 hdl ht3) ?_
     rintro v w6 ⟨rfl, hB6⟩
     refine ⟨_, rfl, ?_⟩
     refine dr U 600 rfl (by simp only [AllP, InR, List.nil_append, List.cons_append, and_true, List.length_cons, List.length_nil, List.length_append]; omega) ?_
     refine ret Tryz.results55 rfl ⟨_, rfl, .inl ⟨by omega, by omega, ?_⟩, bl_tr hB3 hB6 hB3.size⟩
     unfold ftext
     rw [if_neg hd1]
     simp [pack, str]

def FQ (w : World) (v : Value) (r : Rat) : Prop := FV w v (decide (r.num < 0)) r.num.natAbs r.den
theorem FQ.below {w w' : World} {v : Value} {r : Rat} (h : FQ w v r) (hb : Below w.heap.size w w') : FQ w' v r := FV.below h hb
def Fits (r : Rat) : Prop := (lim r.num.natAbs).length ≤ 68719476736 ∧ (lim r.den).length ≤ 68719476736
theorem fv_fq {w : World} {v : Value} {m : Bool} {n d : Nat} (hd : d ≠ 0) (h : FV w v (m && decide (n ≠ 0)) (n / Nat.gcd n d) (d / Nat.gcd n d)) : FQ w v (mkq m n d) := by
 unfold FQ
 rw [mkq_num m n d hd, (mkq_form m n d hd).2, show decide ((mkq m n d).num < 0) = (m && decide (n ≠ 0)) from by rw [Bool.eq_iff_iff]; simp [mkq_neg m n d hd]]
 exact h
def QRes (r : Rat) (v : Value) : Prop := (Small 4000 r ∧ v = .tuple ⟨[.string ⟨⟨qtext r⟩⟩, .int .i64 0]⟩) ∨ (¬ Small 4000 r ∧ v = .tuple ⟨[.string ⟨⟨[]⟩⟩, .int .i64 5]⟩)
theorem QRes.uniq {r : Rat} {v v' : Value} (h : QRes r v) (h' : QRes r v') : v = v' := by
 rcases h with ⟨h1, rfl⟩ | ⟨h1, rfl⟩ <;> rcases h' with ⟨h2, rfl⟩ | ⟨h2, rfl⟩ <;> first | rfl | contradiction
theorem QRes.tup {r : Rat} {v : Value} (h : QRes r v) : ∃ s e, v = .tuple ⟨[.string ⟨⟨s⟩⟩, .int .i64 e]⟩ := by
 rcases h with ⟨_, rfl⟩ | ⟨_, rfl⟩ <;> exact ⟨_, _, rfl⟩
theorem QRes.ok {r : Rat} {v : Value} (h : QRes r v) (hs : Small 4000 r) : v = .tuple ⟨[.string ⟨⟨qtext r⟩⟩, .int .i64 0]⟩ := h.uniq (.inl ⟨hs, rfl⟩)
theorem fres_qres {r : Rat} {v : Value} (h : FRes (decide (r.num < 0)) r.num.natAbs r.den v) : QRes r v := by
 rcases h with ⟨h1, h2, rfl⟩ | ⟨h1, rfl⟩
 ·refine .inl ⟨⟨h1, h2⟩, ?_⟩
  unfold ftext qtext
  simp
 ·exact .inr ⟨fun h => by have := h.1; have := h.2; omega, rfl⟩
theorem frnumq_calls (r : Rat) (v : Value) (w : World) (hv : FQ w v r) (hf : Fits r) (ht : TabOk w) :
  Calls Tryz.prog 55 #[v] w (Ret fun v' w' => QRes r v' ∧ Below w.heap.size w w') :=
 (frnum_calls _ _ _ v w hv hf.1 hf.2 ht).mono (by rintro e w' ⟨v, rfl, h, hB⟩; exact ⟨v, rfl, fres_qres h, hB⟩)
end
section
set_option maxHeartbeats 1000000
open Go Go.Proofs Go.RowKit Go.Lib

def ineg (x : List UInt8) : Bool := hasPrefix x [45]
def irest (x : List UInt8) : List UInt8 := trimPrefix x [45]
def IOk (x : List UInt8) : Prop := Form (irest x) ∧ ¬(ineg x = true ∧ irest x = [48])
theorem irest_len (x : List UInt8) : (irest x).length ≤ x.length := by
 unfold irest trimPrefix
 split
 ·simp
 ·exact Nat.le_refl _

theorem cutminus (x : List UInt8) (w : World) : Calls Tryz.prog 161 #[.string ⟨⟨x⟩⟩, .string ⟨⟨[45]⟩⟩] w (Ret fun v w' => v = .tuple ⟨[.string ⟨⟨irest x⟩⟩, .bool (ineg x)]⟩ ∧ w = w') :=
 (Tryz.strings_CutPrefix ⟨⟨x⟩⟩ ⟨⟨[45]⟩⟩ w).mono (by rintro e w' ⟨rfl, rfl⟩; exact ⟨_, rfl, rfl, rfl⟩)

theorem integer_calls (x : List UInt8) (hx : x.length ≤ 1099511627776) (w : World) :
  Calls Tryz.prog 130 #[.string ⟨⟨x⟩⟩] w (Ret fun v w' => (∃ b, v = .tuple ⟨[.bool (ineg x), .string ⟨⟨irest x⟩⟩, .bool b]⟩ ∧ (b = true ↔ IOk x)) ∧ Below w.heap.size w w') := by
 have hlen := irest_len x
 have hio : IOk x ↔ Form (irest x) ∧ ¬(ineg x = true ∧ irest x = [48]) := Iff.rfl
 refine enter Tryz.func130 rfl Tryz.ntmps130 (Nat.le_of_ble_eq_true rfl) ?_
 refine dT rfl ?_
 refine call (f := 161) rfl rfl cb161 (cutminus x w) ?_
 rintro v w1 ⟨rfl, rfl⟩
 refine ⟨_, rfl, ?_⟩
 generalize ineg x = ng at *
 generalize irest x = rs at *
 refine dT rfl ?_
 refine call (f := 131) rfl rfl cb131 (form_calls rs (by omega) w) ?_
 rintro v w1 ⟨⟨b, rfl, hb⟩, hB⟩
 refine ⟨_, rfl, ?_⟩
 cases b with
 | false =>
  refine dT rfl ?_
  exact ret Tryz.results130 rfl ⟨_, rfl, ⟨false, rfl, by rw [hio]; simp at hb; simp [hb]⟩, hB⟩
 | true =>
  have hf := hb.1 rfl
  cases ng with
  | false =>
   refine dT rfl ?_
   exact ret Tryz.results130 rfl ⟨_, rfl, ⟨true, rfl, by rw [hio]; simp [hf]⟩, hB⟩
  | true =>
   refine dT rfl ?_
   refine cS rfl rfl rfl rfl (fun hq => ?_) (fun hq => ?_)
   ·refine dT rfl ?_
    exact ret Tryz.results130 rfl ⟨_, rfl, ⟨false, rfl, by rw [hio]; simp [hq]⟩, hB⟩
   ·refine dT rfl ?_
    exact ret Tryz.results130 rfl ⟨_, rfl, ⟨true, rfl, by rw [hio]; simp [hf, hq]⟩, hB⟩

def MErr (x y : List UInt8) (e : Int) : Prop :=
 (¬ IOk x ∧ e = 3) ∨ (IOk x ∧ 4000 < (irest x).length ∧ e = 5) ∨ (IOk x ∧ (irest x).length ≤ 4000 ∧ e ≠ 0 ∧ Chk y e) ∨
 (IOk x ∧ (irest x).length ≤ 4000 ∧ Chk y 0 ∧ y = [48] ∧ e = 6) ∨ (IOk x ∧ (irest x).length ≤ 4000 ∧ Chk y 0 ∧ y ≠ [48] ∧ e = 0)
theorem Chk.uniq' {l : List UInt8} {e f : Int} (h : Chk l e) (h' : Chk l f) : e = f := by
 rcases h with ⟨h1, h2, rfl⟩ | ⟨h1, h2, rfl⟩ | ⟨h1, rfl⟩ <;> rcases h' with ⟨h3, h4, rfl⟩ | ⟨h3, h4, rfl⟩ | ⟨h3, rfl⟩ <;> first | rfl | contradiction | omega
theorem MErr.uniq {x y : List UInt8} {e f : Int} (h : MErr x y e) (h' : MErr x y f) : e = f := by
 rcases h with ⟨h1, rfl⟩ | ⟨h1, h2, rfl⟩ | ⟨h1, h2, h3, h4⟩ | ⟨h1, h2, h3, h4, rfl⟩ | ⟨h1, h2, h3, h4, rfl⟩ <;>
  rcases h' with ⟨g1, rfl⟩ | ⟨g1, g2, rfl⟩ | ⟨g1, g2, g3, g4⟩ | ⟨g1, g2, g3, g4, rfl⟩ | ⟨g1, g2, g3, g4, rfl⟩ <;> first
  | rfl
  | contradiction
  | omega
  | exact h4.uniq' g4
  | exact absurd (h4.uniq' g3) h3
  | exact absurd (g4.uniq' h3) g3
def MakeR (x y : List UInt8) (v : Value) : Prop :=
 (∃ e, e ≠ 0 ∧ MErr x y e ∧ v = .tuple ⟨[.string ⟨⟨[]⟩⟩, .int .i64 e]⟩) ∨ (MErr x y 0 ∧ QRes (mkq (ineg x) (dval (irest x)) (dval y)) v)
theorem MakeR.uniq {x y : List UInt8} {v v' : Value} (h : MakeR x y v) (h' : MakeR x y v') : v = v' := by
 rcases h with ⟨e, h1, h2, rfl⟩ | ⟨h2, h⟩ <;> rcases h' with ⟨e', h3, h4, rfl⟩ | ⟨h4, h'⟩
 ·rw [h2.uniq h4]
 ·exact absurd (h2.uniq h4) h1
 ·exact absurd (h4.uniq h2) h3
 ·exact h.uniq h'
theorem MakeR.tup {x y : List UInt8} {v : Value} (h : MakeR x y v) : ∃ s e, v = .tuple ⟨[.string ⟨⟨s⟩⟩, .int .i64 e]⟩ := by
 rcases h with ⟨e, _, _, rfl⟩ | ⟨_, h⟩
 ·exact ⟨_, _, rfl⟩
 ·exact h.tup
end
section
set_option maxHeartbeats 1000000
open Go Go.Proofs Go.RowKit Go.Lib

def i64n (n : Nat) : Value := .int .i64 (n : Int)

def RdI (w : World) (a : Option Addr) (c : Nat) (xs : List Nat) : Prop := Sl w a (xs.map i64n) ∧ xs.length ≤ c ∧ ∀ g, ab a = some g → Tg w 3 g

theorem RdI.below {w w' : World} {a : Option Addr} {c : Nat} {xs : List Nat} (h : RdI w a c xs) (hb : Below w.heap.size w w') : RdI w' a c xs :=
 ⟨h.1.below hb (fun g hg => (h.2.2 g hg).lt), h.2.1, fun g hg => (h.2.2 g hg).below hb⟩

theorem getI {xs : List Nat} {j : Nat} (h : j < xs.length) : (xs.map i64n)[j]? = some (i64n (xs.getD j 0)) := by simp [h, List.getD]

def OwnI (w w' : World) (v : Value) (zs : List Nat) : Prop := ∃ a c, v = .slice a zs.length c ∧ w'.ownsRow w.heap.size 3 1 (.slice a zs.length c) zs.length (zs.map i64n) ∧ Below w.heap.size w w'

theorem ownI_rd {w : World} {base : Nat} {a : Option Addr} {m c : Nat} {xs : List Nat} (h : w.ownsRow base 3 1 (.slice a m c) m (xs.map i64n)) : RdI w a c xs := by
 have hl := own_len h
 simp at hl
 refine ⟨own_sl h, ?_, own_tag h⟩
 rcases h.2 with ⟨h1, h2⟩ | ⟨g, cap, cur, h1, _, _, h4, _⟩
 ·omega
 ·simp at h1; omega

theorem rtrim_calls (xs : List Nat) (a : Option Addr) (c : Nat) (w : World) (h : RdI w a c xs) (hl : xs.length ≤ 1099511627776) :
  Calls Tryz.prog 105 #[.slice a xs.length c] w (Ret fun v w' => v = .slice a (trimN xs).length c ∧ w = w') := by
 obtain ⟨hs, hc, _⟩ := h
 refine enter Tryz.func105 rfl Tryz.ntmps105 (Nat.le_of_ble_eq_true rfl) ?_
 refine dT rfl ?_
 refine loopR (fun l w' m => ∃ j, l = [(0, .slice a j c)] ∧ w = w' ∧ j ≤ xs.length ∧ trimN (xs.take j) = trimN xs ∧ j = m) ⟨xs.length, rfl, rfl, Nat.le_refl _, by simp, rfl⟩ ⟨rfl, trivial⟩ ?_
 rintro l w' m ⟨j, rfl, rfl, hj, ht, rfl⟩
 refine dS rfl ?_
 refine cS rfl rfl rfl rfl (fun hq => ?_) (fun hq => ?_)
 ·refine dS rfl ?_
  obtain ⟨i, rfl⟩ : ∃ i, j = i + 1 := ⟨j - 1, by omega⟩
  rw [take_snoc xs i hj] at ht
  refine il U rfl rfl rfl rfl rfl rfl rfl (fun _ => rfl) rfl i (by omega) (by omega) hs (getI hj) ?_
  refine cS rfl rfl rfl rfl (fun hq => ?_) (fun hq => ?_)
  ·refine dS rfl ?_
   rw [trimN_snoc0 _ _ (by omega)] at ht
   exact rend _ _ ⟨_, rfl, rfl, by omega, by rw [show (((i + 1 : Nat) : Int) - 1).toNat = i from by omega]; exact ht, rfl⟩ (by omega) ⟨rfl, trivial⟩
  ·refine dS rfl ?_
   rw [trimN_snoc _ _ (by omega), ← take_snoc xs i hj] at ht
   refine ret Tryz.results105 rfl ⟨_, rfl, ?_, rfl⟩
   rw [← ht]; simp [pack]; omega
 ·refine dS rfl ?_
  obtain rfl : j = 0 := by omega
  refine ret Tryz.results105 rfl ⟨_, rfl, ?_, rfl⟩
  rw [← ht]; rfl

theorem rtrim_own (xs : List Nat) (a : Option Addr) (c base : Nat) (w : World) (h : w.ownsRow base 3 1 (.slice a xs.length c) xs.length (xs.map i64n)) (hx : Lm xs) (hl : xs.length ≤ 1099511627776) :
  Calls Tryz.prog 105 #[.slice a xs.length c] w (Ret fun v w' => v = .slice a (lim (val xs)).length c ∧ w = w' ∧ w.ownsRow base 3 1 (.slice a (lim (val xs)).length c) (lim (val xs)).length ((lim (val xs)).map i64n)) := by
 refine (rtrim_calls xs a c w (ownI_rd h) hl).mono ?_
 rintro e w' ⟨v, rfl, rfl, rfl⟩
 rw [trimN_eq hx]
 refine ⟨_, rfl, rfl, rfl, ?_⟩
 obtain ⟨t, ht⟩ := trimN_prefix xs
 rw [trimN_eq hx] at ht
 generalize lim (val xs) = zs at ht
 have h1 := own_take h (k := zs.length) (by rw [ht]; simp)
 have h2 : (xs.map i64n).take zs.length = zs.map i64n := by
  rw [ht, List.map_append, List.take_left' (by simp)]
 rw [h2] at h1
 exact h1

theorem set_i64n (cs : List Nat) (j x : Nat) : (cs.map i64n).set j (i64n x) = (cs.set j x).map i64n := by rw [List.map_set]
theorem rep_i64n (k : Nat) : List.replicate k (Value.int .i64 0) = (List.replicate k 0).map i64n := by simp [i64n]

theorem rtrim_ownN (n : Nat) (xs : List Nat) (hn : xs.length = n) (a : Option Addr) (c base : Nat) (w : World) (h : w.ownsRow base 3 1 (.slice a n c) n (xs.map i64n)) (hx : Lm xs) (hl : n ≤ 1099511627776) :
  Calls Tryz.prog 105 #[.slice a n c] w (Ret fun v w' => v = .slice a (lim (val xs)).length c ∧ w = w' ∧ w.ownsRow base 3 1 (.slice a (lim (val xs)).length c) (lim (val xs)).length ((lim (val xs)).map i64n)) := by
 subst hn; exact rtrim_own xs a c base w h hx hl


theorem OwnI.rd {w w' : World} {v : Value} {zs : List Nat} (h : OwnI w w' v zs) : ∃ a c, v = .slice a zs.length c ∧ RdI w' a c zs ∧ Below w.heap.size w w' := by
 obtain ⟨a, c, rfl, h1, h2⟩ := h
 exact ⟨a, c, rfl, ownI_rd h1, h2⟩

theorem read_in {s : List UInt8} {lo i : Nat} (h1 : lo ≤ i) (h2 : i < s.length) : (s.take (i + 1)).drop lo = (s.take i).drop lo ++ [s[i]] := by
 rw [List.take_succ_eq_append_getElem h2, List.drop_append_of_le_length (by simp; omega)]

theorem read_calls (s : List UInt8) (h : Dgs s) (hl : s.length ≤ 1099511627776) (w : World) :
  Calls Tryz.prog 62 #[.string ⟨⟨s⟩⟩] w (Ret fun v w' => OwnI w w' v (lim (dval s))) := by
 refine enter Tryz.func62 rfl Tryz.ntmps62 (Nat.le_of_ble_eq_true rfl) ?_
 refine dT rfl ?_
 refine loopR (fun l w' m => ∃ z : Int, ∃ zs a c, l = [(0, .string ⟨⟨s⟩⟩), (3, .slice a zs.length c), (4, .int .i64 z)] ∧ z ≤ s.length ∧ -9 ≤ z ∧ zs.length + z.toNat ≤ s.length ∧ Lm zs ∧ val zs + pw zs.length * dval (s.take z.toNat) = dval s ∧ w'.ownsRow w.heap.size 3 1 (.slice a zs.length c) zs.length (zs.map i64n) ∧ Below w.heap.size w w' ∧ m = z.toNat)
  (l0 := [(0, .string ⟨⟨s⟩⟩), (3, .slice none 0 0), (4, .int .i64 (s.length : Nat))]) ⟨(s.length : Int), ([] : List Nat), none, 0, rfl, by omega, by omega, by simp, Lm.nil, by simp [val, pw_zero], ⟨rfl, .inl ⟨rfl, rfl⟩⟩, Below.refl _ _, rfl⟩ ⟨rfl, rfl, rfl, trivial⟩ ?_
 rintro l w1 m ⟨z, zs, a, c, rfl, hz, hz9, hzs, hzl, hv, ho, hB, rfl⟩
 refine dT rfl ?_
 refine cS rfl rfl rfl rfl (fun hq => ?_) (fun hq => ?_)
 ·obtain ⟨e, rfl⟩ : ∃ e : Nat, z = e := ⟨z.toNat, by omega⟩
  rw [Int.toNat_natCast] at hv hzs
  have hel : e ≤ s.length := by omega
  have hstep := parse_step (by omega) rfl hv hel
  have hch : Dgs ((s.take e).drop (e - 9)) := (h.take e).drop _
  have hcl : ((s.take e).drop (e - 9)).length ≤ 9 := by simp; omega
  have hclt : dval ((s.take e).drop (e - 9)) < 1000000000 := by
   have h1 := dval_lt hch
   have h2 := Nat.pow_le_pow_right (n := 10) (by omega) hcl
   omega
  refine dS rfl ?_
  refine loopR (fun l w' m => ∃ i : Nat, l = [(5, .int .i64 (dval ((s.take i).drop (e - 9)) : Nat)), (6, .int .i64 (i : Nat)), (0, .string ⟨⟨s⟩⟩), (3, .slice a zs.length c), (4, .int .i64 (e : Nat))] ∧ e - 9 ≤ i ∧ i ≤ e ∧ w' = w1 ∧ m = e - i)
   (l0 := [(5, .int .i64 (0 : Nat)), (6, .int .i64 ((e - 9 : Nat) : Nat)), (0, .string ⟨⟨s⟩⟩), (3, .slice a zs.length c), (4, .int .i64 (e : Nat))])
   ⟨e - 9, by rw [List.drop_eq_nil_of_le (by simp; omega)]; rfl, Nat.le_refl _, by omega, rfl, rfl⟩ ⟨rfl, iv (by omega), rfl, rfl, rfl, trivial⟩ ?_
  rintro l w2 m ⟨i, rfl, hi1, hi2, rfl, rfl⟩
  refine dT rfl ?_
  refine cS rfl rfl rfl rfl (fun hq => ?_) (fun hq => ?_)
  ·have hi3 : i < e := by omega
   have hil : i < s.length := by omega
   have hgd : s.getD i 0 = s[i] := by simp [List.getD, hil]
   have hdg : isD s[i] := h _ (List.getElem_mem hil)
   have hdr := read_in hi1 hil
   have hdl : dval ((s.take i).drop (e - 9)) < 1000000000 := by
    have h1 := dval_lt ((h.take i).drop (e - 9))
    have h3 : ((s.take i).drop (e - 9)).length ≤ 9 := by simp; omega
    have h2 := Nat.pow_le_pow_right (n := 10) (by omega) h3
    omega
   have hds : dval ((s.take (i + 1)).drop (e - 9)) = dval ((s.take i).drop (e - 9)) * 10 + (s[i].toNat - 48) := by rw [hdr, dval_snoc]
   generalize dval ((s.take i).drop (e - 9)) = n at *
   unfold isD at hdg
   refine dr U 600 rfl ?_ ?_
   ·simp only [AllP, InR, List.nil_append, List.cons_append, and_true, Int.toNat_natCast, hgd]
    omega
   refine rend [(5, .int .i64 (dval ((s.take (i + 1)).drop (e - 9)) : Nat)), (6, .int .i64 ((i + 1 : Nat) : Nat)), (0, .string ⟨⟨s⟩⟩), (3, .slice a zs.length c), (4, .int .i64 (e : Nat))] _ ⟨i + 1, rfl, by omega, by omega, rfl, rfl⟩ (by omega) ⟨?_, iv (by omega), rfl, rfl, rfl, trivial⟩
   refine iv ?_
   rw [hds, Int.toNat_natCast, hgd]
   omega
  ·obtain rfl : i = e := by omega
   generalize hchk : (s.take i).drop (i - 9) = ch at *
   refine dS rfl ?_
   refine ap U (v := (i64n (dval ch))) rfl rfl rfl rfl rfl rfl (fun _ => rfl) rfl (fun _ => rfl) rfl rfl rfl ho hB.size (by omega) (by decide) ?_
   intro a1 c1 w3 ho3 hg3
   refine dS rfl ?_
   refine rend [(0, .string ⟨⟨s⟩⟩), (3, .slice a1 (zs.length + 1) c1), (4, .int .i64 ((i : Int) - 9))] _ ⟨(i : Int) - 9, zs ++ [dval ch], a1, c1, by simp, by omega, by omega, by simp; omega, hzl.snoc hclt, by rw [show ((i : Int) - 9).toNat = i - 9 by omega, List.length_append]; exact hstep, by simpa using ho3, hB.grown hg3 hB.size (fun g hg => (own_block ho g hg).1), rfl⟩ (by omega) ⟨rfl, rfl, rfl, trivial⟩
 ·have hz0 : z.toNat = 0 := by omega
  rw [hz0, List.take_zero, show dval [] = 0 from rfl] at hv
  refine dT rfl ?_
  refine call (f := 105) rfl rfl cb105 (rtrim_own zs a c w.heap.size w1 ho hzl (by omega)) ?_
  rintro v w2 ⟨rfl, rfl, ho2⟩
  refine ⟨_, rfl, ?_⟩
  refine dT rfl ?_
  rw [show val zs = dval s by omega] at ho2 ⊢
  exact ret Tryz.results62 rfl ⟨_, rfl, a, c, rfl, ho2, hB⟩
end
end Go.Proofs.YtejlpdbiacmfcaaGreatDoor
