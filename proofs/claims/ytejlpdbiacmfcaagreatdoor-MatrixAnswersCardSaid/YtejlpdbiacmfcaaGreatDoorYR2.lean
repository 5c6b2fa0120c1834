/-
  Walks of the reference's rational numbers: one, Reduce, Write, Plus.
  Conditions: numbers take fewer than 2^34 limbs.
  How a text is read as a rational number, in plain arithmetic.
  No conditions: each theorem names its own premises.
  Walks of the reference's rational numbers: slash, digits, integer, Read, two, Add.
  Conditions: texts take fewer than 2^40 bytes.
-/
import Derived.Test.YtejlpdbiacmfcaaGreatDoorYPar
import Derived.Test.YtejlpdbiacmfcaaGreatDoorYFr
import Derived.Test.YtejlpdbiacmfcaaGreatDoorYRF
set_option linter.unusedSimpArgs false
set_option linter.unusedVariables false
namespace Go.Proofs.YtejlpdbiacmfcaaGreatDoor
section
set_option maxHeartbeats 1000000
open Go Go.Proofs Go.RowKit Go.Lib

def QV (w : World) (v : Value) (m : Bool) (n d : Nat) : Prop := ∃ an cn ad cd, v = .agg ⟨[.bool m, .slice an (lim n).length cn, .slice ad (lim d).length cd]⟩ ∧ RdI w an cn (lim n) ∧ RdI w ad cd (lim d)
theorem QV.below {w w' : World} {v : Value} {m : Bool} {n d : Nat} (h : QV w v m n d) (hb : Below w.heap.size w w') : QV w' v m n d := by
 obtain ⟨an, cn, ad, cd, rfl, h1, h2⟩ := h
 exact ⟨an, cn, ad, cd, rfl, h1.below hb, h2.below hb⟩
theorem RdI.past {w w' : World} {a : Option Addr} {c : Nat} {xs : List Nat} {b t : Nat} {cs : List Value} (h : RdI w a c xs) (hk : Bk w b t cs) (hn : NoInt cs) (hg : w.grownBy w' (some b)) (ht : Nat.beq 3 t = false := by rfl) : RdI w' a c xs :=
 ⟨h.1.past (fun v hv => by obtain ⟨x, _, rfl⟩ := List.mem_map.1 hv; exact ⟨_, _, rfl⟩) hk hn hg, h.2.1, fun g e => (h.2.2 g e).grown hg (fun e' => (h.2.2 g e).ne hk.tg ht (by cases e'; rfl))⟩
theorem ag_q : AggOk Tryz.prog 86 3 := ⟨⟨_, Tryz.underlying86⟩, inf86.sz⟩
def QR (w : World) (v : Value) (r : Rat) : Prop := QV w v (decide (r.num < 0)) r.num.natAbs r.den
theorem qr_of {w : World} {v : Value} {m : Bool} {n d : Nat} (hd : d ≠ 0) (h : QV w v (m && decide (n ≠ 0)) (n / Nat.gcd n d) (d / Nat.gcd n d)) : QR w v (mkq m n d) := by
 unfold QR
 rw [mkq_num m n d hd, (mkq_form m n d hd).2]
 rwa [show decide ((mkq m n d).num < 0) = (m && decide (n ≠ 0)) from by
  rw [Bool.eq_iff_iff]; simp [mkq_neg m n d hd]]

theorem rone_calls (w : World) : Calls Tryz.prog 64 #[] w (Ret fun v w' => (∃ a c, v = .slice a (lim 1).length c ∧ RdI w' a c (lim 1)) ∧ Below w.heap.size w w') := by
 refine enter Tryz.func64 rfl Tryz.ntmps64 (Nat.le_of_ble_eq_true rfl) ?_
 refine dT rfl ?_
 refine bs1 U (v := i64n 1) rfl rfl rfl rfl rfl rfl rfl ?_
 intro w1 hk1 hs1 hg1
 refine dT rfl ?_
 refine ret Tryz.results64 rfl ⟨_, rfl, ⟨some ⟨w.heap.size, 0, none⟩, 1, by rw [lim_one]; rfl, ?_⟩, (Below.refl _ _).grown hg1 (Nat.le_refl _) (fun k e => by cases e)⟩
 rw [lim_one]; exact ⟨by simpa using hk1.sl 0, by simp, fun g hg => by simp [ab] at hg; subst hg; exact hk1.tg⟩

theorem reduce_calls (m : Bool) (n d : Nat) (hd : d ≠ 0) (a b : Option Addr) (c e : Nat) (w : World) (ha : RdI w a c (lim n)) (hb : RdI w b e (lim d)) (hnl : (lim n).length ≤ 68719476736) (hdl : (lim d).length ≤ 68719476736) :
  Calls Tryz.prog 102 #[.bool m, .slice a (lim n).length c, .slice b (lim d).length e] w
   (Ret fun v w' => QR w' v (mkq m n d) ∧ Below w.heap.size w w') := by
 have hg0 : Nat.gcd n d ≠ 0 := Nat.ne_of_gt (Nat.gcd_pos_of_pos_right n (Nat.pos_of_ne_zero hd))
 refine enter Tryz.func102 rfl Tryz.ntmps102 (Nat.le_of_ble_eq_true rfl) ?_
 refine dT rfl ?_
 refine al U rfl rfl rfl rfl ?_
 intro bb w0 hb0 hs0 hk0 hg0'
 have hB0 : Below w.heap.size w w0 := (Below.refl _ _).grown hg0' (Nat.le_refl _) (fun k e => by cases e)
 have ha0 := ha.below hB0
 have hbb0 := hb.below hB0
 refine dT rfl ?_
 refine cS rfl rfl rfl rfl (fun hq => ?_) (fun hq => ?_)
 ·have hn : n = 0 := lim_eq_nil.1 (List.length_eq_zero_iff.1 (by omega))
  subst hn
  refine dT rfl ?_
  refine call (f := 64) rfl rfl cb64 (rone_calls w0) ?_
  rintro v w1 ⟨⟨a1, c1, rfl, h1⟩, hB⟩
  refine ⟨_, rfl, ?_⟩
  have hk1 := hk0.below hB (by omega)
  have hB1 := bl_tr hB0 hB hB0.size
  refine dT rfl ?_
  refine st U rfl rfl rfl rfl rfl rfl rfl rfl rfl rfl (hk1) ?_
  intro w2 hkW hgW hsW
  refine dT rfl ?_
  have hBW := hB1.grown hgW hB1.size (fun k e => by cases e; omega)
  refine retS Tryz.results102 (vs := [_]) ⟨⟨_, rfl, run_load_agg ag_q hkW rfl⟩, trivial⟩ ⟨_, rfl, ?_, hBW⟩
  refine qr_of hd ?_
  rw [Nat.gcd_zero_left, Nat.zero_div, Nat.div_self (Nat.pos_of_ne_zero hd)]
  exact ⟨none, 0, a1, c1, by simp [lim_zero, pack], by rw [lim_zero]; exact RdI.nil _, h1.past hk1 ni0 hgW⟩
 ·have hn : n ≠ 0 := fun h => hq (by rw [h, lim_zero]; rfl)
  have hdn : decide (n ≠ 0) = true := decide_eq_true hn
  refine dT rfl ?_
  refine call (f := 139) rfl rfl cb139 (common_calls n d a b c e w0 ha0 hbb0 hnl hdl) ?_
  rintro v w1 ⟨⟨ag, cg, rfl, hg⟩, hB1'⟩
  refine ⟨_, rfl, ?_⟩
  have hk1 := hk0.below hB1' (by omega)
  have hB1 := bl_tr hB0 hB1' hB0.size
  have ha1 := ha0.below hB1'
  have hb1 := hbb0.below hB1'
  have hgl : (lim (Nat.gcd n d)).length ≤ 68719476736 := Nat.le_trans (lim_len_mono (Nat.gcd_le_left d (Nat.pos_of_ne_zero hn))) hnl
  refine dT rfl ?_
  refine call (f := 140) rfl rfl cb140 (divide_calls n (Nat.gcd n d) (Nat.pos_of_ne_zero hg0) a ag c cg w1 ha1 hg hnl hgl) ?_
  rintro v w2 ⟨v1, v2, rfl, ⟨a3, c3, rfl, hr3⟩, _, hB2'⟩
  refine ⟨_, rfl, ?_⟩
  have hk2 := hk1.below hB2' (by have := hB1'.size; omega)
  have hB2 := bl_tr hB1 hB2' hB1.size
  refine dT rfl ?_
  refine call (f := 140) rfl rfl cb140 (divide_calls d (Nat.gcd n d) (Nat.pos_of_ne_zero hg0) b ag e cg w2 (hb1.below hB2') (hg.below hB2') hdl hgl) ?_
  rintro v w3 ⟨v3, v4, rfl, ⟨a4, c4, rfl, hr4⟩, _, hB3'⟩
  refine ⟨_, rfl, ?_⟩
  have hk3 := hk2.below hB3' (by have := hB1'.size; have := hB2'.size; omega)
  have hB3 := bl_tr hB2 hB3' hB2.size
  refine dT rfl ?_
  refine st U rfl rfl rfl rfl rfl rfl rfl rfl rfl rfl (hk3) ?_
  intro w4 hkW hgW hsW
  refine dT rfl ?_
  have hBW := hB3.grown hgW hB3.size (fun k e => by cases e; omega)
  refine retS Tryz.results102 (vs := [_]) ⟨⟨_, rfl, run_load_agg ag_q hkW rfl⟩, trivial⟩ ⟨_, rfl, ?_, hBW⟩
  refine qr_of hd ?_
  rw [hdn, Bool.and_true]
  exact ⟨a3, c3, a4, c4, rfl, (hr3.below hB3').past hk3 ni0 hgW, hr4.past hk3 ni0 hgW⟩


theorem rwrite_calls (m : Bool) (n d : Nat) (v : Value) (w : World) (hv : QV w v m n d) (hnl : (lim n).length ≤ 68719476736) (hdl : (lim d).length ≤ 68719476736) (hnD : nDigits n ≤ 1000000000000) (hdD : nDigits d ≤ 1000000000000) :
  Calls Tryz.prog 58 #[v] w (Ret fun r w' => FRes m n d r ∧ Below w.heap.size w w') := by
 obtain ⟨an, cn, ad, cd, rfl, h1, h2⟩ := hv
 have hln := decDigits_length n
 have hld := decDigits_length d
 refine enter Tryz.func58 rfl Tryz.ntmps58 (Nat.le_of_ble_eq_true rfl) ?_
 refine dT rfl ?_
 refine bx rfl rfl rfl rfl ?_
 intro b w0 hb0 hs0 hk0 hg0
 have hB0 : Below w.heap.size w w0 := (Below.refl _ _).grown hg0 (Nat.le_refl _) (fun k e => by cases e)
 have h10 := h1.below hB0
 have h20 := h2.below hB0
 refine dT rfl ?_
 refine dwn 7 (fun W => W.cell? ⟨b, 1, none⟩ = some (.slice an (lim n).length cn) ∧ W.cell? ⟨b, 2, none⟩ = some (.slice ad (lim d).length cd)) hmo ?_
 intro w1 hh1 hg1
 have hk1 := heap_bk hh1 hk0
 have hC1 : w1.cell? ⟨b, 1, none⟩ = some (.slice an (lim n).length cn) ∧ w1.cell? ⟨b, 2, none⟩ = some (.slice ad (lim d).length cd) := ⟨hk1.cell rfl, hk1.cell rfl⟩
 refine dqS [0,1,3,4] [(1, .slice an (lim n).length cn), (4, .slice ad (lim d).length cd)] rfl rfl hC1 ?_
 have hB1' : Below w0.heap.size w0 w1 := (Below.refl _ _).grown hg1 (Nat.le_refl _) (fun k e => by cases e)
 have hB1 := bl_tr hB0 hB1' hB0.size
 have h11 := h10.below hB1'
 have h21 := h20.below hB1'
 refine d1 rfl rfl (fun _ => hC1) ?_
 refine call (f := 65) rfl rfl cb65 (write_ref n an cn w1 h11 hnl) ?_
 rintro v w2 ⟨rfl, hB2'⟩
 refine ⟨_, rfl, d2 ?_⟩
 have hB2 := bl_tr hB1 hB2' hB1.size
 have hk2 := hk1.below hB2' hk1.lt
 have h22 := h21.below hB2'
 refine d1 rfl rfl (fun _ => ⟨hk2.cell rfl, hk2.cell rfl⟩) ?_
 refine call (f := 65) rfl rfl cb65 (write_ref d ad cd w2 h22 hdl) ?_
 rintro v w3 ⟨rfl, hB3'⟩
 refine ⟨_, rfl, d2 ?_⟩
 have hBW := bl_tr hB2 hB3' hB2.size
 have hk3 := hk2.below hB3' hk2.lt
 have hC3 : w3.cell? ⟨b, 1, none⟩ = some (.slice an (lim n).length cn) ∧ w3.cell? ⟨b, 2, none⟩ = some (.slice ad (lim d).length cd) := ⟨hk3.cell rfl, hk3.cell rfl⟩
 refine dqS [6] [] rfl rfl hC3 ?_
 refine d1 rfl rfl (fun _ => hC3) ?_
 refine dT rfl ?_
 refine d3 ?_; refine dend rfl (fun h => by cases h) ?_
 refine dT rfl ?_
 refine cS rfl rfl rfl rfl (fun hq => ?_) (fun hq => ?_)
 ·refine dT rfl ?_
  exact ret Tryz.results58 rfl ⟨_, rfl, .inr ⟨.inl (by omega), rfl⟩, hBW⟩
 ·refine dT rfl ?_
  refine cS rfl rfl rfl rfl (fun hq => ?_) (fun hq => ?_)
  ·refine dT rfl ?_
   exact ret Tryz.results58 rfl ⟨_, rfl, .inr ⟨.inr (by omega), rfl⟩, hBW⟩
  ·refine dT rfl ?_
   refine ld U rfl rfl rfl rfl ((hk3).cell rfl) ?_
   cases m with
   | false =>
    refine dT rfl ?_
    by_cases hd1 : d = 1
    ·have he : decDigits d = [49] := by rw [hd1, decDigits_one (by omega)]; rfl
     refine cF rfl rfl rfl (fun h => h he) ?_
     refine dT rfl ?_
     refine ret Tryz.results58 rfl ⟨_, rfl, .inl ⟨by omega, by omega, ?_⟩, hBW⟩
     unfold ftext
     rw [if_pos hd1]
     simp [pack, str]
    ·refine cT rfl rfl rfl (fun he => hd1 (dec_inj (by rw [he, decDigits_one (by omega)]; rfl))) ?_
     refine dr U 600 rfl (by simp only [AllP, InR, List.nil_append, List.cons_append, and_true, List.length_cons, List.length_nil, List.length_append]; omega) ?_
     refine ret Tryz.results58 rfl ⟨_, rfl, .inl ⟨by omega, by omega, ?_⟩, hBW⟩
     unfold ftext
     rw [if_neg hd1]
     simp [pack, str]
   | true =>
    refine dr U 600 rfl (by simp only [AllP, InR, List.nil_append, List.cons_append, and_true, List.length_cons, List.length_nil, List.length_append]; omega) ?_
    by_cases hd1 : d = 1
    ·have he : decDigits d = [49] := by rw [hd1, decDigits_one (by omega)]; rfl
     refine cF rfl rfl rfl (fun h => h he) ?_
     refine dT rfl ?_
     refine ret Tryz.results58 rfl ⟨_, rfl, .inl ⟨by omega, by omega, ?_⟩, hBW⟩
     unfold ftext
     rw [if_pos hd1]
     simp [pack, str]
    ·refine cT rfl rfl rfl (fun he => hd1 (dec_inj (by rw [he, decDigits_one (by omega)]; rfl))) ?_
     refine dr U 600 rfl (by simp only [AllP, InR, List.nil_append, List.cons_append, and_true, List.length_cons, List.length_nil, List.length_append]; omega) ?_
     refine ret Tryz.results58 rfl ⟨_, rfl, .inl ⟨by omega, by omega, ?_⟩, hBW⟩
     unfold ftext
     rw [if_neg hd1]
     simp [pack, str]
theorem rwriteq_calls (r : Rat) (v : Value) (w : World) (hv : QR w v r) (hf : Fits r) (hn : nDigits r.num.natAbs ≤ 1000000000000) (hd : nDigits r.den ≤ 1000000000000) :
  Calls Tryz.prog 58 #[v] w (Ret fun v' w' => QRes r v' ∧ Below w.heap.size w w') :=
 (rwrite_calls _ _ _ v w hv hf.1 hf.2 hn hd).mono (by rintro e w' ⟨v, rfl, h, hB⟩; exact ⟨v, rfl, fres_qres h, hB⟩)

section
variable {P : Program} (U : Tys P) {ro : Option Nat} {n : Nat} {ds : List Deferred} {Q : PT} {l l' : Fr} {w w' : World} {arr : Array Oper} {r : List Oper} {k : List It}
theorem eqlB {d : Nat} {t t2 ty : TypeId} {x y : Operand} {ps : String} {af : Array Edge} {g : Option (Nat × Bool)} {a b c : Bool} (hx : ev l x = some (.bool a)) (hy : ev l y = some (.bool b)) (ht : U.tb.u t = some .bool) (hc : (a == b) = c) (hg : gd arr l g = some true) (hd : Nat.blt d n = true)
  (t' : T P ro n ds Q ((d, .bool c) :: l) w (.ops arr r) k) : T P ro n ds Q l w (.ops arr (⟨some d, .binOp .eql t x y t2, ty, ps, af, g⟩ :: r)) k :=
 op1 (v := .bool c) (by intro c h; cases h) hg (put1_some hd) (fun act hf => by
  have h1 := run_equal_bool (P := P) w t a b (U.hu _ _ ht)
  rw [hc] at h1
  simp [execOp, hf.ev hx, hf.ev hy, eqGuard, binOp, h1]) t'
end

theorem mkq_add_same (m : Bool) (a b c d : Nat) (hb : b ≠ 0) (hd : d ≠ 0) : mkq m a b + mkq m c d = mkq m (a * d + c * b) (b * d) := by
 rw [mkq_add m m a b c d hb hd]
 unfold mkq
 congr 1
 cases m <;> simp [Int.neg_add]
theorem mkq_add_lt (m : Bool) (a b c d : Nat) (hb : b ≠ 0) (hd : d ≠ 0) (h : a * d ≤ c * b) : mkq m a b + mkq (!m) c d = mkq (!m) (c * b - a * d) (b * d) := by
 rw [mkq_add m (!m) a b c d hb hd]
 unfold mkq
 congr 1
 generalize a * d = x at *
 generalize c * b = y at *
 cases m <;> simp <;> omega
theorem mkq_add_ge (m : Bool) (a b c d : Nat) (hb : b ≠ 0) (hd : d ≠ 0) (h : c * b ≤ a * d) : mkq m a b + mkq (!m) c d = mkq m (a * d - c * b) (b * d) := by
 rw [mkq_add m (!m) a b c d hb hd]
 unfold mkq
 congr 1
 generalize a * d = x at *
 generalize c * b = y at *
 cases m <;> simp <;> omega
theorem Small.lim {k : Nat} {r : Rat} (h : Small k r) : (lim r.num.natAbs).length ≤ k ∧ (lim r.den).length ≤ k := ⟨Nat.le_trans (lim_le_nD _) h.1, Nat.le_trans (lim_le_nD _) h.2⟩
end
section
open Go.Lib

def qpre (s : List UInt8) : List UInt8 := s.takeWhile fun c => c != 47
def qneg (s : List UInt8) : Bool := (qpre s).head? == some 45
def qn (s : List UInt8) : List UInt8 := if qneg s = true then (qpre s).tail else qpre s
def qslash (s : List UInt8) : Bool := decide ((qpre s).length < s.length)
def qd (s : List UInt8) : List UInt8 := if qslash s = true then s.drop ((qpre s).length + 1) else [49]
def QIs (s : List UInt8) : Prop := Form (qn s) ∧ ¬(qneg s = true ∧ qn s = [48]) ∧ (qslash s = true → qn s ≠ [48] ∧ Form (qd s) ∧ qd s ≠ [48] ∧ qd s ≠ [49])
def QErr (s : List UInt8) (e : Int) : Prop :=
 (¬ QIs s ∧ e = 3) ∨ (QIs s ∧ (4000 < (qn s).length ∨ 4000 < (qd s).length) ∧ e = 5) ∨
 (QIs s ∧ (qn s).length ≤ 4000 ∧ (qd s).length ≤ 4000 ∧ Nat.gcd (dval (qn s)) (dval (qd s)) ≠ 1 ∧ e = 3) ∨
 (QIs s ∧ (qn s).length ≤ 4000 ∧ (qd s).length ≤ 4000 ∧ Nat.gcd (dval (qn s)) (dval (qd s)) = 1 ∧ e = 0)
theorem QErr.uniq {s : List UInt8} {e e' : Int} (h : QErr s e) (h' : QErr s e') : e = e' := by
 rcases h with ⟨h1, rfl⟩ | ⟨h1, h2, rfl⟩ | ⟨h1, h2, h3, h4, rfl⟩ | ⟨h1, h2, h3, h4, rfl⟩ <;>
  rcases h' with ⟨g1, rfl⟩ | ⟨g1, g2, rfl⟩ | ⟨g1, g2, g3, g4, rfl⟩ | ⟨g1, g2, g3, g4, rfl⟩ <;> first
  | rfl
  | exact absurd h1 g1
  | exact absurd g1 h1
  | (exfalso; omega)
  | exact absurd h4 g4
  | exact absurd g4 h4
def qval (s : List UInt8) : Rat := mkq (qneg s) (dval (qn s)) (dval (qd s))

theorem form_digit {l : List UInt8} (h : Form l) : ∀ c ∈ l, c ≠ 47 ∧ c ≠ 45 := fun c hc => by
 have := h.2.2 c hc
 unfold isD at this
 constructor <;> (rintro rfl; revert this; decide)
theorem form_dec (n : Nat) : Form (decDigits n) := form_iff.2 ⟨n, rfl⟩
theorem qd_pos {s : List UInt8} (h : QIs s) : dval (qd s) ≠ 0 := by
 unfold qd
 split
 ·rename_i hs
  obtain ⟨_, h1, h2, _⟩ := h.2.2 hs
  unfold qd at h1 h2
  rw [if_pos hs] at h1 h2
  intro h0
  apply h2
  have := dec_of h1.2.2 h1.1 h1.2.1
  rw [this, h0, decDigits, dif_pos (by omega)]; rfl
 ·decide
theorem dval_zero_iff {l : List UInt8} (h : Form l) : l = [48] ↔ dval l = 0 := by
 constructor
 ·rintro rfl; rfl
 ·intro h0
  rw [dec_of h.2.2 h.1 h.2.1, h0, decDigits, dif_pos (by omega)]; rfl
theorem dval_one_iff {l : List UInt8} (h : Form l) : l = [49] ↔ dval l = 1 := by
 constructor
 ·rintro rfl; rfl
 ·intro h0
  rw [dec_of h.2.2 h.1 h.2.1, h0, decDigits, dif_pos (by omega)]; rfl

theorem takeW_all {p : UInt8 → Bool} : ∀ (l : List UInt8), (∀ c ∈ l, p c = true) → l.takeWhile p = l
 | [], _ => rfl
 | c :: r, h => by
  rw [List.takeWhile_cons, h c (by simp), takeW_all r (fun x hx => h x (by simp [hx]))]; simp
theorem takeW_stop {p : UInt8 → Bool} (c : UInt8) (t : List UInt8) (hc : p c = false) : ∀ (l : List UInt8), (∀ c ∈ l, p c = true) → (l ++ c :: t).takeWhile p = l
 | [], _ => by simp [List.takeWhile_cons, hc]
 | a :: r, h => by
  rw [List.cons_append, List.takeWhile_cons, h a (by simp), takeW_stop c t hc r (fun x hx => h x (by simp [hx]))]; simp
theorem q_text (r : Rat) : qneg (qtext r) = decide (r.num < 0) ∧ qn (qtext r) = decDigits r.num.natAbs ∧ qd (qtext r) = decDigits r.den ∧ QIs (qtext r) := by
 have hfn := form_dec r.num.natAbs
 have hfd := form_dec r.den
 have hd1 : decDigits 1 = [49] := by rw [decDigits, dif_pos (by omega)]; rfl
 have hA : ∀ c ∈ (if r.num < 0 then [45] else []) ++ decDigits r.num.natAbs, (c != 47) = true := by
  intro c hc
  rcases List.mem_append.1 hc with h | h
  ·split at h
   ·rw [List.mem_singleton.1 h]; decide
   ·cases h
  ·simpa using (form_digit hfn c h).1
 have hpre : qpre (qtext r) = (if r.num < 0 then [45] else []) ++ decDigits r.num.natAbs := by
  unfold qpre qtext
  by_cases hd : r.den = 1
  ·rw [if_pos hd, List.append_nil]; exact takeW_all _ hA
  ·rw [if_neg hd]; exact takeW_stop 47 _ (by decide) _ hA
 have hneg : qneg (qtext r) = decide (r.num < 0) := by
  unfold qneg
  rw [hpre]
  by_cases h : r.num < 0
  ·rw [if_pos h]; simp [h]
  ·rw [if_neg h]
   rw [decide_eq_false h, List.nil_append]
   cases hl : decDigits r.num.natAbs with
   | nil => exact absurd hl hfn.1
   | cons c t =>
    have := (form_digit hfn c (by rw [hl]; simp)).2
    simpa using this
 have hn : qn (qtext r) = decDigits r.num.natAbs := by
  unfold qn
  rw [hneg, hpre]
  by_cases h : r.num < 0
  ·simp [h]
  ·simp [h]
 have hsl : qslash (qtext r) = decide (r.den ≠ 1) := by
  unfold qslash
  rw [hpre]
  unfold qtext
  by_cases h : r.den = 1
  ·simp [h]
  ·simp [h]
 have hqd : qd (qtext r) = decDigits r.den := by
  unfold qd
  rw [hsl]
  by_cases h : r.den = 1
  ·simp [h, hd1]
  ·rw [if_pos (by simpa using h), hpre]
   have hdrop : ∀ (A D : List UInt8), (A ++ 47 :: D).drop (A.length + 1) = D := fun A D => by
    rw [show A ++ 47 :: D = (A ++ [47]) ++ D by simp, List.drop_left' (by simp)]
   unfold qtext
   rw [if_neg h]
   exact hdrop _ _
 refine ⟨hneg, hn, hqd, ?_⟩
 unfold QIs
 rw [hn, hneg, hsl, hqd]
 refine ⟨hfn, fun h => ?_, fun h => ?_⟩
 ·have h1 : r.num < 0 := by simpa using h.1
  have h2 := (dval_zero_iff hfn).1 h.2
  rw [(dec_dval _).2] at h2
  omega
 ·have h1 : r.den ≠ 1 := by simpa using h
  refine ⟨fun h2 => ?_, hfd, fun h2 => ?_, fun h2 => ?_⟩
  ·have h2 := (dval_zero_iff hfn).1 h2
   rw [(dec_dval _).2] at h2
   have := r.reduced
   rw [h2, Nat.coprime_zero_left] at this
   exact h1 this
  ·have h2 := (dval_zero_iff hfd).1 h2
   rw [(dec_dval _).2] at h2
   exact r.den_nz h2
  ·have h2 := (dval_one_iff hfd).1 h2
   rw [(dec_dval _).2] at h2
   exact h1 h2
theorem q_text_ok (r : Rat) (h : Small 4000 r) : QErr (qtext r) 0 ∧ qval (qtext r) = r := by
 obtain ⟨h1, h2, h3, h4⟩ := q_text r
 refine ⟨.inr (.inr (.inr ⟨h4, ?_, ?_, ?_, rfl⟩)), ?_⟩
 ·rw [h2, decDigits_length]; exact h.1
 ·rw [h3, decDigits_length]; exact h.2
 ·rw [h2, h3, (dec_dval _).2, (dec_dval _).2]; exact r.reduced
 ·unfold qval
  rw [h1, h2, h3, (dec_dval _).2, (dec_dval _).2]
  exact mkq_self r
end
section
set_option maxHeartbeats 1000000
open Go Go.Proofs Go.RowKit Go.Lib

theorem qpre_len (s : List UInt8) (i : Nat) (h1 : ∀ c ∈ s.take i, c ≠ 47) (h2 : i = s.length ∨ s[i]? = some 47) (hi : i ≤ s.length) : (qpre s).length = i := by
 have h := List.take_append_drop i s
 unfold qpre
 rw [← h]
 have hA : ∀ c ∈ s.take i, (c != 47) = true := fun c hc => by simpa using h1 c hc
 rcases h2 with h2 | h2
 ·rw [List.drop_of_length_le (by omega), List.append_nil, takeW_all _ hA]; simp; omega
 ·have hlt : i < s.length := by
   rcases Nat.lt_or_ge i s.length with h | h
   ·exact h
   ·rw [List.getElem?_eq_none h] at h2; cases h2
  rw [List.drop_eq_getElem_cons hlt]
  rw [List.getElem?_eq_getElem hlt] at h2
  rw [Option.some.inj h2, takeW_stop 47 _ (by decide) _ hA]; simp; omega

theorem slash_calls (s : List UInt8) (hl : s.length ≤ 1099511627776) (w : World) :
  Calls Tryz.prog 136 #[.string ⟨⟨s⟩⟩] w (Ret fun v w' => v = .int .i64 ((qpre s).length : Nat) ∧ w = w') := by
 refine enter Tryz.func136 rfl Tryz.ntmps136 (Nat.le_of_ble_eq_true rfl) ?_
 refine dT rfl ?_
 refine loopR (fun l w' m => ∃ i : Nat, l = [(0, .string ⟨⟨s⟩⟩), (3, .int .i64 (i : Nat))] ∧ i ≤ s.length ∧ (∀ c ∈ s.take i, c ≠ 47) ∧ w = w' ∧ m = s.length - i) ⟨0, rfl, by omega, by simp, rfl, rfl⟩ ⟨rfl, rfl, trivial⟩ ?_
 rintro l w1 m ⟨i, rfl, hi, hd, rfl, rfl⟩
 refine dT rfl ?_
 refine cS rfl rfl rfl rfl (fun hq => ?_) (fun hq => ?_)
 ·have hil : i < s.length := by omega
  have hgd : s.getD i 0 = s[i] := by simp [List.getD, hil]
  refine dS rfl ?_
  simp only [Int.toNat_natCast, hgd]
  refine cS rfl rfl rfl rfl (fun hq => ?_) (fun hq => ?_)
  ·have hc : s[i] = 47 := UInt8.toNat_inj.1 (by simp; omega)
   refine dT rfl ?_
   refine ret Tryz.results136 rfl ⟨_, rfl, ?_, rfl⟩
   rw [qpre_len s i hd (.inr (by rw [List.getElem?_eq_getElem hil, hc])) hi]; rfl
  ·refine dS rfl ?_
   refine rend _ _ ⟨i + 1, rfl, by omega, fun c hc => ?_, rfl, rfl⟩ (by omega) ⟨rfl, iv (by omega), trivial⟩
   rw [List.take_succ_eq_append_getElem hil] at hc
   rcases List.mem_append.1 hc with h | h
   ·exact hd c h
   ·rw [List.mem_singleton.1 h]
    rintro e
    apply hq
    rw [e]; rfl
 ·obtain rfl : i = s.length := by omega
  refine dT rfl ?_
  refine ret Tryz.results136 rfl ⟨_, rfl, ?_, rfl⟩
  rw [qpre_len s s.length hd (.inl rfl) hi]; rfl

theorem rdigits_calls (s : List UInt8) (hl : s.length ≤ 1099511627776) (w : World) :
  Calls Tryz.prog 138 #[.string ⟨⟨s⟩⟩] w (Ret fun v w' => (∃ b, v = .bool b ∧ (b = true ↔ Form s)) ∧ w = w') := by
 refine enter Tryz.func138 rfl Tryz.ntmps138 (Nat.le_of_ble_eq_true rfl) ?_
 refine dT rfl ?_
 refine call (f := 166) rfl rfl cb166 (refCheck_calls s (by omega) w) ?_
 rintro v w1 ⟨⟨e, rfl, hc⟩, rfl⟩
 refine ⟨_, rfl, ?_⟩
 refine dT rfl ?_
 rcases hc with ⟨h1, h2, rfl⟩ | ⟨h1, h2, rfl⟩ | ⟨h1, rfl⟩
 ·refine cT rfl rfl rfl rfl ?_
  refine dT rfl ?_
  exact ret Tryz.results138 rfl ⟨_, rfl, ⟨true, rfl, fun _ => h1, fun _ => rfl⟩, rfl⟩
 ·refine cF rfl rfl rfl (by decide) ?_
  refine dT rfl ?_
  refine cT rfl rfl rfl rfl ?_
  refine dT rfl ?_
  exact ret Tryz.results138 rfl ⟨_, rfl, ⟨true, rfl, fun _ => h1, fun _ => rfl⟩, rfl⟩
 ·refine cF rfl rfl rfl (by decide) ?_
  refine dT rfl ?_
  refine cF rfl rfl rfl (by decide) ?_
  refine dT rfl ?_
  exact ret Tryz.results138 rfl ⟨_, rfl, ⟨false, rfl, fun h => (by cases h), fun h => absurd h h1⟩, rfl⟩
end
end Go.Proofs.YtejlpdbiacmfcaaGreatDoor
