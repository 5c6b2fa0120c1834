/-
  Walks of the reference's rational numbers: one, Reduce, Write, Plus.
  Conditions: numbers take fewer than 2^34 limbs.
-/
import Derived.Test.YtfdekppnilffeaaGreatDoorYQ
import Derived.Test.YtfdekppnilffeaaGreatDoorYStr
import Derived.Test.YtfdekppnilffeaaGreatDoorYRG
set_option linter.unusedSimpArgs false
set_option linter.unusedVariables false
set_option maxHeartbeats 1000000
namespace Go.Proofs.YtfdekppnilffeaaGreatDoor
open Go Go.Proofs Go.RowKit Go.Lib

/-- A number of the reference that reads so. -/
def QV (w : World) (v : Value) (m : Bool) (n d : Nat) : Prop := ∃ an cn ad cd, v = .agg ⟨[.bool m, .slice an (lim n).length cn, .slice ad (lim d).length cd]⟩ ∧ RdI w an cn (lim n) ∧ RdI w ad cd (lim d)
theorem QV.below {w w' : World} {v : Value} {m : Bool} {n d : Nat} (h : QV w v m n d) (hb : Below w.heap.size w w') : QV w' v m n d := by
  obtain ⟨an, cn, ad, cd, rfl, h1, h2⟩ := h
  exact ⟨an, cn, ad, cd, rfl, h1.below hb, h2.below hb⟩
theorem RdI.past {w w' : World} {a : Option Addr} {c : Nat} {xs : List Nat} {b t : Nat} {cs : List Value} (h : RdI w a c xs) (hk : Bk w b t cs) (hn : NoInt cs) (hg : w.grownBy w' (some b)) (ht : Nat.beq 3 t = false := by rfl) : RdI w' a c xs :=
  ⟨h.1.past (fun v hv => by obtain ⟨x, _, rfl⟩ := List.mem_map.1 hv; exact ⟨_, _, rfl⟩) hk hn hg, h.2.1, fun g e => (h.2.2 g e).grown hg (fun e' => (h.2.2 g e).ne hk.tg ht (by cases e'; rfl))⟩
theorem ag_q : AggOk Tryz.prog 75 3 := ⟨⟨_, Tryz.underlying75⟩, inf75.sz⟩
/-- A number of the reference that is this one. -/
def QR (w : World) (v : Value) (r : Rat) : Prop := QV w v (decide (r.num < 0)) r.num.natAbs r.den
theorem qr_of {w : World} {v : Value} {m : Bool} {n d : Nat} (hd : d ≠ 0) (h : QV w v (m && decide (n ≠ 0)) (n / Nat.gcd n d) (d / Nat.gcd n d)) : QR w v (mkq m n d) := by
  unfold QR
  rw [mkq_num m n d hd, (mkq_form m n d hd).2]
  rwa [show decide ((mkq m n d).num < 0) = (m && decide (n ≠ 0)) from by
    rw [Bool.eq_iff_iff]; simp [mkq_neg m n d hd]]

theorem rone_calls (w : World) : Calls Tryz.prog 104 #[] w (Ret fun v w' => (∃ a c, v = .slice a (lim 1).length c ∧ RdI w' a c (lim 1)) ∧ Below w.heap.size w w') := by
  refine enter Tryz.func104 rfl Tryz.ntmps104 (Nat.le_of_ble_eq_true rfl) ?_
  refine dr U 600 rfl trivial ?_
  refine bs1 U (v := i64n 1) rfl rfl rfl rfl rfl rfl rfl ?_
  intro w1 hk1 hs1 hg1
  refine dr U 600 rfl trivial ?_
  refine ret Tryz.results104 rfl ⟨_, rfl, ⟨some ⟨w.heap.size, 0, none⟩, 1, by rw [lim_one]; rfl, ?_⟩, (Below.refl _ _).grown hg1 (Nat.le_refl _) (fun k e => by cases e)⟩
  rw [lim_one]; exact ⟨by simpa using hk1.sl 0, by simp, fun g hg => by simp [ab] at hg; subst hg; exact hk1.tg⟩

theorem reduce_calls (m : Bool) (n d : Nat) (hd : d ≠ 0) (a b : Option Addr) (c e : Nat) (w : World) (ha : RdI w a c (lim n)) (hb : RdI w b e (lim d)) (hnl : (lim n).length ≤ 68719476736) (hdl : (lim d).length ≤ 68719476736) :
    Calls Tryz.prog 86 #[.bool m, .slice a (lim n).length c, .slice b (lim d).length e] w
      (Ret fun v w' => QR w' v (mkq m n d) ∧ Below w.heap.size w w') := by
  have hg0 : Nat.gcd n d ≠ 0 := Nat.ne_of_gt (Nat.gcd_pos_of_pos_right n (Nat.pos_of_ne_zero hd))
  refine enter Tryz.func86 rfl Tryz.ntmps86 (Nat.le_of_ble_eq_true rfl) ?_
  refine dr U 600 rfl trivial ?_
  refine al U rfl rfl rfl rfl ?_
  intro bb w0 hb0 hs0 hk0 hg0'
  have hB0 : Below w.heap.size w w0 := (Below.refl _ _).grown hg0' (Nat.le_refl _) (fun k e => by cases e)
  have ha0 := ha.below hB0
  have hbb0 := hb.below hB0
  refine dr U 600 rfl trivial ?_
  refine cS rfl rfl rfl rfl (fun hq => ?_) (fun hq => ?_)
  · have hn : n = 0 := lim_eq_nil.1 (List.length_eq_zero_iff.1 (by omega))
    subst hn
    refine dr U 600 rfl trivial ?_
    refine call (f := 104) rfl rfl cb104 (rone_calls w0) ?_
    rintro v w1 ⟨⟨a1, c1, rfl, h1⟩, hB⟩
    refine ⟨_, rfl, ?_⟩
    have hk1 := hk0.below hB (by omega)
    have hB1 := bl_tr hB0 hB hB0.size
    refine dr U 600 rfl trivial ?_
    refine st U rfl rfl rfl rfl rfl rfl rfl rfl rfl rfl (hk1) ?_
    intro w2 hkW hgW hsW
    refine dr U 600 rfl trivial ?_
    have hBW := hB1.grown hgW hB1.size (fun k e => by cases e; omega)
    refine retS Tryz.results86 (vs := [_]) ⟨⟨_, rfl, run_load_agg ag_q hkW rfl⟩, trivial⟩ ⟨_, rfl, ?_, hBW⟩
    refine qr_of hd ?_
    rw [Nat.gcd_zero_left, Nat.zero_div, Nat.div_self (Nat.pos_of_ne_zero hd)]
    exact ⟨none, 0, a1, c1, by simp [lim_zero, pack], by rw [lim_zero]; exact RdI.nil _, h1.past hk1 ni0 hgW⟩
  · have hn : n ≠ 0 := fun h => hq (by rw [h, lim_zero]; rfl)
    have hdn : decide (n ≠ 0) = true := decide_eq_true hn
    refine dr U 600 rfl trivial ?_
    refine call (f := 103) rfl rfl cb103 (common_calls n d a b c e w0 ha0 hbb0 hnl hdl) ?_
    rintro v w1 ⟨⟨ag, cg, rfl, hg⟩, hB1'⟩
    refine ⟨_, rfl, ?_⟩
    have hk1 := hk0.below hB1' (by omega)
    have hB1 := bl_tr hB0 hB1' hB0.size
    have ha1 := ha0.below hB1'
    have hb1 := hbb0.below hB1'
    have hgl : (lim (Nat.gcd n d)).length ≤ 68719476736 := Nat.le_trans (lim_len_mono (Nat.gcd_le_left d (Nat.pos_of_ne_zero hn))) hnl
    refine dr U 600 rfl trivial ?_
    refine call (f := 118) rfl rfl cb118 (divide_calls n (Nat.gcd n d) (Nat.pos_of_ne_zero hg0) a ag c cg w1 ha1 hg hnl hgl) ?_
    rintro v w2 ⟨v1, v2, rfl, ⟨a3, c3, rfl, hr3⟩, _, hB2'⟩
    refine ⟨_, rfl, ?_⟩
    have hk2 := hk1.below hB2' (by have := hB1'.size; omega)
    have hB2 := bl_tr hB1 hB2' hB1.size
    refine dr U 600 rfl trivial ?_
    refine call (f := 118) rfl rfl cb118 (divide_calls d (Nat.gcd n d) (Nat.pos_of_ne_zero hg0) b ag e cg w2 (hb1.below hB2') (hg.below hB2') hdl hgl) ?_
    rintro v w3 ⟨v3, v4, rfl, ⟨a4, c4, rfl, hr4⟩, _, hB3'⟩
    refine ⟨_, rfl, ?_⟩
    have hk3 := hk2.below hB3' (by have := hB1'.size; have := hB2'.size; omega)
    have hB3 := bl_tr hB2 hB3' hB2.size
    refine dr U 600 rfl trivial ?_
    refine st U rfl rfl rfl rfl rfl rfl rfl rfl rfl rfl (hk3) ?_
    intro w4 hkW hgW hsW
    refine dr U 600 rfl trivial ?_
    have hBW := hB3.grown hgW hB3.size (fun k e => by cases e; omega)
    refine retS Tryz.results86 (vs := [_]) ⟨⟨_, rfl, run_load_agg ag_q hkW rfl⟩, trivial⟩ ⟨_, rfl, ?_, hBW⟩
    refine qr_of hd ?_
    rw [hdn, Bool.and_true]
    exact ⟨a3, c3, a4, c4, rfl, (hr3.below hB3').past hk3 ni0 hgW, hr4.past hk3 ni0 hgW⟩


theorem rwrite_calls (m : Bool) (n d : Nat) (v : Value) (w : World) (hv : QV w v m n d) (hnl : (lim n).length ≤ 68719476736) (hdl : (lim d).length ≤ 68719476736) (hnD : nDigits n ≤ 1000000000000) (hdD : nDigits d ≤ 1000000000000) :
    Calls Tryz.prog 55 #[v] w (Ret fun r w' => FRes m n d r ∧ Below w.heap.size w w') := by
  obtain ⟨an, cn, ad, cd, rfl, h1, h2⟩ := hv
  have hln := decDigits_length n
  have hld := decDigits_length d
  refine enter Tryz.func55 rfl Tryz.ntmps55 (Nat.le_of_ble_eq_true rfl) ?_
  refine dr U 600 rfl trivial ?_
  refine bx rfl rfl rfl rfl ?_
  intro b w0 hb0 hs0 hk0 hg0
  have hB0 : Below w.heap.size w w0 := (Below.refl _ _).grown hg0 (Nat.le_refl _) (fun k e => by cases e)
  have h10 := h1.below hB0
  have h20 := h2.below hB0
  refine dr U 600 rfl trivial ?_
  refine dwn 7 (fun W => W.cell? ⟨b, 1, none⟩ = some (.slice an (lim n).length cn) ∧ W.cell? ⟨b, 2, none⟩ = some (.slice ad (lim d).length cd)) hmo ?_
  intro w1 hh1 hg1
  have hk1 := heap_bk hh1 hk0
  have hC1 : w1.cell? ⟨b, 1, none⟩ = some (.slice an (lim n).length cn) ∧ w1.cell? ⟨b, 2, none⟩ = some (.slice ad (lim d).length cd) := ⟨hk1.cell rfl, hk1.cell rfl⟩
  refine dq U [0,1,3,4] [(1, .slice an (lim n).length cn), (4, .slice ad (lim d).length cd)] (by kernel_rfl) rfl rfl hC1 (by simp only [AllP, InR, List.nil_append, List.cons_append]; (repeat' apply And.intro); all_goals first | exact True.intro | omega | (simp only [List.length_cons, List.length_nil]; omega) | (intro w_ hw_; refine ldC U rfl hw_ ?_; first | assumption | (simp [add_plain]; assumption)) | (intro w_ hw_; refine run_load_cell U rfl ?_; first | exact hw_ | exact hw_.1 | exact hw_.2 | exact hw_.2.1 | exact hw_.2.2 | exact hw_.2.2.1 | exact hw_.2.2.2 | (simp [add_plain]; first | exact hw_.1 | exact hw_.2.1 | exact hw_.2.2))) ?_
  have hB1' : Below w0.heap.size w0 w1 := (Below.refl _ _).grown hg1 (Nat.le_refl _) (fun k e => by cases e)
  have hB1 := bl_tr hB0 hB1' hB0.size
  have h11 := h10.below hB1'
  have h21 := h20.below hB1'
  refine d1 rfl rfl (fun _ => hC1) ?_
  refine call (f := 84) rfl rfl cb84 (write_ref n an cn w1 h11 hnl) ?_
  rintro v w2 ⟨rfl, hB2'⟩
  refine ⟨_, rfl, d2 ?_⟩
  have hB2 := bl_tr hB1 hB2' hB1.size
  have hk2 := hk1.below hB2' hk1.lt
  have h22 := h21.below hB2'
  refine d1 rfl rfl (fun _ => ⟨hk2.cell rfl, hk2.cell rfl⟩) ?_
  refine call (f := 84) rfl rfl cb84 (write_ref d ad cd w2 h22 hdl) ?_
  rintro v w3 ⟨rfl, hB3'⟩
  refine ⟨_, rfl, d2 ?_⟩
  have hBW := bl_tr hB2 hB3' hB2.size
  have hk3 := hk2.below hB3' hk2.lt
  have hC3 : w3.cell? ⟨b, 1, none⟩ = some (.slice an (lim n).length cn) ∧ w3.cell? ⟨b, 2, none⟩ = some (.slice ad (lim d).length cd) := ⟨hk3.cell rfl, hk3.cell rfl⟩
  refine dq U [6] [] (by kernel_rfl) rfl rfl hC3 (by simp only [AllP, InR, List.nil_append, List.cons_append]; (repeat' apply And.intro); all_goals first | exact True.intro | omega | (simp only [List.length_cons, List.length_nil]; omega) | (intro w_ hw_; refine ldC U rfl hw_ ?_; first | assumption | (simp [add_plain]; assumption)) | (intro w_ hw_; refine run_load_cell U rfl ?_; first | exact hw_ | exact hw_.1 | exact hw_.2 | exact hw_.2.1 | exact hw_.2.2 | exact hw_.2.2.1 | exact hw_.2.2.2 | (simp [add_plain]; first | exact hw_.1 | exact hw_.2.1 | exact hw_.2.2))) ?_
  refine d1 rfl rfl (fun _ => hC3) ?_
  refine dr U 600 rfl trivial ?_
  refine d3 ?_; refine dend rfl (fun h => by cases h) ?_
  refine dr U 600 rfl trivial ?_
  refine cS rfl rfl rfl rfl (fun hq => ?_) (fun hq => ?_)
  · refine dr U 600 rfl trivial ?_
    exact ret Tryz.results55 rfl ⟨_, rfl, .inr ⟨.inl (by omega), rfl⟩, hBW⟩
  · refine dr U 600 rfl trivial ?_
    refine cS rfl rfl rfl rfl (fun hq => ?_) (fun hq => ?_)
    · refine dr U 600 rfl trivial ?_
      exact ret Tryz.results55 rfl ⟨_, rfl, .inr ⟨.inr (by omega), rfl⟩, hBW⟩
    · refine dr U 600 rfl trivial ?_
      refine ld U rfl rfl rfl rfl ((hk3).cell rfl) ?_
      cases m with
      | false =>
        refine dr U 600 rfl trivial ?_
        by_cases hd1 : d = 1
        · have he : decDigits d = [49] := by rw [hd1, decDigits_one (by omega)]; rfl
          refine cF rfl rfl rfl (fun h => h he) ?_
          refine dr U 600 rfl trivial ?_
          refine ret Tryz.results55 rfl ⟨_, rfl, .inl ⟨by omega, by omega, ?_⟩, hBW⟩
          unfold ftext
          rw [if_pos hd1]
          simp [pack, str]
        · refine cT rfl rfl rfl (fun he => hd1 (dec_inj (by rw [he, decDigits_one (by omega)]; rfl))) ?_
          refine dr U 600 rfl (by simp only [AllP, InR, List.nil_append, List.cons_append, and_true, List.length_cons, List.length_nil, List.length_append]; omega) ?_
          refine ret Tryz.results55 rfl ⟨_, rfl, .inl ⟨by omega, by omega, ?_⟩, hBW⟩
          unfold ftext
          rw [if_neg hd1]
          simp [pack, str]
      | true =>
        refine dr U 600 rfl (by simp only [AllP, InR, List.nil_append, List.cons_append, and_true, List.length_cons, List.length_nil, List.length_append]; omega) ?_
        by_cases hd1 : d = 1
        · have he : decDigits d = [49] := by rw [hd1, decDigits_one (by omega)]; rfl
          refine cF rfl rfl rfl (fun h => h he) ?_
          refine dr U 600 rfl trivial ?_
          refine ret Tryz.results55 rfl ⟨_, rfl, .inl ⟨by omega, by omega, ?_⟩, hBW⟩
          unfold ftext
          rw [if_pos hd1]
          simp [pack, str]
        · refine cT rfl rfl rfl (fun he => hd1 (dec_inj (by rw [he, decDigits_one (by omega)]; rfl))) ?_
          refine dr U 600 rfl (by simp only [AllP, InR, List.nil_append, List.cons_append, and_true, List.length_cons, List.length_nil, List.length_append]; omega) ?_
          refine ret Tryz.results55 rfl ⟨_, rfl, .inl ⟨by omega, by omega, ?_⟩, hBW⟩
          unfold ftext
          rw [if_neg hd1]
          simp [pack, str]
theorem rwriteq_calls (r : Rat) (v : Value) (w : World) (hv : QR w v r) (hf : Fits r) (hn : nDigits r.num.natAbs ≤ 1000000000000) (hd : nDigits r.den ≤ 1000000000000) :
    Calls Tryz.prog 55 #[v] w (Ret fun v' w' => QRes r v' ∧ Below w.heap.size w w') :=
  (rwrite_calls _ _ _ v w hv hf.1 hf.2 hn hd).mono (by rintro e w' ⟨v, rfl, h, hB⟩; exact ⟨v, rfl, fres_qres h, hB⟩)

section
variable {P : Program} (U : Tys P) {ro : Option Nat} {n : Nat} {ds : List Deferred} {Q : PT} {l l' : Fr} {w w' : World} {arr : Array Oper} {r : List Oper} {k : List It}
/-- Two bools are compared. -/
theorem eqlB {d : Nat} {t t2 ty : TypeId} {x y : Operand} {ps : String} {af : Array Edge} {g : Option (Nat × Bool)} {a b c : Bool} (hx : ev l x = some (.bool a)) (hy : ev l y = some (.bool b)) (ht : U.tb.u t = some .bool) (hc : (a == b) = c) (hg : gd arr l g = some true) (hd : Nat.blt d n = true)
    (t' : T P ro n ds Q ((d, .bool c) :: l) w (.ops arr r) k) : T P ro n ds Q l w (.ops arr (⟨some d, .binOp .eql t x y t2, ty, ps, af, g⟩ :: r)) k :=
  op1 (v := .bool c) (by intro c h; cases h) hg (put1_some hd) (fun act hf => by
    have h1 := run_equal_bool (P := P) w t a b (U.hu _ _ ht)
    rw [hc] at h1
    simp [execOp, hf.ev hx, hf.ev hy, eqGuard, binOp, h1]) t'
end

theorem mkq_add_same (m : Bool) (a b c d : Nat) (hb : b ≠ 0) (hd : d ≠ 0) : mkq m a b + mkq m c d = mkq m (a * d + c * b) (b * d) := by
  rw [mkq_add m m a b c d hb hd]
  unfold mkq
  congr 1
  cases m <;> simp [Int.neg_add]
theorem mkq_add_lt (m : Bool) (a b c d : Nat) (hb : b ≠ 0) (hd : d ≠ 0) (h : a * d ≤ c * b) : mkq m a b + mkq (!m) c d = mkq (!m) (c * b - a * d) (b * d) := by
  rw [mkq_add m (!m) a b c d hb hd]
  unfold mkq
  congr 1
  generalize a * d = x at *
  generalize c * b = y at *
  cases m <;> simp <;> omega
theorem mkq_add_ge (m : Bool) (a b c d : Nat) (hb : b ≠ 0) (hd : d ≠ 0) (h : c * b ≤ a * d) : mkq m a b + mkq (!m) c d = mkq m (a * d - c * b) (b * d) := by
  rw [mkq_add m (!m) a b c d hb hd]
  unfold mkq
  congr 1
  generalize a * d = x at *
  generalize c * b = y at *
  cases m <;> simp <;> omega
theorem Small.lim {k : Nat} {r : Rat} (h : Small k r) : (lim r.num.natAbs).length ≤ k ∧ (lim r.den).length ≤ k := ⟨Nat.le_trans (lim_le_nD _) h.1, Nat.le_trans (lim_le_nD _) h.2⟩
end Go.Proofs.YtfdekppnilffeaaGreatDoor
