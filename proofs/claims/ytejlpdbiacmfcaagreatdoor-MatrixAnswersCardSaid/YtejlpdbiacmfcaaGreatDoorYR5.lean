/-
  Walk of the reference's reading of a rational number.
  Conditions: texts take fewer than 2^40 bytes.
  How many digits the parts of sums, products and quotients of rational numbers take.
  No conditions: each theorem names its own premises.
  Walk of the reference's sum of two texts.
  Engine rules: an empty slice literal, a whole slice appended to a slice that the call owns, operations on bytes.
-/
import Derived.Test.YtejlpdbiacmfcaaGreatDoorYSto
import Derived.Test.YtejlpdbiacmfcaaGreatDoorYBld
import Derived.Test.YtejlpdbiacmfcaaGreatDoorYPar
import Derived.Test.YtejlpdbiacmfcaaGreatDoorYR3
import Derived.Laws.OwnMore
set_option linter.unusedSimpArgs false
set_option linter.unusedVariables false
namespace Go.Proofs.YtejlpdbiacmfcaaGreatDoor
section
set_option maxHeartbeats 1000000
open Go Go.Proofs Go.RowKit Go.Lib

def zq : Value := .agg ⟨[.bool false, .slice none 0 0, .slice none 0 0]⟩
theorem ineg_q (s : List UInt8) : ineg (qpre s) = qneg s ∧ irest (qpre s) = qn s := by
 unfold qn qneg
 cases h : qpre s with
 | nil => exact ⟨rfl, rfl⟩
 | cons c t =>
  obtain ⟨h1, h2⟩ := ineg_cons c t
  rw [h1, h2]
  by_cases hc : c = 45
  ·subst hc; exact ⟨rfl, rfl⟩
  ·refine ⟨?_, ?_⟩
   ·rw [decide_eq_false hc]; simp [hc]
   ·simp [hc]
theorem qpre_take (s : List UInt8) : s.take (qpre s).length = qpre s := by
 unfold qpre
 induction s with
 | nil => rfl
 | cons c t ih =>
  rw [List.takeWhile_cons]
  split
  ·rw [List.length_cons, List.take_succ_cons, ih]
  ·rfl
theorem qpre_le (s : List UInt8) : (qpre s).length ≤ s.length := by
 have := congrArg List.length (qpre_take s)
 rw [List.length_take] at this
 omega
def ReadR (s : List UInt8) (v : Value) (w : World) : Prop :=
 (∃ e, e ≠ 0 ∧ QErr s e ∧ v = .tuple ⟨[zq, .int .i64 e]⟩) ∨ (QErr s 0 ∧ ∃ u, v = .tuple ⟨[u, .int .i64 0]⟩ ∧ QR w u (qval s))

theorem qneg_iok (s : List UInt8) : IOk (qpre s) ↔ Form (qn s) ∧ ¬(qneg s = true ∧ qn s = [48]) := by
 unfold IOk
 rw [(ineg_q s).1, (ineg_q s).2]
theorem cmpN_zero {p q : Nat} : cmpN p q = 0 ↔ p = q := by
 unfold cmpN
 split
 ·constructor <;> intro h <;> omega
 ·split
  ·constructor <;> intro h <;> omega
  ·constructor <;> intro h <;> omega
theorem qd_slash {s : List UInt8} (h : (qpre s).length < s.length) : s.drop ((qpre s).length + 1) = qd s ∧ qslash s = true := by
 have hs : qslash s = true := decide_eq_true h
 refine ⟨?_, hs⟩
 unfold qd
 rw [if_pos hs]
theorem qd_plain {s : List UInt8} (h : ¬ (qpre s).length < s.length) : [49] = qd s ∧ qslash s = false := by
 have hs : qslash s = false := decide_eq_false h
 refine ⟨?_, hs⟩
 unfold qd
 rw [if_neg (by rw [hs]; simp)]


theorem rread_calls (s : List UInt8) (hs : s.length ≤ 1099511627776) (w : World) :
  Calls Tryz.prog 100 #[.string ⟨⟨s⟩⟩] w (Ret fun v w' => ReadR s v w' ∧ Below w.heap.size w w') := by
 have hple := qpre_le s
 have hn0 : (qn s).length ≤ s.length := by
  have := irest_len (qpre s)
  rw [(ineg_q s).2] at this; omega
 refine enter Tryz.func100 rfl Tryz.ntmps100 (Nat.le_of_ble_eq_true rfl) ?_
 refine dT rfl ?_
 refine al U rfl rfl rfl rfl ?_
 intro b w0 hb0 hs0 hk0 hg0
 have hB0 : Below w.heap.size w w0 := (Below.refl _ _).grown hg0 (Nat.le_refl _) (fun k e => by cases e)
 refine dT rfl ?_
 refine call (f := 136) rfl rfl cb136 (slash_calls s hs w0) ?_
 rintro v w1 ⟨rfl, rfl⟩
 refine ⟨_, rfl, ?_⟩
 refine dS rfl ?_
 simp only [Int.toNat_natCast, qpre_take]
 refine call (f := 137) rfl rfl cb137 (rinteger_calls (qpre s) (by omega) w0) ?_
 rintro v w1 ⟨⟨bi, rfl, hbi⟩, rfl⟩
 refine ⟨_, rfl, ?_⟩
 rw [qneg_iok] at hbi
 simp only [(ineg_q s).1, (ineg_q s).2]
 refine dT rfl ?_
 refine cS rfl rfl rfl rfl (fun hq => ?_) (fun hq => ?_)
 ·have hlt : (qpre s).length < s.length := by omega
  obtain ⟨hqd, hsl⟩ := qd_slash hlt
  have hqdl : (qd s).length ≤ s.length := by rw [← hqd]; simp
  cases bi with
  | false =>
   have hno : ¬ QIs s := fun h => by have := hbi.2 ⟨h.1, h.2.1⟩; cases this
   refine dS rfl ?_
   refine dT rfl ?_
   refine st U rfl rfl rfl rfl rfl rfl rfl rfl rfl rfl (hk0) ?_
   intro w9 hkW hgW hsW
   refine dT rfl ?_
   refine retS Tryz.results100 (vs := [_, _]) ⟨⟨_, rfl, run_load_agg ag_q hkW rfl⟩, rfl, trivial⟩ ⟨_, rfl, .inl ⟨3, by decide, (.inl ⟨hno, rfl⟩), rfl⟩, hB0.grown hgW hB0.size (fun k e => by cases e; omega)⟩
  | true =>
   have hn1 := hbi.1 rfl
   refine dS rfl ?_
   simp only [show (((qpre s).length : Int) + 1).toNat = (qpre s).length + 1 from by omega, hqd]
   refine cS rfl rfl rfl rfl (fun hq1 => ?_) (fun hq1 => ?_)
   ·refine dT rfl ?_
    refine call (f := 138) rfl rfl cb138 (rdigits_calls (qd s) (by omega) w0) ?_
    rintro v w1 ⟨⟨bd, rfl, hbd⟩, rfl⟩
    refine ⟨_, rfl, ?_⟩
    cases bd with
    | false =>
     have hno : ¬ QIs s := fun h => by have := hbd.2 (h.2.2 hsl).2.1; cases this
     refine dT rfl ?_
     refine st U rfl rfl rfl rfl rfl rfl rfl rfl rfl rfl (hk0) ?_
     intro w9 hkW hgW hsW
     refine dT rfl ?_
     refine retS Tryz.results100 (vs := [_, _]) ⟨⟨_, rfl, run_load_agg ag_q hkW rfl⟩, rfl, trivial⟩ ⟨_, rfl, .inl ⟨3, by decide, (.inl ⟨hno, rfl⟩), rfl⟩, hB0.grown hgW hB0.size (fun k e => by cases e; omega)⟩
    | true =>
     have hfd := hbd.1 rfl
     refine dT rfl ?_
     refine cS rfl rfl rfl rfl (fun hq2 => ?_) (fun hq2 => ?_)
     ·refine dT rfl ?_
      refine cS rfl rfl rfl rfl (fun hq3 => ?_) (fun hq3 => ?_)
      ·have hQ : QIs s := ⟨hn1.1, hn1.2, fun _ => ⟨hq1, hfd, hq2, hq3⟩⟩
       have hd0 := qd_pos hQ
       have hlq := hqdl
       refine dT rfl ?_
       refine cS rfl rfl rfl rfl (fun hq => ?_) (fun hq => ?_)
       ·refine dT rfl ?_
        refine st U rfl rfl rfl rfl rfl rfl rfl rfl rfl rfl (hk0) ?_
        intro w9 hkW hgW hsW
        refine dT rfl ?_
        refine retS Tryz.results100 (vs := [_, _]) ⟨⟨_, rfl, run_load_agg ag_q hkW rfl⟩, rfl, trivial⟩ ⟨_, rfl, .inl ⟨5, by decide, (.inr (.inl ⟨hQ, .inl (by omega), rfl⟩)), rfl⟩, hB0.grown hgW hB0.size (fun k e => by cases e; omega)⟩
       ·refine dT rfl ?_
        refine cS rfl rfl rfl rfl (fun hq => ?_) (fun hq => ?_)
        ·refine dT rfl ?_
         refine st U rfl rfl rfl rfl rfl rfl rfl rfl rfl rfl (hk0) ?_
         intro w9 hkW hgW hsW
         refine dT rfl ?_
         refine retS Tryz.results100 (vs := [_, _]) ⟨⟨_, rfl, run_load_agg ag_q hkW rfl⟩, rfl, trivial⟩ ⟨_, rfl, .inl ⟨5, by decide, (.inr (.inl ⟨hQ, .inr (by omega), rfl⟩)), rfl⟩, hB0.grown hgW hB0.size (fun k e => by cases e; omega)⟩
        ·have hnl : (qn s).length ≤ 4000 := by omega
         have hdl : (qd s).length ≤ 4000 := by omega
         have hfd : Form (qd s) := hfd
         have hlx := form_len ⟨hQ.1, hnl⟩
         have hly := form_len ⟨hfd, hdl⟩
         refine dT rfl ?_
         refine call (f := 62) rfl rfl cb62 (read_calls (qn s) hQ.1.2.2 (by omega) w0) ?_
         rintro v w3 ⟨a3, c3, rfl, ho3, hB3'⟩
         refine ⟨_, rfl, ?_⟩
         have hB3 := bl_tr hB0 hB3' hB0.size
         have hk3 := hk0.below hB3' hk0.lt
         refine dT rfl ?_
         refine call (f := 62) rfl rfl cb62 (read_calls (qd s) hfd.2.2 (by omega) w3) ?_
         rintro v w4 ⟨a4, c4, rfl, ho4, hB4'⟩
         refine ⟨_, rfl, ?_⟩
         have hB4 := bl_tr hB3 hB4' hB3.size
         have hk4 := hk3.below hB4' hk3.lt
         have hr3 := (ownI_rd ho3).below hB4'
         have hr4 := ownI_rd ho4
         refine dT rfl ?_
         refine al U rfl rfl rfl rfl ?_
         intro bq w5 hbq hs5 hkq hg5
         have hB5' : Below w4.heap.size w4 w5 := (Below.refl _ _).grown hg5 (Nat.le_refl _) (fun k e => by cases e)
         have hB5 := bl_tr hB4 hB5' hB4.size
         have hk5 := hk4.below hB5' hk4.lt
         have hr3 := hr3.below hB5'
         have hr4 := hr4.below hB5'
         refine dT rfl ?_
         refine st U rfl rfl rfl rfl rfl rfl rfl rfl rfl rfl (hkq) ?_
         intro w6 hkq6 hg6 hs6
         have hB6 := hB5.grown hg6 hB5.size (fun k e => by cases e; have := hB4.size; omega)
         have hk6 := hk5.keep hg6 (by intro e; cases e; have := hk4.lt; omega)
         have hr3 := hr3.past hkq ni0 hg6
         have hr4 := hr4.past hkq ni0 hg6
         refine dT rfl ?_
         refine ld U rfl rfl rfl rfl ((hkq6).cell rfl) ?_
         refine dT rfl ?_
         refine ld U rfl rfl rfl rfl ((hkq6).cell rfl) ?_
         refine dT rfl ?_
         refine call (f := 139) rfl rfl cb139 (common_calls _ _ a3 a4 c3 c4 w6 hr3 hr4 (by omega) (by omega)) ?_
         rintro v w7 ⟨⟨ag, cg, rfl, hg⟩, hB7'⟩
         refine ⟨_, rfl, ?_⟩
         have hB7 := bl_tr hB6 hB7' hB6.size
         have hgl : (lim (Nat.gcd (dval (qn s)) (dval (qd s)))).length ≤ 68719476736 := Nat.le_trans (lim_len_mono (Nat.gcd_le_right _ (Nat.pos_of_ne_zero hd0))) (by omega)
         refine dT rfl ?_
         refine call (f := 64) rfl rfl cb64 (rone_calls w7) ?_
         rintro v w8 ⟨⟨a1, c1, rfl, h1⟩, hB8'⟩
         refine ⟨_, rfl, ?_⟩
         have hB8 := bl_tr hB7 hB8' hB7.size
         refine dT rfl ?_
         refine call (f := 103) rfl rfl cb103 (order_calls _ _ ag a1 cg c1 w8 (hg.below hB8') h1 (by omega) (by rw [lim_one]; decide)) ?_
         rintro v w9 ⟨rfl, hB9'⟩
         refine ⟨_, rfl, ?_⟩
         have hB9 := bl_tr hB8 hB9' hB8.size
         have hk9 := ((hk6.below hB7' hk6.lt).below hB8' (by have := hk6.lt; have := hB7'.size; omega)).below hB9' (by have := hk6.lt; have := hB7'.size; have := hB8'.size; omega)
         have hkq9 := ((hkq6.below hB7' hkq6.lt).below hB8' (by have := hkq6.lt; have := hB7'.size; omega)).below hB9' (by have := hkq6.lt; have := hB7'.size; have := hB8'.size; omega)
         have hr3 := ((hr3.below hB7').below hB8').below hB9'
         have hr4 := ((hr4.below hB7').below hB8').below hB9'
         refine dT rfl ?_
         refine cS rfl rfl rfl rfl (fun hq => ?_) (fun hq => ?_)
         ·refine dT rfl ?_
          refine st U rfl rfl rfl rfl rfl rfl rfl rfl rfl rfl (hk9) ?_
          intro w10 hkW hgW hsW
          refine dT rfl ?_
          refine retS Tryz.results100 (vs := [_, _]) ⟨⟨_, rfl, run_load_agg ag_q hkW rfl⟩, rfl, trivial⟩ ⟨_, rfl, .inl ⟨3, by decide, (.inr (.inr (.inl ⟨hQ, hnl, hdl, fun h => hq (cmpN_zero.2 h), rfl⟩))), rfl⟩, hB9.grown hgW hB9.size (fun k e => by cases e; omega)⟩
         ·have hgcd : Nat.gcd (dval (qn s)) (dval (qd s)) = 1 := cmpN_zero.1 (Classical.not_not.1 hq)
          refine dT rfl ?_
          refine lg rfl ag_q rfl rfl hkq9 rfl ?_
          refine dT rfl ?_
          refine st U rfl rfl rfl rfl rfl rfl rfl rfl rfl rfl (hk9) ?_
          intro w10 hk10 hg10 hs10
          refine dT rfl ?_
          refine retS Tryz.results100 (vs := [_, _]) ⟨⟨_, rfl, run_load_agg ag_q hk10 rfl⟩, rfl, trivial⟩ ⟨_, rfl, .inr ⟨.inr (.inr (.inr ⟨hQ, hnl, hdl, hgcd, rfl⟩)), _, rfl, ?_⟩, hB9.grown hg10 hB9.size (fun k e => by cases e; omega)⟩
          have hz : (qneg s && decide (dval (qn s) ≠ 0)) = qneg s := by
           cases hns : qneg s with
           | false => rfl
           | true =>
            have : dval (qn s) ≠ 0 := fun h => hQ.2.1 ⟨hns, (dval_zero_iff hQ.1).2 h⟩
            simp [this]
          refine qr_of hd0 ?_
          rw [hgcd, Nat.div_one, Nat.div_one, hz]
          exact ⟨a3, c3, a4, c4, rfl, hr3.past hk9 ni0 hg10, hr4.past hk9 ni0 hg10⟩
      ·have hno : ¬ QIs s := fun h => hq3 (h.2.2 hsl).2.2.2
       refine dT rfl ?_
       refine st U rfl rfl rfl rfl rfl rfl rfl rfl rfl rfl (hk0) ?_
       intro w9 hkW hgW hsW
       refine dT rfl ?_
       refine retS Tryz.results100 (vs := [_, _]) ⟨⟨_, rfl, run_load_agg ag_q hkW rfl⟩, rfl, trivial⟩ ⟨_, rfl, .inl ⟨3, by decide, (.inl ⟨hno, rfl⟩), rfl⟩, hB0.grown hgW hB0.size (fun k e => by cases e; omega)⟩
     ·have hno : ¬ QIs s := fun h => hq2 (h.2.2 hsl).2.2.1
      refine dT rfl ?_
      refine st U rfl rfl rfl rfl rfl rfl rfl rfl rfl rfl (hk0) ?_
      intro w9 hkW hgW hsW
      refine dT rfl ?_
      refine retS Tryz.results100 (vs := [_, _]) ⟨⟨_, rfl, run_load_agg ag_q hkW rfl⟩, rfl, trivial⟩ ⟨_, rfl, .inl ⟨3, by decide, (.inl ⟨hno, rfl⟩), rfl⟩, hB0.grown hgW hB0.size (fun k e => by cases e; omega)⟩
   ·have hno : ¬ QIs s := fun h => hq1 (h.2.2 hsl).1
    refine dT rfl ?_
    refine st U rfl rfl rfl rfl rfl rfl rfl rfl rfl rfl (hk0) ?_
    intro w9 hkW hgW hsW
    refine dT rfl ?_
    refine retS Tryz.results100 (vs := [_, _]) ⟨⟨_, rfl, run_load_agg ag_q hkW rfl⟩, rfl, trivial⟩ ⟨_, rfl, .inl ⟨3, by decide, (.inl ⟨hno, rfl⟩), rfl⟩, hB0.grown hgW hB0.size (fun k e => by cases e; omega)⟩
 ·have hlt : ¬ (qpre s).length < s.length := by omega
  obtain ⟨hqd, hsl⟩ := qd_plain hlt
  have hqdl : (qd s).length ≤ 1 := by rw [← hqd]; simp
  cases bi with
  | false =>
   have hno : ¬ QIs s := fun h => by have := hbi.2 ⟨h.1, h.2.1⟩; cases this
   refine dT rfl ?_
   refine st U rfl rfl rfl rfl rfl rfl rfl rfl rfl rfl (hk0) ?_
   intro w9 hkW hgW hsW
   refine dT rfl ?_
   refine retS Tryz.results100 (vs := [_, _]) ⟨⟨_, rfl, run_load_agg ag_q hkW rfl⟩, rfl, trivial⟩ ⟨_, rfl, .inl ⟨3, by decide, (.inl ⟨hno, rfl⟩), rfl⟩, hB0.grown hgW hB0.size (fun k e => by cases e; omega)⟩
  | true =>
   have hn1 := hbi.1 rfl
   have hQ : QIs s := ⟨hn1.1, hn1.2, fun h => by rw [hsl] at h; cases h⟩
   have hd0 := qd_pos hQ
   have hf1 : Form (qd s) := by rw [← hqd]; exact ⟨by simp, .inr (by decide), fun c hc => by rw [List.mem_singleton.1 hc]; exact ⟨by decide, by decide⟩⟩
   rw [hqd]
   have hlq := hqdl
   refine dT rfl ?_
   refine cS rfl rfl rfl rfl (fun hq => ?_) (fun hq => ?_)
   ·refine dT rfl ?_
    refine st U rfl rfl rfl rfl rfl rfl rfl rfl rfl rfl (hk0) ?_
    intro w9 hkW hgW hsW
    refine dT rfl ?_
    refine retS Tryz.results100 (vs := [_, _]) ⟨⟨_, rfl, run_load_agg ag_q hkW rfl⟩, rfl, trivial⟩ ⟨_, rfl, .inl ⟨5, by decide, (.inr (.inl ⟨hQ, .inl (by omega), rfl⟩)), rfl⟩, hB0.grown hgW hB0.size (fun k e => by cases e; omega)⟩
   ·refine dT rfl ?_
    refine cS rfl rfl rfl rfl (fun hq => ?_) (fun hq => ?_)
    ·refine dT rfl ?_
     refine st U rfl rfl rfl rfl rfl rfl rfl rfl rfl rfl (hk0) ?_
     intro w9 hkW hgW hsW
     refine dT rfl ?_
     refine retS Tryz.results100 (vs := [_, _]) ⟨⟨_, rfl, run_load_agg ag_q hkW rfl⟩, rfl, trivial⟩ ⟨_, rfl, .inl ⟨5, by decide, (.inr (.inl ⟨hQ, .inr (by omega), rfl⟩)), rfl⟩, hB0.grown hgW hB0.size (fun k e => by cases e; omega)⟩
    ·have hnl : (qn s).length ≤ 4000 := by omega
     have hdl : (qd s).length ≤ 4000 := by omega
     have hfd : Form (qd s) := hf1
     have hlx := form_len ⟨hQ.1, hnl⟩
     have hly := form_len ⟨hfd, hdl⟩
     refine dT rfl ?_
     refine call (f := 62) rfl rfl cb62 (read_calls (qn s) hQ.1.2.2 (by omega) w0) ?_
     rintro v w3 ⟨a3, c3, rfl, ho3, hB3'⟩
     refine ⟨_, rfl, ?_⟩
     have hB3 := bl_tr hB0 hB3' hB0.size
     have hk3 := hk0.below hB3' hk0.lt
     refine dT rfl ?_
     refine call (f := 62) rfl rfl cb62 (read_calls (qd s) hfd.2.2 (by omega) w3) ?_
     rintro v w4 ⟨a4, c4, rfl, ho4, hB4'⟩
     refine ⟨_, rfl, ?_⟩
     have hB4 := bl_tr hB3 hB4' hB3.size
     have hk4 := hk3.below hB4' hk3.lt
     have hr3 := (ownI_rd ho3).below hB4'
     have hr4 := ownI_rd ho4
     refine dT rfl ?_
     refine al U rfl rfl rfl rfl ?_
     intro bq w5 hbq hs5 hkq hg5
     have hB5' : Below w4.heap.size w4 w5 := (Below.refl _ _).grown hg5 (Nat.le_refl _) (fun k e => by cases e)
     have hB5 := bl_tr hB4 hB5' hB4.size
     have hk5 := hk4.below hB5' hk4.lt
     have hr3 := hr3.below hB5'
     have hr4 := hr4.below hB5'
     refine dT rfl ?_
     refine st U rfl rfl rfl rfl rfl rfl rfl rfl rfl rfl (hkq) ?_
     intro w6 hkq6 hg6 hs6
     have hB6 := hB5.grown hg6 hB5.size (fun k e => by cases e; have := hB4.size; omega)
     have hk6 := hk5.keep hg6 (by intro e; cases e; have := hk4.lt; omega)
     have hr3 := hr3.past hkq ni0 hg6
     have hr4 := hr4.past hkq ni0 hg6
     refine dT rfl ?_
     refine ld U rfl rfl rfl rfl ((hkq6).cell rfl) ?_
     refine dT rfl ?_
     refine ld U rfl rfl rfl rfl ((hkq6).cell rfl) ?_
     refine dT rfl ?_
     refine call (f := 139) rfl rfl cb139 (common_calls _ _ a3 a4 c3 c4 w6 hr3 hr4 (by omega) (by omega)) ?_
     rintro v w7 ⟨⟨ag, cg, rfl, hg⟩, hB7'⟩
     refine ⟨_, rfl, ?_⟩
     have hB7 := bl_tr hB6 hB7' hB6.size
     have hgl : (lim (Nat.gcd (dval (qn s)) (dval (qd s)))).length ≤ 68719476736 := Nat.le_trans (lim_len_mono (Nat.gcd_le_right _ (Nat.pos_of_ne_zero hd0))) (by omega)
     refine dT rfl ?_
     refine call (f := 64) rfl rfl cb64 (rone_calls w7) ?_
     rintro v w8 ⟨⟨a1, c1, rfl, h1⟩, hB8'⟩
     refine ⟨_, rfl, ?_⟩
     have hB8 := bl_tr hB7 hB8' hB7.size
     refine dT rfl ?_
     refine call (f := 103) rfl rfl cb103 (order_calls _ _ ag a1 cg c1 w8 (hg.below hB8') h1 (by omega) (by rw [lim_one]; decide)) ?_
     rintro v w9 ⟨rfl, hB9'⟩
     refine ⟨_, rfl, ?_⟩
     have hB9 := bl_tr hB8 hB9' hB8.size
     have hk9 := ((hk6.below hB7' hk6.lt).below hB8' (by have := hk6.lt; have := hB7'.size; omega)).below hB9' (by have := hk6.lt; have := hB7'.size; have := hB8'.size; omega)
     have hkq9 := ((hkq6.below hB7' hkq6.lt).below hB8' (by have := hkq6.lt; have := hB7'.size; omega)).below hB9' (by have := hkq6.lt; have := hB7'.size; have := hB8'.size; omega)
     have hr3 := ((hr3.below hB7').below hB8').below hB9'
     have hr4 := ((hr4.below hB7').below hB8').below hB9'
     refine dT rfl ?_
     refine cS rfl rfl rfl rfl (fun hq => ?_) (fun hq => ?_)
     ·refine dT rfl ?_
      refine st U rfl rfl rfl rfl rfl rfl rfl rfl rfl rfl (hk9) ?_
      intro w10 hkW hgW hsW
      refine dT rfl ?_
      refine retS Tryz.results100 (vs := [_, _]) ⟨⟨_, rfl, run_load_agg ag_q hkW rfl⟩, rfl, trivial⟩ ⟨_, rfl, .inl ⟨3, by decide, (.inr (.inr (.inl ⟨hQ, hnl, hdl, fun h => hq (cmpN_zero.2 h), rfl⟩))), rfl⟩, hB9.grown hgW hB9.size (fun k e => by cases e; omega)⟩
     ·have hgcd : Nat.gcd (dval (qn s)) (dval (qd s)) = 1 := cmpN_zero.1 (Classical.not_not.1 hq)
      refine dT rfl ?_
      refine lg rfl ag_q rfl rfl hkq9 rfl ?_
      refine dT rfl ?_
      refine st U rfl rfl rfl rfl rfl rfl rfl rfl rfl rfl (hk9) ?_
      intro w10 hk10 hg10 hs10
      refine dT rfl ?_
      refine retS Tryz.results100 (vs := [_, _]) ⟨⟨_, rfl, run_load_agg ag_q hk10 rfl⟩, rfl, trivial⟩ ⟨_, rfl, .inr ⟨.inr (.inr (.inr ⟨hQ, hnl, hdl, hgcd, rfl⟩)), _, rfl, ?_⟩, hB9.grown hg10 hB9.size (fun k e => by cases e; omega)⟩
      have hz : (qneg s && decide (dval (qn s) ≠ 0)) = qneg s := by
       cases hns : qneg s with
       | false => rfl
       | true =>
        have : dval (qn s) ≠ 0 := fun h => hQ.2.1 ⟨hns, (dval_zero_iff hQ.1).2 h⟩
        simp [this]
      refine qr_of hd0 ?_
      rw [hgcd, Nat.div_one, Nat.div_one, hz]
      exact ⟨a3, c3, a4, c4, rfl, hr3.past hk9 ni0 hg10, hr4.past hk9 ni0 hg10⟩

theorem ni3 (m : Bool) (a1 : Option Addr) (n1 c1 : Nat) (a2 : Option Addr) (n2 c2 : Nat) : NoInt [.bool m, .slice a1 n1 c1, .slice a2 n2 c2] := fun v hv k x => by simp at hv; rcases hv with rfl | rfl | rfl <;> intro h <;> cases h
theorem QR.past {w w' : World} {v : Value} {r : Rat} {b t : Nat} {cs : List Value} (h : QR w v r) (hk : Bk w b t cs) (hn : NoInt cs) (hg : w.grownBy w' (some b)) (ht : Nat.beq 3 t = false := by rfl) : QR w' v r := by
 obtain ⟨an, cn, ad, cd, rfl, h1, h2⟩ := h
 exact ⟨an, cn, ad, cd, rfl, h1.past hk hn hg ht, h2.past hk hn hg ht⟩
theorem QR.stay {w w' : World} {v : Value} {r : Rat} (h : QR w v r) (hb : Below w.heap.size w w') : QR w' v r := QV.below h hb
theorem ReadR.cases {s : List UInt8} {v : Value} {w : World} (h : ReadR s v w) : ∃ m a1 n1 c1 a2 n2 c2 e, v = .tuple ⟨[.agg ⟨[.bool m, .slice a1 n1 c1, .slice a2 n2 c2]⟩, .int .i64 e]⟩ ∧ QErr s e ∧ (e = 0 → QR w (.agg ⟨[.bool m, .slice a1 n1 c1, .slice a2 n2 c2]⟩) (qval s)) := by
 rcases h with ⟨e, h1, h2, rfl⟩ | ⟨h1, u, rfl, h2⟩
 ·exact ⟨_, _, _, _, _, _, _, e, rfl, h2, fun h => absurd h h1⟩
 ·obtain ⟨an, cn, ad, cd, rfl, h3⟩ := h2
  exact ⟨_, _, _, _, _, _, _, 0, rfl, h1, fun _ => ⟨an, cn, ad, cd, rfl, h3⟩⟩

def Two (s t : List UInt8) (e : Int) : Prop := (e ≠ 0 ∧ QErr s e) ∨ (QErr s 0 ∧ QErr t e)
theorem Two.uniq {s t : List UInt8} {e f : Int} (h : Two s t e) (h' : Two s t f) : e = f := by
 rcases h with ⟨h1, h2⟩ | ⟨h1, h2⟩ <;> rcases h' with ⟨g1, g2⟩ | ⟨g1, g2⟩
 ·exact h2.uniq g2
 ·exact absurd (h2.uniq g1) h1
 ·exact absurd (g2.uniq h1) g1
 ·exact h2.uniq g2
theorem Two.ok {s t : List UInt8} (h : Two s t 0) : QErr s 0 ∧ QErr t 0 := by
 rcases h with ⟨h1, _⟩ | h
 ·exact absurd rfl h1
 ·exact h

def TwoR (s t : List UInt8) (v : Value) (w : World) : Prop :=
 ∃ m a1 n1 c1 a2 n2 c2 m' a1' n1' c1' a2' n2' c2' e, v = .tuple ⟨[.agg ⟨[.bool m, .slice a1 n1 c1, .slice a2 n2 c2]⟩, .agg ⟨[.bool m', .slice a1' n1' c1', .slice a2' n2' c2']⟩, .int .i64 e]⟩ ∧ Two s t e ∧
  (e = 0 → QR w (.agg ⟨[.bool m, .slice a1 n1 c1, .slice a2 n2 c2]⟩) (qval s) ∧ QR w (.agg ⟨[.bool m', .slice a1' n1' c1', .slice a2' n2' c2']⟩) (qval t))
theorem rtwo_calls (s t : List UInt8) (hs : s.length ≤ 1099511627776) (ht : t.length ≤ 1099511627776) (w : World) :
  Calls Tryz.prog 57 #[.string ⟨⟨s⟩⟩, .string ⟨⟨t⟩⟩] w (Ret fun v w' => TwoR s t v w' ∧ Below w.heap.size w w') := by
 refine enter Tryz.func57 rfl Tryz.ntmps57 (Nat.le_of_ble_eq_true rfl) ?_
 refine dT rfl ?_
 refine al U rfl rfl rfl rfl ?_
 intro b4 wa hb4 hsa hk4 hga
 refine al U rfl rfl rfl rfl ?_
 intro b5 w0 hb5 hs0 hk5 hg0
 have hk4 := hk4.keep hg0 (by simp)
 have hB0 : Below w.heap.size w w0 := ((Below.refl _ _).grown hga (Nat.le_refl _) (fun k e => by cases e)).grown hg0 (by omega) (fun k e => by cases e)
 refine dT rfl ?_
 refine call (f := 100) rfl rfl cb100 (rread_calls s hs w0) ?_
 rintro v w1 ⟨hr, hB1'⟩
 obtain ⟨m, a1, n1, c1, a2, n2, c2, e, rfl, hqe, hqr⟩ := hr.cases
 refine ⟨_, rfl, ?_⟩
 have hB1 := bl_tr hB0 hB1' hB0.size
 have hk4 := hk4.below hB1' hk4.lt
 have hk5 := hk5.below hB1' hk5.lt
 have hl1 := hB1'.size
 refine dT rfl ?_
 refine al U rfl rfl rfl rfl ?_
 intro b7 w2 hb7 hs2 hk7 hg2
 have HK7 := hk7
 have hB2 := hB1.grown hg2 hB1.size (fun k e => by cases e)
 have hk4 := hk4.keep hg2 (by simp)
 have hk5 := hk5.keep hg2 (by simp)
 refine dT rfl ?_
 refine st U rfl rfl rfl rfl rfl rfl rfl rfl rfl rfl (hk7) ?_
 intro w3 hk7 hg3 hs3
 have hB3 := hB2.grown hg3 hB2.size (fun k e => by cases e; omega)
 have hk4 := hk4.keep hg3 (by intro e; cases e; omega)
 have hk5 := hk5.keep hg3 (by intro e; cases e; omega)
 have hq3 : e = 0 → QR w3 (.agg ⟨[.bool m, .slice a1 n1 c1, .slice a2 n2 c2]⟩) (qval s) := fun h => ((hqr h).stay ((Below.refl _ _).grown hg2 (Nat.le_refl _) (fun k e => by cases e))).past HK7 ni0 hg3
 refine dT rfl ?_
 refine cS rfl rfl rfl rfl (fun hq => ?_) (fun hq => ?_)
 ·refine dT rfl ?_
  refine dwn 5 (fun W => Bk W b7 86 [.bool m, .slice a1 n1 c1, .slice a2 n2 c2] ∧ Bk W b7 86 [.bool m, .slice a1 n1 c1, .slice a2 n2 c2]) hmo ?_
  intro wD hhD hgD
  have hkD7 := heap_bk hhD hk7
  have hkDY := heap_bk hhD hk7
  have hBDs : Below w3.heap.size w3 wD := (Below.refl _ _).grown hgD (Nat.le_refl _) (fun k e => by cases e)
  have hBD := bl_tr hB3 hBDs hB3.size
  have hk4 := hk4.below hBDs hk4.lt
  have hk5 := hk5.below hBDs hk5.lt
  refine dq U [0,1,2] [(0, .agg ⟨[.bool m, .slice a1 n1 c1, .slice a2 n2 c2]⟩), (1, .agg ⟨[.bool m, .slice a1 n1 c1, .slice a2 n2 c2]⟩)] (by kernel_rfl) rfl rfl ⟨hkD7, hkDY⟩ (by simp only [AllP, InR, List.nil_append, List.cons_append]; (repeat' apply And.intro); all_goals first | exact True.intro | omega | exact fun w h => run_load_agg ag_q h.1 rfl | exact fun w h => run_load_agg ag_q h.2 rfl) ?_
  refine d1 rfl rfl (fun _ => ⟨hkD7, hkDY⟩) ?_
  refine st U rfl rfl rfl rfl rfl rfl rfl rfl rfl rfl (hk4) ?_
  intro wE hkE hgE hsE
  refine d2 ?_
  have hkE7 := hkD7.keep hgE (by intro e; cases e; omega)
  have hkEY := hkDY.keep hgE (by intro e; cases e; omega)
  have hk5 := hk5.keep hgE (by intro e; cases e; omega)
  have hBE := hBD.grown hgE hBD.size (fun k e => by cases e; omega)
  refine d1 rfl rfl (fun _ => ⟨hkE7, hkEY⟩) ?_
  refine st U rfl rfl rfl rfl rfl rfl rfl rfl rfl rfl (hk5) ?_
  intro wF hkF hgF hsF
  refine d2 ?_
  have hkF7 := hkE7.keep hgF (by intro e; cases e; omega)
  have hkFY := hkEY.keep hgF (by intro e; cases e; omega)
  have hkF4 := hkE.keep hgF (by intro e; cases e; omega)
  have hBF := hBE.grown hgF hBE.size (fun k e => by cases e; omega)
  refine d1 rfl rfl (fun _ => ⟨hkF7, hkFY⟩) ?_
  refine dT rfl ?_
  refine d3 ?_; refine dend rfl (fun h => by cases h) ?_
  refine dT rfl ?_
  exact retS Tryz.results57 (vs := [_, _, _]) ⟨⟨_, rfl, run_load_agg ag_q hkF4 rfl⟩, ⟨_, rfl, run_load_agg ag_q hkF rfl⟩, rfl, trivial⟩ ⟨_, rfl, ⟨_, _, _, _, _, _, _, _, _, _, _, _, _, _, e, rfl, .inl ⟨hq, hqe⟩, fun h => absurd h hq⟩, hBF⟩
 ·obtain rfl := Classical.not_not.1 hq
  refine dT rfl ?_
  refine call (f := 100) rfl rfl cb100 (rread_calls t ht w3) ?_
  rintro v w4 ⟨hr, hB4'⟩
  obtain ⟨m', a1', n1', c1', a2', n2', c2', e', rfl, hqe', hqr'⟩ := hr.cases
  refine ⟨_, rfl, ?_⟩
  have hB4 := bl_tr hB3 hB4' hB3.size
  have hk4 := hk4.below hB4' hk4.lt
  have hk5 := hk5.below hB4' hk5.lt
  have hk7 := hk7.below hB4' hk7.lt
  have hl4 := hB4'.size
  refine dT rfl ?_
  refine al U rfl rfl rfl rfl ?_
  intro b9 w5 hb9 hs5 hk9 hg5
  have hB5 := hB4.grown hg5 hB4.size (fun k e => by cases e)
  have hk4 := hk4.keep hg5 (by simp)
  have hk5 := hk5.keep hg5 (by simp)
  have hk7 := hk7.keep hg5 (by simp)
  have HK9 := hk9
  refine dT rfl ?_
  refine st U rfl rfl rfl rfl rfl rfl rfl rfl rfl rfl (hk9) ?_
  intro w6 hk9 hg6 hs6
  have hB6 := hB5.grown hg6 hB5.size (fun k e => by cases e; omega)
  have hk4 := hk4.keep hg6 (by intro e; cases e; omega)
  have hk5 := hk5.keep hg6 (by intro e; cases e; omega)
  have hk7 := hk7.keep hg6 (by intro e; cases e; omega)
  have hg5b : Below w4.heap.size w4 w5 := (Below.refl _ _).grown hg5 (Nat.le_refl _) (fun k e => by cases e)
  have hq6 : QR w6 (.agg ⟨[.bool m, .slice a1 n1 c1, .slice a2 n2 c2]⟩) (qval s) := (((hq3 rfl).stay hB4').stay hg5b).past HK9 ni0 hg6
  have hq6' : e' = 0 → QR w6 (.agg ⟨[.bool m', .slice a1' n1' c1', .slice a2' n2' c2']⟩) (qval t) := fun h => ((hqr' h).stay hg5b).past HK9 ni0 hg6
  refine dT rfl ?_
  refine dwn 5 (fun W => Bk W b7 86 [.bool m, .slice a1 n1 c1, .slice a2 n2 c2] ∧ Bk W b9 86 [.bool m', .slice a1' n1' c1', .slice a2' n2' c2']) hmo ?_
  intro wD hhD hgD
  have hkD7 := heap_bk hhD hk7
  have hkDY := heap_bk hhD hk9
  have hBDs : Below w6.heap.size w6 wD := (Below.refl _ _).grown hgD (Nat.le_refl _) (fun k e => by cases e)
  have hBD := bl_tr hB6 hBDs hB6.size
  have hk4 := hk4.below hBDs hk4.lt
  have hk5 := hk5.below hBDs hk5.lt
  refine dq U [0,1,2] [(0, .agg ⟨[.bool m, .slice a1 n1 c1, .slice a2 n2 c2]⟩), (1, .agg ⟨[.bool m', .slice a1' n1' c1', .slice a2' n2' c2']⟩)] (by kernel_rfl) rfl rfl ⟨hkD7, hkDY⟩ (by simp only [AllP, InR, List.nil_append, List.cons_append]; (repeat' apply And.intro); all_goals first | exact True.intro | omega | exact fun w h => run_load_agg ag_q h.1 rfl | exact fun w h => run_load_agg ag_q h.2 rfl) ?_
  refine d1 rfl rfl (fun _ => ⟨hkD7, hkDY⟩) ?_
  refine st U rfl rfl rfl rfl rfl rfl rfl rfl rfl rfl (hk4) ?_
  intro wE hkE hgE hsE
  refine d2 ?_
  have hkE7 := hkD7.keep hgE (by intro e; cases e; omega)
  have hkEY := hkDY.keep hgE (by intro e; cases e; omega)
  have hk5 := hk5.keep hgE (by intro e; cases e; omega)
  have hBE := hBD.grown hgE hBD.size (fun k e => by cases e; omega)
  refine d1 rfl rfl (fun _ => ⟨hkE7, hkEY⟩) ?_
  refine st U rfl rfl rfl rfl rfl rfl rfl rfl rfl rfl (hk5) ?_
  intro wF hkF hgF hsF
  refine d2 ?_
  have hkF7 := hkE7.keep hgF (by intro e; cases e; omega)
  have hkFY := hkEY.keep hgF (by intro e; cases e; omega)
  have hkF4 := hkE.keep hgF (by intro e; cases e; omega)
  have hBF := hBE.grown hgF hBE.size (fun k e => by cases e; omega)
  refine d1 rfl rfl (fun _ => ⟨hkF7, hkFY⟩) ?_
  refine dT rfl ?_
  refine d3 ?_; refine dend rfl (fun h => by cases h) ?_
  refine dT rfl ?_
  refine retS Tryz.results57 (vs := [_, _, _]) ⟨⟨_, rfl, run_load_agg ag_q hkF4 rfl⟩, ⟨_, rfl, run_load_agg ag_q hkF rfl⟩, rfl, trivial⟩ ⟨_, rfl, ⟨_, _, _, _, _, _, _, _, _, _, _, _, _, _, e', rfl, .inr ⟨hqe, hqe'⟩, fun h => ?_⟩, hBF⟩
  exact ⟨((hq6.stay hBDs).past hk4 ni0 hgE).past hk5 ni0 hgF, (((hq6' h).stay hBDs).past hk4 ni0 hgE).past hk5 ni0 hgF⟩
end
section
open Go.Lib

theorem nD_sum (m n k : Nat) (h1 : nDigits m ≤ k) (h2 : nDigits n ≤ k) : nDigits (m + n) ≤ k + 1 := by
 refine nD_le _ _ (by omega) ?_
 have h3 := Nat.lt_of_lt_of_le (lt_pow_nDigits m) (Nat.pow_le_pow_right (n := 10) (by omega) h1)
 have h4 := Nat.lt_of_lt_of_le (lt_pow_nDigits n) (Nat.pow_le_pow_right (n := 10) (by omega) h2)
 rw [Nat.pow_succ]
 omega
theorem mkRat_mkq (z : Int) (d : Nat) : mkRat z d = mkq (decide (z < 0)) z.natAbs d := by
 unfold mkq
 congr 1
 by_cases h : z < 0
 ·rw [if_pos (by simpa using h)]; omega
 ·rw [if_neg (by simpa using h)]; omega
theorem small_add {K L : Nat} {p q : Rat} (hp : Small K p) (hq : Small L q) : Small (K + L + 1) (p + q) := by
 have e : p + q = mkq (decide (p.num < 0)) p.num.natAbs p.den + mkq (decide (q.num < 0)) q.num.natAbs q.den := by rw [mkq_self, mkq_self]
 rw [e, mkq_add _ _ _ _ _ _ p.den_nz q.den_nz, mkRat_mkq]
 have h1 := nD_mul p.num.natAbs q.den
 have h2 := nD_mul q.num.natAbs p.den
 have h3 := nD_mul p.den q.den
 have a1 := hp.1
 have a2 := hp.2
 have b1 := hq.1
 have b2 := hq.2
 refine mkq_small (Nat.mul_ne_zero p.den_nz q.den_nz) ?_ (by omega)
 refine Nat.le_trans (nD_mono (n := p.num.natAbs * q.den + q.num.natAbs * p.den) ?_) (nD_sum _ _ _ (by omega) (by omega))
 generalize p.num.natAbs * q.den = x
 generalize q.num.natAbs * p.den = y
 split <;> split <;> omega
theorem small_mul {K L : Nat} {p q : Rat} (hp : Small K p) (hq : Small L q) : Small (K + L) (p * q) := by
 have e : p * q = mkq (decide (p.num < 0)) p.num.natAbs p.den * mkq (decide (q.num < 0)) q.num.natAbs q.den := by rw [mkq_self, mkq_self]
 rw [e, mkq_mul]
 have h1 := nD_mul p.num.natAbs q.num.natAbs
 have h3 := nD_mul p.den q.den
 have a1 := hp.1
 have a2 := hp.2
 have b1 := hq.1
 have b2 := hq.2
 exact mkq_small (Nat.mul_ne_zero p.den_nz q.den_nz) (by omega) (by omega)
theorem small_neg {K : Nat} {p : Rat} (hp : Small K p) : Small K (-p) := by
 unfold Small at *
 rw [Rat.neg_num, Rat.neg_den, Int.natAbs_neg]; exact hp
theorem small_mono {K L : Nat} {p : Rat} (hp : Small K p) (h : K ≤ L) : Small L p := ⟨Nat.le_trans hp.1 h, Nat.le_trans hp.2 h⟩
end
section
set_option maxHeartbeats 1000000
open Go Go.Proofs Go.RowKit Go.Lib

theorem QErr.ok {s : List UInt8} (h : QErr s 0) : QIs s ∧ (qn s).length ≤ 4000 ∧ (qd s).length ≤ 4000 ∧ Nat.gcd (dval (qn s)) (dval (qd s)) = 1 := by
 rcases h with ⟨_, h⟩ | ⟨_, _, h⟩ | ⟨_, _, _, _, h⟩ | ⟨h1, h2, h3, h4, _⟩
 ·cases h
 ·cases h
 ·cases h
 ·exact ⟨h1, h2, h3, h4⟩
theorem qd_form {s : List UInt8} (h : QIs s) : Form (qd s) := by
 by_cases hs : qslash s = true
 ·exact (h.2.2 hs).2.1
 ·unfold qd
  rw [if_neg hs]; exact ⟨by simp, .inr (by decide), fun c hc => by rw [List.mem_singleton.1 hc]; exact ⟨by decide, by decide⟩⟩
theorem QErr.small {s : List UInt8} (h : QErr s 0) : Small 4000 (qval s) := by
 obtain ⟨h1, h2, h3, h4⟩ := h.ok
 exact mkq_small (qd_pos h1) (form_len ⟨h1.1, h2⟩).1 (form_len ⟨qd_form h1, h3⟩).1
theorem Small.fits {K : Nat} {r : Rat} (h : Small K r) (hK : K ≤ 68719476736) : Fits r := ⟨Nat.le_trans h.lim.1 hK, Nat.le_trans h.lim.2 hK⟩

def BinR (f : Rat → Rat → Rat) (s t : List UInt8) (v : Value) : Prop :=
 (∃ e, e ≠ 0 ∧ Two s t e ∧ v = .tuple ⟨[.string ⟨⟨[]⟩⟩, .int .i64 e]⟩) ∨ (Two s t 0 ∧ QRes (f (qval s) (qval t)) v)
theorem BinR.uniq {f : Rat → Rat → Rat} {s t : List UInt8} {v v' : Value} (h : BinR f s t v) (h' : BinR f s t v') : v = v' := by
 rcases h with ⟨e, h1, h2, rfl⟩ | ⟨h1, h2⟩ <;> rcases h' with ⟨e', g1, g2, rfl⟩ | ⟨g1, g2⟩
 ·rw [h2.uniq g2]
 ·exact absurd (h2.uniq g1) h1
 ·exact absurd (g2.uniq h1) g1
 ·exact h2.uniq g2
theorem BinR.text {f : Rat → Rat → Rat} {p q : Rat} {v : Value} (hp : Small 4000 p) (hq : Small 4000 q) (h : BinR f (qtext p) (qtext q) v) : QRes (f p q) v := by
 have h1 := q_text_ok p hp
 have h2 := q_text_ok q hq
 rcases h with ⟨e, g1, g2, rfl⟩ | ⟨_, g⟩
 ·exact absurd (g2.uniq (.inr ⟨h1.1, h2.1⟩)) g1
 ·rwa [h1.2, h2.2] at g


theorem radd_calls (s t : List UInt8) (hs : s.length ≤ 1099511627776) (ht : t.length ≤ 1099511627776) (w : World) :
  Calls Tryz.prog 23 #[.string ⟨⟨s⟩⟩, .string ⟨⟨t⟩⟩] w (Ret fun v w' => BinR (· + ·) s t v ∧ Below w.heap.size w w') := by
 refine enter Tryz.func23 rfl Tryz.ntmps23 (Nat.le_of_ble_eq_true rfl) ?_
 refine dT rfl ?_
 refine call (f := 57) rfl rfl cb57 (rtwo_calls s t hs ht w) ?_
 rintro v w1 ⟨hr, hB1⟩
 obtain ⟨m, a1, n1, c1, a2, n2, c2, m', a1', n1', c1', a2', n2', c2', e, rfl, hte, hqr⟩ := hr
 refine ⟨_, rfl, ?_⟩
 refine dT rfl ?_
 refine al U rfl rfl rfl rfl ?_
 intro b6 w2 hb6 hs2 hk6 hg2
 refine al U rfl rfl rfl rfl ?_
 intro b7 w3 hb7 hs3 hk7 hg3
 have hk6 := hk6.keep hg3 (by simp)
 have hBa : Below w1.heap.size w1 w3 := ((Below.refl _ _).grown hg2 (Nat.le_refl _) (fun k e => by cases e)).grown hg3 (by omega) (fun k e => by cases e)
 refine st U rfl rfl rfl rfl rfl rfl rfl rfl rfl rfl (hk6) ?_
 intro w4 hk6' hg4 hs4
 have hk7 := hk7.keep hg4 (by intro e; cases e; omega)
 have hB4 := (bl_tr hB1 hBa hB1.size).grown hg4 (by have := hB1.size; omega) (fun k e => by cases e; have := hB1.size; omega)
 refine st U rfl rfl rfl rfl rfl rfl rfl rfl rfl rfl (hk7) ?_
 intro w5 hk7' hg5 hs5
 have hk6' := hk6'.keep hg5 (by intro e; cases e; omega)
 have hB5 := hB4.grown hg5 hB4.size (fun k e => by cases e; have := hB1.size; omega)
 have hqq : e = 0 → QR w5 (.agg ⟨[.bool m, .slice a1 n1 c1, .slice a2 n2 c2]⟩) (qval s) ∧ QR w5 (.agg ⟨[.bool m', .slice a1' n1' c1', .slice a2' n2' c2']⟩) (qval t) := fun h =>
  ⟨(((hqr h).1.stay hBa).past hk6 ni0 hg4).past hk7 ni0 hg5, (((hqr h).2.stay hBa).past hk6 ni0 hg4).past hk7 ni0 hg5⟩
 refine dT rfl ?_
 refine cS rfl rfl rfl rfl (fun hq => ?_) (fun hq => ?_)
 ·refine dT rfl ?_
  exact ret Tryz.results23 rfl ⟨_, rfl, .inl ⟨e, hq, hte, rfl⟩, hB5⟩
 ·obtain rfl := Classical.not_not.1 hq
  obtain ⟨hx, hy⟩ := hqq rfl
  have hsx := hte.ok.1.small
  have hsy := hte.ok.2.small
  refine dT rfl ?_
  refine lg rfl ag_q rfl rfl hk6' rfl ?_
  refine lg rfl ag_q rfl rfl hk7' rfl ?_
  refine call (f := 59) rfl rfl cb59 (rplus_calls _ _ 4000 (by omega) _ _ w5 hx hy hsx hsy) ?_
  rintro v w6 ⟨hv, hB6'⟩
  refine ⟨_, rfl, ?_⟩
  have hB6 := bl_tr hB5 hB6' hB5.size
  have hsz := small_add hsx hsy
  refine dT rfl ?_
  refine call (f := 58) rfl rfl cb58 (rwriteq_calls _ v w6 hv (hsz.fits (by omega)) (Nat.le_trans hsz.1 (by omega)) (Nat.le_trans hsz.2 (by omega))) ?_
  rintro v w7 ⟨hr, hB7'⟩
  obtain ⟨x, e, rfl⟩ := hr.tup
  refine ⟨_, rfl, ?_⟩
  refine dT rfl ?_
  exact ret Tryz.results23 rfl ⟨_, rfl, .inr ⟨hte, hr⟩, bl_tr hB6 hB7' hB6.size⟩
end
section
open Go.RowKit

section
variable {P : Program} (U : Tys P) {ro : Option Nat} {n : Nat} {ds : List Deferred} {Q : PT} {l l' : Fr} {w w' : World} {arr : Array Oper} {r : List Oper} {k : List It}

theorem bs0 {d1 : Nat} {t e ty : TypeId} {ps : String} {af : Array Edge} {g1 : Option (Nat × Bool)} {z : Value} {by_ s : Nat}
  (ht : U.tb.u t = some (.slice e)) (hi : U.tb.inf e = some (s, by_, z)) (hg1 : gd arr l g1 = some true) (hd1 : Nat.blt d1 n = true)
  (t' : ∀ w1, w1.ownsRow w.heap.size e s (.slice (some ⟨w.heap.size, 0, none⟩) 0 0) 0 [] → w1.heap.size = w.heap.size + 1 → w.grownBy w1 none → T P ro n ds Q ((d1, .slice (some ⟨w.heap.size, 0, none⟩) 0 0) :: l) w1 (.ops arr r) k) :
  T P ro n ds Q l w (.ops arr (⟨some d1, .buildSlice t 0 #[], ty, ps, af, g1⟩ :: r)) k := by
 obtain ⟨i, hi0, hz1, hz2, hz3⟩ := U.hi _ _ _ _ hi
 have hpt := U.hu _ _ ht
 refine op1 (w' := w.alloc (.cells #[] e)) (v := .slice (some ⟨w.heap.size, 0, none⟩) 0 0) (by intro c h; cases h) hg1 (put1_some hd1) (fun a hf => ?_) (t' _ (World.ownsRow_made w #[] 0 (Nat.le_refl _) (by decide) (by simp)) (by simp) (World.grownBy_alloc w _ none))
 simp only [execOp, Instr.buildSlice]
 simp [run_under hpt, sizeOf, typeInfo, program, Sem.run, hi0, hz1, zeroValue, hz3, Instr.fill, newRow, newObj]
 rw [show Array.range 0 = #[] from rfl]; simp

theorem run_append_nothing (base : Nat) (t ty e : TypeId) (i : TypeInfo) (size : Nat) (ht : P.underlying t = some (.slice e)) (hi : P.info? e = some i)
  (v : Value) (n : Nat) (xs : List Value) (hown : w.ownsRow base e size v n xs) (c : Nat) :
  (Builtin.append_ #[t, t] ty #[v, .slice none 0 c]).run P w = .ok v w := by
 rcases hown.2 with ⟨rfl, rfl⟩ | ⟨g, cap, cur, rfl, _, _, hnc, _⟩
 ·simp [Builtin.append_, run_underlying ht, sizeOf, typeInfo, hi, Builtin.lenOf, Builtin.firstCells]
 ·simp [Builtin.append_, run_underlying ht, sizeOf, typeInfo, hi, Builtin.lenOf, Builtin.firstCells, hnc, storeCells]

theorem aw {d : Nat} {t e ty : TypeId} {s x : Operand} {ps : String} {af : Array Edge} {g : Option (Nat × Bool)} {a b : Option Addr} {m c kk cb sz by_ base : Nat} {z : Value} {cs vs : List Value} {tt : Array TypeId}
  (hs : ev l s = some (.slice a m c)) (hx : ev l x = some (.slice b kk cb)) (ht : U.tb.u t = some (.slice e)) (hi : U.tb.inf e = some (sz, by_, z)) (hzc : Nat.beq z.cells.size sz = true) (hsz : Nat.blt 0 sz = true) (hg : gd arr l g = some true) (hd : Nat.blt d n = true) (htt : tt = #[t, t])
  (hown : w.ownsRow base e sz (.slice a m c) m cs) (hv : Sl w b vs) (hl : vs.length = kk * sz) (h1 : ∀ u ∈ vs, u.oneCell' = true) (hbase : base ≤ w.heap.size) (hlen : (m + kk) * by_ ≤ 140737488355328) (hby : Nat.blt 0 by_ = true)
  (t' : ∀ a' c' w1, w1.ownsRow base e sz (.slice a' (m + kk) c') (m + kk) (cs ++ vs) → w.grownBy w1 (ab a) → T P ro n ds Q ((d, .slice a' (m + kk) c') :: l) w1 (.ops arr r) k) :
  T P ro n ds Q l w (.ops arr (⟨some d, .call ⟨.builtin .append, #[s, x], tt⟩, ty, ps, af, g⟩ :: r)) k := by
 subst htt
 have hsz : 0 < sz := by simpa using hsz
 have hzc := Nat.eq_of_beq_eq_true hzc
 have hby : 0 < by_ := by simpa using hby
 obtain ⟨i, hi0, hz1, hz2, hz3⟩ := U.hi _ _ _ _ hi
 have hpt := U.hu _ _ ht
 have hmm : m + kk ≤ maxLen := by
  unfold maxLen
  have : (m + kk) * 1 ≤ (m + kk) * by_ := Nat.mul_le_mul_left _ hby
  omega
 cases b with
 | none =>
  have hk0 : kk = 0 := by
   rcases Nat.eq_zero_or_pos kk with h | h
   ·exact h
   ·exfalso
    have hpos : 0 < vs.length := by rw [hl]; exact Nat.mul_pos h hsz
    obtain ⟨g, off, he, _⟩ := hv 0 vs[0] (List.getElem?_eq_getElem hpos)
    cases he
  subst hk0
  have hv0 : vs = [] := List.eq_nil_of_length_eq_zero (by rw [hl, Nat.zero_mul])
  subst hv0
  have hrun := run_append_nothing (P := P) (w := w) base t ty e i sz hpt hi0 (.slice a m c) m cs hown cb
  refine op1 (w' := w) (by intro c h; cases h) hg (put1_some hd) (fun act hf => ?_) (t' a c w (by simpa using hown) ⟨rfl, rfl, rfl, Nat.le_refl _, fun _ _ _ => rfl⟩)
  simp only [execOp, resolve, invoke, builtin]
  simp [hf.ev hs, hf.ev hx, hrun]
 | some ba =>
  obtain ⟨v', w1, hrun, ho, hgr, _⟩ := run_append_own w base t ty e i z sz by_ hpt hi0 hz3 hz1 hz2 hzc hsz (.slice a m c) m cs hown ba kk cb vs hl
   (fun j u hj => by
    obtain ⟨g, off, he, hc⟩ := hv j u hj
    cases he
    rw [add_plain]; exact hc) h1 hmm hlen hbase
  obtain ⟨a', c', rfl⟩ : ∃ a' c', v' = .slice a' (m + kk) c' := by
   rcases ho.2 with ⟨rfl, h⟩ | ⟨g, cap, cur, h, _⟩
   ·exact ⟨none, 0, by rw [h]⟩
   ·exact ⟨_, _, h⟩
  rw [ownBlock_ab] at hgr
  refine op1 (w' := w1) (by intro c h; cases h) hg (put1_some hd) (fun act hf => ?_) (t' a' c' w1 ho hgr)
  simp only [execOp, resolve, invoke, builtin]
  simp [hf.ev hs, hf.ev hx, hrun]

end
end
end Go.Proofs.YtejlpdbiacmfcaaGreatDoor
