/-
  Walks of the reference's rational numbers: integer, Make.
  Conditions: texts take fewer than 2^40 bytes.

  Walk of the reference's reading of a rational number.
  Conditions: texts take fewer than 2^40 bytes.

  Walk of the reference's sum of two texts.
  Conditions: texts take fewer than 2^40 bytes.
-/
import Derived.Test.YtfdekppnilffeaaGreatDoorYStr
import Derived.Test.YtfdekppnilffeaaGreatDoorYR2b
import Derived.Test.YtfdekppnilffeaaGreatDoorYR3
import Derived.Test.YtfdekppnilffeaaGreatDoorYSz
section
set_option linter.unusedSimpArgs false
set_option linter.unusedVariables false
set_option maxHeartbeats 1000000
namespace Go.Proofs.YtfdekppnilffeaaGreatDoor
open Go Go.Proofs Go.RowKit Go.Lib

theorem ineg_nil : ineg [] = false ∧ irest [] = [] := ⟨rfl, rfl⟩
theorem ineg_cons (c : UInt8) (t : List UInt8) : ineg (c :: t) = decide (c = 45) ∧ irest (c :: t) = if c = 45 then t else c :: t := by
  have h : ineg (c :: t) = decide (c = 45) := by
    unfold ineg hasPrefix
    simp only [List.isPrefixOf, Bool.and_true]
    by_cases hc : c = 45
    · subst hc; rfl
    · rw [decide_eq_false hc, beq_eq_false_iff_ne]; exact fun h => hc h.symm
  refine ⟨h, ?_⟩
  unfold irest trimPrefix
  unfold ineg at h
  rw [h]
  simp

theorem rinteger_calls (x : List UInt8) (hx : x.length ≤ 1099511627776) (w : World) :
    Calls Tryz.prog 100 #[.string ⟨⟨x⟩⟩] w (Ret fun v w' => (∃ b, v = .tuple ⟨[.bool (ineg x), .string ⟨⟨irest x⟩⟩, .bool b]⟩ ∧ (b = true ↔ IOk x)) ∧ w = w') := by
  cases x with
  | nil =>
    obtain ⟨hng, hrs⟩ := ineg_nil
    have hio : IOk [] ↔ Form [] ∧ ¬(false = true ∧ ([] : List UInt8) = [48]) := by unfold IOk; rw [hng, hrs]
    refine enter Tryz.func100 rfl Tryz.ntmps100 (Nat.le_of_ble_eq_true rfl) ?_
    refine dr U 600 rfl trivial ?_
    refine cF rfl rfl rfl ((by decide)) ?_; refine dr U 600 rfl trivial ?_
    refine call (f := 101) rfl rfl cb101 (rdigits_calls [] (by first | exact Nat.zero_le _ | exact hx | (simp at hx; omega)) w) ?_
    rintro v w1 ⟨⟨bb, rfl, hb⟩, rfl⟩
    refine ⟨_, rfl, ?_⟩
    cases bb with
    | false =>
      refine dr U 600 rfl trivial ?_
      exact ret Tryz.results100 rfl ⟨_, rfl, ⟨false, by rw [hng, hrs]; rfl, by rw [hio]; simp at hb; simp [hb]⟩, rfl⟩
    | true =>
      have hf := hb.1 rfl
      refine dr U 600 rfl trivial ?_
      exact ret Tryz.results100 rfl ⟨_, rfl, ⟨true, by rw [hng, hrs]; rfl, by rw [hio]; simp [hf]⟩, rfl⟩
  | cons c t =>
    obtain ⟨hng, hrs⟩ := ineg_cons c t
    by_cases hc : c = 45
    · subst hc
      rw [if_pos rfl] at hrs
      rw [decide_eq_true rfl] at hng
      have hio : IOk (45 :: t) ↔ Form t ∧ ¬(true = true ∧ t = [48]) := by unfold IOk; rw [hng, hrs]
      refine enter Tryz.func100 rfl Tryz.ntmps100 (Nat.le_of_ble_eq_true rfl) ?_
      refine dr U 600 rfl trivial ?_
      refine cT rfl rfl rfl (by simp only [List.length_cons]; omega) ?_
      refine dr U 600 rfl (by simp only [AllP, InR, List.nil_append, List.cons_append, and_true, List.length_cons, List.length_nil, List.length_append]; omega) ?_
      refine cT rfl rfl rfl rfl ?_
      refine dr U 600 rfl (by simp only [AllP, InR, List.nil_append, List.cons_append, and_true, List.length_cons, List.length_nil, List.length_append]; omega) ?_
      refine call (f := 101) rfl rfl cb101 (rdigits_calls t (by first | exact Nat.zero_le _ | exact hx | (simp at hx; omega)) w) ?_
      rintro v w1 ⟨⟨bb, rfl, hb⟩, rfl⟩
      refine ⟨_, rfl, ?_⟩
      cases bb with
      | false =>
        refine dr U 600 rfl trivial ?_
        exact ret Tryz.results100 rfl ⟨_, rfl, ⟨false, by rw [hng, hrs]; rfl, by rw [hio]; simp at hb; simp [hb]⟩, rfl⟩
      | true =>
        have hf := hb.1 rfl
        refine dr U 600 rfl trivial ?_
        refine cS rfl rfl rfl rfl (fun hq => ?_) (fun hq => ?_)
        · refine dr U 600 rfl trivial ?_
          exact ret Tryz.results100 rfl ⟨_, rfl, ⟨false, by rw [hng, hrs]; rfl, by rw [hio]; exact ⟨fun h => (by cases h), fun h => absurd ⟨rfl, hq⟩ h.2⟩⟩, rfl⟩
        · refine dr U 600 rfl trivial ?_
          exact ret Tryz.results100 rfl ⟨_, rfl, ⟨true, by rw [hng, hrs]; rfl, by rw [hio]; exact ⟨fun _ => ⟨hf, fun h => hq h.2⟩, fun _ => rfl⟩⟩, rfl⟩
    · rw [if_neg hc] at hrs
      rw [decide_eq_false hc] at hng
      have hio : IOk (c :: t) ↔ Form (c :: t) ∧ ¬(false = true ∧ c :: t = [48]) := by unfold IOk; rw [hng, hrs]
      refine enter Tryz.func100 rfl Tryz.ntmps100 (Nat.le_of_ble_eq_true rfl) ?_
      refine dr U 600 rfl trivial ?_
      refine cT rfl rfl rfl (by simp only [List.length_cons]; omega) ?_
      refine dr U 600 rfl (by simp only [AllP, InR, List.nil_append, List.cons_append, and_true, List.length_cons, List.length_nil, List.length_append]; omega) ?_
      refine cF rfl rfl rfl ((fun h => hc (UInt8.toNat_inj.1 (show c.toNat = 45 from Int.ofNat.inj h)))) ?_; refine dr U 600 rfl trivial ?_
      refine call (f := 101) rfl rfl cb101 (rdigits_calls (c :: t) (by first | exact Nat.zero_le _ | exact hx | (simp at hx; omega)) w) ?_
      rintro v w1 ⟨⟨bb, rfl, hb⟩, rfl⟩
      refine ⟨_, rfl, ?_⟩
      cases bb with
      | false =>
        refine dr U 600 rfl trivial ?_
        exact ret Tryz.results100 rfl ⟨_, rfl, ⟨false, by rw [hng, hrs]; rfl, by rw [hio]; simp at hb; simp [hb]⟩, rfl⟩
      | true =>
        have hf := hb.1 rfl
        refine dr U 600 rfl trivial ?_
        exact ret Tryz.results100 rfl ⟨_, rfl, ⟨true, by rw [hng, hrs]; rfl, by rw [hio]; simp [hf]⟩, rfl⟩

end Go.Proofs.YtfdekppnilffeaaGreatDoor
end
section
set_option linter.unusedSimpArgs false
set_option linter.unusedVariables false
set_option maxHeartbeats 1000000
namespace Go.Proofs.YtfdekppnilffeaaGreatDoor
open Go Go.Proofs Go.RowKit Go.Lib

/-- A number that is nothing. -/
def zq : Value := .agg ⟨[.bool false, .slice none 0 0, .slice none 0 0]⟩
theorem ineg_q (s : List UInt8) : ineg (qpre s) = qneg s ∧ irest (qpre s) = qn s := by
  unfold qn qneg
  cases h : qpre s with
  | nil => exact ⟨rfl, rfl⟩
  | cons c t =>
    obtain ⟨h1, h2⟩ := ineg_cons c t
    rw [h1, h2]
    by_cases hc : c = 45
    · subst hc; exact ⟨rfl, rfl⟩
    · refine ⟨?_, ?_⟩
      · rw [decide_eq_false hc]; simp [hc]
      · simp [hc]
theorem qpre_take (s : List UInt8) : s.take (qpre s).length = qpre s := by
  unfold qpre
  induction s with
  | nil => rfl
  | cons c t ih =>
    rw [List.takeWhile_cons]
    split
    · rw [List.length_cons, List.take_succ_cons, ih]
    · rfl
theorem qpre_le (s : List UInt8) : (qpre s).length ≤ s.length := by
  have := congrArg List.length (qpre_take s)
  rw [List.length_take] at this
  omega
/-- What Read answers. -/
def ReadR (s : List UInt8) (v : Value) (w : World) : Prop :=
  (∃ e, e ≠ 0 ∧ QErr s e ∧ v = .tuple ⟨[zq, .int .i64 e]⟩) ∨ (QErr s 0 ∧ ∃ u, v = .tuple ⟨[u, .int .i64 0]⟩ ∧ QR w u (qval s))

theorem qneg_iok (s : List UInt8) : IOk (qpre s) ↔ Form (qn s) ∧ ¬(qneg s = true ∧ qn s = [48]) := by
  unfold IOk
  rw [(ineg_q s).1, (ineg_q s).2]
theorem cmpN_zero {p q : Nat} : cmpN p q = 0 ↔ p = q := by
  unfold cmpN
  split
  · constructor <;> intro h <;> omega
  · split
    · constructor <;> intro h <;> omega
    · constructor <;> intro h <;> omega
theorem qd_slash {s : List UInt8} (h : (qpre s).length < s.length) : s.drop ((qpre s).length + 1) = qd s ∧ qslash s = true := by
  have hs : qslash s = true := decide_eq_true h
  refine ⟨?_, hs⟩
  unfold qd
  rw [if_pos hs]
theorem qd_plain {s : List UInt8} (h : ¬ (qpre s).length < s.length) : [49] = qd s ∧ qslash s = false := by
  have hs : qslash s = false := decide_eq_false h
  refine ⟨?_, hs⟩
  unfold qd
  rw [if_neg (by rw [hs]; simp)]


theorem rread_calls (s : List UInt8) (hs : s.length ≤ 1099511627776) (w : World) :
    Calls Tryz.prog 73 #[.string ⟨⟨s⟩⟩] w (Ret fun v w' => ReadR s v w' ∧ Below w.heap.size w w') := by
  have hple := qpre_le s
  have hn0 : (qn s).length ≤ s.length := by
    have := irest_len (qpre s)
    rw [(ineg_q s).2] at this; omega
  refine enter Tryz.func73 rfl Tryz.ntmps73 (Nat.le_of_ble_eq_true rfl) ?_
  refine dr U 600 rfl trivial ?_
  refine al U rfl rfl rfl rfl ?_
  intro b w0 hb0 hs0 hk0 hg0
  have hB0 : Below w.heap.size w w0 := (Below.refl _ _).grown hg0 (Nat.le_refl _) (fun k e => by cases e)
  refine dr U 600 rfl trivial ?_
  refine call (f := 99) rfl rfl cb99 (slash_calls s hs w0) ?_
  rintro v w1 ⟨rfl, rfl⟩
  refine ⟨_, rfl, ?_⟩
  refine dr U 600 rfl (by first | exact True.intro | (simp only [AllP, InR, List.nil_append, List.cons_append, and_true]; omega)) ?_
  simp only [Int.toNat_natCast, qpre_take]
  refine call (f := 100) rfl rfl cb100 (rinteger_calls (qpre s) (by omega) w0) ?_
  rintro v w1 ⟨⟨bi, rfl, hbi⟩, rfl⟩
  refine ⟨_, rfl, ?_⟩
  rw [qneg_iok] at hbi
  simp only [(ineg_q s).1, (ineg_q s).2]
  refine dr U 600 rfl trivial ?_
  refine cS rfl rfl rfl rfl (fun hq => ?_) (fun hq => ?_)
  · have hlt : (qpre s).length < s.length := by omega
    obtain ⟨hqd, hsl⟩ := qd_slash hlt
    have hqdl : (qd s).length ≤ s.length := by rw [← hqd]; simp
    cases bi with
    | false =>
      have hno : ¬ QIs s := fun h => by have := hbi.2 ⟨h.1, h.2.1⟩; cases this
      refine dr U 600 rfl (by first | exact True.intro | (simp only [AllP, InR, List.nil_append, List.cons_append, and_true]; omega)) ?_
      refine dr U 600 rfl trivial ?_
      refine st U rfl rfl rfl rfl rfl rfl rfl rfl rfl rfl (hk0) ?_
      intro w9 hkW hgW hsW
      refine dr U 600 rfl trivial ?_
      refine retS Tryz.results73 (vs := [_, _]) ⟨⟨_, rfl, run_load_agg ag_q hkW rfl⟩, rfl, trivial⟩ ⟨_, rfl, .inl ⟨3, by decide, (.inl ⟨hno, rfl⟩), rfl⟩, hB0.grown hgW hB0.size (fun k e => by cases e; omega)⟩
    | true =>
      have hn1 := hbi.1 rfl
      refine dr U 600 rfl (by first | exact True.intro | (simp only [AllP, InR, List.nil_append, List.cons_append, and_true]; omega)) ?_
      simp only [show (((qpre s).length : Int) + 1).toNat = (qpre s).length + 1 from by omega, hqd]
      refine cS rfl rfl rfl rfl (fun hq1 => ?_) (fun hq1 => ?_)
      · refine dr U 600 rfl trivial ?_
        refine call (f := 101) rfl rfl cb101 (rdigits_calls (qd s) (by omega) w0) ?_
        rintro v w1 ⟨⟨bd, rfl, hbd⟩, rfl⟩
        refine ⟨_, rfl, ?_⟩
        cases bd with
        | false =>
          have hno : ¬ QIs s := fun h => by have := hbd.2 (h.2.2 hsl).2.1; cases this
          refine dr U 600 rfl trivial ?_
          refine st U rfl rfl rfl rfl rfl rfl rfl rfl rfl rfl (hk0) ?_
          intro w9 hkW hgW hsW
          refine dr U 600 rfl trivial ?_
          refine retS Tryz.results73 (vs := [_, _]) ⟨⟨_, rfl, run_load_agg ag_q hkW rfl⟩, rfl, trivial⟩ ⟨_, rfl, .inl ⟨3, by decide, (.inl ⟨hno, rfl⟩), rfl⟩, hB0.grown hgW hB0.size (fun k e => by cases e; omega)⟩
        | true =>
          have hfd := hbd.1 rfl
          refine dr U 600 rfl trivial ?_
          refine cS rfl rfl rfl rfl (fun hq2 => ?_) (fun hq2 => ?_)
          · refine dr U 600 rfl trivial ?_
            refine cS rfl rfl rfl rfl (fun hq3 => ?_) (fun hq3 => ?_)
            · have hQ : QIs s := ⟨hn1.1, hn1.2, fun _ => ⟨hq1, hfd, hq2, hq3⟩⟩
              have hd0 := qd_pos hQ
              have hlq := hqdl
              refine dr U 600 rfl trivial ?_
              refine cS rfl rfl rfl rfl (fun hq => ?_) (fun hq => ?_)
              · refine dr U 600 rfl trivial ?_
                refine st U rfl rfl rfl rfl rfl rfl rfl rfl rfl rfl (hk0) ?_
                intro w9 hkW hgW hsW
                refine dr U 600 rfl trivial ?_
                refine retS Tryz.results73 (vs := [_, _]) ⟨⟨_, rfl, run_load_agg ag_q hkW rfl⟩, rfl, trivial⟩ ⟨_, rfl, .inl ⟨5, by decide, (.inr (.inl ⟨hQ, .inl (by omega), rfl⟩)), rfl⟩, hB0.grown hgW hB0.size (fun k e => by cases e; omega)⟩
              · refine dr U 600 rfl trivial ?_
                refine cS rfl rfl rfl rfl (fun hq => ?_) (fun hq => ?_)
                · refine dr U 600 rfl trivial ?_
                  refine st U rfl rfl rfl rfl rfl rfl rfl rfl rfl rfl (hk0) ?_
                  intro w9 hkW hgW hsW
                  refine dr U 600 rfl trivial ?_
                  refine retS Tryz.results73 (vs := [_, _]) ⟨⟨_, rfl, run_load_agg ag_q hkW rfl⟩, rfl, trivial⟩ ⟨_, rfl, .inl ⟨5, by decide, (.inr (.inl ⟨hQ, .inr (by omega), rfl⟩)), rfl⟩, hB0.grown hgW hB0.size (fun k e => by cases e; omega)⟩
                · have hnl : (qn s).length ≤ 4000 := by omega
                  have hdl : (qd s).length ≤ 4000 := by omega
                  have hfd : Form (qd s) := hfd
                  have hlx := form_len ⟨hQ.1, hnl⟩
                  have hly := form_len ⟨hfd, hdl⟩
                  refine dr U 600 rfl trivial ?_
                  refine call (f := 102) rfl rfl cb102 (read_calls (qn s) hQ.1.2.2 (by omega) w0) ?_
                  rintro v w3 ⟨a3, c3, rfl, ho3, hB3'⟩
                  refine ⟨_, rfl, ?_⟩
                  have hB3 := bl_tr hB0 hB3' hB0.size
                  have hk3 := hk0.below hB3' hk0.lt
                  refine dr U 600 rfl trivial ?_
                  refine call (f := 102) rfl rfl cb102 (read_calls (qd s) hfd.2.2 (by omega) w3) ?_
                  rintro v w4 ⟨a4, c4, rfl, ho4, hB4'⟩
                  refine ⟨_, rfl, ?_⟩
                  have hB4 := bl_tr hB3 hB4' hB3.size
                  have hk4 := hk3.below hB4' hk3.lt
                  have hr3 := (ownI_rd ho3).below hB4'
                  have hr4 := ownI_rd ho4
                  refine dr U 600 rfl trivial ?_
                  refine al U rfl rfl rfl rfl ?_
                  intro bq w5 hbq hs5 hkq hg5
                  have hB5' : Below w4.heap.size w4 w5 := (Below.refl _ _).grown hg5 (Nat.le_refl _) (fun k e => by cases e)
                  have hB5 := bl_tr hB4 hB5' hB4.size
                  have hk5 := hk4.below hB5' hk4.lt
                  have hr3 := hr3.below hB5'
                  have hr4 := hr4.below hB5'
                  refine dr U 600 rfl trivial ?_
                  refine st U rfl rfl rfl rfl rfl rfl rfl rfl rfl rfl (hkq) ?_
                  intro w6 hkq6 hg6 hs6
                  have hB6 := hB5.grown hg6 hB5.size (fun k e => by cases e; have := hB4.size; omega)
                  have hk6 := hk5.keep hg6 (by intro e; cases e; have := hk4.lt; omega)
                  have hr3 := hr3.past hkq ni0 hg6
                  have hr4 := hr4.past hkq ni0 hg6
                  refine dr U 600 rfl trivial ?_
                  refine ld U rfl rfl rfl rfl ((hkq6).cell rfl) ?_
                  refine dr U 600 rfl trivial ?_
                  refine ld U rfl rfl rfl rfl ((hkq6).cell rfl) ?_
                  refine dr U 600 rfl trivial ?_
                  refine call (f := 103) rfl rfl cb103 (common_calls _ _ a3 a4 c3 c4 w6 hr3 hr4 (by omega) (by omega)) ?_
                  rintro v w7 ⟨⟨ag, cg, rfl, hg⟩, hB7'⟩
                  refine ⟨_, rfl, ?_⟩
                  have hB7 := bl_tr hB6 hB7' hB6.size
                  have hgl : (lim (Nat.gcd (dval (qn s)) (dval (qd s)))).length ≤ 68719476736 := Nat.le_trans (lim_len_mono (Nat.gcd_le_right _ (Nat.pos_of_ne_zero hd0))) (by omega)
                  refine dr U 600 rfl trivial ?_
                  refine call (f := 104) rfl rfl cb104 (rone_calls w7) ?_
                  rintro v w8 ⟨⟨a1, c1, rfl, h1⟩, hB8'⟩
                  refine ⟨_, rfl, ?_⟩
                  have hB8 := bl_tr hB7 hB8' hB7.size
                  refine dr U 600 rfl trivial ?_
                  refine call (f := 88) rfl rfl cb88 (order_calls _ _ ag a1 cg c1 w8 (hg.below hB8') h1 (by omega) (by rw [lim_one]; decide)) ?_
                  rintro v w9 ⟨rfl, hB9'⟩
                  refine ⟨_, rfl, ?_⟩
                  have hB9 := bl_tr hB8 hB9' hB8.size
                  have hk9 := ((hk6.below hB7' hk6.lt).below hB8' (by have := hk6.lt; have := hB7'.size; omega)).below hB9' (by have := hk6.lt; have := hB7'.size; have := hB8'.size; omega)
                  have hkq9 := ((hkq6.below hB7' hkq6.lt).below hB8' (by have := hkq6.lt; have := hB7'.size; omega)).below hB9' (by have := hkq6.lt; have := hB7'.size; have := hB8'.size; omega)
                  have hr3 := ((hr3.below hB7').below hB8').below hB9'
                  have hr4 := ((hr4.below hB7').below hB8').below hB9'
                  refine dr U 600 rfl trivial ?_
                  refine cS rfl rfl rfl rfl (fun hq => ?_) (fun hq => ?_)
                  · refine dr U 600 rfl trivial ?_
                    refine st U rfl rfl rfl rfl rfl rfl rfl rfl rfl rfl (hk9) ?_
                    intro w10 hkW hgW hsW
                    refine dr U 600 rfl trivial ?_
                    refine retS Tryz.results73 (vs := [_, _]) ⟨⟨_, rfl, run_load_agg ag_q hkW rfl⟩, rfl, trivial⟩ ⟨_, rfl, .inl ⟨3, by decide, (.inr (.inr (.inl ⟨hQ, hnl, hdl, fun h => hq (cmpN_zero.2 h), rfl⟩))), rfl⟩, hB9.grown hgW hB9.size (fun k e => by cases e; omega)⟩
                  · have hgcd : Nat.gcd (dval (qn s)) (dval (qd s)) = 1 := cmpN_zero.1 (Classical.not_not.1 hq)
                    refine dr U 600 rfl trivial ?_
                    refine lg rfl ag_q rfl rfl hkq9 rfl ?_
                    refine dr U 600 rfl trivial ?_
                    refine st U rfl rfl rfl rfl rfl rfl rfl rfl rfl rfl (hk9) ?_
                    intro w10 hk10 hg10 hs10
                    refine dr U 600 rfl trivial ?_
                    refine retS Tryz.results73 (vs := [_, _]) ⟨⟨_, rfl, run_load_agg ag_q hk10 rfl⟩, rfl, trivial⟩ ⟨_, rfl, .inr ⟨.inr (.inr (.inr ⟨hQ, hnl, hdl, hgcd, rfl⟩)), _, rfl, ?_⟩, hB9.grown hg10 hB9.size (fun k e => by cases e; omega)⟩
                    have hz : (qneg s && decide (dval (qn s) ≠ 0)) = qneg s := by
                      cases hns : qneg s with
                      | false => rfl
                      | true =>
                        have : dval (qn s) ≠ 0 := fun h => hQ.2.1 ⟨hns, (dval_zero_iff hQ.1).2 h⟩
                        simp [this]
                    refine qr_of hd0 ?_
                    rw [hgcd, Nat.div_one, Nat.div_one, hz]
                    exact ⟨a3, c3, a4, c4, rfl, hr3.past hk9 ni0 hg10, hr4.past hk9 ni0 hg10⟩
            · have hno : ¬ QIs s := fun h => hq3 (h.2.2 hsl).2.2.2
              refine dr U 600 rfl trivial ?_
              refine st U rfl rfl rfl rfl rfl rfl rfl rfl rfl rfl (hk0) ?_
              intro w9 hkW hgW hsW
              refine dr U 600 rfl trivial ?_
              refine retS Tryz.results73 (vs := [_, _]) ⟨⟨_, rfl, run_load_agg ag_q hkW rfl⟩, rfl, trivial⟩ ⟨_, rfl, .inl ⟨3, by decide, (.inl ⟨hno, rfl⟩), rfl⟩, hB0.grown hgW hB0.size (fun k e => by cases e; omega)⟩
          · have hno : ¬ QIs s := fun h => hq2 (h.2.2 hsl).2.2.1
            refine dr U 600 rfl trivial ?_
            refine st U rfl rfl rfl rfl rfl rfl rfl rfl rfl rfl (hk0) ?_
            intro w9 hkW hgW hsW
            refine dr U 600 rfl trivial ?_
            refine retS Tryz.results73 (vs := [_, _]) ⟨⟨_, rfl, run_load_agg ag_q hkW rfl⟩, rfl, trivial⟩ ⟨_, rfl, .inl ⟨3, by decide, (.inl ⟨hno, rfl⟩), rfl⟩, hB0.grown hgW hB0.size (fun k e => by cases e; omega)⟩
      · have hno : ¬ QIs s := fun h => hq1 (h.2.2 hsl).1
        refine dr U 600 rfl trivial ?_
        refine st U rfl rfl rfl rfl rfl rfl rfl rfl rfl rfl (hk0) ?_
        intro w9 hkW hgW hsW
        refine dr U 600 rfl trivial ?_
        refine retS Tryz.results73 (vs := [_, _]) ⟨⟨_, rfl, run_load_agg ag_q hkW rfl⟩, rfl, trivial⟩ ⟨_, rfl, .inl ⟨3, by decide, (.inl ⟨hno, rfl⟩), rfl⟩, hB0.grown hgW hB0.size (fun k e => by cases e; omega)⟩
  · have hlt : ¬ (qpre s).length < s.length := by omega
    obtain ⟨hqd, hsl⟩ := qd_plain hlt
    have hqdl : (qd s).length ≤ 1 := by rw [← hqd]; simp
    cases bi with
    | false =>
      have hno : ¬ QIs s := fun h => by have := hbi.2 ⟨h.1, h.2.1⟩; cases this
      refine dr U 600 rfl trivial ?_
      refine st U rfl rfl rfl rfl rfl rfl rfl rfl rfl rfl (hk0) ?_
      intro w9 hkW hgW hsW
      refine dr U 600 rfl trivial ?_
      refine retS Tryz.results73 (vs := [_, _]) ⟨⟨_, rfl, run_load_agg ag_q hkW rfl⟩, rfl, trivial⟩ ⟨_, rfl, .inl ⟨3, by decide, (.inl ⟨hno, rfl⟩), rfl⟩, hB0.grown hgW hB0.size (fun k e => by cases e; omega)⟩
    | true =>
      have hn1 := hbi.1 rfl
      have hQ : QIs s := ⟨hn1.1, hn1.2, fun h => by rw [hsl] at h; cases h⟩
      have hd0 := qd_pos hQ
      have hf1 : Form (qd s) := by rw [← hqd]; exact ⟨by simp, .inr (by decide), fun c hc => by rw [List.mem_singleton.1 hc]; exact ⟨by decide, by decide⟩⟩
      rw [hqd]
      have hlq := hqdl
      refine dr U 600 rfl trivial ?_
      refine cS rfl rfl rfl rfl (fun hq => ?_) (fun hq => ?_)
      · refine dr U 600 rfl trivial ?_
        refine st U rfl rfl rfl rfl rfl rfl rfl rfl rfl rfl (hk0) ?_
        intro w9 hkW hgW hsW
        refine dr U 600 rfl trivial ?_
        refine retS Tryz.results73 (vs := [_, _]) ⟨⟨_, rfl, run_load_agg ag_q hkW rfl⟩, rfl, trivial⟩ ⟨_, rfl, .inl ⟨5, by decide, (.inr (.inl ⟨hQ, .inl (by omega), rfl⟩)), rfl⟩, hB0.grown hgW hB0.size (fun k e => by cases e; omega)⟩
      · refine dr U 600 rfl trivial ?_
        refine cS rfl rfl rfl rfl (fun hq => ?_) (fun hq => ?_)
        · refine dr U 600 rfl trivial ?_
          refine st U rfl rfl rfl rfl rfl rfl rfl rfl rfl rfl (hk0) ?_
          intro w9 hkW hgW hsW
          refine dr U 600 rfl trivial ?_
          refine retS Tryz.results73 (vs := [_, _]) ⟨⟨_, rfl, run_load_agg ag_q hkW rfl⟩, rfl, trivial⟩ ⟨_, rfl, .inl ⟨5, by decide, (.inr (.inl ⟨hQ, .inr (by omega), rfl⟩)), rfl⟩, hB0.grown hgW hB0.size (fun k e => by cases e; omega)⟩
        · have hnl : (qn s).length ≤ 4000 := by omega
          have hdl : (qd s).length ≤ 4000 := by omega
          have hfd : Form (qd s) := hf1
          have hlx := form_len ⟨hQ.1, hnl⟩
          have hly := form_len ⟨hfd, hdl⟩
          refine dr U 600 rfl trivial ?_
          refine call (f := 102) rfl rfl cb102 (read_calls (qn s) hQ.1.2.2 (by omega) w0) ?_
          rintro v w3 ⟨a3, c3, rfl, ho3, hB3'⟩
          refine ⟨_, rfl, ?_⟩
          have hB3 := bl_tr hB0 hB3' hB0.size
          have hk3 := hk0.below hB3' hk0.lt
          refine dr U 600 rfl trivial ?_
          refine call (f := 102) rfl rfl cb102 (read_calls (qd s) hfd.2.2 (by omega) w3) ?_
          rintro v w4 ⟨a4, c4, rfl, ho4, hB4'⟩
          refine ⟨_, rfl, ?_⟩
          have hB4 := bl_tr hB3 hB4' hB3.size
          have hk4 := hk3.below hB4' hk3.lt
          have hr3 := (ownI_rd ho3).below hB4'
          have hr4 := ownI_rd ho4
          refine dr U 600 rfl trivial ?_
          refine al U rfl rfl rfl rfl ?_
          intro bq w5 hbq hs5 hkq hg5
          have hB5' : Below w4.heap.size w4 w5 := (Below.refl _ _).grown hg5 (Nat.le_refl _) (fun k e => by cases e)
          have hB5 := bl_tr hB4 hB5' hB4.size
          have hk5 := hk4.below hB5' hk4.lt
          have hr3 := hr3.below hB5'
          have hr4 := hr4.below hB5'
          refine dr U 600 rfl trivial ?_
          refine st U rfl rfl rfl rfl rfl rfl rfl rfl rfl rfl (hkq) ?_
          intro w6 hkq6 hg6 hs6
          have hB6 := hB5.grown hg6 hB5.size (fun k e => by cases e; have := hB4.size; omega)
          have hk6 := hk5.keep hg6 (by intro e; cases e; have := hk4.lt; omega)
          have hr3 := hr3.past hkq ni0 hg6
          have hr4 := hr4.past hkq ni0 hg6
          refine dr U 600 rfl trivial ?_
          refine ld U rfl rfl rfl rfl ((hkq6).cell rfl) ?_
          refine dr U 600 rfl trivial ?_
          refine ld U rfl rfl rfl rfl ((hkq6).cell rfl) ?_
          refine dr U 600 rfl trivial ?_
          refine call (f := 103) rfl rfl cb103 (common_calls _ _ a3 a4 c3 c4 w6 hr3 hr4 (by omega) (by omega)) ?_
          rintro v w7 ⟨⟨ag, cg, rfl, hg⟩, hB7'⟩
          refine ⟨_, rfl, ?_⟩
          have hB7 := bl_tr hB6 hB7' hB6.size
          have hgl : (lim (Nat.gcd (dval (qn s)) (dval (qd s)))).length ≤ 68719476736 := Nat.le_trans (lim_len_mono (Nat.gcd_le_right _ (Nat.pos_of_ne_zero hd0))) (by omega)
          refine dr U 600 rfl trivial ?_
          refine call (f := 104) rfl rfl cb104 (rone_calls w7) ?_
          rintro v w8 ⟨⟨a1, c1, rfl, h1⟩, hB8'⟩
          refine ⟨_, rfl, ?_⟩
          have hB8 := bl_tr hB7 hB8' hB7.size
          refine dr U 600 rfl trivial ?_
          refine call (f := 88) rfl rfl cb88 (order_calls _ _ ag a1 cg c1 w8 (hg.below hB8') h1 (by omega) (by rw [lim_one]; decide)) ?_
          rintro v w9 ⟨rfl, hB9'⟩
          refine ⟨_, rfl, ?_⟩
          have hB9 := bl_tr hB8 hB9' hB8.size
          have hk9 := ((hk6.below hB7' hk6.lt).below hB8' (by have := hk6.lt; have := hB7'.size; omega)).below hB9' (by have := hk6.lt; have := hB7'.size; have := hB8'.size; omega)
          have hkq9 := ((hkq6.below hB7' hkq6.lt).below hB8' (by have := hkq6.lt; have := hB7'.size; omega)).below hB9' (by have := hkq6.lt; have := hB7'.size; have := hB8'.size; omega)
          have hr3 := ((hr3.below hB7').below hB8').below hB9'
          have hr4 := ((hr4.below hB7').below hB8').below hB9'
          refine dr U 600 rfl trivial ?_
          refine cS rfl rfl rfl rfl (fun hq => ?_) (fun hq => ?_)
          · refine dr U 600 rfl trivial ?_
            refine st U rfl rfl rfl rfl rfl rfl rfl rfl rfl rfl (hk9) ?_
            intro w10 hkW hgW hsW
            refine dr U 600 rfl trivial ?_
            refine retS Tryz.results73 (vs := [_, _]) ⟨⟨_, rfl, run_load_agg ag_q hkW rfl⟩, rfl, trivial⟩ ⟨_, rfl, .inl ⟨3, by decide, (.inr (.inr (.inl ⟨hQ, hnl, hdl, fun h => hq (cmpN_zero.2 h), rfl⟩))), rfl⟩, hB9.grown hgW hB9.size (fun k e => by cases e; omega)⟩
          · have hgcd : Nat.gcd (dval (qn s)) (dval (qd s)) = 1 := cmpN_zero.1 (Classical.not_not.1 hq)
            refine dr U 600 rfl trivial ?_
            refine lg rfl ag_q rfl rfl hkq9 rfl ?_
            refine dr U 600 rfl trivial ?_
            refine st U rfl rfl rfl rfl rfl rfl rfl rfl rfl rfl (hk9) ?_
            intro w10 hk10 hg10 hs10
            refine dr U 600 rfl trivial ?_
            refine retS Tryz.results73 (vs := [_, _]) ⟨⟨_, rfl, run_load_agg ag_q hk10 rfl⟩, rfl, trivial⟩ ⟨_, rfl, .inr ⟨.inr (.inr (.inr ⟨hQ, hnl, hdl, hgcd, rfl⟩)), _, rfl, ?_⟩, hB9.grown hg10 hB9.size (fun k e => by cases e; omega)⟩
            have hz : (qneg s && decide (dval (qn s) ≠ 0)) = qneg s := by
              cases hns : qneg s with
              | false => rfl
              | true =>
                have : dval (qn s) ≠ 0 := fun h => hQ.2.1 ⟨hns, (dval_zero_iff hQ.1).2 h⟩
                simp [this]
            refine qr_of hd0 ?_
            rw [hgcd, Nat.div_one, Nat.div_one, hz]
            exact ⟨a3, c3, a4, c4, rfl, hr3.past hk9 ni0 hg10, hr4.past hk9 ni0 hg10⟩

theorem QR.past {w w' : World} {v : Value} {r : Rat} {b t : Nat} {cs : List Value} (h : QR w v r) (hk : Bk w b t cs) (hn : NoInt cs) (hg : w.grownBy w' (some b)) (ht : Nat.beq 3 t = false := by rfl) : QR w' v r := by
  obtain ⟨an, cn, ad, cd, rfl, h1, h2⟩ := h
  exact ⟨an, cn, ad, cd, rfl, h1.past hk hn hg ht, h2.past hk hn hg ht⟩
theorem QR.stay {w w' : World} {v : Value} {r : Rat} (h : QR w v r) (hb : Below w.heap.size w w') : QR w' v r := QV.below h hb
theorem ReadR.cases {s : List UInt8} {v : Value} {w : World} (h : ReadR s v w) : ∃ m a1 n1 c1 a2 n2 c2 e, v = .tuple ⟨[.agg ⟨[.bool m, .slice a1 n1 c1, .slice a2 n2 c2]⟩, .int .i64 e]⟩ ∧ QErr s e ∧ (e = 0 → QR w (.agg ⟨[.bool m, .slice a1 n1 c1, .slice a2 n2 c2]⟩) (qval s)) := by
  rcases h with ⟨e, h1, h2, rfl⟩ | ⟨h1, u, rfl, h2⟩
  · exact ⟨_, _, _, _, _, _, _, e, rfl, h2, fun h => absurd h h1⟩
  · obtain ⟨an, cn, ad, cd, rfl, h3⟩ := h2
    exact ⟨_, _, _, _, _, _, _, 0, rfl, h1, fun _ => ⟨an, cn, ad, cd, rfl, h3⟩⟩

/-- The error of two texts as numbers. -/
def Two (s t : List UInt8) (e : Int) : Prop := (e ≠ 0 ∧ QErr s e) ∨ (QErr s 0 ∧ QErr t e)
theorem Two.uniq {s t : List UInt8} {e f : Int} (h : Two s t e) (h' : Two s t f) : e = f := by
  rcases h with ⟨h1, h2⟩ | ⟨h1, h2⟩ <;> rcases h' with ⟨g1, g2⟩ | ⟨g1, g2⟩
  · exact h2.uniq g2
  · exact absurd (h2.uniq g1) h1
  · exact absurd (g2.uniq h1) g1
  · exact h2.uniq g2
theorem Two.ok {s t : List UInt8} (h : Two s t 0) : QErr s 0 ∧ QErr t 0 := by
  rcases h with ⟨h1, _⟩ | h
  · exact absurd rfl h1
  · exact h

end Go.Proofs.YtfdekppnilffeaaGreatDoor
end
section
set_option linter.unusedSimpArgs false
set_option linter.unusedVariables false
set_option maxHeartbeats 1000000
namespace Go.Proofs.YtfdekppnilffeaaGreatDoor
open Go Go.Proofs Go.RowKit Go.Lib

theorem QErr.ok {s : List UInt8} (h : QErr s 0) : QIs s ∧ (qn s).length ≤ 4000 ∧ (qd s).length ≤ 4000 ∧ Nat.gcd (dval (qn s)) (dval (qd s)) = 1 := by
  rcases h with ⟨_, h⟩ | ⟨_, _, h⟩ | ⟨_, _, _, _, h⟩ | ⟨h1, h2, h3, h4, _⟩
  · cases h
  · cases h
  · cases h
  · exact ⟨h1, h2, h3, h4⟩
theorem qd_form {s : List UInt8} (h : QIs s) : Form (qd s) := by
  by_cases hs : qslash s = true
  · exact (h.2.2 hs).2.1
  · unfold qd
    rw [if_neg hs]; exact ⟨by simp, .inr (by decide), fun c hc => by rw [List.mem_singleton.1 hc]; exact ⟨by decide, by decide⟩⟩
theorem QErr.small {s : List UInt8} (h : QErr s 0) : Small 4000 (qval s) := by
  obtain ⟨h1, h2, h3, h4⟩ := h.ok
  exact mkq_small (qd_pos h1) (form_len ⟨h1.1, h2⟩).1 (form_len ⟨qd_form h1, h3⟩).1
/-- What a function of two numbers answers. -/
def BinR (f : Rat → Rat → Rat) (s t : List UInt8) (v : Value) : Prop :=
  (∃ e, e ≠ 0 ∧ Two s t e ∧ v = .tuple ⟨[.string ⟨⟨[]⟩⟩, .int .i64 e]⟩) ∨ (Two s t 0 ∧ QRes (f (qval s) (qval t)) v)
theorem BinR.uniq {f : Rat → Rat → Rat} {s t : List UInt8} {v v' : Value} (h : BinR f s t v) (h' : BinR f s t v') : v = v' := by
  rcases h with ⟨e, h1, h2, rfl⟩ | ⟨h1, h2⟩ <;> rcases h' with ⟨e', g1, g2, rfl⟩ | ⟨g1, g2⟩
  · rw [h2.uniq g2]
  · exact absurd (h2.uniq g1) h1
  · exact absurd (g2.uniq h1) g1
  · exact h2.uniq g2
theorem BinR.text {f : Rat → Rat → Rat} {p q : Rat} {v : Value} (hp : Small 4000 p) (hq : Small 4000 q) (h : BinR f (qtext p) (qtext q) v) : QRes (f p q) v := by
  have h1 := q_text_ok p hp
  have h2 := q_text_ok q hq
  rcases h with ⟨e, g1, g2, rfl⟩ | ⟨_, g⟩
  · exact absurd (g2.uniq (.inr ⟨h1.1, h2.1⟩)) g1
  · rwa [h1.2, h2.2] at g


end Go.Proofs.YtfdekppnilffeaaGreatDoor
end
