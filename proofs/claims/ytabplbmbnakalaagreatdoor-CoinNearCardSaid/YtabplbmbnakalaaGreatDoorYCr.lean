/-
  Walks of the reference's Sign, Floor (of numbers at least 0) and Pow (of one half); sums, quotients and comparisons of readable texts.
  Conditions: texts take fewer than 2^40 bytes.

  The law CoinNear: it returns true for every input. The gap between a probability and the share of the strings that decide for 1 is what division leaves.
  Conditions: the library's table of powers of ten is laid.

  The walk of the law CoinNear: it returns true for every input.
  Conditions: the library's table of powers of ten is laid.
-/
import Derived.Test.YtabplbmbnakalaaGreatDoorYSz
import Derived.Test.YtabplbmbnakalaaGreatDoorYR9
import Derived.Test.YtabplbmbnakalaaGreatDoorYCl
import Derived.Test.YtabplbmbnakalaaGreatDoorYCn
section
set_option linter.unusedSimpArgs false
set_option linter.unusedVariables false
set_option maxHeartbeats 1000000
namespace Go.Proofs.YtabplbmbnakalaaGreatDoor
open Go Go.Proofs Go.RowKit Go.Lib

theorem BinR.vals {f : Rat → Rat → Rat} {s t : List UInt8} {v : Value} (hs : QErr s 0) (ht : QErr t 0) (h : BinR f s t v) : QRes (f (qval s) (qval t)) v := by
  rcases h with ⟨e, g1, g2, rfl⟩ | ⟨_, g⟩
  · exact absurd (g2.uniq (.inr ⟨hs, ht⟩)) g1
  · exact g
theorem DivR.vals {s t : List UInt8} {v : Value} (hs : QErr s 0) (ht : QErr t 0) (h0 : qval t ≠ 0) (h : DivR s t v) : QRes (qval s * (qval t)⁻¹) v := by
  rcases h with ⟨e, g1, g2, rfl⟩ | ⟨_, g, _⟩ | ⟨_, _, g⟩
  · exact absurd (g2.uniq (.inr ⟨hs, ht⟩)) g1
  · exact absurd g h0
  · exact g
theorem CmpR.vals {s t : List UInt8} {v : Value} (hs : QErr s 0) (ht : QErr t 0) (h : CmpR s t v) : v = .tuple ⟨[.int .i64 (cmpQ (qval s) (qval t)), .int .i64 0]⟩ := by
  rcases h with ⟨e, g1, g2, rfl⟩ | ⟨_, g⟩
  · exact absurd (g2.uniq (.inr ⟨hs, ht⟩)) g1
  · exact g


theorem rsign_calls (s : List UInt8) (hs : s.length ≤ 1099511627776) (hq0 : QErr s 0) (w : World) :
    Calls Tryz.prog 23 #[.string ⟨⟨s⟩⟩] w (Ret fun v w' => v = .tuple ⟨[.int .i64 (if qN s = 0 then 0 else if qneg s = true then -1 else 1), .int .i64 0]⟩ ∧ Below w.heap.size w w') := by
  have hB0 := Below.refl w.heap.size w
  refine enter Tryz.func23 rfl Tryz.ntmps23 (Nat.le_of_ble_eq_true rfl) ?_
  refine dr U 600 rfl trivial ?_
  refine call (f := 33) rfl rfl cb33 (rread_calls s hs w) ?_
  rintro v w1 ⟨hr, hBY⟩
  obtain ⟨m, a1, n1, c1, a2, n2, c2, e', rfl, hqe', hqr⟩ := hr.cases
  obtain rfl := hqe'.uniq hq0
  refine ⟨_, rfl, ?_⟩
  have hqv := qr_qv hq0 (hqr rfl)
  have hBZ := bl_tr hB0 hBY hB0.size
  refine dr U 600 rfl trivial ?_
  refine al U rfl rfl rfl rfl ?_
  intro bq w2 hbq hs2 hkq hg2
  have hBW2 := hBZ.grown hg2 hBZ.size (fun k e => by cases e)
  have hbz := hBZ.size
  refine dr U 600 rfl trivial ?_
  refine st U rfl rfl rfl rfl rfl rfl rfl rfl rfl rfl (hkq) ?_
  intro w3 hkq3 hg3 hs3
  have hBW3 := hBW2.grown hg3 hBW2.size (fun k e => by cases e; omega)
  have hg2b : Below w1.heap.size w1 w2 := (Below.refl _ _).grown hg2 (Nat.le_refl _) (fun k e => by cases e)
  obtain ⟨an, cn, ad, cd, hv', hrn, hrd⟩ := hqv
  simp only [Value.agg.injEq, Array.mk.injEq, List.cons.injEq, Value.bool.injEq, Value.slice.injEq, and_true] at hv'
  obtain ⟨rfl, ⟨rfl, rfl, rfl⟩, rfl, rfl, rfl⟩ := hv'
  have hrn := (hrn.below hg2b).past hkq ni0 hg3
  have hrd := (hrd.below hg2b).past hkq ni0 hg3
  refine dr U 600 rfl trivial ?_
  refine cF rfl rfl rfl ((fun h => h rfl)) ?_; refine dr U 600 rfl trivial ?_
  refine ld U rfl rfl rfl rfl ((hkq3).cell rfl) ?_
  refine dr U 600 rfl trivial ?_
  refine cS rfl rfl rfl rfl (fun hq => ?_) (fun hq => ?_)
  · have hn0 : qN s = 0 := lim_len_zero.1 (by omega)
    refine dr U 600 rfl trivial ?_
    exact ret Tryz.results23 rfl ⟨_, rfl, by rw [if_pos hn0]; rfl, hBW3⟩
  · have hn0 : qN s ≠ 0 := fun h => hq (by rw [h, lim_zero]; rfl)
    refine dr U 600 rfl trivial ?_
    refine ld U rfl rfl rfl rfl ((hkq3).cell rfl) ?_
    cases hng : qneg s with
    | true =>
      refine dr U 600 rfl trivial ?_
      exact ret Tryz.results23 rfl ⟨_, rfl, by rw [if_neg hn0, if_pos rfl]; rfl, hBW3⟩
    | false =>
      refine dr U 600 rfl trivial ?_
      exact ret Tryz.results23 rfl ⟨_, rfl, by rw [if_neg hn0, if_neg (by decide)]; rfl, hBW3⟩

theorem rround_calls (s : List UInt8) (hs : s.length ≤ 1099511627776) (hq0 : QErr s 0) (hng : qneg s = false) (w : World) :
    Calls Tryz.prog 48 #[.string ⟨⟨s⟩⟩, .bool false] w (Ret fun v w' => QRes (mkq false (qN s / qD s) 1) v ∧ Below w.heap.size w w') := by
  have hB0 := Below.refl w.heap.size w
  obtain ⟨hd1, hd2⟩ := hq0.digs
  obtain ⟨hQ, hl1, hl2, _⟩ := hq0.ok
  have hln := lim_le_nD (qN s)
  have hld := lim_le_nD (qD s)
  have hD0 : 0 < qD s := Nat.pos_of_ne_zero (qd_pos hQ)
  have hnq : nDigits (qN s / qD s) ≤ 4000 := Nat.le_trans (nD_mono (Nat.div_le_self _ _)) (by omega)
  have hlq := lim_le_nD (qN s / qD s)
  have hl1' := lim_le_nD 1
  have h1 : nDigits 1 = 1 := nDigits_small (by omega)
  have hsm : Small 4000 (mkq false (qN s / qD s) 1) := mkq_small (by decide) hnq (by omega)
  refine enter Tryz.func48 rfl Tryz.ntmps48 (Nat.le_of_ble_eq_true rfl) ?_
  refine dr U 600 rfl trivial ?_
  refine call (f := 33) rfl rfl cb33 (rread_calls s hs w) ?_
  rintro v w1 ⟨hr, hBY⟩
  obtain ⟨m, a1, n1, c1, a2, n2, c2, e', rfl, hqe', hqr⟩ := hr.cases
  obtain rfl := hqe'.uniq hq0
  refine ⟨_, rfl, ?_⟩
  have hqv := qr_qv hq0 (hqr rfl)
  have hBZ := bl_tr hB0 hBY hB0.size
  refine dr U 600 rfl trivial ?_
  refine al U rfl rfl rfl rfl ?_
  intro bq w2 hbq hs2 hkq hg2
  have hBW2 := hBZ.grown hg2 hBZ.size (fun k e => by cases e)
  have hbz := hBZ.size
  refine dr U 600 rfl trivial ?_
  refine st U rfl rfl rfl rfl rfl rfl rfl rfl rfl rfl (hkq) ?_
  intro w3 hkq3 hg3 hs3
  have hBW3 := hBW2.grown hg3 hBW2.size (fun k e => by cases e; omega)
  have hg2b : Below w1.heap.size w1 w2 := (Below.refl _ _).grown hg2 (Nat.le_refl _) (fun k e => by cases e)
  obtain ⟨an, cn, ad, cd, hv', hrn, hrd⟩ := hqv
  simp only [Value.agg.injEq, Array.mk.injEq, List.cons.injEq, Value.bool.injEq, Value.slice.injEq, and_true] at hv'
  obtain ⟨rfl, ⟨rfl, rfl, rfl⟩, rfl, rfl, rfl⟩ := hv'
  have hrn := (hrn.below hg2b).past hkq ni0 hg3
  have hrd := (hrd.below hg2b).past hkq ni0 hg3
  rw [hng] at hkq3
  refine dr U 600 rfl trivial ?_
  refine cF rfl rfl rfl ((fun h => h rfl)) ?_; refine dr U 600 rfl trivial ?_
  refine ld U rfl rfl rfl rfl ((hkq3).cell rfl) ?_
  refine dr U 600 rfl trivial ?_
  refine ld U rfl rfl rfl rfl ((hkq3).cell rfl) ?_
  refine dr U 600 rfl trivial ?_
  refine call (f := 74) rfl rfl cb74 (divide_calls (qN s) (qD s) hD0 a1 a2 c1 c2 w3 hrn hrd (by omega) (by omega)) ?_
  rintro v w4 ⟨v1, v2, rfl, hr1, hr2, hB4'⟩
  obtain ⟨x1, y1, rfl, hx1⟩ := hr1
  obtain ⟨x2, y2, rfl, hx2⟩ := hr2
  have hB4 := bl_tr hBW3 hB4' hBW3.size
  have hkq4 := hkq3.below hB4' hkq3.lt
  refine ⟨_, rfl, ?_⟩
  refine dr U 600 rfl trivial ?_
  refine cS rfl rfl rfl rfl (fun hq => ?_) (fun hq => ?_)
  · refine dr U 600 rfl trivial ?_
    refine ld U rfl rfl rfl rfl ((hkq4).cell rfl) ?_
    refine dr U 600 rfl trivial ?_
    refine ld U rfl rfl rfl rfl ((hkq4).cell rfl) ?_
    refine dr U 600 rfl trivial ?_
    refine call (f := 72) rfl rfl cb72 (rone_calls w4) ?_
    rintro v w5 ⟨⟨ao, co, rfl, ho⟩, hB5'⟩
    have hB5 := bl_tr hB4 hB5' hB4.size
    have hx5 := hx1.below hB5'
    refine ⟨_, rfl, ?_⟩
    have hQV : QV w5 (.agg ⟨[.bool false, .slice x1 (lim (qN s / qD s)).length y1, .slice ao (lim 1).length co]⟩) false (qN s / qD s) 1 := ⟨_, _, _, _, rfl, hx5, ho⟩
    have hQR : QR w5 (.agg ⟨[.bool false, .slice x1 (lim (qN s / qD s)).length y1, .slice ao (lim 1).length co]⟩) (mkq false (qN s / qD s) 1) := qr_of (by decide) (by rw [Nat.gcd_one_right, Nat.div_one, Nat.div_one]; exact hQV)
    refine dr U 600 rfl trivial ?_
    refine call (f := 45) rfl rfl cb45 (rwriteq_calls _ _ w5 hQR (fits_mkq (by decide) (by omega) (by omega)) (Nat.le_trans hsm.1 (by omega)) (Nat.le_trans hsm.2 (by omega))) ?_
    rintro v w6 ⟨hr6, hB6'⟩
    have Hr6 := hr6
    obtain ⟨_, _, rfl⟩ := Hr6.tup
    refine ⟨_, rfl, ?_⟩
    refine dr U 600 rfl trivial ?_
    exact ret Tryz.results48 rfl ⟨_, rfl, hr6, bl_tr hB5 hB6' hB5.size⟩
  · refine dr U 600 rfl trivial ?_
    refine ld U rfl rfl rfl rfl ((hkq4).cell rfl) ?_
    refine dr U 600 rfl trivial ?_
    refine call (f := 72) rfl rfl cb72 (rone_calls w4) ?_
    rintro v w5 ⟨⟨ao, co, rfl, ho⟩, hB5'⟩
    have hB5 := bl_tr hB4 hB5' hB4.size
    have hx5 := hx1.below hB5'
    refine ⟨_, rfl, ?_⟩
    have hQV : QV w5 (.agg ⟨[.bool false, .slice x1 (lim (qN s / qD s)).length y1, .slice ao (lim 1).length co]⟩) false (qN s / qD s) 1 := ⟨_, _, _, _, rfl, hx5, ho⟩
    have hQR : QR w5 (.agg ⟨[.bool false, .slice x1 (lim (qN s / qD s)).length y1, .slice ao (lim 1).length co]⟩) (mkq false (qN s / qD s) 1) := qr_of (by decide) (by rw [Nat.gcd_one_right, Nat.div_one, Nat.div_one]; exact hQV)
    refine dr U 600 rfl trivial ?_
    refine call (f := 45) rfl rfl cb45 (rwriteq_calls _ _ w5 hQR (fits_mkq (by decide) (by omega) (by omega)) (Nat.le_trans hsm.1 (by omega)) (Nat.le_trans hsm.2 (by omega))) ?_
    rintro v w6 ⟨hr6, hB6'⟩
    have Hr6 := hr6
    obtain ⟨_, _, rfl⟩ := Hr6.tup
    refine ⟨_, rfl, ?_⟩
    refine dr U 600 rfl trivial ?_
    exact ret Tryz.results48 rfl ⟨_, rfl, hr6, bl_tr hB5 hB6' hB5.size⟩

theorem rfloor_calls (s : List UInt8) (hs : s.length ≤ 1099511627776) (hq0 : QErr s 0) (hng : qneg s = false) (w : World) :
    Calls Tryz.prog 21 #[.string ⟨⟨s⟩⟩] w (Ret fun v w' => QRes (mkq false (qN s / qD s) 1) v ∧ Below w.heap.size w w') := by
  refine enter Tryz.func21 rfl Tryz.ntmps21 (Nat.le_of_ble_eq_true rfl) ?_
  refine dr U 600 rfl trivial ?_
  refine call (f := 48) rfl rfl cb48 (rround_calls s hs hq0 hng w) ?_
  rintro v w1 ⟨hr, hB⟩
  have Hr := hr
  obtain ⟨_, _, rfl⟩ := Hr.tup
  refine ⟨_, rfl, ?_⟩
  refine dr U 600 rfl trivial ?_
  exact ret Tryz.results21 rfl ⟨_, rfl, hr, hB⟩

theorem rpowhalf_calls (s : List UInt8) (hs : s.length ≤ 1099511627776) (hq0 : QErr s 0) (hng : qneg s = false) (hN : qN s = 1) (hD : qD s = 2) (n : Nat) (hn : n ≤ 256) (w : World) :
    Calls Tryz.prog 19 #[.string ⟨⟨s⟩⟩, .int .i64 (n : Nat)] w (Ret fun v w' => v = .tuple ⟨[.string ⟨⟨sh 1 n⟩⟩, .int .i64 0]⟩ ∧ Below w.heap.size w w') := by
  have hB0 := Below.refl w.heap.size w
  have h1 : nDigits 1 = 1 := nDigits_small (by omega)
  have h2 : nDigits 2 = 1 := nDigits_small (by omega)
  have ht : nDigits (2 ^ n) ≤ 78 := Nat.le_trans (nD_mono (Nat.pow_le_pow_right (by omega) hn)) (by decide +kernel)
  have hsm : Small 4000 (mkq false 1 (2 ^ n)) := mkq_small (Nat.ne_of_gt (Nat.pow_pos (by omega))) (by omega) (by omega)
  have hlt := lim_le_nD (2 ^ n)
  have hl1 := lim_le_nD 1
  refine enter Tryz.func19 rfl Tryz.ntmps19 (Nat.le_of_ble_eq_true rfl) ?_
  refine dr U 600 rfl trivial ?_
  refine call (f := 33) rfl rfl cb33 (rread_calls s hs w) ?_
  rintro v w1 ⟨hr, hBY⟩
  obtain ⟨m, a1, n1, c1, a2, n2, c2, e', rfl, hqe', hqr⟩ := hr.cases
  obtain rfl := hqe'.uniq hq0
  refine ⟨_, rfl, ?_⟩
  have hqv := qr_qv hq0 (hqr rfl)
  have hBZ := bl_tr hB0 hBY hB0.size
  refine dr U 600 rfl trivial ?_
  refine al U rfl rfl rfl rfl ?_
  intro bq w2 hbq hs2 hkq hg2
  have hBW2 := hBZ.grown hg2 hBZ.size (fun k e => by cases e)
  have hbz := hBZ.size
  refine dr U 600 rfl trivial ?_
  refine st U rfl rfl rfl rfl rfl rfl rfl rfl rfl rfl (hkq) ?_
  intro w3 hkq3 hg3 hs3
  have hBW3 := hBW2.grown hg3 hBW2.size (fun k e => by cases e; omega)
  have hg2b : Below w1.heap.size w1 w2 := (Below.refl _ _).grown hg2 (Nat.le_refl _) (fun k e => by cases e)
  obtain ⟨an, cn, ad, cd, hv', hrn, hrd⟩ := hqv
  simp only [Value.agg.injEq, Array.mk.injEq, List.cons.injEq, Value.bool.injEq, Value.slice.injEq, and_true] at hv'
  obtain ⟨rfl, ⟨rfl, rfl, rfl⟩, rfl, rfl, rfl⟩ := hv'
  have hrn := (hrn.below hg2b).past hkq ni0 hg3
  have hrd := (hrd.below hg2b).past hkq ni0 hg3
  rw [hng, hN, hD] at hkq3
  rw [hN] at hrn
  rw [hD] at hrd
  refine dr U 600 rfl trivial ?_
  refine cF rfl rfl rfl ((fun h => h rfl)) ?_; refine dr U 600 rfl trivial ?_
  refine cF rfl rfl rfl ((by omega)) ?_; refine dr U 600 rfl trivial ?_
  refine cF rfl rfl rfl ((by omega)) ?_; refine dr U 600 rfl trivial ?_
  refine ld U rfl rfl rfl rfl ((hkq3).cell rfl) ?_
  refine dr U 600 rfl trivial ?_
  refine cF rfl rfl rfl ((by omega)) ?_; refine dr U 600 rfl trivial ?_
  refine cF rfl rfl rfl ((by omega)) ?_; refine dr U 600 rfl trivial ?_
  refine ld U rfl rfl rfl rfl ((hkq3).cell rfl) ?_
  refine dr U 600 rfl trivial ?_
  refine call (f := 44) rfl rfl cb44 (power_calls 1 n (by omega) a1 c1 w3 hrn (by omega)) ?_
  rintro v w4 ⟨v1, rfl, hp1, hB4'⟩
  rw [Nat.one_pow] at hp1 ⊢
  obtain ⟨x1, y1, rfl, hx1⟩ := hp1 (by omega)
  rw [decide_eq_true (show nDigits 1 ≤ 4000 by omega)]
  have hB4 := bl_tr hBW3 hB4' hBW3.size
  have hkq4 := hkq3.below hB4' hkq3.lt
  have hrd := hrd.below hB4'
  refine ⟨_, rfl, ?_⟩
  refine dr U 600 rfl trivial ?_
  refine ld U rfl rfl rfl rfl ((hkq4).cell rfl) ?_
  refine dr U 600 rfl trivial ?_
  refine call (f := 44) rfl rfl cb44 (power_calls 2 n (by omega) a2 c2 w4 hrd (by omega)) ?_
  rintro v w5 ⟨v1, rfl, hp2, hB5'⟩
  obtain ⟨x2, y2, rfl, hx2⟩ := hp2 (by omega)
  rw [decide_eq_true (show nDigits (2 ^ n) ≤ 4000 by omega)]
  have hB5 := bl_tr hB4 hB5' hB4.size
  have hx1 := hx1.below hB5'
  refine ⟨_, rfl, ?_⟩
  refine dr U 600 rfl trivial ?_
  have hQV : QV w5 (.agg ⟨[.bool false, .slice x1 (lim 1).length y1, .slice x2 (lim (2 ^ n)).length y2]⟩) false 1 (2 ^ n) := ⟨_, _, _, _, rfl, hx1, hx2⟩
  have hQR : QR w5 (.agg ⟨[.bool false, .slice x1 (lim 1).length y1, .slice x2 (lim (2 ^ n)).length y2]⟩) (mkq false 1 (2 ^ n)) := qr_of (Nat.ne_of_gt (Nat.pow_pos (by omega))) (by rw [Nat.gcd_one_left, Nat.div_one, Nat.div_one]; exact hQV)
  refine call (f := 45) rfl rfl cb45 (rwriteq_calls _ _ w5 hQR (fits_mkq (Nat.ne_of_gt (Nat.pow_pos (by omega))) (by omega) (by omega)) (Nat.le_trans hsm.1 (by omega)) (Nat.le_trans hsm.2 (by omega))) ?_
  rintro v w6 ⟨hr6, hB6'⟩
  obtain rfl := hr6.ok hsm
  refine ⟨_, rfl, ?_⟩
  refine dr U 600 rfl trivial ?_
  exact ret Tryz.results19 rfl ⟨_, rfl, rfl, bl_tr hB5 hB6' hB5.size⟩
end Go.Proofs.YtabplbmbnakalaaGreatDoor
end
section
set_option linter.unusedSimpArgs false
set_option linter.unusedVariables false
set_option maxHeartbeats 1000000
namespace Go.Proofs.YtabplbmbnakalaaGreatDoor
open Go Go.Proofs Go.RowKit Go.Lib

theorem mkq_eq_iff {a b c d : Nat} (hb : b ≠ 0) (hd : d ≠ 0) : mkq false a b = mkq false c d ↔ a * d = c * b := by
  unfold mkq
  rw [Rat.mkRat_eq_iff hb hd]
  simp only [Bool.false_eq_true, if_false]
  constructor
  · intro h; exact_mod_cast h
  · intro h; exact_mod_cast h
theorem mkq_negate (k d : Nat) : -(mkq false k d) = mkq true k d := by
  unfold mkq
  rw [Rat.neg_mkRat]; rfl
theorem q_text_inj {p q : Rat} (hp : Small 4000 p) (hq : Small 4000 q) (h : qtext p = qtext q) : p = q := by
  rw [← (q_text_ok p hp).2, ← (q_text_ok q hq).2, h]
theorem two_inv (T : Nat) (hT : T ≠ 0) : (mkq false 1 T)⁻¹ = mkq false T 1 := by
  have h0 : mkq false 1 T ≠ 0 := fun h => by
    have := mkq_num false 1 T hT
    rw [h, Nat.gcd_one_left] at this; simp at this
  rw [mkq_inv h0, mkq_num _ _ _ hT, (mkq_form _ _ _ hT).2, Nat.gcd_one_left, Nat.div_one, Nat.div_one]
  rw [show decide ((mkq false 1 T).num < 0) = false from by rw [decide_eq_false_iff_not, mkq_neg _ _ _ hT]; simp]
theorem whole_q (N D T : Nat) (hT : T ≠ 0) : mkq false N D * (mkq false 1 T)⁻¹ = mkq false (N * T) D := by
  rw [two_inv T hT, mkq_mul, Nat.mul_one]; rfl
theorem gap_q (N D T k r : Nat) (hD : D ≠ 0) (hT : T ≠ 0) (h : N * T = k * D + r) : mkq false N D + -(mkq false k T) = mkq false r (D * T) := by
  rw [mkq_negate, show true = !false from rfl, mkq_add_ge false N D k T hD hT (by omega)]
  rw [h, Nat.add_sub_cancel_left]
theorem gap_lt (D T r : Nat) (hD : D ≠ 0) (hT : T ≠ 0) (h : r < D) : cmpQ (mkq false r (D * T)) (mkq false 1 T) = -1 := by
  have hDT : D * T ≠ 0 := Nat.mul_ne_zero hD hT
  have hlt : r * T < 1 * (D * T) := by rw [Nat.one_mul]; exact Nat.mul_lt_mul_of_pos_right h (Nat.pos_of_ne_zero hT)
  have e : mkq false r (D * T) + -(mkq false 1 T) = mkq true (1 * (D * T) - r * T) (D * T * T) := by
    rw [mkq_negate]
    exact mkq_add_lt false r (D * T) 1 T hDT hT (Nat.le_of_lt hlt)
  have hn : (mkq true (1 * (D * T) - r * T) (D * T * T)).num < 0 := (mkq_neg _ _ _ (Nat.mul_ne_zero hDT hT)).2 ⟨rfl, by omega⟩
  unfold cmpQ
  rw [e, if_neg (fun h => by rw [h] at hn; exact absurd hn (by decide)), if_pos hn]
/-- The value of the key 1 in a list. -/
def keyOne (ms : List (List UInt8 × List UInt8)) : List UInt8 := ms.foldl (fun a m => if m.1 = [49] then m.2 else a) [48]
theorem keyOne_take {ms : List (List UInt8 × List UInt8)} {i : Nat} (h : i < ms.length) : keyOne (ms.take (i + 1)) = if ms[i].1 = [49] then ms[i].2 else keyOne (ms.take i) := by
  unfold keyOne
  rw [List.take_succ_eq_append_getElem h, List.foldl_append]; rfl
theorem keyOne_law (N D n : Nat) : keyOne (fl (lawl N D n)) = sh (kone N D n) n := by
  unfold lawl
  generalize sh (kzero N D n) n = a
  generalize sh (kone N D n) n = b
  generalize sh (opn N D n) n = c
  unfold fl keyOne
  by_cases ha : a = [48] <;> by_cases hb : b = [48] <;> by_cases hc : c = [48] <;> simp [ha, hb, hc]
theorem q_zero_text (d : Nat) (hd : d ≠ 0) : qtext (mkq false 0 d) = [48] := by
  rw [qtext_mkq _ _ _ hd, Nat.zero_div, Nat.gcd_zero_left, Nat.div_self (Nat.pos_of_ne_zero hd), d_zero]; rfl
theorem sh_zero (n : Nat) : sh 0 n = [48] := q_zero_text (2 ^ n) (Nat.ne_of_gt (Nat.pow_pos (by omega)))
theorem sh_small {k n : Nat} (hn : n ≤ 256) (hk : k ≤ 2 ^ n) : Small 78 (mkq false k (2 ^ n)) := by
  have hp : nDigits (2 ^ n) ≤ 78 := Nat.le_trans (nD_mono (Nat.pow_le_pow_right (by omega) hn)) (by decide +kernel)
  exact mkq_small (Nat.ne_of_gt (Nat.pow_pos (by omega))) (Nat.le_trans (nD_mono hk) hp) hp
theorem sh_one_ne (n : Nat) (hn : n ≤ 256) : sh 1 n ≠ [48] := by
  intro h
  have hT : (2 ^ n : Nat) ≠ 0 := Nat.ne_of_gt (Nat.pow_pos (by omega))
  have h1 := small_mono (sh_small (k := 1) hn (Nat.pow_pos (by omega))) (show 78 ≤ 4000 by omega)
  have h0 := small_mono (sh_small (k := 0) hn (Nat.zero_le _)) (show 78 ≤ 4000 by omega)
  have := q_text_inj h1 h0 (h.trans (sh_zero n).symm)
  rw [mkq_eq_iff hT hT] at this
  omega

/-- What the laws ask of the shares. -/
theorem near_law (N D n : Nat) (hD : D ≠ 0) (hle : N ≤ D) (hN : nDigits N ≤ 1000) (hDd : nDigits D ≤ 1000) (hn : n ≤ 256) :
    Small 4000 (mkq false (N * 2 ^ n) D) ∧ Small 4000 (mkq false (kone N D n) 1) ∧ Small 4000 (mkq false (N * 2 ^ n % D) (D * 2 ^ n)) ∧
    mkq false N D + -(mkq false (kone N D n) (2 ^ n)) = mkq false (N * 2 ^ n % D) (D * 2 ^ n) ∧
    cmpQ (mkq false (N * 2 ^ n % D) (D * 2 ^ n)) (mkq false 1 (2 ^ n)) = -1 ∧
    (qtext (mkq false (kone N D n) 1) = qtext (mkq false (N * 2 ^ n) D) ↔ opn N D n = 0) ∧
    (opn N D n = 0 → qtext (mkq false (N * 2 ^ n % D) (D * 2 ^ n)) = [48]) ∧ kone N D n ≤ 2 ^ n := by
  have hT : (2 ^ n : Nat) ≠ 0 := Nat.ne_of_gt (Nat.pow_pos (by omega))
  have hp : nDigits (2 ^ n) ≤ 78 := Nat.le_trans (nD_mono (Nat.pow_le_pow_right (by omega) hn)) (by decide +kernel)
  have h1 := nD_mul N (2 ^ n)
  have h2 := nD_mul D (2 ^ n)
  have hk := kone_le (n := n) (Nat.pos_of_ne_zero hD) hle
  have h11 : nDigits 1 = 1 := nDigits_small (by omega)
  have hk4 : nDigits (kone N D n) ≤ 78 := Nat.le_trans (nD_mono (Nat.le_trans (Nat.le_add_right _ _) hk)) hp
  have hr : N * 2 ^ n % D < D := Nat.mod_lt _ (Nat.pos_of_ne_zero hD)
  have hr4 : nDigits (N * 2 ^ n % D) ≤ 1000 := Nat.le_trans (nD_mono (Nat.le_of_lt hr)) hDd
  have hs1 : Small 4000 (mkq false (N * 2 ^ n) D) := mkq_small hD (by omega) (by omega)
  have hs2 : Small 4000 (mkq false (kone N D n) 1) := mkq_small (by decide) (by omega) (by omega)
  have hdm : N * 2 ^ n = kone N D n * D + N * 2 ^ n % D := by
    unfold kone
    have := Nat.div_add_mod (N * 2 ^ n) D
    rw [Nat.mul_comm D] at this; omega
  refine ⟨hs1, hs2, mkq_small (Nat.mul_ne_zero hD hT) (by omega) (by omega), gap_q N D _ _ _ hD hT hdm, gap_lt D _ _ hD hT hr, ?_, ?_, Nat.le_trans (Nat.le_add_right _ _) hk⟩
  · constructor
    · intro h
      have e := q_text_inj hs2 hs1 h
      rw [mkq_eq_iff (by decide) hD, Nat.mul_one] at e
      unfold opn
      rw [if_pos (by omega)]
    · intro h
      have hr0 : N * 2 ^ n % D = 0 := by
        unfold opn at h
        by_cases h' : N * 2 ^ n % D = 0
        · exact h'
        · rw [if_neg h'] at h; cases h
      rw [(mkq_eq_iff (by decide) hD).2 (show kone N D n * D = N * 2 ^ n * 1 by omega)]
  · intro h
    have hr0 : N * 2 ^ n % D = 0 := by
      unfold opn at h
      by_cases h' : N * 2 ^ n % D = 0
      · exact h'
      · rw [if_neg h'] at h; cases h
    rw [hr0]
    exact q_zero_text _ (Nat.mul_ne_zero hD hT)
theorem qpos_text (n d : Nat) (hd : d ≠ 0) (hs : Small 4000 (mkq false n d)) : QErr (qtext (mkq false n d)) 0 ∧ qneg (qtext (mkq false n d)) = false ∧ qval (qtext (mkq false n d)) = mkq false n d ∧ qN (qtext (mkq false n d)) / qD (qtext (mkq false n d)) = n / d := by
  obtain ⟨h1, h2⟩ := q_text_ok _ hs
  obtain ⟨g1, g2, g3, _⟩ := q_text (mkq false n d)
  refine ⟨h1, ?_, h2, ?_⟩
  · rw [g1, decide_eq_false_iff_not, mkq_neg _ _ _ hd]; simp
  · unfold qN qD
    rw [g2, g3, mkq_num _ _ _ hd, (mkq_form _ _ _ hd).2, (dec_dval _).2, (dec_dval _).2]
    have hg : 0 < Nat.gcd n d := Nat.gcd_pos_of_pos_right _ (Nat.pos_of_ne_zero hd)
    have e1 := Nat.div_mul_cancel (Nat.gcd_dvd_left n d)
    have e2 := Nat.div_mul_cancel (Nat.gcd_dvd_right n d)
    have := Nat.mul_div_mul_right (n / Nat.gcd n d) (d / Nat.gcd n d) hg
    rw [e1, e2] at this
    exact this.symm
theorem qtext_short {r : Rat} (h : Small 4000 r) : (qtext r).length ≤ 1099511627776 := by
  unfold qtext
  have h1 := h.1
  have h2 := h.2
  simp only [List.length_append, decDigits_length]
  split <;> split <;> simp only [List.length_cons, List.length_nil, decDigits_length] <;> omega
end Go.Proofs.YtabplbmbnakalaaGreatDoor
end
section
set_option linter.unusedSimpArgs false
set_option linter.unusedVariables false
set_option maxHeartbeats 1000000
namespace Go.Proofs.YtabplbmbnakalaaGreatDoor
open Go Go.Proofs Go.RowKit Go.Lib

theorem LateR.err {s : List UInt8} {n : Int} {v : Value} (h : LateR s n v) : ∃ x e, v = .tuple ⟨[.string ⟨⟨x⟩⟩, .int .i64 e]⟩ ∧ LErr s n e ∧ (e = 0 → x = sh (opn (qN s) (qD s) n.toNat) n.toNat) ∧ (e ≠ 0 → x = []) := by
  rcases h with ⟨e, h1, h2, rfl⟩ | ⟨h1, rfl⟩
  · exact ⟨_, _, rfl, h2, fun h => absurd h h1, fun _ => rfl⟩
  · exact ⟨_, _, rfl, h1, fun _ => rfl, fun h => absurd rfl h⟩
theorem LawR.err {s : List UInt8} {n : Int} {v : Value} {w : World} (h : LawR s n v w) : ∃ a c ms e, v = .tuple ⟨[.slice a (List.length ms) c, .int .i64 e]⟩ ∧ Sl w a (mcells ms) ∧ ms.length ≤ 3 ∧ LErr s n e ∧ (e = 0 → ms = fl (lawl (qN s) (qD s) n.toNat)) ∧ (e ≠ 0 → ms = []) := by
  rcases h with ⟨e, h1, h2, rfl⟩ | ⟨h1, a, c, rfl, h2⟩
  · exact ⟨none, 0, [], e, rfl, Sl.nil _ _, Nat.zero_le _, h2, fun h => absurd h h1, fun _ => rfl⟩
  · exact ⟨a, c, _, 0, rfl, h2, List.length_filter_le _ _, h1, fun _ => rfl, fun h => absurd rfl h⟩

theorem coinNear_calls (p : List UInt8) (n : Int) (hp : p.length ≤ 9223372036854775806) (hn : -9223372036854775808 ≤ n ∧ n ≤ 9223372036854775807) (w0 : World) (ht0 : TabOk w0) :
    Calls Tryz.prog 7 #[.string ⟨⟨p⟩⟩, .int .i64 n] w0 (Ret fun v w' => v = .bool true ∧ Below w0.heap.size w0 w') := by
  have hW0 := Below.refl w0.heap.size w0
  refine enter Tryz.func7 rfl Tryz.ntmps7 (Nat.le_of_ble_eq_true rfl) ?_
  refine dr U 600 rfl trivial ?_
  refine call (f := 8) rfl rfl cb8 (clives_calls w0 ht0) ?_; rintro v w1 ⟨rfl, hB1⟩; refine ⟨_, rfl, ?_⟩; have ht1 := ht0.below hB1; have hW1 := bl_tr hW0 hB1 hW0.size; refine dr U 600 rfl trivial ?_
  refine cS rfl rfl rfl rfl (fun hq1 => ?_) (fun hq1 => ?_)
  · refine dr U 600 rfl trivial ?_
    exact ret Tryz.results7 rfl ⟨_, rfl, rfl, hW1⟩
  refine dr U 600 rfl trivial ?_
  refine call (f := 11) rfl rfl cb11 (law_calls p n (by omega) w1 ht1) ?_
  rintro v w2 ⟨hr2, hB2⟩
  have hW2 := bl_tr hW1 hB2 hW1.size
  have ht2 := ht0.below hW2
  obtain ⟨a, c, ms, e, rfl, hsl, hl3, hle, hms, _⟩ := hr2.err
  refine ⟨_, rfl, ?_⟩
  refine dr U 600 rfl trivial ?_
  refine call (f := 10) rfl rfl cb10 (late_calls p n (by omega) w2 ht2) ?_
  rintro v w3 ⟨hr3, hB3⟩
  have hW3 := bl_tr hW2 hB3 hW2.size
  have ht3 := ht0.below hW3
  have hsl := hsl.stay hB3
  obtain ⟨x, f, rfl, hle3, hx, _⟩ := hr3.err
  obtain rfl := hle3.uniq hle
  refine ⟨_, rfl, ?_⟩
  refine dr U 600 rfl trivial ?_
  refine cS rfl rfl rfl rfl (fun hq2 => ?_) (fun hq2 => ?_)
  · refine dr U 600 rfl trivial ?_
    refine cT rfl rfl rfl (rfl) ?_; refine dr U 600 rfl trivial ?_
    exact ret Tryz.results7 rfl ⟨_, rfl, rfl, hW3⟩
  obtain rfl := Classical.not_not.1 hq2
  obtain ⟨hpe, k, rfl, hk⟩ := hle.ok
  have hms := hms rfl
  have hx := hx rfl
  rw [Int.toNat_natCast] at hms hx
  obtain ⟨hQ, hng, hleD, hlN, hlD⟩ := hpe.ok
  obtain ⟨hdN, hdD⟩ := hQ.digs
  obtain ⟨_, _, hD0, _⟩ := hpe.nums
  have hval : qval p = mkq false (qN p) (qD p) := by unfold qval; rw [hng]
  obtain ⟨hs1, hs2, hs3, hgap, hlt, hfl, hgz, hkle⟩ := near_law (qN p) (qD p) k (Nat.ne_of_gt hD0) hleD (by omega) (by omega) hk
  have hko := keyOne_law (qN p) (qD p) k
  have hT : (2 ^ k : Nat) ≠ 0 := Nat.ne_of_gt (Nat.pow_pos (by omega))
  obtain ⟨hu1, hu2, hu3, _⟩ := qpos_text 1 (2 ^ k) hT (small_mono (sh_small hk (Nat.pow_pos (by omega))) (by omega))
  obtain ⟨ho1, ho2, ho3, _⟩ := qpos_text (kone (qN p) (qD p) k) (2 ^ k) hT (small_mono (sh_small hk hkle) (by omega))
  obtain ⟨hw1, hw2, hw3, hw4⟩ := qpos_text _ _ (Nat.ne_of_gt hD0) hs1
  obtain ⟨hg1, hg2, hg3, _⟩ := qpos_text _ _ (Nat.mul_ne_zero (Nat.ne_of_gt hD0) hT) hs3
  have hu0 : mkq false 1 (2 ^ k) ≠ 0 := fun h => sh_one_ne k hk (by unfold sh; rw [h, ← show mkq false 0 1 = 0 from by rw [show (0 : Rat) = mkRat 0 1 from rfl]; rfl]; exact q_zero_text 1 (by decide))
  have hopn := opn_le (qN p) (qD p) k
  have hneU := sh_one_ne k hk
  have hU : sh 1 k = qtext (mkq false 1 (2 ^ k)) := rfl
  have hO : sh (kone (qN p) (qD p) k) k = qtext (mkq false (kone (qN p) (qD p) k) (2 ^ k)) := rfl
  have hlenu : (sh 1 k).length ≤ 1099511627776 := by rw [hU]; exact qtext_short (small_mono (sh_small hk (Nat.pow_pos (by omega))) (by omega))
  have hleno : (sh (kone (qN p) (qD p) k) k).length ≤ 1099511627776 := by rw [hO]; exact qtext_short (small_mono (sh_small hk hkle) (by omega))
  have hlenw := qtext_short hs1
  have hleng := qtext_short hs3
  refine dr U 600 rfl trivial ?_
  refine cF rfl rfl rfl ((fun h => h rfl)) ?_; refine dr U 600 rfl trivial ?_
  refine call (f := 19) rfl rfl cb19 (rpowhalf_calls [49, 47, 50] (by decide) (qok _ 1 2 (by decide) (by decide) (by decide) _ s12) (by decide) (by decide) (by decide) k hk w3) ?_
  rintro v w4 ⟨rfl, hB4⟩
  have hW4 := bl_tr hW3 hB4 hW3.size
  have hsl := hsl.stay hB4
  refine ⟨_, rfl, ?_⟩
  refine dr U 600 rfl trivial ?_
  refine loopR (fun f w' m => ∃ i : Nat, f = [(0, .string ⟨⟨p⟩⟩), (5, .slice a ms.length c), (7, .string ⟨⟨x⟩⟩), (9, .string ⟨⟨sh 1 k⟩⟩), (11, .string ⟨⟨keyOne (ms.take i)⟩⟩), (12, .int .i64 (i : Nat))] ∧ i ≤ ms.length ∧ w4 = w' ∧ m = ms.length - i)
    ⟨0, rfl, by omega, rfl, rfl⟩ ⟨rfl, rfl, rfl, rfl, rfl, rfl, trivial⟩ ?_
  rintro fr w5 m ⟨i, rfl, hi, rfl, rfl⟩
  refine dr U 600 rfl trivial ?_
  refine cS rfl rfl rfl rfl (fun hq => ?_) (fun hq => ?_)
  · have hil : i < ms.length := by omega
    obtain ⟨g, off, hga, hcell⟩ := hsl.at (j := i * 2 + 0) (by rw [mcells_length]; omega)
    have hc0 := hcell _ _ (mcells_at ms i hil 0 _ rfl)
    have hc1 := hcell _ _ (mcells_at ms i hil 1 _ rfl)
    subst hga
    refine dr U 600 rfl trivial ?_
    refine ia U rfl rfl rfl rfl rfl rfl i rfl hil ?_
    refine dr U 600 rfl trivial ?_
    refine ld U rfl rfl rfl rfl (by rw [add_plain, Nat.add_zero]; exact hc0) ?_
    refine dr U 600 rfl trivial ?_
    refine cS rfl rfl rfl rfl (fun hq3 => ?_) (fun hq3 => ?_)
    · refine dr U 600 rfl trivial ?_
      refine ia U rfl rfl rfl rfl rfl rfl i rfl hil ?_
      refine dr U 600 rfl trivial ?_
      refine ld U rfl rfl rfl rfl (by rw [add_plain]; exact hc1) ?_
      refine dr U 600 rfl (by first | exact True.intro | (simp only [AllP, InR, List.nil_append, List.cons_append, and_true]; omega)) ?_
      exact rend _ _ ⟨i + 1, rfl, by omega, rfl, rfl⟩ (by omega) ⟨rfl, rfl, rfl, rfl, by rw [keyOne_take hil, if_pos hq3]; rfl, iv (by omega), trivial⟩
    · refine dr U 600 rfl (by first | exact True.intro | (simp only [AllP, InR, List.nil_append, List.cons_append, and_true]; omega)) ?_
      exact rend _ _ ⟨i + 1, rfl, by omega, rfl, rfl⟩ (by omega) ⟨rfl, rfl, rfl, rfl, by rw [keyOne_take hil, if_neg hq3]; rfl, iv (by omega), trivial⟩
  obtain rfl : i = ms.length := by omega
  rw [List.take_length, hms, hko]
  refine dr U 600 rfl trivial ?_
  refine call (f := 20) rfl rfl cb20 (rdiv_calls p (sh 1 k) (by omega) hlenu w4) ?_
  rintro v w5 ⟨hr5, hB5⟩
  have hW5 := bl_tr hW4 hB5 hW4.size
  have hr5 := hr5.vals hQ hu1 (by rw [hu3]; exact hu0)
  rw [hu3, hval, whole_q _ _ _ hT] at hr5
  obtain rfl := hr5.ok hs1
  refine ⟨_, rfl, ?_⟩
  refine dr U 600 rfl trivial ?_
  refine call (f := 21) rfl rfl cb21 (rfloor_calls _ hlenw hw1 hw2 w5) ?_
  rintro v w6 ⟨hr6, hB6⟩
  have hW6 := bl_tr hW5 hB6 hW5.size
  rw [hw4] at hr6
  obtain rfl := hr6.ok hs2
  refine ⟨_, rfl, ?_⟩
  refine dr U 600 rfl trivial ?_
  refine call (f := 22) rfl rfl cb22 (rsub_calls p _ (by omega) hleno w6) ?_
  rintro v w7 ⟨hr7, hB7⟩
  have hW7 := bl_tr hW6 hB7 hW6.size
  have hr7 := hr7.vals hQ ho1
  rw [ho3, hval, hgap] at hr7
  obtain rfl := hr7.ok hs3
  refine ⟨_, rfl, ?_⟩
  refine dr U 600 rfl trivial ?_
  refine call (f := 23) rfl rfl cb23 (rsign_calls _ hleng hg1 w7) ?_
  rintro v w8 ⟨rfl, hB8⟩
  have hW8 := bl_tr hW7 hB8 hW7.size
  obtain ⟨sg, hsg, hpos⟩ : ∃ sg : Int, (if qN (qtext (mkq false (qN p * 2 ^ k % qD p) (qD p * 2 ^ k))) = 0 then 0 else if qneg (qtext (mkq false (qN p * 2 ^ k % qD p) (qD p * 2 ^ k))) = true then -1 else 1) = sg ∧ 0 ≤ sg := by
    refine ⟨_, rfl, ?_⟩
    rw [hg2]
    split
    · decide
    · decide
  rw [hsg]
  refine ⟨_, rfl, ?_⟩
  refine dr U 600 rfl trivial ?_
  refine call (f := 24) rfl rfl cb24 (rcmp_calls _ (sh 1 k) hleng hlenu w8) ?_
  rintro v w9 ⟨hr9, hB9⟩
  have hW9 := bl_tr hW8 hB9 hW8.size
  obtain rfl := hr9.vals hg1 hu1
  rw [hu3, hg3, hlt]
  refine ⟨_, rfl, ?_⟩
  refine dr U 600 rfl trivial ?_
  rcases (show opn (qN p) (qD p) k = 0 ∨ opn (qN p) (qD p) k = 1 by omega) with h0 | h0
  · rw [h0, sh_zero] at hx
    subst hx
    refine cF rfl rfl rfl ((fun h => h rfl)) ?_; refine dr U 600 rfl trivial ?_
    refine cT rfl rfl rfl (rfl) ?_; refine dr U 600 rfl trivial ?_
    refine cT rfl rfl rfl (hfl.2 h0) ?_; refine dr U 600 rfl trivial ?_
    refine cT rfl rfl rfl (hpos) ?_; refine dr U 600 rfl trivial ?_
    refine cT rfl rfl rfl ((by decide)) ?_; refine dr U 600 rfl trivial ?_
    refine cF rfl rfl rfl ((fun h => h rfl)) ?_; refine dr U 600 rfl trivial ?_
    refine cT rfl rfl rfl (hgz h0) ?_; refine dr U 600 rfl trivial ?_
    exact ret Tryz.results7 rfl ⟨_, rfl, rfl, hW9⟩
  · rw [h0] at hx
    subst hx
    refine cT rfl rfl rfl (hneU) ?_; refine dr U 600 rfl trivial ?_
    refine cF rfl rfl rfl ((fun h => h rfl)) ?_; refine dr U 600 rfl trivial ?_
    refine cF rfl rfl rfl (hneU) ?_; refine dr U 600 rfl trivial ?_
    refine cF rfl rfl rfl ((fun h => by rw [hfl.1 h] at h0; cases h0)) ?_; refine dr U 600 rfl trivial ?_
    refine cT rfl rfl rfl (hpos) ?_; refine dr U 600 rfl trivial ?_
    refine cT rfl rfl rfl ((by decide)) ?_; refine dr U 600 rfl trivial ?_
    refine cT rfl rfl rfl (hneU) ?_; refine dr U 600 rfl trivial ?_
    exact ret Tryz.results7 rfl ⟨_, rfl, rfl, hW9⟩
end Go.Proofs.YtabplbmbnakalaaGreatDoor
end
