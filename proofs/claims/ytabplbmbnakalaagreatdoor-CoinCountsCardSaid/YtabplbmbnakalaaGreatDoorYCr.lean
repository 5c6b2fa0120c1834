/-
  Walks of the reference's Sign, Floor (of numbers at least 0) and Pow (of one half); sums, quotients and comparisons of readable texts.
  Conditions: texts take fewer than 2^40 bytes.

  The law CoinNear: it returns true for every input. The gap between a probability and the share of the strings that decide for 1 is what division leaves.
  Conditions: the library's table of powers of ten is laid.

  Walks of the law package's share and of the reference's list of all bit strings.
  Conditions: none beyond the bounds that each theorem lists.

  The walk of the law CoinNear: it returns true for every input.
  Conditions: the library's table of powers of ten is laid.

  The law CoinCounts: it returns true for every input: counting what all bit strings decide gives the law.
  Conditions: the library's table of powers of ten is laid.
-/
import Derived.Test.YtabplbmbnakalaaGreatDoorYRng
import Derived.Test.YtabplbmbnakalaaGreatDoorYSz
import Derived.Test.YtabplbmbnakalaaGreatDoorYBl
import Derived.Test.YtabplbmbnakalaaGreatDoorYR9
import Derived.Test.YtabplbmbnakalaaGreatDoorYCl
import Derived.Test.YtabplbmbnakalaaGreatDoorYCn
section
set_option linter.unusedSimpArgs false
set_option linter.unusedVariables false
set_option maxHeartbeats 1000000
namespace Go.Proofs.YtabplbmbnakalaaGreatDoor
open Go Go.Proofs Go.RowKit Go.Lib

theorem BinR.vals {f : Rat → Rat → Rat} {s t : List UInt8} {v : Value} (hs : QErr s 0) (ht : QErr t 0) (h : BinR f s t v) : QRes (f (qval s) (qval t)) v := by
  rcases h with ⟨e, g1, g2, rfl⟩ | ⟨_, g⟩
  · exact absurd (g2.uniq (.inr ⟨hs, ht⟩)) g1
  · exact g
theorem DivR.vals {s t : List UInt8} {v : Value} (hs : QErr s 0) (ht : QErr t 0) (h0 : qval t ≠ 0) (h : DivR s t v) : QRes (qval s * (qval t)⁻¹) v := by
  rcases h with ⟨e, g1, g2, rfl⟩ | ⟨_, g, _⟩ | ⟨_, _, g⟩
  · exact absurd (g2.uniq (.inr ⟨hs, ht⟩)) g1
  · exact absurd g h0
  · exact g
theorem CmpR.vals {s t : List UInt8} {v : Value} (hs : QErr s 0) (ht : QErr t 0) (h : CmpR s t v) : v = .tuple ⟨[.int .i64 (cmpQ (qval s) (qval t)), .int .i64 0]⟩ := by
  rcases h with ⟨e, g1, g2, rfl⟩ | ⟨_, g⟩
  · exact absurd (g2.uniq (.inr ⟨hs, ht⟩)) g1
  · exact g


theorem rsign_calls (s : List UInt8) (hs : s.length ≤ 1099511627776) (hq0 : QErr s 0) (w : World) :
    Calls Tryz.prog 23 #[.string ⟨⟨s⟩⟩] w (Ret fun v w' => v = .tuple ⟨[.int .i64 (if qN s = 0 then 0 else if qneg s = true then -1 else 1), .int .i64 0]⟩ ∧ Below w.heap.size w w') := by
  have hB0 := Below.refl w.heap.size w
  refine enter Tryz.func23 rfl Tryz.ntmps23 (Nat.le_of_ble_eq_true rfl) ?_
  refine dr U 600 rfl trivial ?_
  refine call (f := 33) rfl rfl cb33 (rread_calls s hs w) ?_
  rintro v w1 ⟨hr, hBY⟩
  obtain ⟨m, a1, n1, c1, a2, n2, c2, e', rfl, hqe', hqr⟩ := hr.cases
  obtain rfl := hqe'.uniq hq0
  refine ⟨_, rfl, ?_⟩
  have hqv := qr_qv hq0 (hqr rfl)
  have hBZ := bl_tr hB0 hBY hB0.size
  refine dr U 600 rfl trivial ?_
  refine al U rfl rfl rfl rfl ?_
  intro bq w2 hbq hs2 hkq hg2
  have hBW2 := hBZ.grown hg2 hBZ.size (fun k e => by cases e)
  have hbz := hBZ.size
  refine dr U 600 rfl trivial ?_
  refine st U rfl rfl rfl rfl rfl rfl rfl rfl rfl rfl (hkq) ?_
  intro w3 hkq3 hg3 hs3
  have hBW3 := hBW2.grown hg3 hBW2.size (fun k e => by cases e; omega)
  have hg2b : Below w1.heap.size w1 w2 := (Below.refl _ _).grown hg2 (Nat.le_refl _) (fun k e => by cases e)
  obtain ⟨an, cn, ad, cd, hv', hrn, hrd⟩ := hqv
  simp only [Value.agg.injEq, Array.mk.injEq, List.cons.injEq, Value.bool.injEq, Value.slice.injEq, and_true] at hv'
  obtain ⟨rfl, ⟨rfl, rfl, rfl⟩, rfl, rfl, rfl⟩ := hv'
  have hrn := (hrn.below hg2b).past hkq ni0 hg3
  have hrd := (hrd.below hg2b).past hkq ni0 hg3
  refine dr U 600 rfl trivial ?_
  refine cF rfl rfl rfl ((fun h => h rfl)) ?_; refine dr U 600 rfl trivial ?_
  refine ld U rfl rfl rfl rfl ((hkq3).cell rfl) ?_
  refine dr U 600 rfl trivial ?_
  refine cS rfl rfl rfl rfl (fun hq => ?_) (fun hq => ?_)
  · have hn0 : qN s = 0 := lim_len_zero.1 (by omega)
    refine dr U 600 rfl trivial ?_
    exact ret Tryz.results23 rfl ⟨_, rfl, by rw [if_pos hn0]; rfl, hBW3⟩
  · have hn0 : qN s ≠ 0 := fun h => hq (by rw [h, lim_zero]; rfl)
    refine dr U 600 rfl trivial ?_
    refine ld U rfl rfl rfl rfl ((hkq3).cell rfl) ?_
    cases hng : qneg s with
    | true =>
      refine dr U 600 rfl trivial ?_
      exact ret Tryz.results23 rfl ⟨_, rfl, by rw [if_neg hn0, if_pos rfl]; rfl, hBW3⟩
    | false =>
      refine dr U 600 rfl trivial ?_
      exact ret Tryz.results23 rfl ⟨_, rfl, by rw [if_neg hn0, if_neg (by decide)]; rfl, hBW3⟩

theorem rround_calls (s : List UInt8) (hs : s.length ≤ 1099511627776) (hq0 : QErr s 0) (hng : qneg s = false) (w : World) :
    Calls Tryz.prog 48 #[.string ⟨⟨s⟩⟩, .bool false] w (Ret fun v w' => QRes (mkq false (qN s / qD s) 1) v ∧ Below w.heap.size w w') := by
  have hB0 := Below.refl w.heap.size w
  obtain ⟨hd1, hd2⟩ := hq0.digs
  obtain ⟨hQ, hl1, hl2, _⟩ := hq0.ok
  have hln := lim_le_nD (qN s)
  have hld := lim_le_nD (qD s)
  have hD0 : 0 < qD s := Nat.pos_of_ne_zero (qd_pos hQ)
  have hnq : nDigits (qN s / qD s) ≤ 4000 := Nat.le_trans (nD_mono (Nat.div_le_self _ _)) (by omega)
  have hlq := lim_le_nD (qN s / qD s)
  have hl1' := lim_le_nD 1
  have h1 : nDigits 1 = 1 := nDigits_small (by omega)
  have hsm : Small 4000 (mkq false (qN s / qD s) 1) := mkq_small (by decide) hnq (by omega)
  refine enter Tryz.func48 rfl Tryz.ntmps48 (Nat.le_of_ble_eq_true rfl) ?_
  refine dr U 600 rfl trivial ?_
  refine call (f := 33) rfl rfl cb33 (rread_calls s hs w) ?_
  rintro v w1 ⟨hr, hBY⟩
  obtain ⟨m, a1, n1, c1, a2, n2, c2, e', rfl, hqe', hqr⟩ := hr.cases
  obtain rfl := hqe'.uniq hq0
  refine ⟨_, rfl, ?_⟩
  have hqv := qr_qv hq0 (hqr rfl)
  have hBZ := bl_tr hB0 hBY hB0.size
  refine dr U 600 rfl trivial ?_
  refine al U rfl rfl rfl rfl ?_
  intro bq w2 hbq hs2 hkq hg2
  have hBW2 := hBZ.grown hg2 hBZ.size (fun k e => by cases e)
  have hbz := hBZ.size
  refine dr U 600 rfl trivial ?_
  refine st U rfl rfl rfl rfl rfl rfl rfl rfl rfl rfl (hkq) ?_
  intro w3 hkq3 hg3 hs3
  have hBW3 := hBW2.grown hg3 hBW2.size (fun k e => by cases e; omega)
  have hg2b : Below w1.heap.size w1 w2 := (Below.refl _ _).grown hg2 (Nat.le_refl _) (fun k e => by cases e)
  obtain ⟨an, cn, ad, cd, hv', hrn, hrd⟩ := hqv
  simp only [Value.agg.injEq, Array.mk.injEq, List.cons.injEq, Value.bool.injEq, Value.slice.injEq, and_true] at hv'
  obtain ⟨rfl, ⟨rfl, rfl, rfl⟩, rfl, rfl, rfl⟩ := hv'
  have hrn := (hrn.below hg2b).past hkq ni0 hg3
  have hrd := (hrd.below hg2b).past hkq ni0 hg3
  rw [hng] at hkq3
  refine dr U 600 rfl trivial ?_
  refine cF rfl rfl rfl ((fun h => h rfl)) ?_; refine dr U 600 rfl trivial ?_
  refine ld U rfl rfl rfl rfl ((hkq3).cell rfl) ?_
  refine dr U 600 rfl trivial ?_
  refine ld U rfl rfl rfl rfl ((hkq3).cell rfl) ?_
  refine dr U 600 rfl trivial ?_
  refine call (f := 74) rfl rfl cb74 (divide_calls (qN s) (qD s) hD0 a1 a2 c1 c2 w3 hrn hrd (by omega) (by omega)) ?_
  rintro v w4 ⟨v1, v2, rfl, hr1, hr2, hB4'⟩
  obtain ⟨x1, y1, rfl, hx1⟩ := hr1
  obtain ⟨x2, y2, rfl, hx2⟩ := hr2
  have hB4 := bl_tr hBW3 hB4' hBW3.size
  have hkq4 := hkq3.below hB4' hkq3.lt
  refine ⟨_, rfl, ?_⟩
  refine dr U 600 rfl trivial ?_
  refine cS rfl rfl rfl rfl (fun hq => ?_) (fun hq => ?_)
  · refine dr U 600 rfl trivial ?_
    refine ld U rfl rfl rfl rfl ((hkq4).cell rfl) ?_
    refine dr U 600 rfl trivial ?_
    refine ld U rfl rfl rfl rfl ((hkq4).cell rfl) ?_
    refine dr U 600 rfl trivial ?_
    refine call (f := 72) rfl rfl cb72 (rone_calls w4) ?_
    rintro v w5 ⟨⟨ao, co, rfl, ho⟩, hB5'⟩
    have hB5 := bl_tr hB4 hB5' hB4.size
    have hx5 := hx1.below hB5'
    refine ⟨_, rfl, ?_⟩
    have hQV : QV w5 (.agg ⟨[.bool false, .slice x1 (lim (qN s / qD s)).length y1, .slice ao (lim 1).length co]⟩) false (qN s / qD s) 1 := ⟨_, _, _, _, rfl, hx5, ho⟩
    have hQR : QR w5 (.agg ⟨[.bool false, .slice x1 (lim (qN s / qD s)).length y1, .slice ao (lim 1).length co]⟩) (mkq false (qN s / qD s) 1) := qr_of (by decide) (by rw [Nat.gcd_one_right, Nat.div_one, Nat.div_one]; exact hQV)
    refine dr U 600 rfl trivial ?_
    refine call (f := 45) rfl rfl cb45 (rwriteq_calls _ _ w5 hQR (fits_mkq (by decide) (by omega) (by omega)) (Nat.le_trans hsm.1 (by omega)) (Nat.le_trans hsm.2 (by omega))) ?_
    rintro v w6 ⟨hr6, hB6'⟩
    have Hr6 := hr6
    obtain ⟨_, _, rfl⟩ := Hr6.tup
    refine ⟨_, rfl, ?_⟩
    refine dr U 600 rfl trivial ?_
    exact ret Tryz.results48 rfl ⟨_, rfl, hr6, bl_tr hB5 hB6' hB5.size⟩
  · refine dr U 600 rfl trivial ?_
    refine ld U rfl rfl rfl rfl ((hkq4).cell rfl) ?_
    refine dr U 600 rfl trivial ?_
    refine call (f := 72) rfl rfl cb72 (rone_calls w4) ?_
    rintro v w5 ⟨⟨ao, co, rfl, ho⟩, hB5'⟩
    have hB5 := bl_tr hB4 hB5' hB4.size
    have hx5 := hx1.below hB5'
    refine ⟨_, rfl, ?_⟩
    have hQV : QV w5 (.agg ⟨[.bool false, .slice x1 (lim (qN s / qD s)).length y1, .slice ao (lim 1).length co]⟩) false (qN s / qD s) 1 := ⟨_, _, _, _, rfl, hx5, ho⟩
    have hQR : QR w5 (.agg ⟨[.bool false, .slice x1 (lim (qN s / qD s)).length y1, .slice ao (lim 1).length co]⟩) (mkq false (qN s / qD s) 1) := qr_of (by decide) (by rw [Nat.gcd_one_right, Nat.div_one, Nat.div_one]; exact hQV)
    refine dr U 600 rfl trivial ?_
    refine call (f := 45) rfl rfl cb45 (rwriteq_calls _ _ w5 hQR (fits_mkq (by decide) (by omega) (by omega)) (Nat.le_trans hsm.1 (by omega)) (Nat.le_trans hsm.2 (by omega))) ?_
    rintro v w6 ⟨hr6, hB6'⟩
    have Hr6 := hr6
    obtain ⟨_, _, rfl⟩ := Hr6.tup
    refine ⟨_, rfl, ?_⟩
    refine dr U 600 rfl trivial ?_
    exact ret Tryz.results48 rfl ⟨_, rfl, hr6, bl_tr hB5 hB6' hB5.size⟩

theorem rfloor_calls (s : List UInt8) (hs : s.length ≤ 1099511627776) (hq0 : QErr s 0) (hng : qneg s = false) (w : World) :
    Calls Tryz.prog 21 #[.string ⟨⟨s⟩⟩] w (Ret fun v w' => QRes (mkq false (qN s / qD s) 1) v ∧ Below w.heap.size w w') := by
  refine enter Tryz.func21 rfl Tryz.ntmps21 (Nat.le_of_ble_eq_true rfl) ?_
  refine dr U 600 rfl trivial ?_
  refine call (f := 48) rfl rfl cb48 (rround_calls s hs hq0 hng w) ?_
  rintro v w1 ⟨hr, hB⟩
  have Hr := hr
  obtain ⟨_, _, rfl⟩ := Hr.tup
  refine ⟨_, rfl, ?_⟩
  refine dr U 600 rfl trivial ?_
  exact ret Tryz.results21 rfl ⟨_, rfl, hr, hB⟩

theorem rpowhalf_calls (s : List UInt8) (hs : s.length ≤ 1099511627776) (hq0 : QErr s 0) (hng : qneg s = false) (hN : qN s = 1) (hD : qD s = 2) (n : Nat) (hn : n ≤ 256) (w : World) :
    Calls Tryz.prog 19 #[.string ⟨⟨s⟩⟩, .int .i64 (n : Nat)] w (Ret fun v w' => v = .tuple ⟨[.string ⟨⟨sh 1 n⟩⟩, .int .i64 0]⟩ ∧ Below w.heap.size w w') := by
  have hB0 := Below.refl w.heap.size w
  have h1 : nDigits 1 = 1 := nDigits_small (by omega)
  have h2 : nDigits 2 = 1 := nDigits_small (by omega)
  have ht : nDigits (2 ^ n) ≤ 78 := Nat.le_trans (nD_mono (Nat.pow_le_pow_right (by omega) hn)) (by decide +kernel)
  have hsm : Small 4000 (mkq false 1 (2 ^ n)) := mkq_small (Nat.ne_of_gt (Nat.pow_pos (by omega))) (by omega) (by omega)
  have hlt := lim_le_nD (2 ^ n)
  have hl1 := lim_le_nD 1
  refine enter Tryz.func19 rfl Tryz.ntmps19 (Nat.le_of_ble_eq_true rfl) ?_
  refine dr U 600 rfl trivial ?_
  refine call (f := 33) rfl rfl cb33 (rread_calls s hs w) ?_
  rintro v w1 ⟨hr, hBY⟩
  obtain ⟨m, a1, n1, c1, a2, n2, c2, e', rfl, hqe', hqr⟩ := hr.cases
  obtain rfl := hqe'.uniq hq0
  refine ⟨_, rfl, ?_⟩
  have hqv := qr_qv hq0 (hqr rfl)
  have hBZ := bl_tr hB0 hBY hB0.size
  refine dr U 600 rfl trivial ?_
  refine al U rfl rfl rfl rfl ?_
  intro bq w2 hbq hs2 hkq hg2
  have hBW2 := hBZ.grown hg2 hBZ.size (fun k e => by cases e)
  have hbz := hBZ.size
  refine dr U 600 rfl trivial ?_
  refine st U rfl rfl rfl rfl rfl rfl rfl rfl rfl rfl (hkq) ?_
  intro w3 hkq3 hg3 hs3
  have hBW3 := hBW2.grown hg3 hBW2.size (fun k e => by cases e; omega)
  have hg2b : Below w1.heap.size w1 w2 := (Below.refl _ _).grown hg2 (Nat.le_refl _) (fun k e => by cases e)
  obtain ⟨an, cn, ad, cd, hv', hrn, hrd⟩ := hqv
  simp only [Value.agg.injEq, Array.mk.injEq, List.cons.injEq, Value.bool.injEq, Value.slice.injEq, and_true] at hv'
  obtain ⟨rfl, ⟨rfl, rfl, rfl⟩, rfl, rfl, rfl⟩ := hv'
  have hrn := (hrn.below hg2b).past hkq ni0 hg3
  have hrd := (hrd.below hg2b).past hkq ni0 hg3
  rw [hng, hN, hD] at hkq3
  rw [hN] at hrn
  rw [hD] at hrd
  refine dr U 600 rfl trivial ?_
  refine cF rfl rfl rfl ((fun h => h rfl)) ?_; refine dr U 600 rfl trivial ?_
  refine cF rfl rfl rfl ((by omega)) ?_; refine dr U 600 rfl trivial ?_
  refine cF rfl rfl rfl ((by omega)) ?_; refine dr U 600 rfl trivial ?_
  refine ld U rfl rfl rfl rfl ((hkq3).cell rfl) ?_
  refine dr U 600 rfl trivial ?_
  refine cF rfl rfl rfl ((by omega)) ?_; refine dr U 600 rfl trivial ?_
  refine cF rfl rfl rfl ((by omega)) ?_; refine dr U 600 rfl trivial ?_
  refine ld U rfl rfl rfl rfl ((hkq3).cell rfl) ?_
  refine dr U 600 rfl trivial ?_
  refine call (f := 44) rfl rfl cb44 (power_calls 1 n (by omega) a1 c1 w3 hrn (by omega)) ?_
  rintro v w4 ⟨v1, rfl, hp1, hB4'⟩
  rw [Nat.one_pow] at hp1 ⊢
  obtain ⟨x1, y1, rfl, hx1⟩ := hp1 (by omega)
  rw [decide_eq_true (show nDigits 1 ≤ 4000 by omega)]
  have hB4 := bl_tr hBW3 hB4' hBW3.size
  have hkq4 := hkq3.below hB4' hkq3.lt
  have hrd := hrd.below hB4'
  refine ⟨_, rfl, ?_⟩
  refine dr U 600 rfl trivial ?_
  refine ld U rfl rfl rfl rfl ((hkq4).cell rfl) ?_
  refine dr U 600 rfl trivial ?_
  refine call (f := 44) rfl rfl cb44 (power_calls 2 n (by omega) a2 c2 w4 hrd (by omega)) ?_
  rintro v w5 ⟨v1, rfl, hp2, hB5'⟩
  obtain ⟨x2, y2, rfl, hx2⟩ := hp2 (by omega)
  rw [decide_eq_true (show nDigits (2 ^ n) ≤ 4000 by omega)]
  have hB5 := bl_tr hB4 hB5' hB4.size
  have hx1 := hx1.below hB5'
  refine ⟨_, rfl, ?_⟩
  refine dr U 600 rfl trivial ?_
  have hQV : QV w5 (.agg ⟨[.bool false, .slice x1 (lim 1).length y1, .slice x2 (lim (2 ^ n)).length y2]⟩) false 1 (2 ^ n) := ⟨_, _, _, _, rfl, hx1, hx2⟩
  have hQR : QR w5 (.agg ⟨[.bool false, .slice x1 (lim 1).length y1, .slice x2 (lim (2 ^ n)).length y2]⟩) (mkq false 1 (2 ^ n)) := qr_of (Nat.ne_of_gt (Nat.pow_pos (by omega))) (by rw [Nat.gcd_one_left, Nat.div_one, Nat.div_one]; exact hQV)
  refine call (f := 45) rfl rfl cb45 (rwriteq_calls _ _ w5 hQR (fits_mkq (Nat.ne_of_gt (Nat.pow_pos (by omega))) (by omega) (by omega)) (Nat.le_trans hsm.1 (by omega)) (Nat.le_trans hsm.2 (by omega))) ?_
  rintro v w6 ⟨hr6, hB6'⟩
  obtain rfl := hr6.ok hsm
  refine ⟨_, rfl, ?_⟩
  refine dr U 600 rfl trivial ?_
  exact ret Tryz.results19 rfl ⟨_, rfl, rfl, bl_tr hB5 hB6' hB5.size⟩
end Go.Proofs.YtabplbmbnakalaaGreatDoor
end
section
set_option linter.unusedSimpArgs false
set_option linter.unusedVariables false
set_option maxHeartbeats 1000000
namespace Go.Proofs.YtabplbmbnakalaaGreatDoor
open Go Go.Proofs Go.RowKit Go.Lib

theorem mkq_eq_iff {a b c d : Nat} (hb : b ≠ 0) (hd : d ≠ 0) : mkq false a b = mkq false c d ↔ a * d = c * b := by
  unfold mkq
  rw [Rat.mkRat_eq_iff hb hd]
  simp only [Bool.false_eq_true, if_false]
  constructor
  · intro h; exact_mod_cast h
  · intro h; exact_mod_cast h
theorem mkq_negate (k d : Nat) : -(mkq false k d) = mkq true k d := by
  unfold mkq
  rw [Rat.neg_mkRat]; rfl
theorem q_text_inj {p q : Rat} (hp : Small 4000 p) (hq : Small 4000 q) (h : qtext p = qtext q) : p = q := by
  rw [← (q_text_ok p hp).2, ← (q_text_ok q hq).2, h]
theorem two_inv (T : Nat) (hT : T ≠ 0) : (mkq false 1 T)⁻¹ = mkq false T 1 := by
  have h0 : mkq false 1 T ≠ 0 := fun h => by
    have := mkq_num false 1 T hT
    rw [h, Nat.gcd_one_left] at this; simp at this
  rw [mkq_inv h0, mkq_num _ _ _ hT, (mkq_form _ _ _ hT).2, Nat.gcd_one_left, Nat.div_one, Nat.div_one]
  rw [show decide ((mkq false 1 T).num < 0) = false from by rw [decide_eq_false_iff_not, mkq_neg _ _ _ hT]; simp]
theorem whole_q (N D T : Nat) (hT : T ≠ 0) : mkq false N D * (mkq false 1 T)⁻¹ = mkq false (N * T) D := by
  rw [two_inv T hT, mkq_mul, Nat.mul_one]; rfl
theorem gap_q (N D T k r : Nat) (hD : D ≠ 0) (hT : T ≠ 0) (h : N * T = k * D + r) : mkq false N D + -(mkq false k T) = mkq false r (D * T) := by
  rw [mkq_negate, show true = !false from rfl, mkq_add_ge false N D k T hD hT (by omega)]
  rw [h, Nat.add_sub_cancel_left]
theorem gap_lt (D T r : Nat) (hD : D ≠ 0) (hT : T ≠ 0) (h : r < D) : cmpQ (mkq false r (D * T)) (mkq false 1 T) = -1 := by
  have hDT : D * T ≠ 0 := Nat.mul_ne_zero hD hT
  have hlt : r * T < 1 * (D * T) := by rw [Nat.one_mul]; exact Nat.mul_lt_mul_of_pos_right h (Nat.pos_of_ne_zero hT)
  have e : mkq false r (D * T) + -(mkq false 1 T) = mkq true (1 * (D * T) - r * T) (D * T * T) := by
    rw [mkq_negate]
    exact mkq_add_lt false r (D * T) 1 T hDT hT (Nat.le_of_lt hlt)
  have hn : (mkq true (1 * (D * T) - r * T) (D * T * T)).num < 0 := (mkq_neg _ _ _ (Nat.mul_ne_zero hDT hT)).2 ⟨rfl, by omega⟩
  unfold cmpQ
  rw [e, if_neg (fun h => by rw [h] at hn; exact absurd hn (by decide)), if_pos hn]
/-- The value of the key 1 in a list. -/
def keyOne (ms : List (List UInt8 × List UInt8)) : List UInt8 := ms.foldl (fun a m => if m.1 = [49] then m.2 else a) [48]
theorem keyOne_take {ms : List (List UInt8 × List UInt8)} {i : Nat} (h : i < ms.length) : keyOne (ms.take (i + 1)) = if ms[i].1 = [49] then ms[i].2 else keyOne (ms.take i) := by
  unfold keyOne
  rw [List.take_succ_eq_append_getElem h, List.foldl_append]; rfl
theorem keyOne_law (N D n : Nat) : keyOne (fl (lawl N D n)) = sh (kone N D n) n := by
  unfold lawl
  generalize sh (kzero N D n) n = a
  generalize sh (kone N D n) n = b
  generalize sh (opn N D n) n = c
  unfold fl keyOne
  by_cases ha : a = [48] <;> by_cases hb : b = [48] <;> by_cases hc : c = [48] <;> simp [ha, hb, hc]
theorem q_zero_text (d : Nat) (hd : d ≠ 0) : qtext (mkq false 0 d) = [48] := by
  rw [qtext_mkq _ _ _ hd, Nat.zero_div, Nat.gcd_zero_left, Nat.div_self (Nat.pos_of_ne_zero hd), d_zero]; rfl
theorem sh_zero (n : Nat) : sh 0 n = [48] := q_zero_text (2 ^ n) (Nat.ne_of_gt (Nat.pow_pos (by omega)))
theorem sh_small {k n : Nat} (hn : n ≤ 256) (hk : k ≤ 2 ^ n) : Small 78 (mkq false k (2 ^ n)) := by
  have hp : nDigits (2 ^ n) ≤ 78 := Nat.le_trans (nD_mono (Nat.pow_le_pow_right (by omega) hn)) (by decide +kernel)
  exact mkq_small (Nat.ne_of_gt (Nat.pow_pos (by omega))) (Nat.le_trans (nD_mono hk) hp) hp
theorem sh_one_ne (n : Nat) (hn : n ≤ 256) : sh 1 n ≠ [48] := by
  intro h
  have hT : (2 ^ n : Nat) ≠ 0 := Nat.ne_of_gt (Nat.pow_pos (by omega))
  have h1 := small_mono (sh_small (k := 1) hn (Nat.pow_pos (by omega))) (show 78 ≤ 4000 by omega)
  have h0 := small_mono (sh_small (k := 0) hn (Nat.zero_le _)) (show 78 ≤ 4000 by omega)
  have := q_text_inj h1 h0 (h.trans (sh_zero n).symm)
  rw [mkq_eq_iff hT hT] at this
  omega

/-- What the laws ask of the shares. -/
theorem near_law (N D n : Nat) (hD : D ≠ 0) (hle : N ≤ D) (hN : nDigits N ≤ 1000) (hDd : nDigits D ≤ 1000) (hn : n ≤ 256) :
    Small 4000 (mkq false (N * 2 ^ n) D) ∧ Small 4000 (mkq false (kone N D n) 1) ∧ Small 4000 (mkq false (N * 2 ^ n % D) (D * 2 ^ n)) ∧
    mkq false N D + -(mkq false (kone N D n) (2 ^ n)) = mkq false (N * 2 ^ n % D) (D * 2 ^ n) ∧
    cmpQ (mkq false (N * 2 ^ n % D) (D * 2 ^ n)) (mkq false 1 (2 ^ n)) = -1 ∧
    (qtext (mkq false (kone N D n) 1) = qtext (mkq false (N * 2 ^ n) D) ↔ opn N D n = 0) ∧
    (opn N D n = 0 → qtext (mkq false (N * 2 ^ n % D) (D * 2 ^ n)) = [48]) ∧ kone N D n ≤ 2 ^ n := by
  have hT : (2 ^ n : Nat) ≠ 0 := Nat.ne_of_gt (Nat.pow_pos (by omega))
  have hp : nDigits (2 ^ n) ≤ 78 := Nat.le_trans (nD_mono (Nat.pow_le_pow_right (by omega) hn)) (by decide +kernel)
  have h1 := nD_mul N (2 ^ n)
  have h2 := nD_mul D (2 ^ n)
  have hk := kone_le (n := n) (Nat.pos_of_ne_zero hD) hle
  have h11 : nDigits 1 = 1 := nDigits_small (by omega)
  have hk4 : nDigits (kone N D n) ≤ 78 := Nat.le_trans (nD_mono (Nat.le_trans (Nat.le_add_right _ _) hk)) hp
  have hr : N * 2 ^ n % D < D := Nat.mod_lt _ (Nat.pos_of_ne_zero hD)
  have hr4 : nDigits (N * 2 ^ n % D) ≤ 1000 := Nat.le_trans (nD_mono (Nat.le_of_lt hr)) hDd
  have hs1 : Small 4000 (mkq false (N * 2 ^ n) D) := mkq_small hD (by omega) (by omega)
  have hs2 : Small 4000 (mkq false (kone N D n) 1) := mkq_small (by decide) (by omega) (by omega)
  have hdm : N * 2 ^ n = kone N D n * D + N * 2 ^ n % D := by
    unfold kone
    have := Nat.div_add_mod (N * 2 ^ n) D
    rw [Nat.mul_comm D] at this; omega
  refine ⟨hs1, hs2, mkq_small (Nat.mul_ne_zero hD hT) (by omega) (by omega), gap_q N D _ _ _ hD hT hdm, gap_lt D _ _ hD hT hr, ?_, ?_, Nat.le_trans (Nat.le_add_right _ _) hk⟩
  · constructor
    · intro h
      have e := q_text_inj hs2 hs1 h
      rw [mkq_eq_iff (by decide) hD, Nat.mul_one] at e
      unfold opn
      rw [if_pos (by omega)]
    · intro h
      have hr0 : N * 2 ^ n % D = 0 := by
        unfold opn at h
        by_cases h' : N * 2 ^ n % D = 0
        · exact h'
        · rw [if_neg h'] at h; cases h
      rw [(mkq_eq_iff (by decide) hD).2 (show kone N D n * D = N * 2 ^ n * 1 by omega)]
  · intro h
    have hr0 : N * 2 ^ n % D = 0 := by
      unfold opn at h
      by_cases h' : N * 2 ^ n % D = 0
      · exact h'
      · rw [if_neg h'] at h; cases h
    rw [hr0]
    exact q_zero_text _ (Nat.mul_ne_zero hD hT)
theorem qpos_text (n d : Nat) (hd : d ≠ 0) (hs : Small 4000 (mkq false n d)) : QErr (qtext (mkq false n d)) 0 ∧ qneg (qtext (mkq false n d)) = false ∧ qval (qtext (mkq false n d)) = mkq false n d ∧ qN (qtext (mkq false n d)) / qD (qtext (mkq false n d)) = n / d := by
  obtain ⟨h1, h2⟩ := q_text_ok _ hs
  obtain ⟨g1, g2, g3, _⟩ := q_text (mkq false n d)
  refine ⟨h1, ?_, h2, ?_⟩
  · rw [g1, decide_eq_false_iff_not, mkq_neg _ _ _ hd]; simp
  · unfold qN qD
    rw [g2, g3, mkq_num _ _ _ hd, (mkq_form _ _ _ hd).2, (dec_dval _).2, (dec_dval _).2]
    have hg : 0 < Nat.gcd n d := Nat.gcd_pos_of_pos_right _ (Nat.pos_of_ne_zero hd)
    have e1 := Nat.div_mul_cancel (Nat.gcd_dvd_left n d)
    have e2 := Nat.div_mul_cancel (Nat.gcd_dvd_right n d)
    have := Nat.mul_div_mul_right (n / Nat.gcd n d) (d / Nat.gcd n d) hg
    rw [e1, e2] at this
    exact this.symm
theorem qtext_short {r : Rat} (h : Small 4000 r) : (qtext r).length ≤ 1099511627776 := by
  unfold qtext
  have h1 := h.1
  have h2 := h.2
  simp only [List.length_append, decDigits_length]
  split <;> split <;> simp only [List.length_cons, List.length_nil, decDigits_length] <;> omega
end Go.Proofs.YtabplbmbnakalaaGreatDoor
end
section
set_option linter.unusedSimpArgs false
set_option linter.unusedVariables false
set_option maxHeartbeats 1000000
namespace Go.Proofs.YtabplbmbnakalaaGreatDoor
open Go Go.Proofs Go.RowKit Go.Lib

theorem share_calls (c k : Nat) (hc : c ≤ 2 ^ k) (hk : k ≤ 12) (w : World) :
    Calls Tryz.prog 18 #[.int .i64 (c : Nat), .int .i64 (k : Nat)] w (Ret fun v w' => v = .string ⟨⟨sh c k⟩⟩ ∧ Below w.heap.size w w') := by
  have hp : 2 ^ k ≤ 4096 := Nat.pow_le_pow_right (n := 2) (by omega) hk
  have hpI : IntKind.i64.wrap ((1 : Int) * 2 ^ k) = ((2 ^ k : Nat) : Int) := by
    rw [Int.one_mul, show ((2 : Int) ^ k) = ((2 ^ k : Nat) : Int) by simp]
    exact wrap_in (by simp only [InR]; omega)
  have hd1 : nDigits c ≤ 4000 := nD_le 4000 c (by omega) (Nat.lt_of_le_of_lt (Nat.le_trans hc hp) (by decide +kernel))
  have hd2 : nDigits (2 ^ k) ≤ 4000 := nD_le 4000 _ (by omega) (Nat.lt_of_le_of_lt hp (by decide +kernel))
  refine enter Tryz.func18 rfl Tryz.ntmps18 (Nat.le_of_ble_eq_true rfl) ?_
  refine dr U 600 rfl trivial ?_
  refine dwn 10 (fun _ => True) hmo ?_
  intro w1 hh1 hg1
  have hB1 : Below w.heap.size w w1 := (Below.refl _ _).grown hg1 (Nat.le_refl _) (fun k e => by cases e)
  refine dq U [0,2] [] (by kernel_rfl) rfl rfl True.intro (by simp only [AllP, InR, List.nil_append, List.cons_append]; (repeat' apply And.intro); all_goals first | exact True.intro | omega | (simp only [List.length_cons, List.length_nil]; omega) | (intro w_ hw_; refine ldC U rfl hw_ ?_; first | assumption | (simp [add_plain]; assumption)) | (intro w_ hw_; refine run_load_cell U rfl ?_; first | exact hw_ | exact hw_.1 | exact hw_.2 | exact hw_.2.1 | exact hw_.2.2 | exact hw_.2.2.1 | exact hw_.2.2.2 | (simp [add_plain]; first | exact hw_.1 | exact hw_.2.1 | exact hw_.2.2))) ?_
  refine d1or rfl rfl rfl (fun _ => True.intro) ?_ ?_
  · refine call (f := 41) rfl rfl cb41 (rint_nat c (by omega) w1) ?_
    rintro v w1' ⟨rfl, rfl⟩
    refine ⟨_, rfl, d2 ?_⟩
    refine d1 rfl rfl (fun _ => True.intro) ?_
    refine shlI 1 k rfl rfl (by show k ≤ 64; omega) rfl rfl ?_
    rw [hpI]
    refine d2 ?_
    refine d1 rfl rfl (fun _ => True.intro) ?_
    refine call (f := 41) rfl rfl cb41 (rint_nat (2 ^ k) (by omega) w1) ?_
    rintro v w1' ⟨rfl, rfl⟩
    refine ⟨_, rfl, d2 ?_⟩
    refine d1 rfl rfl (fun _ => True.intro) ?_
    refine call (f := 40) rfl rfl cb40 (rmk_calls (decDigits c) (decDigits (2 ^ k)) (by rw [decDigits_length]; omega) (by rw [decDigits_length]; omega) w1) ?_
    rintro v w2 ⟨hmk, hB2⟩
    obtain rfl := make_nat (by omega) (by omega) (Nat.ne_of_gt (Nat.pow_pos (by omega))) hmk
    refine ⟨_, rfl, d2 ?_⟩
    have hB := bl_tr hB1 hB2 hB1.size
    refine dq U [6,7,8,9] [] (by kernel_rfl) rfl rfl True.intro (by simp only [AllP, InR, List.nil_append, List.cons_append]; (repeat' apply And.intro); all_goals first | exact True.intro | omega | (simp only [List.length_cons, List.length_nil]; omega) | (intro w_ hw_; refine ldC U rfl hw_ ?_; first | assumption | (simp [add_plain]; assumption)) | (intro w_ hw_; refine run_load_cell U rfl ?_; first | exact hw_ | exact hw_.1 | exact hw_.2 | exact hw_.2.1 | exact hw_.2.2 | exact hw_.2.2.1 | exact hw_.2.2.2 | (simp [add_plain]; first | exact hw_.1 | exact hw_.2.1 | exact hw_.2.2))) ?_
    refine d1 rfl rfl (fun _ => True.intro) ?_
    refine dr U 600 rfl trivial ?_
    refine d3 ?_; refine dend rfl (fun h => by cases h) ?_
    refine dr U 600 rfl trivial ?_
    exact ret Tryz.results18 rfl ⟨_, rfl, rfl, hB⟩
  · refine shlI 1 k rfl rfl (by show k ≤ 64; omega) rfl rfl ?_
    rw [hpI]
    refine d2 ?_
    refine d1 rfl rfl (fun _ => True.intro) ?_
    refine call (f := 41) rfl rfl cb41 (rint_nat c (by omega) w1) ?_
    rintro v w1' ⟨rfl, rfl⟩
    refine ⟨_, rfl, d2 ?_⟩
    refine d1 rfl rfl (fun _ => True.intro) ?_
    refine call (f := 41) rfl rfl cb41 (rint_nat (2 ^ k) (by omega) w1) ?_
    rintro v w1' ⟨rfl, rfl⟩
    refine ⟨_, rfl, d2 ?_⟩
    refine d1 rfl rfl (fun _ => True.intro) ?_
    refine call (f := 40) rfl rfl cb40 (rmk_calls (decDigits c) (decDigits (2 ^ k)) (by rw [decDigits_length]; omega) (by rw [decDigits_length]; omega) w1) ?_
    rintro v w2 ⟨hmk, hB2⟩
    obtain rfl := make_nat (by omega) (by omega) (Nat.ne_of_gt (Nat.pow_pos (by omega))) hmk
    refine ⟨_, rfl, d2 ?_⟩
    have hB := bl_tr hB1 hB2 hB1.size
    refine dq U [6,7,8,9] [] (by kernel_rfl) rfl rfl True.intro (by simp only [AllP, InR, List.nil_append, List.cons_append]; (repeat' apply And.intro); all_goals first | exact True.intro | omega | (simp only [List.length_cons, List.length_nil]; omega) | (intro w_ hw_; refine ldC U rfl hw_ ?_; first | assumption | (simp [add_plain]; assumption)) | (intro w_ hw_; refine run_load_cell U rfl ?_; first | exact hw_ | exact hw_.1 | exact hw_.2 | exact hw_.2.1 | exact hw_.2.2 | exact hw_.2.2.1 | exact hw_.2.2.2 | (simp [add_plain]; first | exact hw_.1 | exact hw_.2.1 | exact hw_.2.2))) ?_
    refine d1 rfl rfl (fun _ => True.intro) ?_
    refine dr U 600 rfl trivial ?_
    refine d3 ?_; refine dend rfl (fun h => by cases h) ?_
    refine dr U 600 rfl trivial ?_
    exact ret Tryz.results18 rfl ⟨_, rfl, rfl, hB⟩

theorem slc {w : World} {g o i : Nat} {vs : List Value} {v : Value} (h : Sl w (some ⟨g, o, none⟩) vs) (hv : vs[i]? = some v) : w.cell? ⟨g, o + i, none⟩ = some v := by
  obtain ⟨g', o', he, hc⟩ := h i v hv
  cases he
  exact hc
theorem bits_even (j i : Nat) : bitsOf (j + 1) (2 * i) = bitsOf j i ++ [48] := by
  simp only [bitsOf]
  rw [show 2 * i / 2 = i by omega, if_neg (by omega)]
theorem bits_odd (j i : Nat) : bitsOf (j + 1) (2 * i + 1) = bitsOf j i ++ [49] := by
  simp only [bitsOf]
  rw [show (2 * i + 1) / 2 = i by omega, if_pos (by omega)]
theorem allb_two (j i : Nat) : strs (allb (j + 1) (2 * (i + 1))) = strs (allb (j + 1) (2 * i)) ++ [.string ⟨⟨bitsOf j i ++ [48]⟩⟩, .string ⟨⟨bitsOf j i ++ [49]⟩⟩] := by
  rw [show 2 * (i + 1) = 2 * i + 1 + 1 by omega, allb_succ, allb_succ, bits_even, bits_odd, List.append_assoc]; rfl
theorem allb_get {n m j : Nat} (h : j < m) : (strs (allb n m))[j]? = some (.string ⟨⟨bitsOf n j⟩⟩) := by simp [strs, allb, h]

theorem refall_calls (k : Nat) (hk : k ≤ 12) (w : World) :
    Calls Tryz.prog 17 #[.int .i64 (k : Nat)] w (Ret fun v w' => (∃ a c, v = .tuple ⟨[.slice a (2 ^ k) c, .int .i64 0]⟩ ∧ Sl w' a (strs (allb k (2 ^ k)))) ∧ Below w.heap.size w w') := by
  refine enter Tryz.func17 rfl Tryz.ntmps17 (Nat.le_of_ble_eq_true rfl) ?_
  refine dr U 600 rfl trivial ?_
  refine cF rfl rfl rfl ((by omega)) ?_; refine dr U 600 rfl trivial ?_
  refine cF rfl rfl rfl ((by omega)) ?_; refine dr U 600 rfl trivial ?_
  refine bs1 U (v := .string ⟨⟨[]⟩⟩) rfl rfl rfl rfl rfl rfl rfl ?_
  intro w1 hk1 hs1 hg1
  have hB1 : Below w.heap.size w w1 := (Below.refl _ _).grown hg1 (Nat.le_refl _) (fun k e => by cases e)
  refine dr U 600 rfl trivial ?_
  refine loopR (fun f w' m => ∃ (j : Nat) (a : Option Addr) (c : Nat), f = [(0, .int .i64 (m : Nat)), (4, .slice a (2 ^ j) c)] ∧ j + m = k ∧ Sl w' a (strs (allb j (2 ^ j))) ∧ Below w.heap.size w w') (m0 := k)
    ⟨0, _, _, rfl, by omega, hk1.sl 0, hB1⟩ ⟨rfl, rfl, trivial⟩ ?_
  rintro f w2 m ⟨j, a, c, rfl, hj, hs, hB⟩
  refine dr U 600 rfl trivial ?_
  refine cS rfl rfl rfl rfl (fun hq => ?_) (fun hq => ?_)
  · have hp : 2 ^ j ≤ 4096 := Nat.le_trans (Nat.pow_le_pow_right (by omega) (show j ≤ 12 by omega)) (by decide)
    obtain ⟨p, hpe⟩ : ∃ p, 2 ^ j = p := ⟨_, rfl⟩
    have hpp : 2 ^ (j + 1) = 2 * p := by rw [Nat.pow_succ, hpe]; omega
    rw [hpe] at hs hp ⊢
    refine dr U 600 rfl trivial ?_
    refine loopR (fun f w' m' => ∃ (i : Nat) (a5 : Option Addr) (c5 : Nat), f = [(0, .int .i64 (m : Nat)), (4, .slice a p c), (5, .slice a5 (2 * i) c5), (6, .int .i64 (i : Nat))] ∧ i ≤ p ∧
        w'.ownsRow w2.heap.size 23 1 (.slice a5 (2 * i) c5) (2 * i) (strs (allb (j + 1) (2 * i))) ∧ Below w2.heap.size w2 w' ∧ m' = p - i)
      ⟨0, none, 0, rfl, by omega, ⟨rfl, .inl ⟨rfl, rfl⟩⟩, Below.refl _ _, rfl⟩ ⟨rfl, rfl, rfl, rfl, trivial⟩ ?_
    rintro f w3 m' ⟨i, a5, c5, rfl, hi, ho, hB3, rfl⟩
    refine dr U 600 rfl trivial ?_
    refine cS rfl rfl rfl rfl (fun hq => ?_) (fun hq => ?_)
    · have hip : i < p := by omega
      obtain ⟨g, o, rfl, hc⟩ := (hs.stay hB3).at (j := i) (by rw [strs, List.length_map, allb_length]; omega)
      have hci := hc _ _ (allb_get hip)
      refine dr U 600 rfl trivial ?_
      refine dwn 13 (fun W => Sl W (some ⟨g, o, none⟩) (strs (allb j p))) hmo ?_
      intro w4 hh4 hg4
      have hB4 := hB3.grown hg4 hB3.size (fun k e => by cases e)
      have ho4 := own_keep ho hg4 (by intro g e h; cases h)
      have hbl : (bitsOf j i).length = j := bitsOf_length j i
      refine dq U [0,1,2,3,4,5,6,7,8,9,10] [(4, .string ⟨⟨bitsOf j i⟩⟩), (9, .string ⟨⟨bitsOf j i⟩⟩)] (by kernel_rfl) rfl rfl (hs.stay hB4) (by simp only [AllP, InR, List.nil_append, List.cons_append]; (repeat' apply And.intro); all_goals first | exact True.intro | omega | (simp only [List.length_append, List.length_cons, List.length_nil]; omega) | exact fun w h => run_load_cell U rfl (by simpa [add_plain] using slc h (allb_get hip))) ?_
      refine d1 rfl rfl (fun _ => hs.stay hB4) ?_
      refine bss2 U rfl rfl rfl rfl rfl rfl ?_
      intro w5 hk5 hs5 hg5
      have hB5 := hB4.grown hg5 hB4.size (fun k e => by cases e)
      have ho5 := own_keep ho4 hg5 (by intro g e h; cases h)
      refine d2 ?_
      refine d1 rfl rfl (fun _ => hs.stay hB5) ?_
      refine aw U rfl rfl rfl rfl rfl rfl rfl rfl rfl ho5 (hk5.sl 0) rfl (by intro u hu; simp at hu; rcases hu with rfl | rfl <;> rfl) hB5.size (by omega) rfl ?_
      intro a6 c6 w6 ho6 hg6
      have hB6 := hB5.grown hg6 hB5.size (fun g e => (own_block ho5 g e).1)
      refine d2 ?_
      refine d1 rfl rfl (fun _ => hs.stay hB6) ?_
      refine dr U 600 rfl trivial ?_
      refine d3 ?_; refine dend rfl (fun h => by cases h) ?_
      refine dr U 600 rfl (by first | exact True.intro | (simp only [AllP, InR, List.nil_append, List.cons_append, and_true]; omega)) ?_
      refine rend _ _ ⟨i + 1, a6, c6, rfl, by omega, by rw [allb_two]; exact ho6, hB6, rfl⟩ (by omega) ⟨rfl, rfl, rfl, iv (by omega), trivial⟩
    · obtain rfl : i = p := by omega
      refine dr U 600 rfl (by first | exact True.intro | (simp only [AllP, InR, List.nil_append, List.cons_append, and_true]; omega)) ?_
      refine rend [(0, .int .i64 ((m - 1 : Nat) : Int)), (4, .slice a5 (2 * i) c5)] (m - 1) ⟨j + 1, a5, c5, by rw [hpp], by omega, by rw [hpp]; exact own_sl ho, bl_tr hB hB3 hB.size⟩ (by omega) ⟨iv (by omega), rfl, trivial⟩
  · obtain rfl : m = 0 := by omega
    obtain rfl : j = k := by omega
    refine dr U 600 rfl trivial ?_
    exact ret Tryz.results17 rfl ⟨_, rfl, ⟨a, c, rfl, hs⟩, hB⟩
end Go.Proofs.YtabplbmbnakalaaGreatDoor
end
section
set_option linter.unusedSimpArgs false
set_option linter.unusedVariables false
set_option maxHeartbeats 1000000
namespace Go.Proofs.YtabplbmbnakalaaGreatDoor
open Go Go.Proofs Go.RowKit Go.Lib

theorem LateR.err {s : List UInt8} {n : Int} {v : Value} (h : LateR s n v) : ∃ x e, v = .tuple ⟨[.string ⟨⟨x⟩⟩, .int .i64 e]⟩ ∧ LErr s n e ∧ (e = 0 → x = sh (opn (qN s) (qD s) n.toNat) n.toNat) ∧ (e ≠ 0 → x = []) := by
  rcases h with ⟨e, h1, h2, rfl⟩ | ⟨h1, rfl⟩
  · exact ⟨_, _, rfl, h2, fun h => absurd h h1, fun _ => rfl⟩
  · exact ⟨_, _, rfl, h1, fun _ => rfl, fun h => absurd rfl h⟩
theorem LawR.err {s : List UInt8} {n : Int} {v : Value} {w : World} (h : LawR s n v w) : ∃ a c ms e, v = .tuple ⟨[.slice a (List.length ms) c, .int .i64 e]⟩ ∧ Sl w a (mcells ms) ∧ ms.length ≤ 3 ∧ LErr s n e ∧ (e = 0 → ms = fl (lawl (qN s) (qD s) n.toNat)) ∧ (e ≠ 0 → ms = []) := by
  rcases h with ⟨e, h1, h2, rfl⟩ | ⟨h1, a, c, rfl, h2⟩
  · exact ⟨none, 0, [], e, rfl, Sl.nil _ _, Nat.zero_le _, h2, fun h => absurd h h1, fun _ => rfl⟩
  · exact ⟨a, c, _, 0, rfl, h2, List.length_filter_le _ _, h1, fun _ => rfl, fun h => absurd rfl h⟩

theorem coinNear_calls (p : List UInt8) (n : Int) (hp : p.length ≤ 9223372036854775806) (hn : -9223372036854775808 ≤ n ∧ n ≤ 9223372036854775807) (w0 : World) (ht0 : TabOk w0) :
    Calls Tryz.prog 7 #[.string ⟨⟨p⟩⟩, .int .i64 n] w0 (Ret fun v w' => v = .bool true ∧ Below w0.heap.size w0 w') := by
  have hW0 := Below.refl w0.heap.size w0
  refine enter Tryz.func7 rfl Tryz.ntmps7 (Nat.le_of_ble_eq_true rfl) ?_
  refine dr U 600 rfl trivial ?_
  refine call (f := 8) rfl rfl cb8 (clives_calls w0 ht0) ?_; rintro v w1 ⟨rfl, hB1⟩; refine ⟨_, rfl, ?_⟩; have ht1 := ht0.below hB1; have hW1 := bl_tr hW0 hB1 hW0.size; refine dr U 600 rfl trivial ?_
  refine cS rfl rfl rfl rfl (fun hq1 => ?_) (fun hq1 => ?_)
  · refine dr U 600 rfl trivial ?_
    exact ret Tryz.results7 rfl ⟨_, rfl, rfl, hW1⟩
  refine dr U 600 rfl trivial ?_
  refine call (f := 11) rfl rfl cb11 (law_calls p n (by omega) w1 ht1) ?_
  rintro v w2 ⟨hr2, hB2⟩
  have hW2 := bl_tr hW1 hB2 hW1.size
  have ht2 := ht0.below hW2
  obtain ⟨a, c, ms, e, rfl, hsl, hl3, hle, hms, _⟩ := hr2.err
  refine ⟨_, rfl, ?_⟩
  refine dr U 600 rfl trivial ?_
  refine call (f := 10) rfl rfl cb10 (late_calls p n (by omega) w2 ht2) ?_
  rintro v w3 ⟨hr3, hB3⟩
  have hW3 := bl_tr hW2 hB3 hW2.size
  have ht3 := ht0.below hW3
  have hsl := hsl.stay hB3
  obtain ⟨x, f, rfl, hle3, hx, _⟩ := hr3.err
  obtain rfl := hle3.uniq hle
  refine ⟨_, rfl, ?_⟩
  refine dr U 600 rfl trivial ?_
  refine cS rfl rfl rfl rfl (fun hq2 => ?_) (fun hq2 => ?_)
  · refine dr U 600 rfl trivial ?_
    refine cT rfl rfl rfl (rfl) ?_; refine dr U 600 rfl trivial ?_
    exact ret Tryz.results7 rfl ⟨_, rfl, rfl, hW3⟩
  obtain rfl := Classical.not_not.1 hq2
  obtain ⟨hpe, k, rfl, hk⟩ := hle.ok
  have hms := hms rfl
  have hx := hx rfl
  rw [Int.toNat_natCast] at hms hx
  obtain ⟨hQ, hng, hleD, hlN, hlD⟩ := hpe.ok
  obtain ⟨hdN, hdD⟩ := hQ.digs
  obtain ⟨_, _, hD0, _⟩ := hpe.nums
  have hval : qval p = mkq false (qN p) (qD p) := by unfold qval; rw [hng]
  obtain ⟨hs1, hs2, hs3, hgap, hlt, hfl, hgz, hkle⟩ := near_law (qN p) (qD p) k (Nat.ne_of_gt hD0) hleD (by omega) (by omega) hk
  have hko := keyOne_law (qN p) (qD p) k
  have hT : (2 ^ k : Nat) ≠ 0 := Nat.ne_of_gt (Nat.pow_pos (by omega))
  obtain ⟨hu1, hu2, hu3, _⟩ := qpos_text 1 (2 ^ k) hT (small_mono (sh_small hk (Nat.pow_pos (by omega))) (by omega))
  obtain ⟨ho1, ho2, ho3, _⟩ := qpos_text (kone (qN p) (qD p) k) (2 ^ k) hT (small_mono (sh_small hk hkle) (by omega))
  obtain ⟨hw1, hw2, hw3, hw4⟩ := qpos_text _ _ (Nat.ne_of_gt hD0) hs1
  obtain ⟨hg1, hg2, hg3, _⟩ := qpos_text _ _ (Nat.mul_ne_zero (Nat.ne_of_gt hD0) hT) hs3
  have hu0 : mkq false 1 (2 ^ k) ≠ 0 := fun h => sh_one_ne k hk (by unfold sh; rw [h, ← show mkq false 0 1 = 0 from by rw [show (0 : Rat) = mkRat 0 1 from rfl]; rfl]; exact q_zero_text 1 (by decide))
  have hopn := opn_le (qN p) (qD p) k
  have hneU := sh_one_ne k hk
  have hU : sh 1 k = qtext (mkq false 1 (2 ^ k)) := rfl
  have hO : sh (kone (qN p) (qD p) k) k = qtext (mkq false (kone (qN p) (qD p) k) (2 ^ k)) := rfl
  have hlenu : (sh 1 k).length ≤ 1099511627776 := by rw [hU]; exact qtext_short (small_mono (sh_small hk (Nat.pow_pos (by omega))) (by omega))
  have hleno : (sh (kone (qN p) (qD p) k) k).length ≤ 1099511627776 := by rw [hO]; exact qtext_short (small_mono (sh_small hk hkle) (by omega))
  have hlenw := qtext_short hs1
  have hleng := qtext_short hs3
  refine dr U 600 rfl trivial ?_
  refine cF rfl rfl rfl ((fun h => h rfl)) ?_; refine dr U 600 rfl trivial ?_
  refine call (f := 19) rfl rfl cb19 (rpowhalf_calls [49, 47, 50] (by decide) (qok _ 1 2 (by decide) (by decide) (by decide) _ s12) (by decide) (by decide) (by decide) k hk w3) ?_
  rintro v w4 ⟨rfl, hB4⟩
  have hW4 := bl_tr hW3 hB4 hW3.size
  have hsl := hsl.stay hB4
  refine ⟨_, rfl, ?_⟩
  refine dr U 600 rfl trivial ?_
  refine loopR (fun f w' m => ∃ i : Nat, f = [(0, .string ⟨⟨p⟩⟩), (5, .slice a ms.length c), (7, .string ⟨⟨x⟩⟩), (9, .string ⟨⟨sh 1 k⟩⟩), (11, .string ⟨⟨keyOne (ms.take i)⟩⟩), (12, .int .i64 (i : Nat))] ∧ i ≤ ms.length ∧ w4 = w' ∧ m = ms.length - i)
    ⟨0, rfl, by omega, rfl, rfl⟩ ⟨rfl, rfl, rfl, rfl, rfl, rfl, trivial⟩ ?_
  rintro fr w5 m ⟨i, rfl, hi, rfl, rfl⟩
  refine dr U 600 rfl trivial ?_
  refine cS rfl rfl rfl rfl (fun hq => ?_) (fun hq => ?_)
  · have hil : i < ms.length := by omega
    obtain ⟨g, off, hga, hcell⟩ := hsl.at (j := i * 2 + 0) (by rw [mcells_length]; omega)
    have hc0 := hcell _ _ (mcells_at ms i hil 0 _ rfl)
    have hc1 := hcell _ _ (mcells_at ms i hil 1 _ rfl)
    subst hga
    refine dr U 600 rfl trivial ?_
    refine ia U rfl rfl rfl rfl rfl rfl i rfl hil ?_
    refine dr U 600 rfl trivial ?_
    refine ld U rfl rfl rfl rfl (by rw [add_plain, Nat.add_zero]; exact hc0) ?_
    refine dr U 600 rfl trivial ?_
    refine cS rfl rfl rfl rfl (fun hq3 => ?_) (fun hq3 => ?_)
    · refine dr U 600 rfl trivial ?_
      refine ia U rfl rfl rfl rfl rfl rfl i rfl hil ?_
      refine dr U 600 rfl trivial ?_
      refine ld U rfl rfl rfl rfl (by rw [add_plain]; exact hc1) ?_
      refine dr U 600 rfl (by first | exact True.intro | (simp only [AllP, InR, List.nil_append, List.cons_append, and_true]; omega)) ?_
      exact rend _ _ ⟨i + 1, rfl, by omega, rfl, rfl⟩ (by omega) ⟨rfl, rfl, rfl, rfl, by rw [keyOne_take hil, if_pos hq3]; rfl, iv (by omega), trivial⟩
    · refine dr U 600 rfl (by first | exact True.intro | (simp only [AllP, InR, List.nil_append, List.cons_append, and_true]; omega)) ?_
      exact rend _ _ ⟨i + 1, rfl, by omega, rfl, rfl⟩ (by omega) ⟨rfl, rfl, rfl, rfl, by rw [keyOne_take hil, if_neg hq3]; rfl, iv (by omega), trivial⟩
  obtain rfl : i = ms.length := by omega
  rw [List.take_length, hms, hko]
  refine dr U 600 rfl trivial ?_
  refine call (f := 20) rfl rfl cb20 (rdiv_calls p (sh 1 k) (by omega) hlenu w4) ?_
  rintro v w5 ⟨hr5, hB5⟩
  have hW5 := bl_tr hW4 hB5 hW4.size
  have hr5 := hr5.vals hQ hu1 (by rw [hu3]; exact hu0)
  rw [hu3, hval, whole_q _ _ _ hT] at hr5
  obtain rfl := hr5.ok hs1
  refine ⟨_, rfl, ?_⟩
  refine dr U 600 rfl trivial ?_
  refine call (f := 21) rfl rfl cb21 (rfloor_calls _ hlenw hw1 hw2 w5) ?_
  rintro v w6 ⟨hr6, hB6⟩
  have hW6 := bl_tr hW5 hB6 hW5.size
  rw [hw4] at hr6
  obtain rfl := hr6.ok hs2
  refine ⟨_, rfl, ?_⟩
  refine dr U 600 rfl trivial ?_
  refine call (f := 22) rfl rfl cb22 (rsub_calls p _ (by omega) hleno w6) ?_
  rintro v w7 ⟨hr7, hB7⟩
  have hW7 := bl_tr hW6 hB7 hW6.size
  have hr7 := hr7.vals hQ ho1
  rw [ho3, hval, hgap] at hr7
  obtain rfl := hr7.ok hs3
  refine ⟨_, rfl, ?_⟩
  refine dr U 600 rfl trivial ?_
  refine call (f := 23) rfl rfl cb23 (rsign_calls _ hleng hg1 w7) ?_
  rintro v w8 ⟨rfl, hB8⟩
  have hW8 := bl_tr hW7 hB8 hW7.size
  obtain ⟨sg, hsg, hpos⟩ : ∃ sg : Int, (if qN (qtext (mkq false (qN p * 2 ^ k % qD p) (qD p * 2 ^ k))) = 0 then 0 else if qneg (qtext (mkq false (qN p * 2 ^ k % qD p) (qD p * 2 ^ k))) = true then -1 else 1) = sg ∧ 0 ≤ sg := by
    refine ⟨_, rfl, ?_⟩
    rw [hg2]
    split
    · decide
    · decide
  rw [hsg]
  refine ⟨_, rfl, ?_⟩
  refine dr U 600 rfl trivial ?_
  refine call (f := 24) rfl rfl cb24 (rcmp_calls _ (sh 1 k) hleng hlenu w8) ?_
  rintro v w9 ⟨hr9, hB9⟩
  have hW9 := bl_tr hW8 hB9 hW8.size
  obtain rfl := hr9.vals hg1 hu1
  rw [hu3, hg3, hlt]
  refine ⟨_, rfl, ?_⟩
  refine dr U 600 rfl trivial ?_
  rcases (show opn (qN p) (qD p) k = 0 ∨ opn (qN p) (qD p) k = 1 by omega) with h0 | h0
  · rw [h0, sh_zero] at hx
    subst hx
    refine cF rfl rfl rfl ((fun h => h rfl)) ?_; refine dr U 600 rfl trivial ?_
    refine cT rfl rfl rfl (rfl) ?_; refine dr U 600 rfl trivial ?_
    refine cT rfl rfl rfl (hfl.2 h0) ?_; refine dr U 600 rfl trivial ?_
    refine cT rfl rfl rfl (hpos) ?_; refine dr U 600 rfl trivial ?_
    refine cT rfl rfl rfl ((by decide)) ?_; refine dr U 600 rfl trivial ?_
    refine cF rfl rfl rfl ((fun h => h rfl)) ?_; refine dr U 600 rfl trivial ?_
    refine cT rfl rfl rfl (hgz h0) ?_; refine dr U 600 rfl trivial ?_
    exact ret Tryz.results7 rfl ⟨_, rfl, rfl, hW9⟩
  · rw [h0] at hx
    subst hx
    refine cT rfl rfl rfl (hneU) ?_; refine dr U 600 rfl trivial ?_
    refine cF rfl rfl rfl ((fun h => h rfl)) ?_; refine dr U 600 rfl trivial ?_
    refine cF rfl rfl rfl (hneU) ?_; refine dr U 600 rfl trivial ?_
    refine cF rfl rfl rfl ((fun h => by rw [hfl.1 h] at h0; cases h0)) ?_; refine dr U 600 rfl trivial ?_
    refine cT rfl rfl rfl (hpos) ?_; refine dr U 600 rfl trivial ?_
    refine cT rfl rfl rfl ((by decide)) ?_; refine dr U 600 rfl trivial ?_
    refine cT rfl rfl rfl (hneU) ?_; refine dr U 600 rfl trivial ?_
    exact ret Tryz.results7 rfl ⟨_, rfl, rfl, hW9⟩
end Go.Proofs.YtabplbmbnakalaaGreatDoor
end
section
set_option linter.unusedSimpArgs false
set_option linter.unusedVariables false
set_option maxHeartbeats 1000000
namespace Go.Proofs.YtabplbmbnakalaaGreatDoor
open Go Go.Proofs Go.RowKit Go.Lib

section
variable {P : Program} (U : Tys P) {ro : Option Nat} {n : Nat} {ds : List Deferred} {Q : PT} {l l' : Fr} {w w' : World} {arr : Array Oper} {r : List Oper} {k : List It}
/-- A slice of three written-out ints. -/
theorem bs3i {d1 : Nat} {t e ty : TypeId} {x y u : Operand} {ps : String} {af : Array Edge} {g1 : Option (Nat × Bool)} {kk : IntKind} {a b c z0 : Int} {by_ : Nat}
    (hx : ev l x = some (.int kk a)) (hy : ev l y = some (.int kk b)) (hu : ev l u = some (.int kk c)) (ht : U.tb.u t = some (.slice e)) (hi : U.tb.inf e = some (1, by_, .int kk z0)) (hg1 : gd arr l g1 = some true) (hd1 : Nat.blt d1 n = true)
    (t' : ∀ w1, Bk w1 w.heap.size e [.int kk a, .int kk b, .int kk c] → w1.heap.size = w.heap.size + 1 → w.grownBy w1 none → T P ro n ds Q ((d1, .slice (some ⟨w.heap.size, 0, none⟩) 3 3) :: l) w1 (.ops arr r) k) :
    T P ro n ds Q l w (.ops arr (⟨some d1, .buildSlice t 3 #[(0, x), (1, y), (2, u)], ty, ps, af, g1⟩ :: r)) k := by
  obtain ⟨i, hi0, hz1, hz2, hz3⟩ := U.hi _ _ _ _ hi
  have hpt := U.hu _ _ ht
  refine op1 (w' := w.alloc (.cells #[.int kk a, .int kk b, .int kk c] e)) (v := .slice (some ⟨w.heap.size, 0, none⟩) 3 3) (by intro c h; cases h) hg1 (put1_some hd1) (fun act hf => ?_) (t' _ (heap_alloc_new w _) (by simp) (World.grownBy_alloc w _ none))
  simp only [execOp, Instr.buildSlice]
  simp [hf.ev hx, hf.ev hy, hf.ev hu, run_under hpt, sizeOf, typeInfo, program, Sem.run, hi0, hz1, zeroValue, hz3, Instr.fill, newRow, newObj, Value.cells]
  congr 2
  apply Array.toList_inj.1
  simp [List.range_succ]
end

theorem sh_zero_iff {c k : Nat} (hk : k ≤ 256) (hc : c ≤ 2 ^ k) : sh c k = [48] ↔ c = 0 := by
  have hT : (2 ^ k : Nat) ≠ 0 := Nat.ne_of_gt (Nat.pow_pos (by omega))
  constructor
  · intro h
    have := q_text_inj (small_mono (sh_small hk hc) (show 78 ≤ 4000 by omega)) (small_mono (sh_small (k := 0) hk (Nat.zero_le _)) (show 78 ≤ 4000 by omega)) (h.trans (sh_zero k).symm)
    rw [mkq_eq_iff hT hT, Nat.zero_mul] at this
    rcases Nat.mul_eq_zero.1 this with h | h
    · exact h
    · exact absurd h hT
  · rintro rfl; exact sh_zero k
def c3 (a b c i : Nat) : Nat := if i = 0 then a else if i = 1 then b else c
def n3 (i : Nat) : List UInt8 := if i = 0 then [48] else if i = 1 then [49] else [108, 97, 116, 101]
theorem c3_cell {a b c i : Nat} (h : i < 3) : ([.int .i64 (a : Nat), .int .i64 (b : Nat), .int .i64 (c : Nat)] : List Value)[i]? = some (.int .i64 (c3 a b c i : Nat)) := by
  rcases (show i = 0 ∨ i = 1 ∨ i = 2 by omega) with rfl | rfl | rfl <;> rfl
theorem n3_cell {i : Nat} (h : i < 3) : ([.string ⟨⟨[48]⟩⟩, .string ⟨⟨[49]⟩⟩, .string ⟨⟨[108, 97, 116, 101]⟩⟩] : List Value)[i]? = some (.string ⟨⟨n3 i⟩⟩) := by
  rcases (show i = 0 ∨ i = 1 ∨ i = 2 by omega) with rfl | rfl | rfl <;> rfl
theorem lawl_at {N D k i : Nat} (h : i < (lawl N D k).length) : (lawl N D k)[i] = (n3 i, sh (c3 (kzero N D k) (kone N D k) (opn N D k) i) k) := by
  have h' : i < 3 := h
  rcases (show i = 0 ∨ i = 1 ∨ i = 2 by omega) with rfl | rfl | rfl <;> rfl
theorem c3_le {N D k i : Nat} (hD : 0 < D) (hle : N ≤ D) : c3 (kzero N D k) (kone N D k) (opn N D k) i ≤ 2 ^ k := by
  have := kone_le (n := k) hD hle
  unfold c3
  split
  · exact Nat.sub_le _ _
  · split <;> omega

theorem dvl_is (b : Bool) (v j : Nat) : dvl (b, v, j) = .agg ⟨[.bool b, .int .i64 (v : Nat), .int .i64 (j : Nat)]⟩ := rfl

theorem coinCounts_calls (p : List UInt8) (n : Int) (hp : p.length ≤ 9223372036854775806) (hn : -9223372036854775808 ≤ n ∧ n ≤ 9223372036854775807) (w0 : World) (ht0 : TabOk w0) :
    Calls Tryz.prog 6 #[.string ⟨⟨p⟩⟩, .int .i64 n] w0 (Ret fun v w' => v = .bool true ∧ Below w0.heap.size w0 w') := by
  have hW0 := Below.refl w0.heap.size w0
  refine enter Tryz.func6 rfl Tryz.ntmps6 (Nat.le_of_ble_eq_true rfl) ?_
  refine dr U 600 rfl trivial ?_
  refine call (f := 8) rfl rfl cb8 (clives_calls w0 ht0) ?_; rintro v w1 ⟨rfl, hB1⟩; refine ⟨_, rfl, ?_⟩; have ht1 := ht0.below hB1; have hW1 := bl_tr hW0 hB1 hW0.size; refine dr U 600 rfl trivial ?_
  refine cS rfl rfl rfl rfl (fun hq1 => ?_) (fun hq1 => ?_)
  · refine dr U 600 rfl trivial ?_
    exact ret Tryz.results6 rfl ⟨_, rfl, rfl, hW1⟩
  refine dr U 600 rfl trivial ?_
  refine cS rfl rfl rfl rfl (fun hq2 => ?_) (fun hq2 => ?_)
  · refine dr U 600 rfl trivial ?_
    exact ret Tryz.results6 rfl ⟨_, rfl, rfl, hW1⟩
  refine dr U 600 rfl trivial ?_
  refine cS rfl rfl rfl rfl (fun hq3 => ?_) (fun hq3 => ?_)
  · refine dr U 600 rfl trivial ?_
    exact ret Tryz.results6 rfl ⟨_, rfl, rfl, hW1⟩
  refine dr U 600 rfl trivial ?_
  refine call (f := 11) rfl rfl cb11 (law_calls p n (by omega) w1 ht1) ?_
  rintro v w2 ⟨hr2, hB2⟩
  have hW2 := bl_tr hW1 hB2 hW1.size
  have ht2 := ht0.below hW2
  obtain ⟨a, c, ms, e, rfl, hsl, hl3, hle, hms, hms'⟩ := hr2.err
  refine ⟨_, rfl, ?_⟩
  refine dr U 600 rfl trivial ?_
  refine call (f := 10) rfl rfl cb10 (late_calls p n (by omega) w2 ht2) ?_
  rintro v w3 ⟨hr3, hB3⟩
  have hW3 := bl_tr hW2 hB3 hW2.size
  have ht3 := ht0.below hW3
  have hsl := hsl.stay hB3
  obtain ⟨x, f, rfl, hle3, hx, hx'⟩ := hr3.err
  obtain rfl := hle3.uniq hle
  refine ⟨_, rfl, ?_⟩
  refine dr U 600 rfl trivial ?_
  refine cS rfl rfl rfl rfl (fun hq4 => ?_) (fun hq4 => ?_)
  · obtain rfl := hms' hq4
    obtain rfl := hx' hq4
    refine dr U 600 rfl trivial ?_
    refine cT rfl rfl rfl (rfl) ?_; refine dr U 600 rfl trivial ?_
    refine cT rfl rfl rfl (rfl) ?_; refine dr U 600 rfl trivial ?_
    refine cT rfl rfl rfl (rfl) ?_; refine dr U 600 rfl trivial ?_
    exact ret Tryz.results6 rfl ⟨_, rfl, rfl, hW3⟩
  obtain rfl := Classical.not_not.1 hq4
  obtain ⟨hpe, k, rfl, hk⟩ := hle.ok
  have hms := hms rfl
  have hx := hx rfl
  rw [Int.toNat_natCast] at hms hx
  obtain ⟨_, _, hD0, hleD⟩ := hpe.nums
  have hk9 : k ≤ 9 := by omega
  have hpk : 2 ^ k ≤ 512 := Nat.le_trans (Nat.pow_le_pow_right (by omega) hk9) (by decide)
  have hko := kone_le (n := k) hD0 hleD
  have hop := opn_le (qN p) (qD p) k
  have hopr : opn (qN p) (qD p) k = 1 ↔ qN p * 2 ^ k % qD p ≠ 0 := by unfold opn; split <;> simp_all
  have hdc := fun i (h : i < 2 ^ k) => dec_count (N := qN p) (n := k) hD0 h
  obtain ⟨K, hK⟩ : ∃ K, kone (qN p) (qD p) k = K := ⟨_, rfl⟩
  obtain ⟨O, hO⟩ : ∃ O, opn (qN p) (qD p) k = O := ⟨_, rfl⟩
  have hK' : qN p * 2 ^ k / qD p = K := hK
  obtain ⟨M, hM⟩ : ∃ M, 2 ^ k = M := ⟨_, rfl⟩
  rw [hK, hO, hM] at hko
  rw [hM] at hpk
  refine dr U 600 rfl trivial ?_
  refine call (f := 17) rfl rfl cb17 (refall_calls k (by omega) w3) ?_
  rintro v wa ⟨⟨aw_, cw, rfl, hsw⟩, hBa⟩
  have hWa := bl_tr hW3 hBa hW3.size
  have hsl := hsl.stay hBa
  rw [hM] at hsw ⊢
  refine ⟨_, rfl, ?_⟩
  refine dr U 600 rfl trivial ?_
  refine bs3i U rfl rfl rfl rfl rfl rfl rfl ?_
  intro wb hkc hsb hgb
  have hAb : Below wa.heap.size wa wb := (Below.refl _ _).grown hgb (Nat.le_refl _) (fun k e => by cases e)
  refine dr U 600 rfl trivial ?_
  refine loopR (fun fr w' m => ∃ (i x0 x1 x2 : Nat), fr = [(0, .string ⟨⟨p⟩⟩), (1, .int .i64 (k : Nat)), (5, .slice a ms.length c), (7, .string ⟨⟨x⟩⟩), (8, .int .i64 0), (9, .slice aw_ M cw), (11, .slice (some ⟨wa.heap.size, 0, none⟩) 3 3), (12, .int .i64 (i : Nat))] ∧ i ≤ M ∧
      Bk w' wa.heap.size 3 [.int .i64 (x0 : Nat), .int .i64 (x1 : Nat), .int .i64 (x2 : Nat)] ∧ x0 + x1 + x2 = i ∧ x1 = min i K ∧ x2 = (if O = 1 ∧ K < i then 1 else 0) ∧ Below wa.heap.size wa w' ∧ m = M - i)
    ⟨0, 0, 0, 0, rfl, Nat.zero_le _, hkc, rfl, by omega, by rw [if_neg (by omega)], hAb, rfl⟩ ⟨rfl, rfl, rfl, rfl, rfl, rfl, rfl, rfl, trivial⟩ ?_
  rintro fr w2' m ⟨i, x0, x1, x2, rfl, hi, hkc, hsum, hx1, hx2, hA, rfl⟩
  have hz0 := hA.size
  refine dr U 600 rfl trivial ?_
  refine cS rfl rfl rfl rfl (fun hq => ?_) (fun hq => ?_)
  · have hiM : i < M := by omega
    have htc := ht0.below (bl_tr hWa hA hWa.size)
    obtain ⟨g, o, rfl, hcl⟩ := (hsw.stay hA).at (j := i) (by rw [strs, List.length_map, allb_length]; omega)
    have hci := hcl _ _ (allb_get hiM)
    refine dr U 600 rfl trivial ?_
    refine ia U rfl rfl rfl rfl rfl rfl i rfl hiM ?_
    refine dr U 600 rfl trivial ?_
    refine ld U rfl rfl rfl rfl (by rw [Nat.mul_one]; exact hci) ?_
    refine dr U 600 rfl trivial ?_
    refine call (f := 9) rfl rfl cb9 (draw_calls p (bitsOf k i) (by omega) (by rw [bitsOf_length]; omega) w2' htc) ?_
    rintro v w3' ⟨hrd, hB3⟩
    have hA3 := bl_tr hA hB3 hA.size
    obtain rfl := hrd.uniq (.inr ⟨.inr ⟨hpe, .inl ⟨bitsOf_bin _ _, by rw [bitsOf_length]; omega, rfl⟩⟩, rfl⟩)
    obtain ⟨htd, htn⟩ := tos_dec (N := qN p) hD0 (bitsOf k i)
    have hdi := hdc i (by omega)
    rw [hK'] at hdi
    by_cases h1 : i < K
    · rw [if_pos h1] at hdi
      obtain ⟨j, htos, hj⟩ := htd 1 hdi
      rw [htos]
      refine ⟨_, rfl, ?_⟩
      refine dr U 600 rfl trivial ?_
      refine al U rfl rfl rfl rfl ?_
      intro bd w4 hbd hsd hkd hgd
      have hA4 := hA3.grown hgd hA3.size (fun k e => by cases e)
      have hz3 := hA3.size
      have hkc4 := (hkc.below hB3 hkc.lt).keep hgd (by simp)
      have hlc4 := hkc4.lt
      have hlc3 := (hkc.below hB3 hkc.lt).lt
      refine dr U 600 rfl trivial ?_
      rw [dvl_is]
      refine st U rfl rfl rfl rfl rfl rfl rfl rfl rfl rfl (hkd) ?_
      intro w5 hkd hge hse
      have hA5 := hA4.grown hge hA4.size (fun k e => by cases e; omega)
      have hkc5 := hkc4.keep hge (by intro e; cases e; omega)
      refine dr U 600 rfl trivial ?_
      refine cF rfl rfl rfl ((fun h => h rfl)) ?_; refine dr U 600 rfl trivial ?_
      refine ld U rfl rfl rfl rfl ((hkd).cell rfl) ?_
      refine dr U 600 rfl trivial ?_
      refine cF rfl rfl rfl ((by show ¬ (((1 : Nat) : Int) < 0); decide)) ?_; refine dr U 600 rfl trivial ?_
      refine ld U rfl rfl rfl rfl ((hkd).cell rfl) ?_
      refine dr U 600 rfl trivial ?_
      refine cF rfl rfl rfl ((by show ¬ (1 < ((1 : Nat) : Int)); decide)) ?_; refine dr U 600 rfl trivial ?_
      refine ld U rfl rfl rfl rfl ((hkd).cell rfl) ?_
      refine dr U 600 rfl trivial ?_
      refine ld U rfl rfl rfl rfl ((hkd).cell rfl) ?_
      refine dr U 600 rfl trivial ?_
      refine ld U rfl rfl rfl rfl ((hkd).cell rfl) ?_
      refine dr U 600 rfl trivial ?_
      refine ia U rfl rfl rfl rfl rfl rfl 1 rfl (by decide) ?_
      refine dr U 600 rfl trivial ?_
      refine ld U rfl rfl rfl rfl ((hkc5).cell rfl) ?_
      refine dr U 600 rfl (by first | exact True.intro | (simp only [AllP, InR, List.nil_append, List.cons_append, and_true]; omega)) ?_
      refine ia U rfl rfl rfl rfl rfl rfl 1 rfl (by decide) ?_
      refine dr U 600 rfl trivial ?_
      refine st U rfl rfl rfl rfl rfl rfl rfl rfl rfl rfl (hkc5) ?_
      intro w6 hkc6 hgf hsf
      have hA6 := hA5.grown hgf hA5.size (fun k e => by cases e; omega)
      refine dr U 600 rfl (by first | exact True.intro | (simp only [AllP, InR, List.nil_append, List.cons_append, and_true]; omega)) ?_
      refine rend [(0, .string ⟨⟨p⟩⟩), (1, .int .i64 (k : Nat)), (5, .slice a ms.length c), (7, .string ⟨⟨x⟩⟩), (8, .int .i64 0), (9, .slice (some ⟨g, o, none⟩) M cw), (11, .slice (some ⟨wa.heap.size, 0, none⟩) 3 3), (12, .int .i64 ((i + 1 : Nat) : Int))] _ ⟨i + 1, x0, x1 + 1, x2, rfl, by omega, hkc6, by omega, by omega, by rw [hx2, if_neg (by omega), if_neg (by omega)], hA6, rfl⟩ (by omega) ⟨rfl, rfl, rfl, rfl, rfl, rfl, rfl, iv (by omega), trivial⟩
    · rw [if_neg h1] at hdi
      by_cases h2 : qN p * 2 ^ k % qD p ≠ 0 ∧ i = K
      · rw [if_pos h2] at hdi
        have htos := htn hdi
        have hO1 : O = 1 := by rw [← hO]; exact hopr.2 h2.1
        rw [htos]
        refine ⟨_, rfl, ?_⟩
        refine dr U 600 rfl trivial ?_
        refine al U rfl rfl rfl rfl ?_
        intro bd w4 hbd hsd hkd hgd
        have hA4 := hA3.grown hgd hA3.size (fun k e => by cases e)
        have hz3 := hA3.size
        have hkc4 := (hkc.below hB3 hkc.lt).keep hgd (by simp)
        have hlc4 := hkc4.lt
        have hlc3 := (hkc.below hB3 hkc.lt).lt
        refine dr U 600 rfl trivial ?_
        rw [dvl_is]
        refine st U rfl rfl rfl rfl rfl rfl rfl rfl rfl rfl (hkd) ?_
        intro w5 hkd hge hse
        have hA5 := hA4.grown hge hA4.size (fun k e => by cases e; omega)
        have hkc5 := hkc4.keep hge (by intro e; cases e; omega)
        refine dr U 600 rfl trivial ?_
        refine cF rfl rfl rfl ((fun h => h rfl)) ?_; refine dr U 600 rfl trivial ?_
        refine ld U rfl rfl rfl rfl ((hkd).cell rfl) ?_
        refine dr U 600 rfl trivial ?_
        refine cF rfl rfl rfl ((by show ¬ (((0 : Nat) : Int) < 0); decide)) ?_; refine dr U 600 rfl trivial ?_
        refine ld U rfl rfl rfl rfl ((hkd).cell rfl) ?_
        refine dr U 600 rfl trivial ?_
        refine cF rfl rfl rfl ((by show ¬ (1 < ((0 : Nat) : Int)); decide)) ?_; refine dr U 600 rfl trivial ?_
        refine ld U rfl rfl rfl rfl ((hkd).cell rfl) ?_
        refine dr U 600 rfl trivial ?_
        refine ld U rfl rfl rfl rfl ((hkd).cell rfl) ?_
        refine dr U 600 rfl trivial ?_
        refine cF rfl rfl rfl ((fun h => h rfl)) ?_; refine dr U 600 rfl trivial ?_
        refine ld U rfl rfl rfl rfl ((hkd).cell rfl) ?_
        refine dr U 600 rfl trivial ?_
        refine ia U rfl rfl rfl rfl rfl rfl 2 rfl (by decide) ?_
        refine dr U 600 rfl trivial ?_
        refine ld U rfl rfl rfl rfl ((hkc5).cell rfl) ?_
        refine dr U 600 rfl (by first | exact True.intro | (simp only [AllP, InR, List.nil_append, List.cons_append, and_true]; omega)) ?_
        refine ia U rfl rfl rfl rfl rfl rfl 2 rfl (by decide) ?_
        refine dr U 600 rfl trivial ?_
        refine st U rfl rfl rfl rfl rfl rfl rfl rfl rfl rfl (hkc5) ?_
        intro w6 hkc6 hgf hsf
        have hA6 := hA5.grown hgf hA5.size (fun k e => by cases e; omega)
        refine dr U 600 rfl (by first | exact True.intro | (simp only [AllP, InR, List.nil_append, List.cons_append, and_true]; omega)) ?_
        refine rend [(0, .string ⟨⟨p⟩⟩), (1, .int .i64 (k : Nat)), (5, .slice a ms.length c), (7, .string ⟨⟨x⟩⟩), (8, .int .i64 0), (9, .slice (some ⟨g, o, none⟩) M cw), (11, .slice (some ⟨wa.heap.size, 0, none⟩) 3 3), (12, .int .i64 ((i + 1 : Nat) : Int))] _ ⟨i + 1, x0, x1, x2 + 1, rfl, by omega, hkc6, by omega, by omega, by rw [hx2, if_neg (by omega), if_pos (by omega)], hA6, rfl⟩ (by omega) ⟨rfl, rfl, rfl, rfl, rfl, rfl, rfl, iv (by omega), trivial⟩
      · rw [if_neg h2] at hdi
        obtain ⟨j, htos, hj⟩ := htd 0 hdi
        have hxx : (if O = 1 ∧ K < i + 1 then 1 else 0) = (if O = 1 ∧ K < i then 1 else (0 : Nat)) := by
          by_cases hO1 : O = 1
          · have hne : i ≠ K := fun h => h2 ⟨hopr.1 (by rw [hO]; exact hO1), h⟩
            by_cases hlt : K < i
            · rw [if_pos (by omega), if_pos (by omega)]
            · rw [if_neg (by omega), if_neg (by omega)]
          · rw [if_neg (by omega), if_neg (by omega)]
        rw [htos]
        refine ⟨_, rfl, ?_⟩
        refine dr U 600 rfl trivial ?_
        refine al U rfl rfl rfl rfl ?_
        intro bd w4 hbd hsd hkd hgd
        have hA4 := hA3.grown hgd hA3.size (fun k e => by cases e)
        have hz3 := hA3.size
        have hkc4 := (hkc.below hB3 hkc.lt).keep hgd (by simp)
        have hlc4 := hkc4.lt
        have hlc3 := (hkc.below hB3 hkc.lt).lt
        refine dr U 600 rfl trivial ?_
        rw [dvl_is]
        refine st U rfl rfl rfl rfl rfl rfl rfl rfl rfl rfl (hkd) ?_
        intro w5 hkd hge hse
        have hA5 := hA4.grown hge hA4.size (fun k e => by cases e; omega)
        have hkc5 := hkc4.keep hge (by intro e; cases e; omega)
        refine dr U 600 rfl trivial ?_
        refine cF rfl rfl rfl ((fun h => h rfl)) ?_; refine dr U 600 rfl trivial ?_
        refine ld U rfl rfl rfl rfl ((hkd).cell rfl) ?_
        refine dr U 600 rfl trivial ?_
        refine cF rfl rfl rfl ((by show ¬ (((0 : Nat) : Int) < 0); decide)) ?_; refine dr U 600 rfl trivial ?_
        refine ld U rfl rfl rfl rfl ((hkd).cell rfl) ?_
        refine dr U 600 rfl trivial ?_
        refine cF rfl rfl rfl ((by show ¬ (1 < ((0 : Nat) : Int)); decide)) ?_; refine dr U 600 rfl trivial ?_
        refine ld U rfl rfl rfl rfl ((hkd).cell rfl) ?_
        refine dr U 600 rfl trivial ?_
        refine ld U rfl rfl rfl rfl ((hkd).cell rfl) ?_
        refine dr U 600 rfl trivial ?_
        refine ld U rfl rfl rfl rfl ((hkd).cell rfl) ?_
        refine dr U 600 rfl trivial ?_
        refine ia U rfl rfl rfl rfl rfl rfl 0 rfl (by decide) ?_
        refine dr U 600 rfl trivial ?_
        refine ld U rfl rfl rfl rfl ((hkc5).cell rfl) ?_
        refine dr U 600 rfl (by first | exact True.intro | (simp only [AllP, InR, List.nil_append, List.cons_append, and_true]; omega)) ?_
        refine ia U rfl rfl rfl rfl rfl rfl 0 rfl (by decide) ?_
        refine dr U 600 rfl trivial ?_
        refine st U rfl rfl rfl rfl rfl rfl rfl rfl rfl rfl (hkc5) ?_
        intro w6 hkc6 hgf hsf
        have hA6 := hA5.grown hgf hA5.size (fun k e => by cases e; omega)
        refine dr U 600 rfl (by first | exact True.intro | (simp only [AllP, InR, List.nil_append, List.cons_append, and_true]; omega)) ?_
        refine rend [(0, .string ⟨⟨p⟩⟩), (1, .int .i64 (k : Nat)), (5, .slice a ms.length c), (7, .string ⟨⟨x⟩⟩), (8, .int .i64 0), (9, .slice (some ⟨g, o, none⟩) M cw), (11, .slice (some ⟨wa.heap.size, 0, none⟩) 3 3), (12, .int .i64 ((i + 1 : Nat) : Int))] _ ⟨i + 1, x0 + 1, x1, x2, rfl, by omega, hkc6, by omega, by omega, by rw [hxx]; exact hx2, hA6, rfl⟩ (by omega) ⟨rfl, rfl, rfl, rfl, rfl, rfl, rfl, iv (by omega), trivial⟩
  obtain rfl : i = M := by omega
  have e1 : x1 = kone (qN p) (qD p) k := by rw [hK]; omega
  have e2 : x2 = opn (qN p) (qD p) k := by
    rw [hO, hx2]
    by_cases h : O = 1
    · rw [if_pos (by omega), h]
    · rw [if_neg (by omega)]; omega
  have e0 : x0 = kzero (qN p) (qD p) k := by
    have : kzero (qN p) (qD p) k = 2 ^ k - (kone (qN p) (qD p) k + opn (qN p) (qD p) k) := rfl
    rw [this, hK, hO, hM]; omega
  subst e0 e1 e2
  have hA1 := bl_tr hWa hA hWa.size
  have hsl := hsl.stay hA
  have hkcs := hkc.sl 0
  have hlc := hkc.lt
  refine dr U 600 rfl trivial ?_
  refine bss3 U rfl rfl rfl rfl rfl rfl rfl ?_
  intro wn hkn hsn hgn
  have hB0 : Below w2'.heap.size w2' wn := (Below.refl _ _).grown hgn (Nat.le_refl _) (fun k e => by cases e)
  have hsc0 : Sl wn (some ⟨wa.heap.size, 0, none⟩) [.int .i64 (kzero (qN p) (qD p) k : Nat), .int .i64 (kone (qN p) (qD p) k : Nat), .int .i64 (opn (qN p) (qD p) k : Nat)] := (hkc.below hB0 hlc).sl 0
  have hsn0 : Sl wn (some ⟨w2'.heap.size, 0, none⟩) [.string ⟨⟨[48]⟩⟩, .string ⟨⟨[49]⟩⟩, .string ⟨⟨[108, 97, 116, 101]⟩⟩] := hkn.sl 0
  have hAn := bl_tr hA1 hB0 hA1.size
  have hsl := hsl.stay hB0
  refine dr U 600 rfl trivial ?_
  refine loopR (fun fr w' m => ∃ (i : Nat) (a2 : Option Addr) (c2 : Nat), fr = [(1, .int .i64 (k : Nat)), (5, .slice a ms.length c), (7, .string ⟨⟨x⟩⟩), (8, .int .i64 0), (11, .slice (some ⟨wa.heap.size, 0, none⟩) 3 3), (16, .slice a2 (fl ((lawl (qN p) (qD p) k).take i)).length c2), (17, .slice (some ⟨w2'.heap.size, 0, none⟩) 3 3), (18, .int .i64 (i : Nat))] ∧ i ≤ 3 ∧
      w'.ownsRow wn.heap.size 40 2 (.slice a2 (fl ((lawl (qN p) (qD p) k).take i)).length c2) (fl ((lawl (qN p) (qD p) k).take i)).length (mcells (fl ((lawl (qN p) (qD p) k).take i))) ∧ Below wn.heap.size wn w' ∧ m = 3 - i)
    ⟨0, none, 0, rfl, by omega, ⟨rfl, .inl ⟨rfl, rfl⟩⟩, Below.refl _ _, rfl⟩ ⟨rfl, rfl, rfl, rfl, rfl, rfl, rfl, rfl, trivial⟩ ?_
  rintro fr w4 m ⟨i, a2, c2, rfl, hi3, ho, hN, rfl⟩
  refine dr U 600 rfl trivial ?_
  refine cS rfl rfl rfl rfl (fun hq => ?_) (fun hq => ?_)
  · have hi : i < 3 := by omega
    have hil : i < (lawl (qN p) (qD p) k).length := hi
    have hft := fl_take hil
    rw [lawl_at hil] at hft
    have hfl : (fl ((lawl (qN p) (qD p) k).take i)).length ≤ i := Nat.le_trans (List.length_filter_le _ _) (by rw [List.length_take]; omega)
    have hcle := c3_le (k := k) (i := i) hD0 hleD
    have hcc := c3_cell (a := kzero (qN p) (qD p) k) (b := kone (qN p) (qD p) k) (c := opn (qN p) (qD p) k) hi
    have hnc := n3_cell hi
    obtain ⟨cv, hcv⟩ : ∃ cv, c3 (kzero (qN p) (qD p) k) (kone (qN p) (qD p) k) (opn (qN p) (qD p) k) i = cv := ⟨_, rfl⟩
    rw [hcv] at hcc hcle hft
    have hshz := sh_zero_iff (c := cv) (k := k) (by omega) hcle
    refine dr U 600 rfl trivial ?_
    refine ia U rfl rfl rfl rfl rfl rfl i rfl hi ?_
    refine dr U 600 rfl trivial ?_
    refine ld U rfl rfl rfl rfl (by rw [Nat.mul_one]; exact slc (hsc0.stay hN) hcc) ?_
    refine cS rfl rfl rfl rfl (fun hq5 => ?_) (fun hq5 => ?_)
    · rw [if_neg (fun h => by have := hshz.1 h; omega)] at hft
      refine dr U 600 rfl trivial ?_
      refine dwn 14 (fun W => Sl W (some ⟨w2'.heap.size, 0, none⟩) [.string ⟨⟨[48]⟩⟩, .string ⟨⟨[49]⟩⟩, .string ⟨⟨[108, 97, 116, 101]⟩⟩] ∧ Sl W (some ⟨wa.heap.size, 0, none⟩) [.int .i64 (kzero (qN p) (qD p) k : Nat), .int .i64 (kone (qN p) (qD p) k : Nat), .int .i64 (opn (qN p) (qD p) k : Nat)]) hmo ?_
      intro w5 hh5 hg5
      have hN5 := hN.grown hg5 hN.size (fun k e => by cases e)
      have ho5 := own_keep ho hg5 (by intro g e h; cases h)
      refine dq U [0,1,2,3,4,5,6,7,8,9] [(4, .string ⟨⟨n3 i⟩⟩), (8, .int .i64 (cv : Nat))] (by kernel_rfl) rfl rfl ⟨hsn0.stay hN5, hsc0.stay hN5⟩ (by simp only [AllP, InR, List.nil_append, List.cons_append]; (repeat' apply And.intro); all_goals first | exact True.intro | omega | exact fun w h => run_load_cell U rfl (by simpa [add_plain] using slc h.1 hnc) | exact fun w h => run_load_cell U rfl (by simpa [add_plain] using slc h.2 hcc)) ?_
      refine d1 rfl rfl (fun _ => ⟨hsn0.stay hN5, hsc0.stay hN5⟩) ?_
      refine call (f := 18) rfl rfl cb18 (share_calls cv k hcle (by omega) w5) ?_
      rintro v w6 ⟨rfl, hB6⟩
      have hN6 := bl_tr hN5 hB6 hN5.size
      have ho6 := own_bw ho5 hB6
      refine ⟨_, rfl, d2 ?_⟩
      refine dq U [11] [] (by kernel_rfl) rfl rfl ⟨hsn0.stay hN6, hsc0.stay hN6⟩ (by simp only [AllP, InR, List.nil_append, List.cons_append]; (repeat' apply And.intro); all_goals first | exact True.intro | omega | (simp only [List.length_cons, List.length_nil]; omega) | (intro w_ hw_; refine ldC U rfl hw_ ?_; first | assumption | (simp [add_plain]; assumption)) | (intro w_ hw_; refine run_load_cell U rfl ?_; first | exact hw_ | exact hw_.1 | exact hw_.2 | exact hw_.2.1 | exact hw_.2.2 | exact hw_.2.2.1 | exact hw_.2.2.2 | (simp [add_plain]; first | exact hw_.1 | exact hw_.2.1 | exact hw_.2.2))) ?_
      refine d1 rfl rfl (fun _ => ⟨hsn0.stay hN6, hsc0.stay hN6⟩) ?_
      refine bsS U [[.string ⟨⟨n3 i⟩⟩, .string ⟨⟨sh cv k⟩⟩]] rfl rfl rfl rfl rfl rfl (by decide) (by decide) (by intro cs h; simp at h; subst h; rfl) ?_
      intro w7 hk7 hs7 hg7
      have hN7 := hN6.grown hg7 hN6.size (fun k e => by cases e)
      have ho7 := own_keep ho6 hg7 (by intro g e h; cases h)
      refine d2 ?_
      refine d1 rfl rfl (fun _ => ⟨hsn0.stay hN7, hsc0.stay hN7⟩) ?_
      refine aw U rfl rfl rfl rfl rfl rfl rfl rfl rfl ho7 (hk7.sl 0) rfl (by intro u hu; simp at hu; rcases hu with rfl | rfl <;> rfl) hN7.size (by omega) rfl ?_
      intro a8 c8 w8 ho8 hg8
      have hN8 := hN7.grown hg8 hN7.size (fun g e => (own_block ho7 g e).1)
      refine d2 ?_
      refine d1 rfl rfl (fun _ => ⟨hsn0.stay hN8, hsc0.stay hN8⟩) ?_
      refine dr U 600 rfl trivial ?_
      refine d3 ?_; refine dend rfl (fun h => by cases h) ?_
      refine dr U 600 rfl (by first | exact True.intro | (simp only [AllP, InR, List.nil_append, List.cons_append, and_true]; omega)) ?_
      have hlen : (fl ((lawl (qN p) (qD p) k).take (i + 1))).length = (fl ((lawl (qN p) (qD p) k).take i)).length + 1 := by rw [hft]; simp
      have hcs : mcells (fl ((lawl (qN p) (qD p) k).take (i + 1))) = mcells (fl ((lawl (qN p) (qD p) k).take i)) ++ [.string ⟨⟨n3 i⟩⟩, .string ⟨⟨sh cv k⟩⟩] := by rw [hft, mcells_append]; rfl
      refine rend _ _ ⟨i + 1, a8, c8, rfl, by omega, by rw [hlen, hcs]; exact ho8, hN8, rfl⟩ (by omega) ⟨rfl, rfl, rfl, rfl, rfl, by rw [hlen]; rfl, rfl, iv (by omega), trivial⟩
    · rw [if_pos (hshz.2 (by omega)), List.append_nil] at hft
      refine dr U 600 rfl (by first | exact True.intro | (simp only [AllP, InR, List.nil_append, List.cons_append, and_true]; omega)) ?_
      refine rend _ _ ⟨i + 1, a2, c2, rfl, by omega, by rw [hft]; exact ho, hN, rfl⟩ (by omega) ⟨rfl, rfl, rfl, rfl, rfl, by rw [hft]; rfl, rfl, iv (by omega), trivial⟩
  obtain rfl : i = 3 := by omega
  have htk : (lawl (qN p) (qD p) k).take 3 = lawl (qN p) (qD p) k := List.take_of_length_le (Nat.le_refl _)
  rw [htk] at ho
  rw [htk]
  subst hms
  have hAz := bl_tr hAn hN hAn.size
  have hsw2 := own_sl' (by decide) ho
  have hsm := samem_calls (fl (lawl (qN p) (qD p) k)) (fl (lawl (qN p) (qD p) k)) a a2 c c2 w4 (hsl.stay hN) hsw2 (by omega) (by omega)
  rw [decide_eq_true rfl] at hsm
  refine dr U 600 rfl trivial ?_
  refine cT rfl rfl rfl (rfl) ?_; refine dr U 600 rfl trivial ?_
  refine call (f := 13) rfl rfl cb13 hsm ?_
  rintro v w5 ⟨rfl, hB5⟩
  have hAy := bl_tr hAz hB5 hAz.size
  have hN5 := bl_tr hN hB5 hN.size
  refine ⟨_, rfl, ?_⟩
  refine dr U 600 rfl trivial ?_
  refine ia U rfl rfl rfl rfl rfl rfl 2 rfl (by decide) ?_
  refine dr U 600 rfl trivial ?_
  refine ld U rfl rfl rfl rfl (by rw [Nat.mul_one]; exact slc (hsc0.stay hN5) rfl) ?_
  refine dr U 600 rfl trivial ?_
  refine call (f := 18) rfl rfl cb18 (share_calls (opn (qN p) (qD p) k) k (by have := kone_le (n := k) hD0 hleD; omega) (by omega) w5) ?_
  rintro v w6 ⟨rfl, hB6⟩
  have hAx := bl_tr hAy hB6 hAy.size
  refine ⟨_, rfl, ?_⟩
  refine dr U 600 rfl trivial ?_
  refine cT rfl rfl rfl (hx) ?_; refine dr U 600 rfl trivial ?_
  exact ret Tryz.results6 rfl ⟨_, rfl, rfl, hAx⟩
end Go.Proofs.YtabplbmbnakalaaGreatDoor
end
