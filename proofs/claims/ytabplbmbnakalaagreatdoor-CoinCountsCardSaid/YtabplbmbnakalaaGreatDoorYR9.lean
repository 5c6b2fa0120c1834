/-
  Walks of the reference's coin: Probability, Short, Bits, Decides, Toss, Draw, ones, Late, Add, Law.
  Conditions: texts take fewer than 2^40 bytes.
-/
import Derived.Test.YtabplbmbnakalaaGreatDoorYCq
import Derived.Test.YtabplbmbnakalaaGreatDoorYR7
import Derived.Test.YtabplbmbnakalaaGreatDoorYR8
set_option linter.unusedSimpArgs false
set_option linter.unusedVariables false
set_option maxHeartbeats 1000000
namespace Go.Proofs.YtabplbmbnakalaaGreatDoor
open Go Go.Proofs Go.RowKit Go.Lib

theorem qval_parts {s : List UInt8} (h : QErr s 0) : decide ((qval s).num < 0) = qneg s ∧ (qval s).num.natAbs = qN s ∧ (qval s).den = qD s := by
  obtain ⟨hQ, _, _, hg⟩ := h.ok
  have hd0 := qd_pos hQ
  unfold qval
  rw [mkq_num _ _ _ hd0, (mkq_form _ _ _ hd0).2, hg, Nat.div_one, Nat.div_one]
  refine ⟨?_, rfl, rfl⟩
  rw [Bool.eq_iff_iff]
  simp only [decide_eq_true_eq, mkq_neg _ _ _ hd0]
  constructor
  · exact fun h => h.1
  · exact fun hn => ⟨hn, fun h => hQ.2.1 ⟨hn, (dval_zero_iff hQ.1).2 h⟩⟩
theorem qr_qv {w : World} {v : Value} {s : List UInt8} (hs : QErr s 0) (h : QR w v (qval s)) : QV w v (qneg s) (qN s) (qD s) := by
  obtain ⟨h1, h2, h3⟩ := qval_parts hs
  unfold QR at h
  rwa [h1, h2, h3] at h
theorem QErr.digs {s : List UInt8} (h : QErr s 0) : nDigits (qN s) = (qn s).length ∧ nDigits (qD s) = (qd s).length := by
  obtain ⟨hQ, _⟩ := h.ok
  have e1 := (form_num hQ.1 (Nat.le_refl _)).1
  have e2 := (form_num (qd_form hQ) (Nat.le_refl _)).1
  have l1 := congrArg List.length e1
  have l2 := congrArg List.length e2
  rw [decDigits_length] at l1 l2
  exact ⟨l1.symm, l2.symm⟩


theorem rshort_calls (s : List UInt8) (hs : s.length ≤ 1099511627776) (hq0 : QErr s 0) (w : World) :
    Calls Tryz.prog 65 #[.string ⟨⟨s⟩⟩] w (Ret fun v w' => v = .int .i64 (if 1000 < (qn s).length ∨ 1000 < (qd s).length then 5 else 0) ∧ Below w.heap.size w w') := by
  have hW := Below.refl w.heap.size w
  obtain ⟨hd1, hd2⟩ := hq0.digs
  obtain ⟨hQ, hl1, hl2, _⟩ := hq0.ok
  have hln := lim_le_nD (qN s)
  have hld := lim_le_nD (qD s)
  have hxn := decDigits_length (qN s)
  have hxd := decDigits_length (qD s)
  refine enter Tryz.func65 rfl Tryz.ntmps65 (Nat.le_of_ble_eq_true rfl) ?_
  refine dr U 600 rfl trivial ?_
  refine call (f := 33) rfl rfl cb33 (rread_calls s hs w) ?_
  rintro v w1 ⟨hr, hBY⟩
  obtain ⟨m, a1, n1, c1, a2, n2, c2, e', rfl, hqe', hqr⟩ := hr.cases
  obtain rfl := hqe'.uniq hq0
  refine ⟨_, rfl, ?_⟩
  have hqv := qr_qv hq0 (hqr rfl)
  have hBZ := bl_tr hW hBY hW.size
  refine dr U 600 rfl trivial ?_
  refine al U rfl rfl rfl rfl ?_
  intro bq w2 hbq hs2 hkq hg2
  have hBW2 := hBZ.grown hg2 hBZ.size (fun k e => by cases e)
  have hbz := hBZ.size
  refine dr U 600 rfl trivial ?_
  refine st U rfl rfl rfl rfl rfl rfl rfl rfl rfl rfl (hkq) ?_
  intro w3 hkq3 hg3 hs3
  have hBW3 := hBW2.grown hg3 hBW2.size (fun k e => by cases e; omega)
  have hg2b : Below w1.heap.size w1 w2 := (Below.refl _ _).grown hg2 (Nat.le_refl _) (fun k e => by cases e)
  obtain ⟨an, cn, ad, cd, hv', hrn, hrd⟩ := hqv
  simp only [Value.agg.injEq, Array.mk.injEq, List.cons.injEq, Value.bool.injEq, Value.slice.injEq, and_true] at hv'
  obtain ⟨rfl, ⟨rfl, rfl, rfl⟩, rfl, rfl, rfl⟩ := hv'
  have hrn := (hrn.below hg2b).past hkq ni0 hg3
  have hrd := (hrd.below hg2b).past hkq ni0 hg3
  refine dr U 600 rfl trivial ?_
  refine ld U rfl rfl rfl rfl ((hkq3).cell rfl) ?_
  refine dr U 600 rfl trivial ?_
  refine call (f := 76) rfl rfl cb76 (write_ref (qN s) a1 c1 w3 hrn (by omega)) ?_
  rintro v w4 ⟨rfl, hB4'⟩
  refine ⟨_, rfl, ?_⟩
  have hB4 := bl_tr hBW3 hB4' hBW3.size
  have hkq4 := hkq3.below hB4' hkq3.lt
  refine dr U 600 rfl trivial ?_
  refine cS rfl rfl rfl rfl (fun hq1 => ?_) (fun hq1 => ?_)
  · refine dr U 600 rfl trivial ?_
    exact ret Tryz.results65 rfl ⟨_, rfl, by rw [if_pos (.inl (by omega))]; rfl, hB4⟩
  · refine dr U 600 rfl trivial ?_
    refine ld U rfl rfl rfl rfl ((hkq4).cell rfl) ?_
    refine dr U 600 rfl trivial ?_
    refine call (f := 76) rfl rfl cb76 (write_ref (qD s) a2 c2 w4 (hrd.below hB4') (by omega)) ?_
    rintro v w5 ⟨rfl, hB5'⟩
    refine ⟨_, rfl, ?_⟩
    have hB5 := bl_tr hB4 hB5' hB4.size
    refine dr U 600 rfl trivial ?_
    refine cS rfl rfl rfl rfl (fun hq2 => ?_) (fun hq2 => ?_)
    · refine dr U 600 rfl trivial ?_
      exact ret Tryz.results65 rfl ⟨_, rfl, by rw [if_pos (.inr (by omega))]; rfl, hB5⟩
    · refine dr U 600 rfl trivial ?_
      exact ret Tryz.results65 rfl ⟨_, rfl, by rw [if_neg (by omega)]; rfl, hB5⟩

theorem rprob_calls (s : List UInt8) (hs : s.length ≤ 1099511627776) (w : World) :
    Calls Tryz.prog 31 #[.string ⟨⟨s⟩⟩] w (Ret fun v w' => (∃ e, v = .int .i64 e ∧ PErr s e) ∧ Below w.heap.size w w') := by
  refine enter Tryz.func31 rfl Tryz.ntmps31 (Nat.le_of_ble_eq_true rfl) ?_
  refine dr U 600 rfl trivial ?_
  refine call (f := 63) rfl rfl cb63 (rcheck_calls s hs w) ?_
  rintro v w0 ⟨⟨e, rfl, hqe⟩, hB0⟩
  refine ⟨_, rfl, ?_⟩
  refine dr U 600 rfl trivial ?_
  refine cS rfl rfl rfl rfl (fun hq => ?_) (fun hq => ?_)
  · refine dr U 600 rfl trivial ?_
    exact ret Tryz.results31 rfl ⟨_, rfl, ⟨e, rfl, .inl ⟨hq, hqe⟩⟩, hB0⟩
  · obtain rfl := Classical.not_not.1 hq
    obtain ⟨hd1, hd2⟩ := hqe.digs
    obtain ⟨hQ, hl1, hl2, _⟩ := hqe.ok
    have hln := lim_le_nD (qN s)
    have hld := lim_le_nD (qD s)
    refine dr U 600 rfl trivial ?_
    refine call (f := 33) rfl rfl cb33 (rread_calls s hs w0) ?_
    rintro v w1 ⟨hr, hBY⟩
    obtain ⟨m, a1, n1, c1, a2, n2, c2, e', rfl, hqe', hqr⟩ := hr.cases
    obtain rfl := hqe'.uniq hqe
    refine ⟨_, rfl, ?_⟩
    have hqv := qr_qv hqe (hqr rfl)
    have hBZ := bl_tr hB0 hBY hB0.size
    refine dr U 600 rfl trivial ?_
    refine al U rfl rfl rfl rfl ?_
    intro bq w2 hbq hs2 hkq hg2
    have hBW2 := hBZ.grown hg2 hBZ.size (fun k e => by cases e)
    have hbz := hBZ.size
    refine dr U 600 rfl trivial ?_
    refine st U rfl rfl rfl rfl rfl rfl rfl rfl rfl rfl (hkq) ?_
    intro w3 hkq3 hg3 hs3
    have hBW3 := hBW2.grown hg3 hBW2.size (fun k e => by cases e; omega)
    have hg2b : Below w1.heap.size w1 w2 := (Below.refl _ _).grown hg2 (Nat.le_refl _) (fun k e => by cases e)
    obtain ⟨an, cn, ad, cd, hv', hrn, hrd⟩ := hqv
    simp only [Value.agg.injEq, Array.mk.injEq, List.cons.injEq, Value.bool.injEq, Value.slice.injEq, and_true] at hv'
    obtain ⟨rfl, ⟨rfl, rfl, rfl⟩, rfl, rfl, rfl⟩ := hv'
    have hrn := (hrn.below hg2b).past hkq ni0 hg3
    have hrd := (hrd.below hg2b).past hkq ni0 hg3
    refine dr U 600 rfl trivial ?_
    refine ld U rfl rfl rfl rfl ((hkq3).cell rfl) ?_
    cases hng : qneg s with
    | true =>
      refine dr U 600 rfl trivial ?_
      exact ret Tryz.results31 rfl ⟨_, rfl, ⟨2, rfl, .inr (.inl ⟨hqe, .inl hng, rfl⟩)⟩, hBW3⟩
    | false =>
      refine dr U 600 rfl trivial ?_
      refine ld U rfl rfl rfl rfl ((hkq3).cell rfl) ?_
      refine dr U 600 rfl trivial ?_
      refine ld U rfl rfl rfl rfl ((hkq3).cell rfl) ?_
      refine dr U 600 rfl trivial ?_
      refine call (f := 64) rfl rfl cb64 (order_calls _ _ a1 a2 c1 c2 w3 hrn hrd (by omega) (by omega)) ?_
      rintro v w4 ⟨rfl, hB4'⟩
      refine ⟨_, rfl, ?_⟩
      have hB4 := bl_tr hBW3 hB4' hBW3.size
      refine cS rfl rfl rfl rfl (fun hq1 => ?_) (fun hq1 => ?_)
      · refine dr U 600 rfl trivial ?_
        exact ret Tryz.results31 rfl ⟨_, rfl, ⟨2, rfl, .inr (.inl ⟨hqe, .inr (cmpN_gt.1 hq1), rfl⟩)⟩, hB4⟩
      · have hle : qN s ≤ qD s := by
          rcases Nat.lt_or_ge (qD s) (qN s) with h | h
          · exact absurd (cmpN_gt.2 h) hq1
          · exact h
        refine dr U 600 rfl trivial ?_
        refine call (f := 65) rfl rfl cb65 (rshort_calls s hs hqe w4) ?_
        rintro v w5 ⟨rfl, hB5'⟩
        refine ⟨_, rfl, ?_⟩
        have hB5 := bl_tr hB4 hB5' hB4.size
        refine dr U 600 rfl trivial ?_
        refine ret Tryz.results31 rfl ⟨_, rfl, ⟨_, rfl, ?_⟩, hB5⟩
        by_cases h : 1000 < (qn s).length ∨ 1000 < (qd s).length
        · rw [if_pos h]; exact .inr (.inr (.inl ⟨hqe, hng, hle, h, rfl⟩))
        · rw [if_neg h]; exact .inr (.inr (.inr ⟨hqe, hng, hle, by omega, by omega, rfl⟩))

theorem rbits4_calls (l : List UInt8) (hl : l.length ≤ 1099511627776) (w : World) :
    Calls Tryz.prog 32 #[.string ⟨⟨l⟩⟩] w (Ret fun v w' => (∃ e, v = .int .i64 e ∧ SChk l e) ∧ w = w') := by
  refine enter Tryz.func32 rfl Tryz.ntmps32 (Nat.le_of_ble_eq_true rfl) ?_
  refine dr U 600 rfl trivial ?_
  refine call (f := 66) rfl rfl cb66 (rbcheck_calls l hl w) ?_
  rintro v w1 ⟨⟨e, rfl, he⟩, rfl⟩
  refine ⟨_, rfl, ?_⟩
  refine dr U 600 rfl trivial ?_
  refine cS rfl rfl rfl rfl (fun hq => ?_) (fun hq => ?_)
  · refine dr U 600 rfl trivial ?_
    rcases he with ⟨_, h⟩ | ⟨h1, rfl⟩
    · exact absurd h hq
    · exact ret Tryz.results32 rfl ⟨_, rfl, ⟨_, rfl, .inr (.inr ⟨h1, rfl⟩)⟩, rfl⟩
  · obtain ⟨h1, _⟩ | ⟨_, rfl⟩ := he
    · refine dr U 600 rfl trivial ?_
      refine cS rfl rfl rfl rfl (fun hq => ?_) (fun hq => ?_)
      · refine dr U 600 rfl trivial ?_
        exact ret Tryz.results32 rfl ⟨_, rfl, ⟨_, rfl, .inr (.inl ⟨h1, by omega, rfl⟩)⟩, rfl⟩
      · refine dr U 600 rfl trivial ?_
        exact ret Tryz.results32 rfl ⟨_, rfl, ⟨_, rfl, .inl ⟨h1, by omega, rfl⟩⟩, rfl⟩
    · exact absurd (by decide) hq

theorem rdecides_calls (N D : Nat) (m : Bool) (v : Value) (l : List UInt8) (hl : l.length ≤ 256) (hN : nDigits N ≤ 1000) (hD : nDigits D ≤ 1000) (w : World) (hv : QV w v m N D) :
    Calls Tryz.prog 73 #[v, .string ⟨⟨l⟩⟩] w (Ret fun v' w' => v' = sideV N D (bval l) (2 ^ l.length) ∧ Below w.heap.size w w') := by
  obtain ⟨an, cn, ad, cd, rfl, hn, hd⟩ := hv
  have hln := lim_le_nD N
  have hld := lim_le_nD D
  have hlt := bval_lt l.length l rfl
  have hpp := pow_257 (n := l.length) (by omega)
  have hl2 := lim_two (m := 2 ^ l.length) (by omega)
  have hlk := lim_two (m := bval l) (by omega)
  have hm1 := lim_len_mul N (2 ^ l.length)
  have hm2 := lim_len_mul (bval l) D
  have hm3 := lim_len_add (bval l * D) D
  refine enter Tryz.func73 rfl Tryz.ntmps73 (Nat.le_of_ble_eq_true rfl) ?_
  refine dr U 600 rfl trivial ?_
  refine bx rfl rfl rfl rfl ?_
  intro b2 w0 hb2 hs0 hk2 hg0
  have hB0 : Below w.heap.size w w0 := (Below.refl _ _).grown hg0 (Nat.le_refl _) (fun k e => by cases e)
  have hn := hn.below hB0
  have hd := hd.below hB0
  refine dr U 600 rfl trivial ?_
  refine call (f := 105) rfl rfl cb105 (rvalue_calls l hl w0) ?_
  rintro v w1 ⟨⟨a1, c1, rfl, hr1⟩, hB1'⟩
  refine ⟨_, rfl, ?_⟩
  have hB1 := bl_tr hB0 hB1' hB0.size
  have hk2 := hk2.below hB1' hk2.lt
  have hn := hn.below hB1'
  have hd := hd.below hB1'
  refine dr U 600 rfl trivial ?_
  refine dwn 5 (fun W => Bk W b2 71 [.bool m, .slice an (lim N).length cn, .slice ad (lim D).length cd]) hmo ?_
  intro w2 hh2 hg2
  have hB2' : Below w1.heap.size w1 w2 := (Below.refl _ _).grown hg2 (Nat.le_refl _) (fun k e => by cases e)
  have hB2 := bl_tr hB1 hB2' hB1.size
  have hk2 := hk2.below hB2' hk2.lt
  have hn := hn.below hB2'
  have hd := hd.below hB2'
  have hr1 := hr1.below hB2'
  refine dq U [0,1,2] [(1, .slice an (lim N).length cn)] (by kernel_rfl) rfl rfl hk2 (by simp only [AllP, InR, List.nil_append, List.cons_append]; (repeat' apply And.intro); all_goals first | exact True.intro | omega | exact fun w h => run_load_cell U rfl (h.cell rfl)) ?_
  refine d1 rfl rfl (fun _ => hk2) ?_
  refine call (f := 38) rfl rfl cb38 (rtwop_calls l.length hl w2) ?_
  rintro v w3 ⟨⟨a3, c3, rfl, hr3⟩, hB3'⟩
  refine ⟨_, rfl, d2 ?_⟩
  have hB3 := bl_tr hB2 hB3' hB2.size
  have hk2 := hk2.below hB3' hk2.lt
  have hn := hn.below hB3'
  have hd := hd.below hB3'
  have hr1 := hr1.below hB3'
  refine d1 rfl rfl (fun _ => hk2) ?_
  refine call (f := 75) rfl rfl cb75 (times_calls _ _ an a3 cn c3 w3 hn hr3 (by omega) (by omega)) ?_
  rintro v w4 ⟨a4, c4, rfl, ho4, hB4'⟩
  refine ⟨_, rfl, d2 ?_⟩
  have hB4 := bl_tr hB3 hB4' hB3.size
  have hk2 := hk2.below hB4' hk2.lt
  have hd := hd.below hB4'
  have hr1 := hr1.below hB4'
  have hr4 := ownI_rd ho4
  refine d1 rfl rfl (fun _ => hk2) ?_
  refine dr U 600 rfl trivial ?_
  refine d3 ?_; refine dend rfl (fun h => by cases h) ?_
  refine dr U 600 rfl trivial ?_
  refine ld U rfl rfl rfl rfl ((hk2).cell rfl) ?_
  refine call (f := 75) rfl rfl cb75 (times_calls _ _ a1 ad c1 cd w4 hr1 hd (by omega) (by omega)) ?_
  rintro v w5 ⟨a5, c5, rfl, ho5, hB5'⟩
  refine ⟨_, rfl, ?_⟩
  have hB5 := bl_tr hB4 hB5' hB4.size
  have hk2 := hk2.below hB5' hk2.lt
  have hd := hd.below hB5'
  have hr4 := hr4.below hB5'
  have hr5 := ownI_rd ho5
  refine dr U 600 rfl trivial ?_
  refine call (f := 64) rfl rfl cb64 (order_calls _ _ a4 a5 c4 c5 w5 hr4 hr5 (by omega) (by omega)) ?_
  rintro v w6 ⟨rfl, hB6'⟩
  refine ⟨_, rfl, ?_⟩
  have hB6 := bl_tr hB5 hB6' hB5.size
  have hk2 := hk2.below hB6' hk2.lt
  have hd := hd.below hB6'
  have hr4 := hr4.below hB6'
  have hr5 := hr5.below hB6'
  refine cS rfl rfl rfl rfl (fun hq => ?_) (fun hq => ?_)
  · refine dr U 600 rfl trivial ?_
    exact ret Tryz.results73 rfl ⟨_, rfl, by unfold sideV; rw [if_pos (cmpN_le.1 hq)]; rfl, hB6⟩
  · have hno : ¬ N * 2 ^ l.length ≤ bval l * D := fun h => hq (cmpN_le.2 h)
    refine dr U 600 rfl trivial ?_
    refine ld U rfl rfl rfl rfl ((hk2).cell rfl) ?_
    refine call (f := 79) rfl rfl cb79 (plus_calls _ _ a5 ad c5 cd w6 hr5 hd (by omega) (by omega)) ?_
    rintro v w7 ⟨a7, c7, rfl, ho7, hB7'⟩
    refine ⟨_, rfl, ?_⟩
    have hB7 := bl_tr hB6 hB7' hB6.size
    refine dr U 600 rfl trivial ?_
    refine call (f := 64) rfl rfl cb64 (order_calls _ _ a7 a4 c7 c4 w7 (ownI_rd ho7) (hr4.below hB7') (by omega) (by omega)) ?_
    rintro v w8 ⟨rfl, hB8'⟩
    refine ⟨_, rfl, ?_⟩
    have hB8 := bl_tr hB7 hB8' hB7.size
    refine cS rfl rfl rfl rfl (fun hq => ?_) (fun hq => ?_)
    · refine dr U 600 rfl trivial ?_
      exact ret Tryz.results73 rfl ⟨_, rfl, by unfold sideV; rw [if_neg hno, decide_eq_true (cmpN_le.1 hq)]; rfl, hB8⟩
    · refine dr U 600 rfl trivial ?_
      exact ret Tryz.results73 rfl ⟨_, rfl, by unfold sideV; rw [if_neg hno, decide_eq_false (fun h => hq (cmpN_le.2 h))]; rfl, hB8⟩

theorem side_dcz {N D u : Nat} {l : List UInt8} (hD : 0 < D) (hu : u ≤ l.length) : (∃ x : Nat, dcz N D (l.take u) = some x ∧ sideV N D (bval (l.take u)) (2 ^ (l.take u).length) = .tuple ⟨[.int .i64 (x : Nat), .bool true]⟩) ∨
    (dcz N D (l.take u) = none ∧ sideV N D (bval (l.take u)) (2 ^ (l.take u).length) = .tuple ⟨[.int .i64 1, .bool false]⟩) := by
  unfold dcz sideV
  by_cases h0 : N * 2 ^ (l.take u).length ≤ bval (l.take u) * D
  · rw [if_pos h0]; exact .inl ⟨0, dcd_zero.2 h0, rfl⟩
  · rw [if_neg h0]
    by_cases h1 : bval (l.take u) * D + D ≤ N * 2 ^ (l.take u).length
    · rw [decide_eq_true h1]; exact .inl ⟨1, (dcd_one hD).2 h1, rfl⟩
    · rw [decide_eq_false h1]
      exact .inr ⟨by unfold dcd; rw [if_neg h0, if_neg h1], rfl⟩

theorem rtoss_calls (N D : Nat) (m : Bool) (v : Value) (l : List UInt8) (hl : l.length ≤ 256) (hN : nDigits N ≤ 1000) (hD : nDigits D ≤ 1000) (hD0 : 0 < D) (w : World) (hv : QV w v m N D) :
    Calls Tryz.prog 34 #[v, .string ⟨⟨l⟩⟩] w (Ret fun v' w' => v' = dvl (tos N D l) ∧ Below w.heap.size w w') := by
  obtain ⟨an, cn, ad, cd, rfl, hn, hd⟩ := hv
  refine enter Tryz.func34 rfl Tryz.ntmps34 (Nat.le_of_ble_eq_true rfl) ?_
  refine dr U 600 rfl trivial ?_
  refine bx rfl rfl rfl rfl ?_
  intro b2 wa hb2 hsa hk2 hga
  refine al U rfl rfl rfl rfl ?_
  intro b4 w0 hb4 hs0 hk4 hg0
  have hk2 := hk2.keep hg0 (by simp)
  have hB0 : Below w.heap.size w w0 := ((Below.refl _ _).grown hga (Nat.le_refl _) (fun k e => by cases e)).grown hg0 (by omega) (fun k e => by cases e)
  have hn := hn.below hB0
  have hd := hd.below hB0
  refine dr U 600 rfl trivial ?_
  refine loopR (fun f w' m_ => ∃ (u : Nat), f = [(1, .string ⟨⟨l⟩⟩), (2, .pointer (some ⟨b2, 0, none⟩)), (4, .pointer (some ⟨b4, 0, none⟩)), (5, .int .i64 (u : Nat))] ∧ u ≤ l.length + 1 ∧ (∀ i, i < u → dcz N D (l.take i) = none) ∧ Below w0.heap.size w0 w' ∧ m_ = l.length + 1 - u)
    ⟨0, rfl, by omega, fun i h => by omega, Below.refl _ _, rfl⟩ ⟨rfl, rfl, rfl, rfl, trivial⟩ ?_
  rintro f w1 m_ ⟨u, rfl, hu, hnone, hB1, rfl⟩
  have hk2 := hk2.below hB1 hk2.lt
  have hk4 := hk4.below hB1 hk4.lt
  have hn := hn.below hB1
  have hd := hd.below hB1
  have hBw := bl_tr hB0 hB1 hB0.size
  refine dr U 600 rfl trivial ?_
  refine cS rfl rfl rfl rfl (fun hq => ?_) (fun hq => ?_)
  · have hul : u ≤ l.length := by omega
    refine dr U 600 rfl trivial ?_
    refine dwn 9 (fun W => Bk W b2 71 [.bool m, .slice an (lim N).length cn, .slice ad (lim D).length cd]) hmo ?_
    intro w2 hh2 hg2
    have hB2' : Below w1.heap.size w1 w2 := (Below.refl _ _).grown hg2 (Nat.le_refl _) (fun k e => by cases e)
    have hB2 := bl_tr hBw hB2' hBw.size
    have hk2 := hk2.below hB2' hk2.lt
    have hk4 := hk4.below hB2' hk4.lt
    have hn := hn.below hB2'
    have hd := hd.below hB2'
    refine dq U [0,1,2,3] [(0, .agg ⟨[.bool m, .slice an (lim N).length cn, .slice ad (lim D).length cd]⟩)] (by kernel_rfl) rfl rfl hk2 (by simp only [AllP, InR, List.nil_append, List.cons_append]; (repeat' apply And.intro); all_goals first | exact True.intro | omega | exact fun w h => run_load_agg ag_q h rfl) ?_
    simp only [Int.toNat_natCast]
    refine d1 rfl rfl (fun _ => hk2) ?_
    refine call (f := 73) rfl rfl cb73 (rdecides_calls N D m _ (l.take u) (by rw [List.length_take]; omega) hN hD w2 ⟨an, cn, ad, cd, rfl, hn, hd⟩) ?_
    rintro v w3 ⟨rfl, hB3'⟩
    have hB3 := bl_tr hB2 hB3' hB2.size
    have hk2 := hk2.below hB3' hk2.lt
    have hk4 := hk4.below hB3' hk4.lt
    rcases side_dcz (N := N) hD0 hul with ⟨x, hx, hsv⟩ | ⟨hx, hsv⟩
    · rw [hsv]
      refine ⟨_, rfl, d2 ?_⟩
      refine dq U [5,6,7,8] [] (by kernel_rfl) rfl rfl hk2 (by simp only [AllP, InR, List.nil_append, List.cons_append]; (repeat' apply And.intro); all_goals first | exact True.intro | omega | (simp only [List.length_cons, List.length_nil]; omega) | (intro w_ hw_; refine ldC U rfl hw_ ?_; first | assumption | (simp [add_plain]; assumption)) | (intro w_ hw_; refine run_load_cell U rfl ?_; first | exact hw_ | exact hw_.1 | exact hw_.2 | exact hw_.2.1 | exact hw_.2.2 | exact hw_.2.2.1 | exact hw_.2.2.2 | (simp [add_plain]; first | exact hw_.1 | exact hw_.2.1 | exact hw_.2.2))) ?_
      refine d1 rfl rfl (fun _ => hk2) ?_
      refine dr U 600 rfl trivial ?_
      refine d3 ?_; refine dend rfl (fun h => by cases h) ?_
      refine dr U 600 rfl trivial ?_
      refine st U rfl rfl rfl rfl rfl rfl rfl rfl rfl rfl (hk4) ?_
      intro w4 hk4' hg4 hs4
      refine dr U 600 rfl trivial ?_
      refine retS Tryz.results34 (vs := [_]) ⟨⟨_, rfl, run_load_agg ag_draw hk4' rfl⟩, trivial⟩ ⟨_, rfl, ?_, hB3.grown hg4 hB3.size (fun k e => by cases e; omega)⟩
      rw [tos_is hul hx hnone]; rfl
    · rw [hsv]
      refine ⟨_, rfl, d2 ?_⟩
      refine dq U [5,6,7,8] [] (by kernel_rfl) rfl rfl hk2 (by simp only [AllP, InR, List.nil_append, List.cons_append]; (repeat' apply And.intro); all_goals first | exact True.intro | omega | (simp only [List.length_cons, List.length_nil]; omega) | (intro w_ hw_; refine ldC U rfl hw_ ?_; first | assumption | (simp [add_plain]; assumption)) | (intro w_ hw_; refine run_load_cell U rfl ?_; first | exact hw_ | exact hw_.1 | exact hw_.2 | exact hw_.2.1 | exact hw_.2.2 | exact hw_.2.2.1 | exact hw_.2.2.2 | (simp [add_plain]; first | exact hw_.1 | exact hw_.2.1 | exact hw_.2.2))) ?_
      refine d1 rfl rfl (fun _ => hk2) ?_
      refine dr U 600 rfl trivial ?_
      refine d3 ?_; refine dend rfl (fun h => by cases h) ?_
      refine dr U 600 rfl (by first | exact True.intro | (simp only [AllP, InR, List.nil_append, List.cons_append, and_true]; omega)) ?_
      refine rend _ _ ⟨u + 1, rfl, by omega, fun i hi => ?_, bl_tr hB1 (bl_tr hB2' hB3' hB2'.size) hB1.size, rfl⟩ (by omega) ⟨rfl, rfl, rfl, iv (by omega), trivial⟩
      by_cases hiu : i = u
      · rw [hiu]; exact hx
      · exact hnone i (by omega)
  · refine dr U 600 rfl trivial ?_
    refine st U rfl rfl rfl rfl rfl rfl rfl rfl rfl rfl (hk4) ?_
    intro w4 hk4' hg4 hs4
    refine dr U 600 rfl trivial ?_
    refine retS Tryz.results34 (vs := [_]) ⟨⟨_, rfl, run_load_agg ag_draw hk4' rfl⟩, trivial⟩ ⟨_, rfl, ?_, hBw.grown hg4 hBw.size (fun k e => by cases e; omega)⟩
    rw [tos_not (fun i hi => hnone i (by omega))]; rfl

theorem rdraw_calls (s l : List UInt8) (hs : s.length ≤ 1099511627776) (hl : l.length ≤ 1099511627776) (w : World) :
    Calls Tryz.prog 14 #[.string ⟨⟨s⟩⟩, .string ⟨⟨l⟩⟩] w (Ret fun v w' => DrawR s l v ∧ Below w.heap.size w w') := by
  refine enter Tryz.func14 rfl Tryz.ntmps14 (Nat.le_of_ble_eq_true rfl) ?_
  refine dr U 600 rfl trivial ?_
  refine al U rfl rfl rfl rfl ?_
  intro b4 w0 hb4 hs0 hk4 hg0
  have hB0 : Below w.heap.size w w0 := (Below.refl _ _).grown hg0 (Nat.le_refl _) (fun k e => by cases e)
  refine dr U 600 rfl trivial ?_
  refine call (f := 31) rfl rfl cb31 (rprob_calls s hs w0) ?_
  rintro v wp ⟨⟨e, rfl, hpe⟩, hBp'⟩
  refine ⟨_, rfl, ?_⟩
  have hBp := bl_tr hB0 hBp' hB0.size
  have hk4 := hk4.below hBp' hk4.lt
  refine dr U 600 rfl trivial ?_
  refine cS rfl rfl rfl rfl (fun hq => ?_) (fun hq => ?_)
  · refine dr U 600 rfl trivial ?_
    refine st U rfl rfl rfl rfl rfl rfl rfl rfl rfl rfl (hk4) ?_
    intro w9 hkW hgW hsW
    refine dr U 600 rfl trivial ?_
    refine retS Tryz.results14 (vs := [_, _]) ⟨⟨_, rfl, run_load_agg ag_draw hkW rfl⟩, rfl, trivial⟩ ⟨_, rfl, .inl ⟨e, hq, (.inl ⟨hq, hpe⟩), rfl⟩, hBp.grown hgW hBp.size (fun k e => by cases e; omega)⟩
  · obtain rfl := Classical.not_not.1 hq
    obtain ⟨hnum, hden, hD0, hle⟩ := hpe.nums
    refine dr U 600 rfl trivial ?_
    refine call (f := 32) rfl rfl cb32 (rbits4_calls l hl wp) ?_
    rintro v wq ⟨⟨e, rfl, hce⟩, rfl⟩
    refine ⟨_, rfl, ?_⟩
    clear hq
    refine dr U 600 rfl trivial ?_
    refine cS rfl rfl rfl rfl (fun hq => ?_) (fun hq => ?_)
    · refine dr U 600 rfl trivial ?_
      refine st U rfl rfl rfl rfl rfl rfl rfl rfl rfl rfl (hk4) ?_
      intro w9 hkW hgW hsW
      refine dr U 600 rfl trivial ?_
      refine retS Tryz.results14 (vs := [_, _]) ⟨⟨_, rfl, run_load_agg ag_draw hkW rfl⟩, rfl, trivial⟩ ⟨_, rfl, .inl ⟨e, hq, (.inr ⟨hpe, hce⟩), rfl⟩, hBp.grown hgW hBp.size (fun k e => by cases e; omega)⟩
    · obtain rfl := Classical.not_not.1 hq
      obtain ⟨hbin, hl256⟩ := hce.ok
      have hq0 := hpe.ok.1
      refine dr U 600 rfl trivial ?_
      refine call (f := 33) rfl rfl cb33 (rread_calls s hs wp) ?_
      rintro v w1 ⟨hr, hBY⟩
      obtain ⟨m, a1, n1, c1, a2, n2, c2, e', rfl, hqe', hqr⟩ := hr.cases
      obtain rfl := hqe'.uniq hq0
      refine ⟨_, rfl, ?_⟩
      have hqv := qr_qv hq0 (hqr rfl)
      have hBZ := bl_tr hBp hBY hBp.size
      refine dr U 600 rfl trivial ?_
      refine al U rfl rfl rfl rfl ?_
      intro bq w2 hbq hs2 hkq hg2
      have hBW2 := hBZ.grown hg2 hBZ.size (fun k e => by cases e)
      have hbz := hBZ.size
      refine dr U 600 rfl trivial ?_
      refine st U rfl rfl rfl rfl rfl rfl rfl rfl rfl rfl (hkq) ?_
      intro w3 hkq3 hg3 hs3
      have hBW3 := hBW2.grown hg3 hBW2.size (fun k e => by cases e; omega)
      have hg2b : Below w1.heap.size w1 w2 := (Below.refl _ _).grown hg2 (Nat.le_refl _) (fun k e => by cases e)
      obtain ⟨an, cn, ad, cd, hv', hrn, hrd⟩ := hqv
      simp only [Value.agg.injEq, Array.mk.injEq, List.cons.injEq, Value.bool.injEq, Value.slice.injEq, and_true] at hv'
      obtain ⟨rfl, ⟨rfl, rfl, rfl⟩, rfl, rfl, rfl⟩ := hv'
      have hrn := (hrn.below hg2b).past hkq ni0 hg3
      have hrd := (hrd.below hg2b).past hkq ni0 hg3
      have hl4 := hk4.lt
      have hl5 := hBY.size
      have hk4 := ((hk4.below hBY hk4.lt).keep hg2 (by simp)).keep hg3 (by intro e; cases e; omega)
      refine dr U 600 rfl trivial ?_
      refine lg rfl ag_q rfl rfl hkq3 rfl ?_
      refine dr U 600 rfl trivial ?_
      refine call (f := 34) rfl rfl cb34 (rtoss_calls (qN s) (qD s) _ _ l hl256 hnum.2 hden.2 hD0 w3 ⟨_, _, _, _, rfl, hrn, hrd⟩) ?_
      rintro v w4 ⟨rfl, hB4'⟩
      refine ⟨_, rfl, ?_⟩
      have hB4 := bl_tr hBW3 hB4' hBW3.size
      have hk4 := hk4.below hB4' hk4.lt
      unfold dvl
      refine st U rfl rfl rfl rfl rfl rfl rfl rfl rfl rfl (hk4) ?_
      intro w9 hk9 hg9 hs9
      refine dr U 600 rfl trivial ?_
      exact retS Tryz.results14 (vs := [_, _]) ⟨⟨_, rfl, run_load_agg ag_draw hk9 rfl⟩, rfl, trivial⟩ ⟨_, rfl, .inr ⟨.inr ⟨hpe, hce⟩, rfl⟩, hB4.grown hg9 hB4.size (fun k e => by cases e; omega)⟩

theorem rones_calls (s : List UInt8) (k : Nat) (hs : s.length ≤ 1099511627776) (hk : k ≤ 256) (hp : PErr s 0) (w : World) :
    Calls Tryz.prog 35 #[.string ⟨⟨s⟩⟩, .int .i64 (k : Nat)] w
      (Ret fun v w' => (∃ v1 v2, v = .tuple ⟨[v1, v2]⟩ ∧ RedI w' v1 (lim (kone (qN s) (qD s) k)) ∧ RedI w' v2 (lim (2 ^ k - opn (qN s) (qD s) k))) ∧ Below w.heap.size w w') := by
  have hW := Below.refl w.heap.size w
  obtain ⟨hnum, hden, hD0, hle⟩ := hp.nums
  have hq0 := hp.ok.1
  have hln := Nat.le_trans (lim_le_nD (qN s)) hnum.2
  have hld := Nat.le_trans (lim_le_nD (qD s)) hden.2
  have hpp := pow_257 (n := k) (by omega)
  have hl2 := lim_two (m := 2 ^ k) (by omega)
  have hm1 := lim_len_mul (qN s) (2 ^ k)
  have h2o : 0 < 2 ^ k := Nat.pow_pos (by omega)
  refine enter Tryz.func35 rfl Tryz.ntmps35 (Nat.le_of_ble_eq_true rfl) ?_
  refine dr U 600 rfl trivial ?_
  refine call (f := 33) rfl rfl cb33 (rread_calls s hs w) ?_
  rintro v w1 ⟨hr, hBY⟩
  obtain ⟨m, a1, n1, c1, a2, n2, c2, e', rfl, hqe', hqr⟩ := hr.cases
  obtain rfl := hqe'.uniq hq0
  refine ⟨_, rfl, ?_⟩
  have hqv := qr_qv hq0 (hqr rfl)
  have hBZ := bl_tr hW hBY hW.size
  refine dr U 600 rfl trivial ?_
  refine al U rfl rfl rfl rfl ?_
  intro bq w2 hbq hs2 hkq hg2
  have hBW2 := hBZ.grown hg2 hBZ.size (fun k e => by cases e)
  have hbz := hBZ.size
  refine dr U 600 rfl trivial ?_
  refine st U rfl rfl rfl rfl rfl rfl rfl rfl rfl rfl (hkq) ?_
  intro w3 hkq3 hg3 hs3
  have hBW3 := hBW2.grown hg3 hBW2.size (fun k e => by cases e; omega)
  have hg2b : Below w1.heap.size w1 w2 := (Below.refl _ _).grown hg2 (Nat.le_refl _) (fun k e => by cases e)
  obtain ⟨an, cn, ad, cd, hv', hrn, hrd⟩ := hqv
  simp only [Value.agg.injEq, Array.mk.injEq, List.cons.injEq, Value.bool.injEq, Value.slice.injEq, and_true] at hv'
  obtain ⟨rfl, ⟨rfl, rfl, rfl⟩, rfl, rfl, rfl⟩ := hv'
  have hrn := (hrn.below hg2b).past hkq ni0 hg3
  have hrd := (hrd.below hg2b).past hkq ni0 hg3
  refine dr U 600 rfl trivial ?_
  refine dwn 12 (fun W => Bk W bq 71 [.bool (qneg s), .slice a1 (lim (qN s)).length c1, .slice a2 (lim (qD s)).length c2]) hmo ?_
  intro w4 hh4 hg4
  have hB4' : Below w3.heap.size w3 w4 := (Below.refl _ _).grown hg4 (Nat.le_refl _) (fun k e => by cases e)
  have hB4 := bl_tr hBW3 hB4' hBW3.size
  have hkq := hkq3.below hB4' hkq3.lt
  have hrn := hrn.below hB4'
  have hrd := hrd.below hB4'
  refine dq U [0,1,2,5,6] [(1, .slice a1 (lim (qN s)).length c1), (6, .slice a2 (lim (qD s)).length c2)] (by kernel_rfl) rfl rfl hkq (by simp only [AllP, InR, List.nil_append, List.cons_append]; (repeat' apply And.intro); all_goals first | exact True.intro | omega | exact fun w h => run_load_cell U rfl (h.cell rfl)) ?_
  refine d1 rfl rfl (fun _ => hkq) ?_
  refine call (f := 38) rfl rfl cb38 (rtwop_calls k hk w4) ?_
  rintro v w5 ⟨⟨a5, c5, rfl, hr5⟩, hB5'⟩
  refine ⟨_, rfl, d2 ?_⟩
  have hB5 := bl_tr hB4 hB5' hB4.size
  have hkq := hkq.below hB5' hkq.lt
  have hrn := hrn.below hB5'
  have hrd := hrd.below hB5'
  refine d1 rfl rfl (fun _ => hkq) ?_
  refine call (f := 75) rfl rfl cb75 (times_calls _ _ a1 a5 c1 c5 w5 hrn hr5 (by omega) (by omega)) ?_
  rintro v w6 ⟨a6, c6, rfl, ho6, hB6'⟩
  refine ⟨_, rfl, d2 ?_⟩
  have hB6 := bl_tr hB5 hB6' hB5.size
  have hkq := hkq.below hB6' hkq.lt
  have hrd := hrd.below hB6'
  refine d1 rfl rfl (fun _ => hkq) ?_
  refine call (f := 74) rfl rfl cb74 (divide_calls _ _ hD0 a6 a2 c6 c2 w6 (ownI_rd ho6) hrd (by omega) (by omega)) ?_
  rintro v w7 ⟨v1, v2, rfl, ⟨a7, c7, rfl, hr7⟩, ⟨a8, c8, rfl, hr8⟩, hB7'⟩
  refine ⟨_, rfl, d2 ?_⟩
  have hB7 := bl_tr hB6 hB7' hB6.size
  have hkq := hkq.below hB7' hkq.lt
  refine dq U [8,9,10,11] [] (by kernel_rfl) rfl rfl hkq (by simp only [AllP, InR, List.nil_append, List.cons_append]; (repeat' apply And.intro); all_goals first | exact True.intro | omega | (simp only [List.length_cons, List.length_nil]; omega) | (intro w_ hw_; refine ldC U rfl hw_ ?_; first | assumption | (simp [add_plain]; assumption)) | (intro w_ hw_; refine run_load_cell U rfl ?_; first | exact hw_ | exact hw_.1 | exact hw_.2 | exact hw_.2.1 | exact hw_.2.2 | exact hw_.2.2.1 | exact hw_.2.2.2 | (simp [add_plain]; first | exact hw_.1 | exact hw_.2.1 | exact hw_.2.2))) ?_
  refine d1 rfl rfl (fun _ => hkq) ?_
  refine dr U 600 rfl trivial ?_
  refine d3 ?_; refine dend rfl (fun h => by cases h) ?_
  refine dr U 600 rfl trivial ?_
  refine call (f := 38) rfl rfl cb38 (rtwop_calls k hk w7) ?_
  rintro v w8 ⟨⟨a9, c9, rfl, hr9⟩, hB8'⟩
  refine ⟨_, rfl, ?_⟩
  have hB8 := bl_tr hB7 hB8' hB7.size
  have hr7 := hr7.below hB8'
  have hr8 := hr8.below hB8'
  have hlr : (lim (qN s * 2 ^ k % qD s)).length ≤ 1000 := Nat.le_trans (lim_len_mono (Nat.le_of_lt (Nat.mod_lt _ hD0))) hld
  refine dr U 600 rfl trivial ?_
  refine cS rfl rfl rfl rfl (fun hq => ?_) (fun hq => ?_)
  · have hr0 : qN s * 2 ^ k % qD s ≠ 0 := fun h => hq (by rw [h, lim_zero]; rfl)
    have hop : opn (qN s) (qD s) k = 1 := by unfold opn; rw [if_neg hr0]
    refine dr U 600 rfl trivial ?_
    refine call (f := 70) rfl rfl cb70 (read_calls [48] (fun c hc => by rw [List.mem_singleton.1 hc]; exact ⟨by decide, by decide⟩) (by decide) w8) ?_
    rintro v w9 ⟨az, cz, rfl, hoz, hB9'⟩
    refine ⟨_, rfl, ?_⟩
    have hB9 := bl_tr hB8 hB9' hB8.size
    refine call (f := 64) rfl rfl cb64 (order_calls _ 0 a8 az c8 cz w9 (hr8.below hB9') (ownI_rd hoz) (by omega) (by rw [lim_zero]; decide)) ?_
    rintro v w10 ⟨rfl, hB10'⟩
    refine ⟨_, rfl, ?_⟩
    have hB10 := bl_tr hB9 hB10' hB9.size
    refine cT rfl rfl rfl (fun h => hr0 (cmpN_zero.1 h)) ?_
    refine dr U 600 rfl trivial ?_
    refine call (f := 70) rfl rfl cb70 (read_calls [49] (fun c hc => by rw [List.mem_singleton.1 hc]; exact ⟨by decide, by decide⟩) (by decide) w10) ?_
    rintro v w11 ⟨ay, cy, rfl, hoy, hB11'⟩
    refine ⟨_, rfl, ?_⟩
    have hB11 := bl_tr hB10 hB11' hB10.size
    refine call (f := 37) rfl rfl cb37 (minus_calls (2 ^ k) 1 h2o a9 ay c9 cy w11 (((hr9.below hB9').below hB10').below hB11') (ownI_rd hoy) (by omega)) ?_
    rintro v w12 ⟨ax, cx, rfl, hox, hB12'⟩
    refine ⟨_, rfl, ?_⟩
    have hB12 := bl_tr hB11 hB12' hB11.size
    refine dr U 600 rfl trivial ?_
    exact ret Tryz.results35 rfl ⟨_, rfl, ⟨_, _, rfl, ⟨a7, c7, rfl, (((hr7.below hB9').below hB10').below hB11').below hB12'⟩, ⟨ax, cx, by rw [hop], by rw [hop]; exact ownI_rd hox⟩⟩, hB12⟩
  · have hr0 : qN s * 2 ^ k % qD s = 0 := lim_len_zero.1 (by omega)
    have hop : opn (qN s) (qD s) k = 0 := by unfold opn; rw [if_pos hr0]
    refine dr U 600 rfl trivial ?_
    exact ret Tryz.results35 rfl ⟨_, rfl, ⟨_, _, rfl, ⟨a7, c7, rfl, hr7⟩, ⟨a9, c9, by rw [hop]; rfl, by rw [hop]; exact hr9⟩⟩, hB8⟩


theorem rlate_calls (s : List UInt8) (n : Int) (hs : s.length ≤ 1099511627776) (w : World) :
    Calls Tryz.prog 15 #[.string ⟨⟨s⟩⟩, .int .i64 n] w (Ret fun v w' => LateR s n v ∧ Below w.heap.size w w') := by
  refine enter Tryz.func15 rfl Tryz.ntmps15 (Nat.le_of_ble_eq_true rfl) ?_
  refine dr U 600 rfl trivial ?_
  refine call (f := 31) rfl rfl cb31 (rprob_calls s hs w) ?_
  rintro v wp ⟨⟨e, rfl, hpe⟩, hBp⟩
  refine ⟨_, rfl, ?_⟩
  refine dr U 600 rfl trivial ?_
  refine cS rfl rfl rfl rfl (fun hq => ?_) (fun hq => ?_)
  · refine dr U 600 rfl trivial ?_
    exact ret Tryz.results15 rfl ⟨_, rfl, .inl ⟨e, hq, .inl ⟨hq, hpe⟩, rfl⟩, hBp⟩
  · obtain rfl := Classical.not_not.1 hq
    refine dr U 600 rfl trivial ?_
    refine cS rfl rfl rfl rfl (fun hq1 => ?_) (fun hq1 => ?_)
    · refine dr U 600 rfl trivial ?_
      exact ret Tryz.results15 rfl ⟨_, rfl, .inl ⟨2, by decide, .inr (.inl ⟨hpe, .inl hq1, rfl⟩), rfl⟩, hBp⟩
    refine dr U 600 rfl trivial ?_
    refine cS rfl rfl rfl rfl (fun hq2 => ?_) (fun hq2 => ?_)
    · refine dr U 600 rfl trivial ?_
      exact ret Tryz.results15 rfl ⟨_, rfl, .inl ⟨2, by decide, .inr (.inl ⟨hpe, .inr hq2, rfl⟩), rfl⟩, hBp⟩
    obtain ⟨k, rfl⟩ : ∃ k : Nat, n = (k : Int) := ⟨n.toNat, by omega⟩
    have hk : k ≤ 256 := by omega
    obtain ⟨hnum, hden, hD0, hle⟩ := hpe.nums
    have hko := kone_le (n := k) hD0 hle
    have hol := opn_le (qN s) (qD s) k
    have h2o : 0 < 2 ^ k := Nat.pow_pos (by omega)
    have hpp := pow_257 (n := k) (by omega)
    have hl2 := lim_two (m := 2 ^ k) (by omega)
    have hlo := lim_len_mono (show 2 ^ k - opn (qN s) (qD s) k ≤ 2 ^ k by omega)
    have hzz : 2 ^ k - opn (qN s) (qD s) k - kone (qN s) (qD s) k = kzero (qN s) (qD s) k := by show _ = 2 ^ k - (kone (qN s) (qD s) k + opn (qN s) (qD s) k); omega
    have hoo : 2 ^ k - (2 ^ k - opn (qN s) (qD s) k) = opn (qN s) (qD s) k := by omega
    refine dr U 600 rfl trivial ?_
    refine call (f := 35) rfl rfl cb35 (rones_calls s k hs hk hpe wp) ?_
    rintro v w1 ⟨⟨v1, v2, rfl, ⟨a1, c1, rfl, hr1⟩, ⟨a2, c2, rfl, hr2⟩⟩, hB1'⟩
    refine ⟨_, rfl, ?_⟩
    have hB1 := bl_tr hBp hB1' hBp.size
    refine dr U 600 rfl trivial ?_
    refine call (f := 38) rfl rfl cb38 (rtwop_calls k hk w1) ?_
    rintro v w2 ⟨⟨a3, c3, rfl, hr3⟩, hBY'⟩
    refine ⟨_, rfl, ?_⟩
    have hBY := bl_tr hB1 hBY' hB1.size
    refine dr U 600 rfl trivial ?_
    refine call (f := 37) rfl rfl cb37 (minus_calls _ _ (by omega) a3 a2 c3 c2 w2 hr3 (hr2.below hBY') (by omega)) ?_
    rintro v w3 ⟨a4, c4, rfl, ho4, hBZ'⟩
    refine ⟨_, rfl, ?_⟩
    have hBZ := bl_tr hBY hBZ' hBY.size
    rw [hoo] at ho4 ⊢
    refine dr U 600 rfl trivial ?_
    refine call (f := 36) rfl rfl cb36 (rshare_calls _ k hk (by omega) a4 c4 w3 (ownI_rd ho4)) ?_
    rintro v w4 ⟨rfl, hBU'⟩
    refine ⟨_, rfl, ?_⟩
    have hBU := bl_tr hBZ hBU' hBZ.size
    refine dr U 600 rfl trivial ?_
    exact ret Tryz.results15 rfl ⟨_, rfl, .inr ⟨.inr (.inr ⟨hpe, by omega, by omega, rfl⟩), by rw [Int.toNat_natCast]; rfl⟩, hBU⟩

theorem own_cap {w : World} {base e s : Nat} {a : Option Addr} {m c : Nat} {cs : List Value} (h : w.ownsRow base e s (.slice a m c) m cs) : m ≤ c := by
  rcases h.2 with ⟨h1, h2⟩ | ⟨g, cap, cur, h1, _, _, h2, _⟩
  · omega
  · simp at h1; omega
theorem mcells_one : ∀ (ms : List (List UInt8 × List UInt8)), ∀ u ∈ mcells ms, u.oneCell' = true
  | [], u, h => by cases h
  | m :: r, u, h => by
    rw [mcells] at h
    rcases List.mem_cons.1 h with rfl | h
    · rfl
    · rcases List.mem_cons.1 h with rfl | h
      · rfl
      · exact mcells_one r u h
theorem radd4_calls (ms : List (List UInt8 × List UInt8)) (key p : List UInt8) (hp : p ≠ [48]) (hless : ∀ m ∈ ms, Op.bytesLess m.1 key = true) (hl : ms.length ≤ 1000) (a : Option Addr) (c : Nat) (w : World) (hs : Sl w a (mcells ms)) (hc : ms.length ≤ c) :
    Calls Tryz.prog 39 #[.slice a ms.length c, .string ⟨⟨key⟩⟩, .string ⟨⟨p⟩⟩] w
      (Ret fun v w' => (∃ a' c', v = .slice a' (List.length (ms ++ [(key, p)])) c' ∧ List.length (ms ++ [(key, p)]) ≤ c' ∧ Sl w' a' (mcells (ms ++ [(key, p)]))) ∧ Below w.heap.size w w') := by
  refine enter Tryz.func39 rfl Tryz.ntmps39 (Nat.le_of_ble_eq_true rfl) ?_
  refine dr U 600 rfl trivial ?_
  refine cF rfl rfl rfl (hp) ?_; refine dr U 600 rfl trivial ?_
  refine loopR (fun f w' m => ∃ (i : Nat), f = [(0, .slice a ms.length c), (1, .string ⟨⟨key⟩⟩), (2, .string ⟨⟨p⟩⟩), (7, .int .i64 (i : Nat))] ∧ i ≤ ms.length ∧ w = w' ∧ m = ms.length - i) ⟨0, rfl, by omega, rfl, rfl⟩ ⟨rfl, rfl, rfl, rfl, trivial⟩ ?_
  rintro f w1 m ⟨i, rfl, hi, rfl, rfl⟩
  refine dr U 600 rfl trivial ?_
  refine cS rfl rfl rfl rfl (fun hq => ?_) (fun hq => ?_)
  · have hil : i < ms.length := by omega
    obtain ⟨g, off, hga, hcell⟩ := hs.at (j := i * 2 + 0) (by rw [mcells_length]; omega)
    have hm := mcells_at ms i hil 0 _ rfl
    have hc0 := hcell _ _ hm
    subst hga
    refine dr U 600 rfl trivial ?_
    refine ia U rfl rfl rfl rfl rfl rfl i rfl hil ?_
    refine dr U 600 rfl trivial ?_
    refine ld U rfl rfl rfl rfl (by rw [add_plain, Nat.add_zero]; exact hc0) ?_
    refine dr U 600 rfl trivial ?_
    refine cT rfl rfl rfl (hless _ (List.getElem_mem hil)) ?_
    refine dr U 600 rfl (by first | exact True.intro | (simp only [AllP, InR, List.nil_append, List.cons_append, and_true]; omega)) ?_
    exact rend _ _ ⟨i + 1, rfl, by omega, rfl, rfl⟩ (by omega) ⟨rfl, rfl, rfl, iv (by omega), trivial⟩
  · obtain rfl : i = ms.length := by omega
    refine dr U 600 rfl trivial ?_
    refine dwn 14 (fun _ => True) hmo ?_
    intro w2 hh2 hg2
    have hB2 : Below w.heap.size w w2 := (Below.refl _ _).grown hg2 (Nat.le_refl _) (fun k e => by cases e)
    have hs := hs.stay hB2
    refine dq U [1,2,3,5,6,7,10,11,12] [] (by kernel_rfl) rfl rfl True.intro (by simp only [AllP, InR, List.nil_append, List.cons_append]; (repeat' apply And.intro); all_goals first | exact True.intro | omega | (simp only [List.length_cons, List.length_nil]; omega) | (intro w_ hw_; refine ldC U rfl hw_ ?_; first | assumption | (simp [add_plain]; assumption)) | (intro w_ hw_; refine run_load_cell U rfl ?_; first | exact hw_ | exact hw_.1 | exact hw_.2 | exact hw_.2.1 | exact hw_.2.2 | exact hw_.2.2.1 | exact hw_.2.2.2 | (simp [add_plain]; first | exact hw_.1 | exact hw_.2.1 | exact hw_.2.2))) ?_
    simp only [Int.toNat_natCast, Nat.sub_self]
    have hb2 := hB2.size
    refine d1or rfl rfl rfl (fun _ => True.intro) ?_ ?_
    · refine bs0 U rfl rfl rfl rfl ?_
      intro w3 ho3 hs3 hg3
      have hB3 := hB2.grown hg3 hB2.size (fun k e => by cases e)
      have hs := hs.stay ((Below.refl _ _).grown hg3 (Nat.le_refl _) (fun k e => by cases e))
      refine d2 ?_
      refine d1or rfl rfl rfl (fun _ => True.intro) ?_ ?_
      · refine aw U rfl rfl rfl rfl rfl rfl rfl rfl rfl ho3 hs (mcells_length ms) (mcells_one ms) (by omega) (by omega) rfl ?_
        intro a4 c4 w4 ho4 hg4
        have hB4 := hB3.grown hg4 hB3.size (fun g e => by have := (own_block ho3 g e).1; omega)
        refine d2 ?_
        refine d1 rfl rfl (fun _ => True.intro) ?_
        refine bsS U [[.string ⟨⟨key⟩⟩, .string ⟨⟨p⟩⟩]] rfl rfl rfl rfl rfl rfl (by decide) (by decide) (by intro cs h; simp at h; subst h; rfl) ?_
        intro w5 hk5 hs5 hg5
        have hB5 := hB4.grown hg5 hB4.size (fun k e => by cases e)
        have ho5 := own_keep ho4 hg5 (by intro g e h; cases h)
        refine d2 ?_
        have hB9 := hB5
        refine d1 rfl rfl (fun _ => True.intro) ?_
        refine aw U rfl rfl rfl rfl rfl rfl rfl rfl rfl ho5 (hk5.sl 0) rfl (by intro u hu; simp at hu; rcases hu with rfl | rfl <;> rfl) (by have := hg3.size; have := hg4.size; have := hg5.size; omega) (by omega) rfl ?_
        intro a9 c9 w9 ho9 hg9
        have hB9' := hB9.grown hg9 hB9.size (fun g e => by have h1 := (own_block ho5 g e).1; have h2 := hB2.size; have h3 := hB3.size; have h4 := hB4.size; omega)
        refine d2 ?_
        refine d1 rfl rfl (fun _ => True.intro) ?_
        refine aw U rfl rfl rfl rfl rfl rfl rfl rfl rfl ho9 ((Sl.nil _ _ : Sl w9 _ [])) (by simp) (by intro u hu; cases hu) (by have := hg3.size; have := hg4.size; have := hg5.size; have := hg9.size; omega) (by omega) rfl ?_
        intro a10 c10 w10 ho10 hg10
        have hB10 := hB9'.grown hg10 hB9'.size (fun g e => by have h1 := (own_block ho9 g e).1; have h2 := hB2.size; have h3 := hB3.size; have h4 := hB4.size; omega)
        refine d2 ?_
        refine d1 rfl rfl (fun _ => True.intro) ?_
        refine dr U 600 rfl trivial ?_
        refine d3 ?_; refine dend rfl (fun h => by cases h) ?_
        refine dr U 600 rfl trivial ?_
        refine ret Tryz.results39 rfl ⟨_, rfl, ⟨a10, c10, ?_, ?_, ?_⟩, hB10⟩
        · rw [List.length_append]; simp [pack]
        · have := own_cap ho10
          rw [List.length_append]; simp at this ⊢; omega
        · have := own_sl' (by decide) ho10
          rw [List.append_nil, List.nil_append] at this
          rw [mcells_append]
          exact this
      · refine bsS U [[.string ⟨⟨key⟩⟩, .string ⟨⟨p⟩⟩]] rfl rfl rfl rfl rfl rfl (by decide) (by decide) (by intro cs h; simp at h; subst h; rfl) ?_
        intro w4 hk4 hs4 hg4
        have hB4 := hB3.grown hg4 hB3.size (fun k e => by cases e)
        have ho4 := own_keep ho3 hg4 (by intro g e h; cases h)
        have hs := hs.stay ((Below.refl _ _).grown hg4 (Nat.le_refl _) (fun k e => by cases e))
        refine d2 ?_
        refine d1 rfl rfl (fun _ => True.intro) ?_
        refine aw U rfl rfl rfl rfl rfl rfl rfl rfl rfl ho4 hs (mcells_length ms) (mcells_one ms) (by omega) (by omega) rfl ?_
        intro a5 c5 w5 ho5 hg5
        have hB5 := hB4.grown hg5 hB4.size (fun g e => by have := (own_block ho4 g e).1; omega)
        have hk5 := hk4.keep hg5 (by intro e; simp [ab] at e; omega)
        refine d2 ?_
        have hB9 := hB5
        refine d1 rfl rfl (fun _ => True.intro) ?_
        refine aw U rfl rfl rfl rfl rfl rfl rfl rfl rfl ho5 (hk5.sl 0) rfl (by intro u hu; simp at hu; rcases hu with rfl | rfl <;> rfl) (by have := hg3.size; have := hg4.size; have := hg5.size; omega) (by omega) rfl ?_
        intro a9 c9 w9 ho9 hg9
        have hB9' := hB9.grown hg9 hB9.size (fun g e => by have h1 := (own_block ho5 g e).1; have h2 := hB2.size; have h3 := hB3.size; have h4 := hB4.size; omega)
        refine d2 ?_
        refine d1 rfl rfl (fun _ => True.intro) ?_
        refine aw U rfl rfl rfl rfl rfl rfl rfl rfl rfl ho9 ((Sl.nil _ _ : Sl w9 _ [])) (by simp) (by intro u hu; cases hu) (by have := hg3.size; have := hg4.size; have := hg5.size; have := hg9.size; omega) (by omega) rfl ?_
        intro a10 c10 w10 ho10 hg10
        have hB10 := hB9'.grown hg10 hB9'.size (fun g e => by have h1 := (own_block ho9 g e).1; have h2 := hB2.size; have h3 := hB3.size; have h4 := hB4.size; omega)
        refine d2 ?_
        refine d1 rfl rfl (fun _ => True.intro) ?_
        refine dr U 600 rfl trivial ?_
        refine d3 ?_; refine dend rfl (fun h => by cases h) ?_
        refine dr U 600 rfl trivial ?_
        refine ret Tryz.results39 rfl ⟨_, rfl, ⟨a10, c10, ?_, ?_, ?_⟩, hB10⟩
        · rw [List.length_append]; simp [pack]
        · have := own_cap ho10
          rw [List.length_append]; simp at this ⊢; omega
        · have := own_sl' (by decide) ho10
          rw [List.append_nil, List.nil_append] at this
          rw [mcells_append]
          exact this
    · refine bsS U [[.string ⟨⟨key⟩⟩, .string ⟨⟨p⟩⟩]] rfl rfl rfl rfl rfl rfl (by decide) (by decide) (by intro cs h; simp at h; subst h; rfl) ?_
      intro w3 hk3 hs3 hg3
      have hB3 := hB2.grown hg3 hB2.size (fun k e => by cases e)
      have hs := hs.stay ((Below.refl _ _).grown hg3 (Nat.le_refl _) (fun k e => by cases e))
      refine d2 ?_
      refine d1 rfl rfl (fun _ => True.intro) ?_
      refine bs0 U rfl rfl rfl rfl ?_
      intro w4 ho4 hs4 hg4
      have hB4 := hB3.grown hg4 hB3.size (fun k e => by cases e)
      have hk4 := hk3.keep hg4 (by simp)
      have hs := hs.stay ((Below.refl _ _).grown hg4 (Nat.le_refl _) (fun k e => by cases e))
      refine d2 ?_
      refine d1 rfl rfl (fun _ => True.intro) ?_
      refine aw U rfl rfl rfl rfl rfl rfl rfl rfl rfl ho4 hs (mcells_length ms) (mcells_one ms) (by omega) (by omega) rfl ?_
      intro a5 c5 w5 ho5 hg5
      have hB5 := hB4.grown hg5 hB4.size (fun g e => by have := (own_block ho4 g e).1; omega)
      have hk5 := hk4.keep hg5 (by intro e; simp [ab] at e; omega)
      refine d2 ?_
      have hB9 := hB5
      refine d1 rfl rfl (fun _ => True.intro) ?_
      refine aw U rfl rfl rfl rfl rfl rfl rfl rfl rfl ho5 (hk5.sl 0) rfl (by intro u hu; simp at hu; rcases hu with rfl | rfl <;> rfl) (by have := hg3.size; have := hg4.size; have := hg5.size; omega) (by omega) rfl ?_
      intro a9 c9 w9 ho9 hg9
      have hB9' := hB9.grown hg9 hB9.size (fun g e => by have h1 := (own_block ho5 g e).1; have h2 := hB2.size; have h3 := hB3.size; have h4 := hB4.size; omega)
      refine d2 ?_
      refine d1 rfl rfl (fun _ => True.intro) ?_
      refine aw U rfl rfl rfl rfl rfl rfl rfl rfl rfl ho9 ((Sl.nil _ _ : Sl w9 _ [])) (by simp) (by intro u hu; cases hu) (by have := hg3.size; have := hg4.size; have := hg5.size; have := hg9.size; omega) (by omega) rfl ?_
      intro a10 c10 w10 ho10 hg10
      have hB10 := hB9'.grown hg10 hB9'.size (fun g e => by have h1 := (own_block ho9 g e).1; have h2 := hB2.size; have h3 := hB3.size; have h4 := hB4.size; omega)
      refine d2 ?_
      refine d1 rfl rfl (fun _ => True.intro) ?_
      refine dr U 600 rfl trivial ?_
      refine d3 ?_; refine dend rfl (fun h => by cases h) ?_
      refine dr U 600 rfl trivial ?_
      refine ret Tryz.results39 rfl ⟨_, rfl, ⟨a10, c10, ?_, ?_, ?_⟩, hB10⟩
      · rw [List.length_append]; simp [pack]
      · have := own_cap ho10
        rw [List.length_append]; simp at this ⊢; omega
      · have := own_sl' (by decide) ho10
        rw [List.append_nil, List.nil_append] at this
        rw [mcells_append]
        exact this
theorem radd4z_calls (ms : List (List UInt8 × List UInt8)) (key : List UInt8) (a : Option Addr) (c : Nat) (w : World) :
    Calls Tryz.prog 39 #[.slice a ms.length c, .string ⟨⟨key⟩⟩, .string ⟨⟨[48]⟩⟩] w (Ret fun v w' => v = .slice a ms.length c ∧ w = w') := by
  refine enter Tryz.func39 rfl Tryz.ntmps39 (Nat.le_of_ble_eq_true rfl) ?_
  refine dr U 600 rfl trivial ?_
  refine cT rfl rfl rfl (rfl) ?_; refine dr U 600 rfl trivial ?_
  exact ret Tryz.results39 rfl ⟨_, rfl, rfl, rfl⟩
/-- Either way. -/
theorem radd4x_calls (ms : List (List UInt8 × List UInt8)) (key p : List UInt8) (hless : ∀ m ∈ ms, Op.bytesLess m.1 key = true) (hl : ms.length ≤ 1000) (a : Option Addr) (c : Nat) (w : World) (hs : Sl w a (mcells ms)) (hc : ms.length ≤ c) :
    Calls Tryz.prog 39 #[.slice a ms.length c, .string ⟨⟨key⟩⟩, .string ⟨⟨p⟩⟩] w
      (Ret fun v w' => (∃ a' c', v = .slice a' (List.length (ms ++ fl [(key, p)])) c' ∧ List.length (ms ++ fl [(key, p)]) ≤ c' ∧ Sl w' a' (mcells (ms ++ fl [(key, p)]))) ∧ Below w.heap.size w w') := by
  by_cases hp : p = [48]
  · subst hp
    refine (radd4z_calls ms key a c w).mono ?_
    rintro e w' ⟨v, rfl, rfl, rfl⟩
    exact ⟨_, rfl, ⟨a, c, by simp [fl], by simpa [fl] using hc, by simpa [fl] using hs⟩, Below.refl _ _⟩
  · have hf : fl [(key, p)] = [(key, p)] := by simp [fl, hp]
    rw [hf]
    exact radd4_calls ms key p hp hless hl a c w hs hc

theorem rlaw_calls (s : List UInt8) (n : Int) (hs : s.length ≤ 1099511627776) (w : World) :
    Calls Tryz.prog 16 #[.string ⟨⟨s⟩⟩, .int .i64 n] w (Ret fun v w' => LawR s n v w' ∧ Below w.heap.size w w') := by
  refine enter Tryz.func16 rfl Tryz.ntmps16 (Nat.le_of_ble_eq_true rfl) ?_
  refine dr U 600 rfl trivial ?_
  refine call (f := 31) rfl rfl cb31 (rprob_calls s hs w) ?_
  rintro v wp ⟨⟨e, rfl, hpe⟩, hBp⟩
  refine ⟨_, rfl, ?_⟩
  refine dr U 600 rfl trivial ?_
  refine cS rfl rfl rfl rfl (fun hq => ?_) (fun hq => ?_)
  · refine dr U 600 rfl trivial ?_
    exact ret Tryz.results16 rfl ⟨_, rfl, .inl ⟨e, hq, .inl ⟨hq, hpe⟩, rfl⟩, hBp⟩
  · obtain rfl := Classical.not_not.1 hq
    refine dr U 600 rfl trivial ?_
    refine cS rfl rfl rfl rfl (fun hq1 => ?_) (fun hq1 => ?_)
    · refine dr U 600 rfl trivial ?_
      exact ret Tryz.results16 rfl ⟨_, rfl, .inl ⟨2, by decide, .inr (.inl ⟨hpe, .inl hq1, rfl⟩), rfl⟩, hBp⟩
    refine dr U 600 rfl trivial ?_
    refine cS rfl rfl rfl rfl (fun hq2 => ?_) (fun hq2 => ?_)
    · refine dr U 600 rfl trivial ?_
      exact ret Tryz.results16 rfl ⟨_, rfl, .inl ⟨2, by decide, .inr (.inl ⟨hpe, .inr hq2, rfl⟩), rfl⟩, hBp⟩
    obtain ⟨k, rfl⟩ : ∃ k : Nat, n = (k : Int) := ⟨n.toNat, by omega⟩
    have hk : k ≤ 256 := by omega
    obtain ⟨hnum, hden, hD0, hle⟩ := hpe.nums
    have hko := kone_le (n := k) hD0 hle
    have hol := opn_le (qN s) (qD s) k
    have h2o : 0 < 2 ^ k := Nat.pow_pos (by omega)
    have hpp := pow_257 (n := k) (by omega)
    have hl2 := lim_two (m := 2 ^ k) (by omega)
    have hlo := lim_len_mono (show 2 ^ k - opn (qN s) (qD s) k ≤ 2 ^ k by omega)
    have hzz : 2 ^ k - opn (qN s) (qD s) k - kone (qN s) (qD s) k = kzero (qN s) (qD s) k := by show _ = 2 ^ k - (kone (qN s) (qD s) k + opn (qN s) (qD s) k); omega
    have hoo : 2 ^ k - (2 ^ k - opn (qN s) (qD s) k) = opn (qN s) (qD s) k := by omega
    refine dr U 600 rfl trivial ?_
    refine call (f := 35) rfl rfl cb35 (rones_calls s k hs hk hpe wp) ?_
    rintro v w1 ⟨⟨v1, v2, rfl, ⟨a1, c1, rfl, hr1⟩, ⟨a2, c2, rfl, hr2⟩⟩, hB1'⟩
    refine ⟨_, rfl, ?_⟩
    have hB1 := bl_tr hBp hB1' hBp.size
    refine dr U 600 rfl trivial ?_
    have hlk := lim_len_mono (show kone (qN s) (qD s) k ≤ 2 ^ k by omega)
    refine call (f := 37) rfl rfl cb37 (minus_calls _ _ (by omega) a2 a1 c2 c1 w1 hr2 hr1 (by omega)) ?_
    rintro v w2 ⟨a5, c5, rfl, ho5, hB2'⟩
    refine ⟨_, rfl, ?_⟩
    have hB2 := bl_tr hB1 hB2' hB1.size
    rw [hzz] at ho5 ⊢
    have hr1 := hr1.below hB2'
    have hr2 := hr2.below hB2'
    refine dr U 600 rfl trivial ?_
    refine call (f := 36) rfl rfl cb36 (rshare_calls _ k hk (Nat.sub_le _ _) a5 c5 w2 (ownI_rd ho5)) ?_
    rintro v w3 ⟨rfl, hB3'⟩
    refine ⟨_, rfl, ?_⟩
    have hB3 := bl_tr hB2 hB3' hB2.size
    have hr1 := hr1.below hB3'
    have hr2 := hr2.below hB3'
    refine call (f := 39) rfl rfl cb39 (radd4x_calls [] [48] _ (fun m h => by cases h) (by decide) none 0 w3 (Sl.nil _ _) (Nat.le_refl _)) ?_
    rintro v w4 ⟨⟨a6, c6, rfl, hc6, hs6⟩, hB4'⟩
    refine ⟨_, rfl, ?_⟩
    have hB4 := bl_tr hB3 hB4' hB3.size
    have hr1 := hr1.below hB4'
    have hr2 := hr2.below hB4'
    rw [List.nil_append] at hs6 hc6
    simp only [List.nil_append]
    refine dr U 600 rfl trivial ?_
    refine call (f := 36) rfl rfl cb36 (rshare_calls _ k hk (by omega) a1 c1 w4 hr1) ?_
    rintro v w5 ⟨rfl, hB5'⟩
    refine ⟨_, rfl, ?_⟩
    have hB5 := bl_tr hB4 hB5' hB4.size
    have hr2 := hr2.below hB5'
    have hlen1 : (fl [(([48] : List UInt8), qtext (mkq false (kzero (qN s) (qD s) k) (2 ^ k)))]).length ≤ 1 := List.length_filter_le _ _
    refine call (f := 39) rfl rfl cb39 (radd4x_calls (fl [([48], qtext (mkq false (kzero (qN s) (qD s) k) (2 ^ k)))]) [49] _ (fun m h => by
      have := (List.mem_filter.1 h).1
      rw [List.mem_singleton.1 this]; show Op.bytesLess [48] [49] = true; decide) (by omega) a6 c6 w5 (hs6.stay hB5') hc6) ?_
    rintro v w6 ⟨⟨a7, c7, rfl, hc7, hs7⟩, hB6'⟩
    refine ⟨_, rfl, ?_⟩
    have hB6 := bl_tr hB5 hB6' hB5.size
    have hr2 := hr2.below hB6'
    refine dr U 600 rfl trivial ?_
    refine call (f := 38) rfl rfl cb38 (rtwop_calls k hk w6) ?_
    rintro v w7 ⟨⟨a3, c3, rfl, hr3⟩, hBY'⟩
    refine ⟨_, rfl, ?_⟩
    have hBY := bl_tr hB6 hBY' hB6.size
    refine dr U 600 rfl trivial ?_
    refine call (f := 37) rfl rfl cb37 (minus_calls _ _ (by omega) a3 a2 c3 c2 w7 hr3 (hr2.below hBY') (by omega)) ?_
    rintro v w8 ⟨a4, c4, rfl, ho4, hBZ'⟩
    refine ⟨_, rfl, ?_⟩
    have hBZ := bl_tr hBY hBZ' hBY.size
    rw [hoo] at ho4 ⊢
    refine dr U 600 rfl trivial ?_
    refine call (f := 36) rfl rfl cb36 (rshare_calls _ k hk (by omega) a4 c4 w8 (ownI_rd ho4)) ?_
    rintro v w9 ⟨rfl, hBU'⟩
    refine ⟨_, rfl, ?_⟩
    have hBU := bl_tr hBZ hBU' hBZ.size
    refine dr U 600 rfl trivial ?_
    refine call (f := 39) rfl rfl cb39 (radd4x_calls (fl [([48], qtext (mkq false (kzero (qN s) (qD s) k) (2 ^ k)))] ++ fl [([49], qtext (mkq false (kone (qN s) (qD s) k) (2 ^ k)))]) [108, 97, 116, 101] _ (fun m h => by
      rcases List.mem_append.1 h with h | h
      · have := (List.mem_filter.1 h).1
        rw [List.mem_singleton.1 this]; show Op.bytesLess [48] [108, 97, 116, 101] = true; decide
      · have := (List.mem_filter.1 h).1
        rw [List.mem_singleton.1 this]; show Op.bytesLess [49] [108, 97, 116, 101] = true; decide) (by
      have h1 := List.length_filter_le (fun m : List UInt8 × List UInt8 => m.2 != [48]) [([48], qtext (mkq false (kzero (qN s) (qD s) k) (2 ^ k)))]
      have h2 := List.length_filter_le (fun m : List UInt8 × List UInt8 => m.2 != [48]) [([49], qtext (mkq false (kone (qN s) (qD s) k) (2 ^ k)))]
      rw [List.length_append]
      simp only [List.length_singleton] at h1 h2
      unfold fl; omega) a7 c7 w9 (((hs7.stay hBY').stay hBZ').stay hBU') hc7) ?_
    rintro v w10 ⟨⟨a8, c8, rfl, hc8, hs8⟩, hB10'⟩
    refine ⟨_, rfl, ?_⟩
    have hB10 := bl_tr hBU hB10' hBU.size
    have hfl : fl (lawl (qN s) (qD s) k) = (fl [([48], qtext (mkq false (kzero (qN s) (qD s) k) (2 ^ k)))] ++ fl [([49], qtext (mkq false (kone (qN s) (qD s) k) (2 ^ k)))]) ++ fl [([108, 97, 116, 101], qtext (mkq false (opn (qN s) (qD s) k) (2 ^ k)))] := by
      unfold fl
      rw [← List.filter_append, ← List.filter_append]; rfl
    refine dr U 600 rfl trivial ?_
    refine ret Tryz.results16 rfl ⟨_, rfl, .inr ⟨.inr (.inr ⟨hpe, by omega, by omega, rfl⟩), a8, c8, ?_, ?_⟩, hB10⟩
    · rw [Int.toNat_natCast, hfl]; rfl
    · rw [Int.toNat_natCast, hfl]; exact hs8
end Go.Proofs.YtabplbmbnakalaaGreatDoor
