/-
  The law CoinLonger: it returns true for every input.
  Conditions: the library's table of powers of ten is laid.
-/
import Derived.Test.YtabplbmbnakalaaGreatDoorYCl
set_option linter.unusedSimpArgs false
set_option linter.unusedVariables false
set_option maxHeartbeats 1000000
namespace Go.Proofs.YtabplbmbnakalaaGreatDoor
open Go Go.Proofs Go.RowKit Go.Lib

theorem noslash_text {s : List UInt8} (h : qslash s = false) (hn : qneg s = false) : s = qn s := by
  unfold qslash at h
  have h1 : ¬ (qpre s).length < s.length := by simpa using h
  have h2 := qpre_le s
  have h3 := qpre_take s
  rw [show (qpre s).length = s.length by omega, List.take_length] at h3
  rw [qn_pos hn, ← h3]
theorem perr_zero {s : List UInt8} (h : PErr s 0) (h0 : qN s = 0) : s = [48] := by
  obtain ⟨h1, h2, h3, h4, h5⟩ := h.ok
  obtain ⟨hQ, _⟩ := h1.ok
  have e : qn s = [48] := (dval_zero_iff hQ.1).2 h0
  have hsl : qslash s = false := by
    cases hs : qslash s with
    | false => rfl
    | true => exact absurd e (hQ.2.2 hs).1
  rw [noslash_text hsl h2, e]
theorem perr_one {s : List UInt8} (h : PErr s 0) (h0 : qN s = qD s) : s = [49] := by
  obtain ⟨h1, h2, h3, h4, h5⟩ := h.ok
  obtain ⟨hQ, _, _, hg⟩ := h1.ok
  have hd1 : qD s = 1 := by
    have : Nat.gcd (qN s) (qD s) = 1 := hg
    rw [h0, Nat.gcd_self] at this; exact this
  have e : qn s = [49] := (dval_one_iff hQ.1).2 (h0.trans hd1)
  have ed : qd s = [49] := (dval_one_iff (qd_form hQ)).2 hd1
  have hsl : qslash s = false := by
    cases hs : qslash s with
    | false => rfl
    | true => exact absurd ed (hQ.2.2 hs).2.2.2
  rw [noslash_text hsl h2, e]
theorem bin_take {l : List UInt8} (h : Bin l) (k : Nat) : Bin (l.take k) := fun c hc => h c (List.mem_of_mem_take hc)


theorem coinLonger_calls (p b more : List UInt8) (hp : p.length ≤ 9223372036854775806) (hb : b.length ≤ 9223372036854775806) (hm : more.length ≤ 9223372036854775806) (w0 : World) (ht0 : TabOk w0) :
    Calls Tryz.prog 3 #[.string ⟨⟨p⟩⟩, .string ⟨⟨b⟩⟩, .string ⟨⟨more⟩⟩] w0 (Ret fun v w' => v = .bool true ∧ Below w0.heap.size w0 w') := by
  have hW0 := Below.refl w0.heap.size w0
  refine enter Tryz.func3 rfl Tryz.ntmps3 (Nat.le_of_ble_eq_true rfl) ?_
  refine dr U 600 rfl trivial ?_
  refine call (f := 8) rfl rfl cb8 (clives_calls w0 ht0) ?_; rintro v w1 ⟨rfl, hB1⟩; refine ⟨_, rfl, ?_⟩; have ht1 := ht0.below hB1; have hW1 := bl_tr hW0 hB1 hW0.size; refine dr U 600 rfl trivial ?_
  refine cS rfl rfl rfl rfl (fun hq1 => ?_) (fun hq1 => ?_)
  · refine dr U 600 rfl trivial ?_
    exact ret Tryz.results3 rfl ⟨_, rfl, rfl, hW1⟩
  refine dr U 600 rfl trivial ?_
  refine cS rfl rfl rfl rfl (fun hq2 => ?_) (fun hq2 => ?_)
  · refine dr U 600 rfl trivial ?_
    exact ret Tryz.results3 rfl ⟨_, rfl, rfl, hW1⟩
  refine dr U 600 rfl trivial ?_
  refine cS rfl rfl rfl rfl (fun hq3 => ?_) (fun hq3 => ?_)
  · refine dr U 600 rfl trivial ?_
    exact ret Tryz.results3 rfl ⟨_, rfl, rfl, hW1⟩
  have hlen : (b ++ more).length ≤ 240 := by rw [List.length_append]; omega
  refine dr U 600 rfl trivial ?_
  refine call (f := 9) rfl rfl cb9 (draw_calls p b (by omega) (by omega) w1 ht1) ?_
  rintro v w2 ⟨hr2, hB2⟩
  have hW2 := bl_tr hW1 hB2 hW1.size
  have Hr2 := hr2
  obtain ⟨r, e, rfl⟩ := hr2.dv
  refine ⟨_, rfl, ?_⟩
  refine dr U 600 rfl trivial ?_
  refine al U rfl rfl rfl rfl ?_
  intro b1 w3 hbB hsB hkB hgB
  have hW3 := hW2.grown hgB hW2.size (fun k e => by cases e)
  have hbz := hW2.size
  refine dr U 600 rfl trivial ?_
  unfold dvl
  refine st U rfl rfl rfl rfl rfl rfl rfl rfl rfl rfl (hkB) ?_
  intro w4 hk4 hgC hsC
  have hW4 := hW3.grown hgC hW3.size (fun k e => by cases e; omega)
  have ht4 := ht0.below hW4
  refine dr U 600 rfl (by simp only [AllP, InR, List.nil_append, List.cons_append, and_true, List.length_cons, List.length_nil, List.length_append]; omega) ?_
  refine call (f := 9) rfl rfl cb9 (draw_calls p (b ++ more) (by omega) (by omega) w4 ht4) ?_
  rintro v w5 ⟨hr5, hB5⟩
  have hW5 := bl_tr hW4 hB5 hW4.size
  have hk5 := hk4.below hB5 hk4.lt
  have Hr5 := hr5
  obtain ⟨r', f, rfl⟩ := hr5.dv
  refine ⟨_, rfl, ?_⟩
  refine dr U 600 rfl trivial ?_
  refine al U rfl rfl rfl rfl ?_
  intro b2 w6 hbB hsB hkB hgB
  have hW6 := hW5.grown hgB hW5.size (fun k e => by cases e)
  have hbz := hW5.size
  refine dr U 600 rfl trivial ?_
  unfold dvl
  refine st U rfl rfl rfl rfl rfl rfl rfl rfl rfl rfl (hkB) ?_
  intro w7 hk7 hgC hsC
  have hW7 := hW6.grown hgC hW6.size (fun k e => by cases e; omega)
  refine dr U 600 rfl trivial ?_
  have hlt5 := hk5.lt
  have hk5 := (hk5.keep hgB (by simp)).keep hgC (by intro e; cases e; omega)
  have hlt7 := hk7.lt
  have ht7 := ht0.below hW7
  have hz7 := hW7.size
  rcases Hr2 with ⟨e1, h0, hde, he⟩ | ⟨hd0, he⟩
  · simp only [Value.tuple.injEq, Array.mk.injEq, List.cons.injEq, Value.int.injEq, and_true, true_and, dvl, Value.agg.injEq, Value.bool.injEq] at he
    obtain ⟨⟨hy1, hy2, hy3⟩, rfl⟩ := he
    rw [hy1, hy2, hy3] at hk5
    refine cT rfl rfl rfl (h0) ?_; refine dr U 600 rfl trivial ?_
    refine cF rfl rfl rfl (h0) ?_; refine dr U 600 rfl trivial ?_
    refine lg rfl ag_draw rfl rfl hk5 rfl ?_
    refine dr U 600 rfl trivial ?_
    refine eqA rfl rfl eg_draw (draw_eq _ _ _ _ _ _) rfl rfl ?_
    rw [show decide (false = false ∧ ((0 : Nat) : Int) = 0 ∧ ((0 : Nat) : Int) = 0) = true from by decide]
    refine dr U 600 rfl trivial ?_
    rcases Hr5 with ⟨e2, g0, hde2, he2⟩ | ⟨hd2, he2⟩
    · simp only [Value.tuple.injEq, Array.mk.injEq, List.cons.injEq, Value.int.injEq, and_true, true_and, dvl, Value.agg.injEq, Value.bool.injEq] at he2
      obtain ⟨⟨hs1, hs2, hs3⟩, rfl⟩ := he2
      rw [hs1, hs2, hs3] at hk7
      refine cF rfl rfl rfl (g0) ?_; refine dr U 600 rfl trivial ?_
      refine lg rfl ag_draw rfl rfl hk7 rfl ?_
      refine dr U 600 rfl trivial ?_
      refine eqA rfl rfl eg_draw (draw_eq _ _ _ _ _ _) rfl rfl ?_
      rw [show decide (false = false ∧ ((0 : Nat) : Int) = 0 ∧ ((0 : Nat) : Int) = 0) = true from by decide]
      refine dr U 600 rfl trivial ?_
      exact ret Tryz.results3 rfl ⟨_, rfl, rfl, hW7⟩
    · simp only [Value.tuple.injEq, Array.mk.injEq, List.cons.injEq, Value.int.injEq, and_true, true_and] at he2
      obtain ⟨_, rfl⟩ := he2
      refine cT rfl rfl rfl (rfl) ?_; refine dr U 600 rfl trivial ?_
      exact ret Tryz.results3 rfl ⟨_, rfl, rfl, hW7⟩
  · simp only [Value.tuple.injEq, Array.mk.injEq, List.cons.injEq, Value.int.injEq, and_true, true_and, dvl, Value.agg.injEq, Value.bool.injEq] at he
    obtain ⟨⟨hy1, hy2, hy3⟩, rfl⟩ := he
    rw [hy1, hy2, hy3] at hk5
    rcases Hr5 with ⟨e2, g0, hde2, he2⟩ | ⟨hd2, he2⟩
    · simp only [Value.tuple.injEq, Array.mk.injEq, List.cons.injEq, Value.int.injEq, and_true, true_and, dvl, Value.agg.injEq, Value.bool.injEq] at he2
      obtain ⟨⟨hs1, hs2, hs3⟩, rfl⟩ := he2
      rw [hs1, hs2, hs3] at hk7
      refine cF rfl rfl rfl ((fun h => h rfl)) ?_; refine dr U 600 rfl trivial ?_
      refine cT rfl rfl rfl (g0) ?_; refine dr U 600 rfl trivial ?_
      refine cT rfl rfl rfl (rfl) ?_; refine dr U 600 rfl trivial ?_
      refine cF rfl rfl rfl (g0) ?_; refine dr U 600 rfl trivial ?_
      refine lg rfl ag_draw rfl rfl hk7 rfl ?_
      refine dr U 600 rfl trivial ?_
      refine eqA rfl rfl eg_draw (draw_eq _ _ _ _ _ _) rfl rfl ?_
      rw [show decide (false = false ∧ ((0 : Nat) : Int) = 0 ∧ ((0 : Nat) : Int) = 0) = true from by decide]
      refine dr U 600 rfl trivial ?_
      exact ret Tryz.results3 rfl ⟨_, rfl, rfl, hW7⟩
    · simp only [Value.tuple.injEq, Array.mk.injEq, List.cons.injEq, Value.int.injEq, and_true, true_and, dvl, Value.agg.injEq, Value.bool.injEq] at he2
      obtain ⟨⟨hs1, hs2, hs3⟩, rfl⟩ := he2
      rw [hs1, hs2, hs3] at hk7
      clear hy1 hy2 hy3 hs1 hs2 hs3
      obtain ⟨hpe, hce⟩ : PErr p 0 ∧ SChk b 0 := by
        rcases hd0 with ⟨h, _⟩ | h
        · exact absurd rfl h
        · exact h
      obtain ⟨hbin, hl256⟩ := hce.ok
      obtain ⟨hnum, hden, hD0, hle⟩ := hpe.nums
      refine cF rfl rfl rfl ((fun h => h rfl)) ?_; refine dr U 600 rfl trivial ?_
      refine cF rfl rfl rfl ((fun h => h rfl)) ?_; refine dr U 600 rfl trivial ?_
      refine ld U rfl rfl rfl rfl ((hk5).cell rfl) ?_
      refine cF rfl rfl rfl ((by omega)) ?_; refine dr U 600 rfl trivial ?_
      refine ld U rfl rfl rfl rfl ((hk5).cell rfl) ?_
      refine dr U 600 rfl trivial ?_
      rcases tos_cases (qN p) (qD p) b with ⟨v, j, htos, hj, hdv, hnone⟩ | ⟨htos, hnone⟩
      · rw [htos] at hk5 ⊢
        obtain ⟨_, hlong, hshort, hprev, _, hv⟩ := tos_longer htos more
        rw [hlong] at hk7
        simp only at hk5 hk7 ⊢
        refine cF rfl rfl rfl ((by omega)) ?_; refine dr U 600 rfl trivial ?_
        refine ld U rfl rfl rfl rfl ((hk5).cell rfl) ?_
        refine dr U 600 rfl trivial ?_
        refine ld U rfl rfl rfl rfl ((hk5).cell rfl) ?_
        refine dr U 600 rfl (by first | exact True.intro | (simp only [AllP, InR, List.nil_append, List.cons_append, and_true]; omega)) ?_
        simp only [Int.toNat_natCast]
        refine call (f := 9) rfl rfl cb9 (draw_calls p (b.take j) (by omega) (by rw [List.length_take]; omega) w7 ht7) ?_
        rintro v' w8 ⟨hr8, hB8⟩
        have hW8 := bl_tr hW7 hB8 hW7.size
        obtain rfl := hr8.uniq (.inr ⟨.inr ⟨hpe, .inl ⟨bin_take hbin j, by rw [List.length_take]; omega, rfl⟩⟩, rfl⟩)
        rw [hshort]
        have hk5 := hk5.below hB8 hk5.lt
        have hk7 := hk7.below hB8 hk7.lt
        refine ⟨_, rfl, ?_⟩
        refine dr U 600 rfl trivial ?_
        refine al U rfl rfl rfl rfl ?_
        intro b3 w9 hbB hsB hkB hgB
        have hW9 := hW8.grown hgB hW8.size (fun k e => by cases e)
        have hbz := hW8.size
        refine dr U 600 rfl trivial ?_
        unfold dvl
        refine st U rfl rfl rfl rfl rfl rfl rfl rfl rfl rfl (hkB) ?_
        intro w10 hk10 hgC hsC
        have hW10 := hW9.grown hgC hW9.size (fun k e => by cases e; omega)
        refine dr U 600 rfl trivial ?_
        have hlt5 := hk5.lt
        have hlt7 := hk7.lt
        have hk5 := (hk5.keep hgB (by simp)).keep hgC (by intro e; cases e; omega)
        have hk7 := (hk7.keep hgB (by simp)).keep hgC (by intro e; cases e; omega)
        have ht10 := ht0.below hW10
        refine lg rfl ag_draw rfl rfl hk7 rfl ?_
        refine lg rfl ag_draw rfl rfl hk5 rfl ?_
        refine neA rfl rfl eg_draw (draw_eq _ _ _ _ _ _) rfl rfl ?_
        rw [decide_eq_true ⟨rfl, rfl, rfl⟩]
        refine dr U 600 rfl trivial ?_
        refine lg rfl ag_draw rfl rfl hk10 rfl ?_
        refine lg rfl ag_draw rfl rfl hk5 rfl ?_
        refine neA rfl rfl eg_draw (draw_eq _ _ _ _ _ _) rfl rfl ?_
        rw [decide_eq_true ⟨rfl, rfl, rfl⟩]
        refine dr U 600 rfl trivial ?_
        refine cF rfl rfl rfl ((fun h => h rfl)) ?_; refine dr U 600 rfl trivial ?_
        refine ld U rfl rfl rfl rfl ((hk5).cell rfl) ?_
        refine cS rfl rfl rfl rfl (fun hq4 => ?_) (fun hq4 => ?_)
        · obtain rfl : j = 0 := by omega
          rcases tos_short hD0 hle htos with h | h
          · obtain rfl := perr_zero hpe h
            refine dr U 600 rfl trivial ?_
            refine cT rfl rfl rfl (rfl) ?_; refine dr U 600 rfl trivial ?_
            exact ret Tryz.results3 rfl ⟨_, rfl, rfl, hW10⟩
          · obtain rfl := perr_one hpe h
            refine dr U 600 rfl trivial ?_
            refine cF rfl rfl rfl ((by decide)) ?_; refine dr U 600 rfl trivial ?_
            refine cT rfl rfl rfl (rfl) ?_; refine dr U 600 rfl trivial ?_
            exact ret Tryz.results3 rfl ⟨_, rfl, rfl, hW10⟩
        · have hj0 : 0 < j := by omega
          obtain ⟨u', hpv⟩ := hprev hj0
          refine dr U 600 rfl trivial ?_
          refine ld U rfl rfl rfl rfl ((hk5).cell rfl) ?_
          refine dr U 600 rfl (by first | exact True.intro | (simp only [AllP, InR, List.nil_append, List.cons_append, and_true]; omega)) ?_
          simp only [show ((j : Int) - 1).toNat = j - 1 from by omega]
          refine call (f := 9) rfl rfl cb9 (draw_calls p (b.take (j - 1)) (by omega) (by rw [List.length_take]; omega) w10 ht10) ?_
          rintro v'' w11 ⟨hr11, hB11⟩
          have hW11 := bl_tr hW10 hB11 hW10.size
          obtain rfl := hr11.uniq (.inr ⟨.inr ⟨hpe, .inl ⟨bin_take hbin (j - 1), by rw [List.length_take]; omega, rfl⟩⟩, rfl⟩)
          rw [hpv]
          refine ⟨_, rfl, ?_⟩
          refine dr U 600 rfl trivial ?_
          refine al U rfl rfl rfl rfl ?_
          intro b4 w12 hbB hsB hkB hgB
          have hW12 := hW11.grown hgB hW11.size (fun k e => by cases e)
          have hbz := hW11.size
          refine dr U 600 rfl trivial ?_
          unfold dvl
          refine st U rfl rfl rfl rfl rfl rfl rfl rfl rfl rfl (hkB) ?_
          intro w13 hk13 hgC hsC
          have hW13 := hW12.grown hgC hW12.size (fun k e => by cases e; omega)
          refine dr U 600 rfl trivial ?_
          refine cT rfl rfl rfl (rfl) ?_; refine dr U 600 rfl trivial ?_
          refine ld U rfl rfl rfl rfl ((hk13).cell rfl) ?_
          refine dr U 600 rfl trivial ?_
          exact ret Tryz.results3 rfl ⟨_, rfl, rfl, hW13⟩
      · rw [htos] at hk5 ⊢
        simp only at hk5 ⊢
        refine cF rfl rfl rfl ((by omega)) ?_; refine dr U 600 rfl trivial ?_
        refine ld U rfl rfl rfl rfl ((hk5).cell rfl) ?_
        refine dr U 600 rfl trivial ?_
        refine ld U rfl rfl rfl rfl ((hk5).cell rfl) ?_
        refine cT rfl rfl rfl (rfl) ?_; refine dr U 600 rfl trivial ?_
        refine ld U rfl rfl rfl rfl ((hk5).cell rfl) ?_
        refine dr U 600 rfl trivial ?_
        refine cT rfl rfl rfl (rfl) ?_; refine dr U 600 rfl trivial ?_
        obtain ⟨_, _, hop⟩ := tos_open htos more
        rcases tos_cases (qN p) (qD p) (b ++ more) with ⟨v', j', htos', _⟩ | ⟨htos', _⟩
        · have hlt := hop v' j' htos'
          rw [htos'] at hk7
          simp only at hk7
          refine ld U rfl rfl rfl rfl ((hk7).cell rfl) ?_
          refine dr U 600 rfl trivial ?_
          refine ld U rfl rfl rfl rfl ((hk7).cell rfl) ?_
          refine dr U 600 rfl trivial ?_
          refine cT rfl rfl rfl ((by omega)) ?_; refine dr U 600 rfl trivial ?_
          exact ret Tryz.results3 rfl ⟨_, rfl, rfl, hW7⟩
        · rw [htos'] at hk7
          simp only at hk7
          refine ld U rfl rfl rfl rfl ((hk7).cell rfl) ?_
          refine dr U 600 rfl trivial ?_
          exact ret Tryz.results3 rfl ⟨_, rfl, rfl, hW7⟩
end Go.Proofs.YtabplbmbnakalaaGreatDoor
