/-
  The laws CoinCalls and CoinLonger: they return true for every input; the examples of the law package.
  Conditions: the library's table of powers of ten is laid.

  The law CoinLonger: it returns true for every input.
  Conditions: the library's table of powers of ten is laid.
-/
import Derived.Test.YtabplbmbnakalaaGreatDoorYR9
section
set_option linter.unusedSimpArgs false
set_option linter.unusedVariables false
set_option maxHeartbeats 1000000
namespace Go.Proofs.YtabplbmbnakalaaGreatDoor
open Go Go.Proofs Go.RowKit Go.Lib

theorem eg_draw : Tryz.prog.eqGuardType Tryz.prog.depth 26 = false := by kernel_rfl
theorem eg_mass : Tryz.prog.eqGuardType Tryz.prog.depth 40 = false := by kernel_rfl
theorem draw_eq (a b : Bool) (x y u v : Int) (w : World) : (Op.equalIn 10000 26 (.agg ⟨[.bool a, .int .i64 x, .int .i64 u]⟩) (.agg ⟨[.bool b, .int .i64 y, .int .i64 v]⟩)).run Tryz.prog w = .ok (decide (a = b ∧ x = y ∧ u = v)) w := by
  have hu := Tryz.underlying26
  have hf : Tryz.prog.underlying 26 = some (.struct (Tryz.prog.fieldsOf 26)) := by unfold Program.fieldsOf; rw [hu]
  rw [show (10000 : Nat) = 9999 + 1 from rfl, run_equalIn_struct (P := Tryz.prog) w 9999 _ _ _ hf (by kernel_rfl)]
  unfold Program.fieldsOf
  rw [hu]
  have h1 := run_equalIn_bool (P := Tryz.prog) w 9998 4 a b Tryz.underlying4
  have h2 := run_equalIn_int (P := Tryz.prog) w 9998 3 .i64 .i64 x y Tryz.underlying3
  have h3 := run_equalIn_int (P := Tryz.prog) w 9998 3 .i64 .i64 u v Tryz.underlying3
  have hab : (isAgg 4).run Tryz.prog w = .ok false w := by simp only [isAgg, Sem.run_bind, run_under Tryz.underlying4, Result.andThen]; rfl
  have hai : (isAgg 3).run Tryz.prog w = .ok false w := by simp only [isAgg, Sem.run_bind, run_under Tryz.underlying3, Result.andThen]; rfl
  have key : ∀ (t : TypeId) (off : Nat) (vs : List Value) (z : Value), (isAgg t).run Tryz.prog w = .ok false w → vs[off]? = some z → (part t ⟨vs⟩ off).run Tryz.prog w = .ok z w := by
    intro t off vs z ha hz
    have hz' : (⟨vs⟩ : Array Value)[off]? = some z := by simpa using hz
    simp only [part, Sem.run_bind, ha, Result.andThen, hz']; rfl
  have p1 := key 4 0 [.bool a, .int .i64 x, .int .i64 u] _ hab rfl
  have p2 := key 3 1 [.bool a, .int .i64 x, .int .i64 u] _ hai rfl
  have p3 := key 3 2 [.bool a, .int .i64 x, .int .i64 u] _ hai rfl
  have q1 := key 4 0 [.bool b, .int .i64 y, .int .i64 v] _ hab rfl
  have q2 := key 3 1 [.bool b, .int .i64 y, .int .i64 v] _ hai rfl
  have q3 := key 3 2 [.bool b, .int .i64 y, .int .i64 v] _ hai rfl
  simp only [Op.eqFields, Sem.run_bind, p1, p2, p3, q1, q2, q3, h1, h2, h3, Result.andThen_ok, Sem.run_ite]
  by_cases ha : a = b <;> by_cases hx : x = y <;> by_cases hv : u = v <;> simp [ha, hx, hv]
theorem mass_eq (a b x y : List UInt8) (w : World) : (Op.equalIn 10000 40 (.agg ⟨[.string ⟨⟨a⟩⟩, .string ⟨⟨x⟩⟩]⟩) (.agg ⟨[.string ⟨⟨b⟩⟩, .string ⟨⟨y⟩⟩]⟩)).run Tryz.prog w = .ok (decide (a = b ∧ x = y)) w := by
  have hu := Tryz.underlying40
  have hf : Tryz.prog.underlying 40 = some (.struct (Tryz.prog.fieldsOf 40)) := by unfold Program.fieldsOf; rw [hu]
  rw [show (10000 : Nat) = 9999 + 1 from rfl, run_equalIn_struct (P := Tryz.prog) w 9999 _ _ _ hf (by kernel_rfl)]
  unfold Program.fieldsOf
  rw [hu]
  have hl : ∀ l : List UInt8, (ByteArray.mk ⟨l⟩).toList = l := fun l => by rw [ByteArray.toList_eq]
  have h1 := run_equalIn_string (P := Tryz.prog) w 9998 9 ⟨⟨a⟩⟩ ⟨⟨b⟩⟩ Tryz.underlying9
  have h2 := run_equalIn_string (P := Tryz.prog) w 9998 22 ⟨⟨x⟩⟩ ⟨⟨y⟩⟩ Tryz.underlying22
  have hab : (isAgg 9).run Tryz.prog w = .ok false w := by simp only [isAgg, Sem.run_bind, run_under Tryz.underlying9, Result.andThen]; rfl
  have hai : (isAgg 22).run Tryz.prog w = .ok false w := by simp only [isAgg, Sem.run_bind, run_under Tryz.underlying22, Result.andThen]; rfl
  have key : ∀ (t : TypeId) (off : Nat) (vs : List Value) (z : Value), (isAgg t).run Tryz.prog w = .ok false w → vs[off]? = some z → (part t ⟨vs⟩ off).run Tryz.prog w = .ok z w := by
    intro t off vs z ha hz
    have hz' : (⟨vs⟩ : Array Value)[off]? = some z := by simpa using hz
    simp only [part, Sem.run_bind, ha, Result.andThen, hz']; rfl
  have p1 := key 9 0 [.string ⟨⟨a⟩⟩, .string ⟨⟨x⟩⟩] _ hab rfl
  have p2 := key 22 1 [.string ⟨⟨a⟩⟩, .string ⟨⟨x⟩⟩] _ hai rfl
  have q1 := key 9 0 [.string ⟨⟨b⟩⟩, .string ⟨⟨y⟩⟩] _ hab rfl
  have q2 := key 22 1 [.string ⟨⟨b⟩⟩, .string ⟨⟨y⟩⟩] _ hai rfl
  simp only [Op.eqFields, Sem.run_bind, p1, p2, q1, q2, h1, h2, Result.andThen_ok, Sem.run_ite, hl]
  by_cases ha : a = b <;> by_cases hx : x = y <;> simp [ha, hx]

theorem samem_calls (xs ys : List (List UInt8 × List UInt8)) (a b : Option Addr) (c d : Nat) (w : World) (hx : Sl w a (mcells xs)) (hy : Sl w b (mcells ys)) (hxl : xs.length ≤ 1099511627776) (hyl : ys.length ≤ 1099511627776) :
    Calls Tryz.prog 13 #[.slice a xs.length c, .slice b ys.length d] w (Ret fun v w' => v = .bool (decide (xs = ys)) ∧ Below w.heap.size w w') := by
  refine enter Tryz.func13 rfl Tryz.ntmps13 (Nat.le_of_ble_eq_true rfl) ?_
  refine dr U 600 rfl trivial ?_
  refine cS rfl rfl rfl rfl (fun hq => ?_) (fun hq => ?_)
  · refine dr U 600 rfl trivial ?_
    exact ret Tryz.results13 rfl ⟨_, rfl, by rw [decide_eq_false (fun h => hq (by rw [h]))]; rfl, Below.refl _ _⟩
  · have hl : xs.length = ys.length := by omega
    refine dr U 600 rfl trivial ?_
    refine loopR (fun f w' m => ∃ i : Nat, f = [(0, .slice a xs.length c), (1, .slice b ys.length d), (5, .int .i64 (i : Nat))] ∧ i ≤ xs.length ∧ xs.take i = ys.take i ∧ w'.heap = w.heap ∧ Below w.heap.size w w' ∧ m = xs.length - i)
      ⟨0, rfl, by omega, rfl, rfl, Below.refl _ _, rfl⟩ ⟨rfl, rfl, rfl, trivial⟩ ?_
    rintro f w' m ⟨i, rfl, hi, he, hh, hB, rfl⟩
    refine dr U 600 rfl trivial ?_
    refine cS rfl rfl rfl rfl (fun hq => ?_) (fun hq => ?_)
    · have hix : i < xs.length := by omega
      have hiy : i < ys.length := by omega
      obtain ⟨g1, o1, rfl, hc1⟩ := (heap_sl hh hx).at (j := i * 2 + 0) (by rw [mcells_length]; omega)
      obtain ⟨g2, o2, rfl, hc2⟩ := (heap_sl hh hy).at (j := i * 2 + 0) (by rw [mcells_length]; omega)
      refine dr U 600 rfl trivial ?_
      refine dwn 8 (fun W => W.heap = w'.heap) hmo ?_
      intro w2 hh2 hg2
      have hld : ∀ (W : World), W.heap = w'.heap → ∀ (g o : Nat) (zs : List (List UInt8 × List UInt8)) (hiz : i < zs.length), (∀ j v, (mcells zs)[j]? = some v → w'.cell? ⟨g, o + j, none⟩ = some v) → (loadVar 40 ((⟨g, o, none⟩ : Addr).add (((i : Nat) : Int).toNat * 2))).run Tryz.prog W = .ok (.agg ⟨[.string ⟨⟨zs[i].1⟩⟩, .string ⟨⟨zs[i].2⟩⟩]⟩) W := by
        intro W hW g o zs hiz hc
        rw [add_plain, Int.toNat_natCast]
        refine run_load_mid ag_mass (fun j v hv => ?_) rfl
        have h1 := hc _ v (mcells_at zs i hiz j v hv)
        rw [Nat.add_assoc]
        have hcw : W.cell? ⟨g, o + (i * 2 + j), none⟩ = w'.cell? ⟨g, o + (i * 2 + j), none⟩ := by simp only [World.cell?, hW]
        rw [hcw]; exact h1
      refine dq U [0,1,2,3,4,5,6,7] [(3, .agg ⟨[.string ⟨⟨xs[i].1⟩⟩, .string ⟨⟨xs[i].2⟩⟩]⟩), (7, .agg ⟨[.string ⟨⟨ys[i].1⟩⟩, .string ⟨⟨ys[i].2⟩⟩]⟩)] (by kernel_rfl) rfl rfl hh2 (by simp only [AllP, InR, List.nil_append, List.cons_append]; (repeat' apply And.intro); all_goals first | exact True.intro | omega | (with_reducible exact fun W hW => hld W hW g1 o1 xs hix hc1) | exact fun W hW => hld W hW g2 o2 ys hiy hc2) ?_
      refine d1 rfl rfl (fun _ => hh2) ?_
      have hB2 : Below w.heap.size w w2 := hB.grown hg2 hB.size (fun k e => by cases e)
      refine neA rfl rfl eg_mass (mass_eq _ _ _ _) rfl rfl ?_
      by_cases heq : xs[i].1 = ys[i].1 ∧ xs[i].2 = ys[i].2
      · rw [decide_eq_true heq]
        refine d2 ?_; refine dend rfl (fun h => by cases h) ?_
        refine dr U 600 rfl (by first | exact True.intro | (simp only [AllP, InR, List.nil_append, List.cons_append, and_true]; omega)) ?_
        refine rend _ _ ⟨i + 1, rfl, by omega, ?_, hh2.trans hh, hB2, rfl⟩ (by omega) ⟨rfl, rfl, iv (by omega), trivial⟩
        rw [List.take_succ_eq_append_getElem hix, List.take_succ_eq_append_getElem hiy, he, Prod.ext heq.1 heq.2]
      · rw [decide_eq_false heq]
        refine d2 ?_; refine dend rfl (fun h => by cases h) ?_
        refine dr U 600 rfl trivial ?_
        refine ret Tryz.results13 rfl ⟨_, rfl, ?_, hB2⟩
        rw [decide_eq_false (fun h => heq (by subst h; exact ⟨rfl, rfl⟩))]; rfl
    · obtain rfl : i = xs.length := by omega
      refine dr U 600 rfl trivial ?_
      refine ret Tryz.results13 rfl ⟨_, rfl, ?_, hB⟩
      rw [List.take_length, hl, List.take_length] at he
      rw [decide_eq_true he]; rfl

theorem DrawR.dv {s b : List UInt8} {v : Value} (h : DrawR s b v) : ∃ r e, v = .tuple ⟨[dvl r, .int .i64 e]⟩ := by
  rcases h with ⟨e, _, _, rfl⟩ | ⟨_, rfl⟩ <;> exact ⟨_, _, rfl⟩
theorem t13 : qtext (mkq false 1 3) = [49, 47, 51] := by
  rw [qtext_mkq _ _ _ (by decide), show 1 / Nat.gcd 1 3 = 1 from by decide, show 3 / Nat.gcd 1 3 = 3 from by decide, decDigits_one (by omega), decDigits_one (by omega)]
  rfl
/-- The parts of the text of a probability. -/
theorem prob_text (n d : Nat) (hd : d ≠ 0) (hg : Nat.gcd n d = 1) (hle : n ≤ d) (hs : nDigits d ≤ 1000) : PErr (qtext (mkq false n d)) 0 ∧ qN (qtext (mkq false n d)) = n ∧ qD (qtext (mkq false n d)) = d := by
  have hn := Nat.le_trans (nD_mono hle) hs
  obtain ⟨h1, h2, h3, h4⟩ := q_text (mkq false n d)
  have h5 := (q_text_ok (mkq false n d) (mkq_small hd (by omega) (by omega))).1
  rw [mkq_num _ _ _ hd, hg, Nat.div_one] at h2
  rw [(mkq_form _ _ _ hd).2, hg, Nat.div_one] at h3
  have e1 : qN (qtext (mkq false n d)) = n := by unfold qN; rw [h2, (dec_dval n).2]
  have e2 : qD (qtext (mkq false n d)) = d := by unfold qD; rw [h3, (dec_dval d).2]
  refine ⟨.inr (.inr (.inr ⟨h5, ?_, ?_, ?_, ?_, rfl⟩)), e1, e2⟩
  · rw [h1, decide_eq_false_iff_not, mkq_neg _ _ _ hd]; simp
  · rw [e1, e2]; exact hle
  · rw [h2, decDigits_length]; exact hn
  · rw [h3, decDigits_length]; exact hs
theorem bin_of' {l : List UInt8} (h : (l.all fun c => c == 48 || c == 49) = true) : Bin l := fun c hc => by
  have := List.all_eq_true.1 h c hc
  simpa using this
theorem draw_ex (n d : Nat) (hd : d ≠ 0) (hg : Nat.gcd n d = 1) (hle : n ≤ d) (hs : nDigits d ≤ 1000) (s l : List UInt8) (hq : qtext (mkq false n d) = s) (hb : (l.all fun c => c == 48 || c == 49) = true) (hl : l.length ≤ 256) {v : Value} (h : DrawR s l v) : v = .tuple ⟨[dvl (tos n d l), .int .i64 0]⟩ := by
  obtain ⟨h1, h2, h3⟩ := prob_text n d hd hg hle hs
  rw [hq] at h1 h2 h3
  have := h.uniq (.inr ⟨.inr ⟨h1, .inl ⟨bin_of' hb, hl, rfl⟩⟩, rfl⟩)
  rwa [h2, h3] at this

theorem clives_calls (w : World) (ht : TabOk w) : Calls Tryz.prog 8 #[] w (Ret fun v w' => v = .bool true ∧ Below w.heap.size w w') := by
  refine enter Tryz.func8 rfl Tryz.ntmps8 (Nat.le_of_ble_eq_true rfl) ?_
  refine dr U 600 rfl trivial ?_
  refine call (f := 9) rfl rfl cb9 (draw_calls [49, 47, 51] [48, 48, 49] (by decide) (by decide) w ht) ?_
  rintro v w1 ⟨hr, hB1⟩
  obtain rfl := draw_ex 1 3 (by decide) (by decide) (by decide) (by rw [nDigits_small (by omega)]; omega) _ _ t13 (by decide) (by decide) hr
  rw [show tos 1 3 [48, 48, 49] = (true, 1, 2) from by decide]
  refine ⟨_, rfl, ?_⟩
  refine dr U 600 rfl trivial ?_
  refine al U rfl rfl rfl rfl ?_
  intro b1 w2 hbB hsB hkB hgB
  have hB2 := hB1.grown hgB hB1.size (fun k e => by cases e)
  have hbz := hB1.size
  refine dr U 600 rfl trivial ?_
  unfold dvl
  refine st U rfl rfl rfl rfl rfl rfl rfl rfl rfl rfl (hkB) ?_
  intro w3 hk3 hgC hsC
  have hB3 := hB2.grown hgC hB2.size (fun k e => by cases e; omega)
  refine dr U 600 rfl trivial ?_
  have ht3 := ht.below hB3
  refine call (f := 9) rfl rfl cb9 (draw_calls [49, 47, 51] [48, 49] (by decide) (by decide) w3 ht3) ?_
  rintro v w4 ⟨hr, hB4'⟩
  have hB4 := bl_tr hB3 hB4' hB3.size
  have hk4 := hk3.below hB4' hk3.lt
  obtain rfl := draw_ex 1 3 (by decide) (by decide) (by decide) (by rw [nDigits_small (by omega)]; omega) _ _ t13 (by decide) (by decide) hr
  rw [show tos 1 3 [48, 49] = (false, 0, 2) from by decide]
  refine ⟨_, rfl, ?_⟩
  refine dr U 600 rfl trivial ?_
  refine al U rfl rfl rfl rfl ?_
  intro b2 w5 hbB hsB hkB hgB
  have hB5 := hB4.grown hgB hB4.size (fun k e => by cases e)
  have hbz := hB4.size
  refine dr U 600 rfl trivial ?_
  unfold dvl
  refine st U rfl rfl rfl rfl rfl rfl rfl rfl rfl rfl (hkB) ?_
  intro w6 hk6 hgC hsC
  have hB6 := hB5.grown hgC hB5.size (fun k e => by cases e; omega)
  refine dr U 600 rfl trivial ?_
  have hlt4 := hk4.lt
  have hk4 := (hk4.keep hgB (by simp)).keep hgC (by intro e; cases e; omega)
  refine lg rfl ag_draw rfl rfl hk4 rfl ?_
  refine dr U 600 rfl trivial ?_
  refine eqA rfl rfl eg_draw (draw_eq _ _ _ _ _ _) rfl rfl ?_
  refine dr U 600 rfl trivial ?_
  refine cT rfl rfl rfl (rfl) ?_; refine dr U 600 rfl trivial ?_
  refine lg rfl ag_draw rfl rfl hk6 rfl ?_
  refine dr U 600 rfl trivial ?_
  refine eqA rfl rfl eg_draw (draw_eq _ _ _ _ _ _) rfl rfl ?_
  refine dr U 600 rfl trivial ?_
  refine cT rfl rfl rfl (rfl) ?_; refine dr U 600 rfl trivial ?_
  exact ret Tryz.results8 rfl ⟨_, rfl, rfl, hB6⟩

theorem coinCalls_calls (p b : List UInt8) (n : Int) (hp : p.length ≤ 9223372036854775806) (hb : b.length ≤ 9223372036854775806) (hn : -9223372036854775808 ≤ n ∧ n ≤ 9223372036854775807) (w0 : World) (ht0 : TabOk w0) :
    Calls Tryz.prog 5 #[.string ⟨⟨p⟩⟩, .string ⟨⟨b⟩⟩, .int .i64 n] w0 (Ret fun v w' => v = .bool true ∧ Below w0.heap.size w0 w') := by
  have hW0 := Below.refl w0.heap.size w0
  refine enter Tryz.func5 rfl Tryz.ntmps5 (Nat.le_of_ble_eq_true rfl) ?_
  refine dr U 600 rfl trivial ?_
  refine call (f := 8) rfl rfl cb8 (clives_calls w0 ht0) ?_; rintro v w1 ⟨rfl, hB1⟩; refine ⟨_, rfl, ?_⟩; have ht1 := ht0.below hB1; have hW1 := bl_tr hW0 hB1 hW0.size; refine dr U 600 rfl trivial ?_
  refine cS rfl rfl rfl rfl (fun hq1 => ?_) (fun hq1 => ?_)
  · refine dr U 600 rfl trivial ?_
    exact ret Tryz.results5 rfl ⟨_, rfl, rfl, hW1⟩
  refine dr U 600 rfl trivial ?_
  refine cS rfl rfl rfl rfl (fun hq2 => ?_) (fun hq2 => ?_)
  · refine dr U 600 rfl trivial ?_
    exact ret Tryz.results5 rfl ⟨_, rfl, rfl, hW1⟩
  refine dr U 600 rfl trivial ?_
  refine call (f := 9) rfl rfl cb9 (draw_calls p b (by omega) (by omega) w1 ht1) ?_
  rintro v w2 ⟨hr2, hB2⟩
  have hW2 := bl_tr hW1 hB2 hW1.size
  obtain ⟨r, e, rfl⟩ := hr2.dv
  refine ⟨_, rfl, ?_⟩
  refine dr U 600 rfl trivial ?_
  refine al U rfl rfl rfl rfl ?_
  intro b1 w3 hbB hsB hkB hgB
  have hW3 := hW2.grown hgB hW2.size (fun k e => by cases e)
  have hbz := hW2.size
  refine dr U 600 rfl trivial ?_
  unfold dvl
  refine st U rfl rfl rfl rfl rfl rfl rfl rfl rfl rfl (hkB) ?_
  intro w4 hk4 hgC hsC
  have hW4 := hW3.grown hgC hW3.size (fun k e => by cases e; omega)
  refine dr U 600 rfl trivial ?_
  refine call (f := 14) rfl rfl cb14 (rdraw_calls p b (by omega) (by omega) w4) ?_
  rintro v w5 ⟨hr5, hB5⟩
  have hW5 := bl_tr hW4 hB5 hW4.size
  have hk5 := hk4.below hB5 hk4.lt
  obtain rfl := hr5.uniq hr2
  refine ⟨_, rfl, ?_⟩
  refine dr U 600 rfl trivial ?_
  refine al U rfl rfl rfl rfl ?_
  intro b2 w6 hbB hsB hkB hgB
  have hW6 := hW5.grown hgB hW5.size (fun k e => by cases e)
  have hbz := hW5.size
  refine dr U 600 rfl trivial ?_
  unfold dvl
  refine st U rfl rfl rfl rfl rfl rfl rfl rfl rfl rfl (hkB) ?_
  intro w7 hk7 hgC hsC
  have hW7 := hW6.grown hgC hW6.size (fun k e => by cases e; omega)
  refine dr U 600 rfl trivial ?_
  have hlt5 := hk5.lt
  have hk5 := (hk5.keep hgB (by simp)).keep hgC (by intro e; cases e; omega)
  have ht7 := ht0.below hW7
  refine call (f := 10) rfl rfl cb10 (late_calls p n (by omega) w7 ht7) ?_
  rintro v w8 ⟨hr8, hB8⟩
  have hW8 := bl_tr hW7 hB8 hW7.size
  obtain ⟨x8, e8, rfl⟩ := hr8.te
  refine ⟨_, rfl, ?_⟩
  refine dr U 600 rfl trivial ?_
  refine call (f := 15) rfl rfl cb15 (rlate_calls p n (by omega) w8) ?_
  rintro v w9 ⟨hr9, hB9⟩
  have hW9 := bl_tr hW8 hB9 hW8.size
  have ht9 := ht0.below hW9
  obtain rfl := hr9.uniq hr8
  refine ⟨_, rfl, ?_⟩
  refine dr U 600 rfl trivial ?_
  refine call (f := 11) rfl rfl cb11 (law_calls p n (by omega) w9 ht9) ?_
  rintro v w10 ⟨hr10, hB10⟩
  have hW10 := bl_tr hW9 hB10 hW9.size
  obtain ⟨a10, c10, ms, e10, rfl, hs10, hl10, _, hli⟩ := hr10.list
  refine ⟨_, rfl, ?_⟩
  refine dr U 600 rfl trivial ?_
  refine call (f := 16) rfl rfl cb16 (rlaw_calls p n (by omega) w10) ?_
  rintro v w11 ⟨hr11, hB11⟩
  have hW11 := bl_tr hW10 hB11 hW10.size
  obtain ⟨a11, c11, rfl, hs11⟩ := hli _ _ hr11
  refine ⟨_, rfl, ?_⟩
  have hs10 := hs10.stay hB11
  have hz7 := hW7.size
  have hk5 := (((hk5.below hB8 hk5.lt).below hB9 (by have := hk5.lt; have := hB8.size; omega)).below hB10 (by have := hk5.lt; have := hB8.size; have := hB9.size; omega)).below hB11 (by have := hk5.lt; have := hB8.size; have := hB9.size; have := hB10.size; omega)
  have hk7 := (((hk7.below hB8 hk7.lt).below hB9 (by have := hk7.lt; have := hB8.size; omega)).below hB10 (by have := hk7.lt; have := hB8.size; have := hB9.size; omega)).below hB11 (by have := hk7.lt; have := hB8.size; have := hB9.size; have := hB10.size; omega)
  refine dr U 600 rfl trivial ?_
  refine lg rfl ag_draw rfl rfl hk5 rfl ?_
  refine lg rfl ag_draw rfl rfl hk7 rfl ?_
  refine eqA rfl rfl eg_draw (draw_eq _ _ _ _ _ _) rfl rfl ?_
  rw [decide_eq_true ⟨rfl, rfl, rfl⟩]
  refine dr U 600 rfl trivial ?_
  refine cT rfl rfl rfl (rfl) ?_; refine dr U 600 rfl trivial ?_
  refine cT rfl rfl rfl (rfl) ?_; refine dr U 600 rfl trivial ?_
  refine cT rfl rfl rfl (rfl) ?_; refine dr U 600 rfl trivial ?_
  have hsm := samem_calls ms ms a10 a11 c10 c11 w11 hs10 hs11 (by omega) (by omega)
  rw [decide_eq_true rfl] at hsm
  refine call (f := 13) rfl rfl cb13 hsm ?_
  rintro v w12 ⟨rfl, hB12⟩
  have hW12 := bl_tr hW11 hB12 hW11.size
  refine ⟨_, rfl, ?_⟩
  refine dr U 600 rfl trivial ?_
  refine cT rfl rfl rfl (rfl) ?_; refine dr U 600 rfl trivial ?_
  exact ret Tryz.results5 rfl ⟨_, rfl, rfl, hW12⟩
end Go.Proofs.YtabplbmbnakalaaGreatDoor
end
section
set_option linter.unusedSimpArgs false
set_option linter.unusedVariables false
set_option maxHeartbeats 1000000
namespace Go.Proofs.YtabplbmbnakalaaGreatDoor
open Go Go.Proofs Go.RowKit Go.Lib

theorem noslash_text {s : List UInt8} (h : qslash s = false) (hn : qneg s = false) : s = qn s := by
  unfold qslash at h
  have h1 : ¬ (qpre s).length < s.length := by simpa using h
  have h2 := qpre_le s
  have h3 := qpre_take s
  rw [show (qpre s).length = s.length by omega, List.take_length] at h3
  rw [qn_pos hn, ← h3]
theorem perr_zero {s : List UInt8} (h : PErr s 0) (h0 : qN s = 0) : s = [48] := by
  obtain ⟨h1, h2, h3, h4, h5⟩ := h.ok
  obtain ⟨hQ, _⟩ := h1.ok
  have e : qn s = [48] := (dval_zero_iff hQ.1).2 h0
  have hsl : qslash s = false := by
    cases hs : qslash s with
    | false => rfl
    | true => exact absurd e (hQ.2.2 hs).1
  rw [noslash_text hsl h2, e]
theorem perr_one {s : List UInt8} (h : PErr s 0) (h0 : qN s = qD s) : s = [49] := by
  obtain ⟨h1, h2, h3, h4, h5⟩ := h.ok
  obtain ⟨hQ, _, _, hg⟩ := h1.ok
  have hd1 : qD s = 1 := by
    have : Nat.gcd (qN s) (qD s) = 1 := hg
    rw [h0, Nat.gcd_self] at this; exact this
  have e : qn s = [49] := (dval_one_iff hQ.1).2 (h0.trans hd1)
  have ed : qd s = [49] := (dval_one_iff (qd_form hQ)).2 hd1
  have hsl : qslash s = false := by
    cases hs : qslash s with
    | false => rfl
    | true => exact absurd ed (hQ.2.2 hs).2.2.2
  rw [noslash_text hsl h2, e]
theorem bin_take {l : List UInt8} (h : Bin l) (k : Nat) : Bin (l.take k) := fun c hc => h c (List.mem_of_mem_take hc)


theorem coinLonger_calls (p b more : List UInt8) (hp : p.length ≤ 9223372036854775806) (hb : b.length ≤ 9223372036854775806) (hm : more.length ≤ 9223372036854775806) (w0 : World) (ht0 : TabOk w0) :
    Calls Tryz.prog 3 #[.string ⟨⟨p⟩⟩, .string ⟨⟨b⟩⟩, .string ⟨⟨more⟩⟩] w0 (Ret fun v w' => v = .bool true ∧ Below w0.heap.size w0 w') := by
  have hW0 := Below.refl w0.heap.size w0
  refine enter Tryz.func3 rfl Tryz.ntmps3 (Nat.le_of_ble_eq_true rfl) ?_
  refine dr U 600 rfl trivial ?_
  refine call (f := 8) rfl rfl cb8 (clives_calls w0 ht0) ?_; rintro v w1 ⟨rfl, hB1⟩; refine ⟨_, rfl, ?_⟩; have ht1 := ht0.below hB1; have hW1 := bl_tr hW0 hB1 hW0.size; refine dr U 600 rfl trivial ?_
  refine cS rfl rfl rfl rfl (fun hq1 => ?_) (fun hq1 => ?_)
  · refine dr U 600 rfl trivial ?_
    exact ret Tryz.results3 rfl ⟨_, rfl, rfl, hW1⟩
  refine dr U 600 rfl trivial ?_
  refine cS rfl rfl rfl rfl (fun hq2 => ?_) (fun hq2 => ?_)
  · refine dr U 600 rfl trivial ?_
    exact ret Tryz.results3 rfl ⟨_, rfl, rfl, hW1⟩
  refine dr U 600 rfl trivial ?_
  refine cS rfl rfl rfl rfl (fun hq3 => ?_) (fun hq3 => ?_)
  · refine dr U 600 rfl trivial ?_
    exact ret Tryz.results3 rfl ⟨_, rfl, rfl, hW1⟩
  have hlen : (b ++ more).length ≤ 240 := by rw [List.length_append]; omega
  refine dr U 600 rfl trivial ?_
  refine call (f := 9) rfl rfl cb9 (draw_calls p b (by omega) (by omega) w1 ht1) ?_
  rintro v w2 ⟨hr2, hB2⟩
  have hW2 := bl_tr hW1 hB2 hW1.size
  have Hr2 := hr2
  obtain ⟨r, e, rfl⟩ := hr2.dv
  refine ⟨_, rfl, ?_⟩
  refine dr U 600 rfl trivial ?_
  refine al U rfl rfl rfl rfl ?_
  intro b1 w3 hbB hsB hkB hgB
  have hW3 := hW2.grown hgB hW2.size (fun k e => by cases e)
  have hbz := hW2.size
  refine dr U 600 rfl trivial ?_
  unfold dvl
  refine st U rfl rfl rfl rfl rfl rfl rfl rfl rfl rfl (hkB) ?_
  intro w4 hk4 hgC hsC
  have hW4 := hW3.grown hgC hW3.size (fun k e => by cases e; omega)
  have ht4 := ht0.below hW4
  refine dr U 600 rfl (by simp only [AllP, InR, List.nil_append, List.cons_append, and_true, List.length_cons, List.length_nil, List.length_append]; omega) ?_
  refine call (f := 9) rfl rfl cb9 (draw_calls p (b ++ more) (by omega) (by omega) w4 ht4) ?_
  rintro v w5 ⟨hr5, hB5⟩
  have hW5 := bl_tr hW4 hB5 hW4.size
  have hk5 := hk4.below hB5 hk4.lt
  have Hr5 := hr5
  obtain ⟨r', f, rfl⟩ := hr5.dv
  refine ⟨_, rfl, ?_⟩
  refine dr U 600 rfl trivial ?_
  refine al U rfl rfl rfl rfl ?_
  intro b2 w6 hbB hsB hkB hgB
  have hW6 := hW5.grown hgB hW5.size (fun k e => by cases e)
  have hbz := hW5.size
  refine dr U 600 rfl trivial ?_
  unfold dvl
  refine st U rfl rfl rfl rfl rfl rfl rfl rfl rfl rfl (hkB) ?_
  intro w7 hk7 hgC hsC
  have hW7 := hW6.grown hgC hW6.size (fun k e => by cases e; omega)
  refine dr U 600 rfl trivial ?_
  have hlt5 := hk5.lt
  have hk5 := (hk5.keep hgB (by simp)).keep hgC (by intro e; cases e; omega)
  have hlt7 := hk7.lt
  have ht7 := ht0.below hW7
  have hz7 := hW7.size
  rcases Hr2 with ⟨e1, h0, hde, he⟩ | ⟨hd0, he⟩
  · simp only [Value.tuple.injEq, Array.mk.injEq, List.cons.injEq, Value.int.injEq, and_true, true_and, dvl, Value.agg.injEq, Value.bool.injEq] at he
    obtain ⟨⟨hy1, hy2, hy3⟩, rfl⟩ := he
    rw [hy1, hy2, hy3] at hk5
    refine cT rfl rfl rfl (h0) ?_; refine dr U 600 rfl trivial ?_
    refine cF rfl rfl rfl (h0) ?_; refine dr U 600 rfl trivial ?_
    refine lg rfl ag_draw rfl rfl hk5 rfl ?_
    refine dr U 600 rfl trivial ?_
    refine eqA rfl rfl eg_draw (draw_eq _ _ _ _ _ _) rfl rfl ?_
    rw [show decide (false = false ∧ ((0 : Nat) : Int) = 0 ∧ ((0 : Nat) : Int) = 0) = true from by decide]
    refine dr U 600 rfl trivial ?_
    rcases Hr5 with ⟨e2, g0, hde2, he2⟩ | ⟨hd2, he2⟩
    · simp only [Value.tuple.injEq, Array.mk.injEq, List.cons.injEq, Value.int.injEq, and_true, true_and, dvl, Value.agg.injEq, Value.bool.injEq] at he2
      obtain ⟨⟨hs1, hs2, hs3⟩, rfl⟩ := he2
      rw [hs1, hs2, hs3] at hk7
      refine cF rfl rfl rfl (g0) ?_; refine dr U 600 rfl trivial ?_
      refine lg rfl ag_draw rfl rfl hk7 rfl ?_
      refine dr U 600 rfl trivial ?_
      refine eqA rfl rfl eg_draw (draw_eq _ _ _ _ _ _) rfl rfl ?_
      rw [show decide (false = false ∧ ((0 : Nat) : Int) = 0 ∧ ((0 : Nat) : Int) = 0) = true from by decide]
      refine dr U 600 rfl trivial ?_
      exact ret Tryz.results3 rfl ⟨_, rfl, rfl, hW7⟩
    · simp only [Value.tuple.injEq, Array.mk.injEq, List.cons.injEq, Value.int.injEq, and_true, true_and] at he2
      obtain ⟨_, rfl⟩ := he2
      refine cT rfl rfl rfl (rfl) ?_; refine dr U 600 rfl trivial ?_
      exact ret Tryz.results3 rfl ⟨_, rfl, rfl, hW7⟩
  · simp only [Value.tuple.injEq, Array.mk.injEq, List.cons.injEq, Value.int.injEq, and_true, true_and, dvl, Value.agg.injEq, Value.bool.injEq] at he
    obtain ⟨⟨hy1, hy2, hy3⟩, rfl⟩ := he
    rw [hy1, hy2, hy3] at hk5
    rcases Hr5 with ⟨e2, g0, hde2, he2⟩ | ⟨hd2, he2⟩
    · simp only [Value.tuple.injEq, Array.mk.injEq, List.cons.injEq, Value.int.injEq, and_true, true_and, dvl, Value.agg.injEq, Value.bool.injEq] at he2
      obtain ⟨⟨hs1, hs2, hs3⟩, rfl⟩ := he2
      rw [hs1, hs2, hs3] at hk7
      refine cF rfl rfl rfl ((fun h => h rfl)) ?_; refine dr U 600 rfl trivial ?_
      refine cT rfl rfl rfl (g0) ?_; refine dr U 600 rfl trivial ?_
      refine cT rfl rfl rfl (rfl) ?_; refine dr U 600 rfl trivial ?_
      refine cF rfl rfl rfl (g0) ?_; refine dr U 600 rfl trivial ?_
      refine lg rfl ag_draw rfl rfl hk7 rfl ?_
      refine dr U 600 rfl trivial ?_
      refine eqA rfl rfl eg_draw (draw_eq _ _ _ _ _ _) rfl rfl ?_
      rw [show decide (false = false ∧ ((0 : Nat) : Int) = 0 ∧ ((0 : Nat) : Int) = 0) = true from by decide]
      refine dr U 600 rfl trivial ?_
      exact ret Tryz.results3 rfl ⟨_, rfl, rfl, hW7⟩
    · simp only [Value.tuple.injEq, Array.mk.injEq, List.cons.injEq, Value.int.injEq, and_true, true_and, dvl, Value.agg.injEq, Value.bool.injEq] at he2
      obtain ⟨⟨hs1, hs2, hs3⟩, rfl⟩ := he2
      rw [hs1, hs2, hs3] at hk7
      clear hy1 hy2 hy3 hs1 hs2 hs3
      obtain ⟨hpe, hce⟩ : PErr p 0 ∧ SChk b 0 := by
        rcases hd0 with ⟨h, _⟩ | h
        · exact absurd rfl h
        · exact h
      obtain ⟨hbin, hl256⟩ := hce.ok
      obtain ⟨hnum, hden, hD0, hle⟩ := hpe.nums
      refine cF rfl rfl rfl ((fun h => h rfl)) ?_; refine dr U 600 rfl trivial ?_
      refine cF rfl rfl rfl ((fun h => h rfl)) ?_; refine dr U 600 rfl trivial ?_
      refine ld U rfl rfl rfl rfl ((hk5).cell rfl) ?_
      refine cF rfl rfl rfl ((by omega)) ?_; refine dr U 600 rfl trivial ?_
      refine ld U rfl rfl rfl rfl ((hk5).cell rfl) ?_
      refine dr U 600 rfl trivial ?_
      rcases tos_cases (qN p) (qD p) b with ⟨v, j, htos, hj, hdv, hnone⟩ | ⟨htos, hnone⟩
      · rw [htos] at hk5 ⊢
        obtain ⟨_, hlong, hshort, hprev, _, hv⟩ := tos_longer htos more
        rw [hlong] at hk7
        simp only at hk5 hk7 ⊢
        refine cF rfl rfl rfl ((by omega)) ?_; refine dr U 600 rfl trivial ?_
        refine ld U rfl rfl rfl rfl ((hk5).cell rfl) ?_
        refine dr U 600 rfl trivial ?_
        refine ld U rfl rfl rfl rfl ((hk5).cell rfl) ?_
        refine dr U 600 rfl (by first | exact True.intro | (simp only [AllP, InR, List.nil_append, List.cons_append, and_true]; omega)) ?_
        simp only [Int.toNat_natCast]
        refine call (f := 9) rfl rfl cb9 (draw_calls p (b.take j) (by omega) (by rw [List.length_take]; omega) w7 ht7) ?_
        rintro v' w8 ⟨hr8, hB8⟩
        have hW8 := bl_tr hW7 hB8 hW7.size
        obtain rfl := hr8.uniq (.inr ⟨.inr ⟨hpe, .inl ⟨bin_take hbin j, by rw [List.length_take]; omega, rfl⟩⟩, rfl⟩)
        rw [hshort]
        have hk5 := hk5.below hB8 hk5.lt
        have hk7 := hk7.below hB8 hk7.lt
        refine ⟨_, rfl, ?_⟩
        refine dr U 600 rfl trivial ?_
        refine al U rfl rfl rfl rfl ?_
        intro b3 w9 hbB hsB hkB hgB
        have hW9 := hW8.grown hgB hW8.size (fun k e => by cases e)
        have hbz := hW8.size
        refine dr U 600 rfl trivial ?_
        unfold dvl
        refine st U rfl rfl rfl rfl rfl rfl rfl rfl rfl rfl (hkB) ?_
        intro w10 hk10 hgC hsC
        have hW10 := hW9.grown hgC hW9.size (fun k e => by cases e; omega)
        refine dr U 600 rfl trivial ?_
        have hlt5 := hk5.lt
        have hlt7 := hk7.lt
        have hk5 := (hk5.keep hgB (by simp)).keep hgC (by intro e; cases e; omega)
        have hk7 := (hk7.keep hgB (by simp)).keep hgC (by intro e; cases e; omega)
        have ht10 := ht0.below hW10
        refine lg rfl ag_draw rfl rfl hk7 rfl ?_
        refine lg rfl ag_draw rfl rfl hk5 rfl ?_
        refine neA rfl rfl eg_draw (draw_eq _ _ _ _ _ _) rfl rfl ?_
        rw [decide_eq_true ⟨rfl, rfl, rfl⟩]
        refine dr U 600 rfl trivial ?_
        refine lg rfl ag_draw rfl rfl hk10 rfl ?_
        refine lg rfl ag_draw rfl rfl hk5 rfl ?_
        refine neA rfl rfl eg_draw (draw_eq _ _ _ _ _ _) rfl rfl ?_
        rw [decide_eq_true ⟨rfl, rfl, rfl⟩]
        refine dr U 600 rfl trivial ?_
        refine cF rfl rfl rfl ((fun h => h rfl)) ?_; refine dr U 600 rfl trivial ?_
        refine ld U rfl rfl rfl rfl ((hk5).cell rfl) ?_
        refine cS rfl rfl rfl rfl (fun hq4 => ?_) (fun hq4 => ?_)
        · obtain rfl : j = 0 := by omega
          rcases tos_short hD0 hle htos with h | h
          · obtain rfl := perr_zero hpe h
            refine dr U 600 rfl trivial ?_
            refine cT rfl rfl rfl (rfl) ?_; refine dr U 600 rfl trivial ?_
            exact ret Tryz.results3 rfl ⟨_, rfl, rfl, hW10⟩
          · obtain rfl := perr_one hpe h
            refine dr U 600 rfl trivial ?_
            refine cF rfl rfl rfl ((by decide)) ?_; refine dr U 600 rfl trivial ?_
            refine cT rfl rfl rfl (rfl) ?_; refine dr U 600 rfl trivial ?_
            exact ret Tryz.results3 rfl ⟨_, rfl, rfl, hW10⟩
        · have hj0 : 0 < j := by omega
          obtain ⟨u', hpv⟩ := hprev hj0
          refine dr U 600 rfl trivial ?_
          refine ld U rfl rfl rfl rfl ((hk5).cell rfl) ?_
          refine dr U 600 rfl (by first | exact True.intro | (simp only [AllP, InR, List.nil_append, List.cons_append, and_true]; omega)) ?_
          simp only [show ((j : Int) - 1).toNat = j - 1 from by omega]
          refine call (f := 9) rfl rfl cb9 (draw_calls p (b.take (j - 1)) (by omega) (by rw [List.length_take]; omega) w10 ht10) ?_
          rintro v'' w11 ⟨hr11, hB11⟩
          have hW11 := bl_tr hW10 hB11 hW10.size
          obtain rfl := hr11.uniq (.inr ⟨.inr ⟨hpe, .inl ⟨bin_take hbin (j - 1), by rw [List.length_take]; omega, rfl⟩⟩, rfl⟩)
          rw [hpv]
          refine ⟨_, rfl, ?_⟩
          refine dr U 600 rfl trivial ?_
          refine al U rfl rfl rfl rfl ?_
          intro b4 w12 hbB hsB hkB hgB
          have hW12 := hW11.grown hgB hW11.size (fun k e => by cases e)
          have hbz := hW11.size
          refine dr U 600 rfl trivial ?_
          unfold dvl
          refine st U rfl rfl rfl rfl rfl rfl rfl rfl rfl rfl (hkB) ?_
          intro w13 hk13 hgC hsC
          have hW13 := hW12.grown hgC hW12.size (fun k e => by cases e; omega)
          refine dr U 600 rfl trivial ?_
          refine cT rfl rfl rfl (rfl) ?_; refine dr U 600 rfl trivial ?_
          refine ld U rfl rfl rfl rfl ((hk13).cell rfl) ?_
          refine dr U 600 rfl trivial ?_
          exact ret Tryz.results3 rfl ⟨_, rfl, rfl, hW13⟩
      · rw [htos] at hk5 ⊢
        simp only at hk5 ⊢
        refine cF rfl rfl rfl ((by omega)) ?_; refine dr U 600 rfl trivial ?_
        refine ld U rfl rfl rfl rfl ((hk5).cell rfl) ?_
        refine dr U 600 rfl trivial ?_
        refine ld U rfl rfl rfl rfl ((hk5).cell rfl) ?_
        refine cT rfl rfl rfl (rfl) ?_; refine dr U 600 rfl trivial ?_
        refine ld U rfl rfl rfl rfl ((hk5).cell rfl) ?_
        refine dr U 600 rfl trivial ?_
        refine cT rfl rfl rfl (rfl) ?_; refine dr U 600 rfl trivial ?_
        obtain ⟨_, _, hop⟩ := tos_open htos more
        rcases tos_cases (qN p) (qD p) (b ++ more) with ⟨v', j', htos', _⟩ | ⟨htos', _⟩
        · have hlt := hop v' j' htos'
          rw [htos'] at hk7
          simp only at hk7
          refine ld U rfl rfl rfl rfl ((hk7).cell rfl) ?_
          refine dr U 600 rfl trivial ?_
          refine ld U rfl rfl rfl rfl ((hk7).cell rfl) ?_
          refine dr U 600 rfl trivial ?_
          refine cT rfl rfl rfl ((by omega)) ?_; refine dr U 600 rfl trivial ?_
          exact ret Tryz.results3 rfl ⟨_, rfl, rfl, hW7⟩
        · rw [htos'] at hk7
          simp only at hk7
          refine ld U rfl rfl rfl rfl ((hk7).cell rfl) ?_
          refine dr U 600 rfl trivial ?_
          exact ret Tryz.results3 rfl ⟨_, rfl, rfl, hW7⟩
end Go.Proofs.YtabplbmbnakalaaGreatDoor
end
