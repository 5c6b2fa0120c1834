/-
  The law CoinNames: it returns true. Printed by names04.py.
  Conditions: the library's table of powers of ten is laid.
-/
import Derived.Test.YtabplbmbnakalaaGreatDoorYCl
import Derived.Test.YtabplbmbnakalaaGreatDoorYLawC
set_option linter.unusedSimpArgs false
set_option linter.unusedVariables false
set_option maxHeartbeats 1000000
namespace Go.Proofs.YtabplbmbnakalaaGreatDoor
open Go Go.Proofs Go.RowKit Go.Lib

theorem qlit (m : Bool) (n d a b : Nat) (hd : d ≠ 0) (ha : n / Nat.gcd n d = a) (hb : d / Nat.gcd n d = b) (ha9 : a < 10) (hb9 : b < 10) (s : List UInt8)
    (h : (if m = true ∧ n ≠ 0 then [45] else []) ++ [UInt8.ofNat (48 + a)] ++ (if b = 1 then [] else [47, UInt8.ofNat (48 + b)]) = s) : qtext (mkq m n d) = s := by
  rw [qtext_mkq _ _ _ hd, ha, hb, decDigits_one ha9, decDigits_one hb9]
  exact h
theorem qok (m : Bool) (n d : Nat) (hd : d ≠ 0) (hn : n < 10) (hd' : d < 10) (s : List UInt8) (h : qtext (mkq m n d) = s) : QErr s 0 := by
  subst h
  exact (q_text_ok _ (mkq_small hd (by rw [nDigits_small hn]; omega) (by rw [nDigits_small hd']; omega))).1
theorem nd_one {n : Nat} (h : n < 10) : nDigits n ≤ 1000 := by rw [nDigits_small h]; omega

theorem s12 : qtext (mkq false 1 2) = [49, 47, 50] := qlit _ 1 2 1 2 (by decide) (by decide) (by decide) (by decide) (by decide) _ (by decide)
theorem s0 : qtext (mkq false 0 1) = [48] := qlit _ 0 1 0 1 (by decide) (by decide) (by decide) (by decide) (by decide) _ (by decide)
theorem s1 : qtext (mkq false 1 1) = [49] := qlit _ 1 1 1 1 (by decide) (by decide) (by decide) (by decide) (by decide) _ (by decide)
theorem s34 : qtext (mkq false 3 4) = [51, 47, 52] := qlit _ 3 4 3 4 (by decide) (by decide) (by decide) (by decide) (by decide) _ (by decide)
theorem s13 : qtext (mkq false 1 3) = [49, 47, 51] := qlit _ 1 3 1 3 (by decide) (by decide) (by decide) (by decide) (by decide) _ (by decide)
theorem s32 : qtext (mkq false 3 2) = [51, 47, 50] := qlit _ 3 2 3 2 (by decide) (by decide) (by decide) (by decide) (by decide) _ (by decide)
theorem sm12 : qtext (mkq true 1 2) = [45, 49, 47, 50] := qlit _ 1 2 1 2 (by decide) (by decide) (by decide) (by decide) (by decide) _ (by decide)
theorem s14 : qtext (mkq false 1 4) = [49, 47, 52] := qlit _ 1 4 1 4 (by decide) (by decide) (by decide) (by decide) (by decide) _ (by decide)
theorem pr_s12 : PErr [49, 47, 50] 0 ∧ qN [49, 47, 50] = 1 ∧ qD [49, 47, 50] = 2 := by
  have h := prob_text 1 2 (by decide) (by decide) (by decide) (nd_one (by decide)); rwa [s12] at h
theorem pr_s13 : PErr [49, 47, 51] 0 ∧ qN [49, 47, 51] = 1 ∧ qD [49, 47, 51] = 3 := by
  have h := prob_text 1 3 (by decide) (by decide) (by decide) (nd_one (by decide)); rwa [s13] at h
theorem pr_s34 : PErr [51, 47, 52] 0 ∧ qN [51, 47, 52] = 3 ∧ qD [51, 47, 52] = 4 := by
  have h := prob_text 3 4 (by decide) (by decide) (by decide) (nd_one (by decide)); rwa [s34] at h
theorem pr_s0 : PErr [48] 0 ∧ qN [48] = 0 ∧ qD [48] = 1 := by
  have h := prob_text 0 1 (by decide) (by decide) (by decide) (nd_one (by decide)); rwa [s0] at h
theorem pr_s1 : PErr [49] 0 ∧ qN [49] = 1 ∧ qD [49] = 1 := by
  have h := prob_text 1 1 (by decide) (by decide) (by decide) (nd_one (by decide)); rwa [s1] at h
theorem pe_32 : PErr [51, 47, 50] 2 := .inr (.inl ⟨qok _ 3 2 (by decide) (by decide) (by decide) _ s32, .inr (by decide), rfl⟩)
theorem pe_m12 : PErr [45, 49, 47, 50] 2 := .inr (.inl ⟨qok _ 1 2 (by decide) (by decide) (by decide) _ sm12, .inl (by decide), rfl⟩)
theorem form_of {l : List UInt8} (h : l ≠ [] ∧ (l = [48] ∨ l.head? ≠ some 48) ∧ (l.all fun c => decide (48 ≤ c.toNat ∧ c.toNat ≤ 57)) = true) : Form l :=
  ⟨h.1, h.2.1, fun c hc => by simpa [isD] using List.all_eq_true.1 h.2.2 c hc⟩
theorem pe_24 : PErr [50, 47, 52] 3 := .inl ⟨by decide, .inr (.inr (.inl ⟨⟨form_of (by decide), by decide, fun _ => ⟨by decide, form_of (by decide), by decide, by decide⟩⟩, by decide, by decide, by decide, rfl⟩))⟩
theorem pe_bigN (n : Nat) (h1 : 1000 ≤ n) (h2 : n < 4000) : PErr (49 :: 47 :: 49 :: List.replicate n 48) 5 := by
  have e1 : qpre (49 :: 47 :: 49 :: List.replicate n 48) = [49] := by simp [qpre]
  have en : qneg (49 :: 47 :: 49 :: List.replicate n 48) = false := by simp [qneg, e1]
  have e2 : qn (49 :: 47 :: 49 :: List.replicate n 48) = [49] := by simp [qn, en, e1]
  have es : qslash (49 :: 47 :: 49 :: List.replicate n 48) = true := by simp [qslash, e1]
  have e3 : qd (49 :: 47 :: 49 :: List.replicate n 48) = 49 :: List.replicate n 48 := by simp [qd, es, e1]
  have hl : (49 :: List.replicate n 48 : List UInt8).length = n + 1 := by rw [List.length_cons, List.length_replicate]
  have hdg : Dgs (49 :: List.replicate n 48) := fun c hc => by
    rcases List.mem_cons.1 hc with rfl | h
    · exact ⟨by decide, by decide⟩
    · rw [List.eq_of_mem_replicate h]; exact ⟨by decide, by decide⟩
  have hF : Form (49 :: List.replicate n 48) := ⟨by simp, .inr (by simp), hdg⟩
  have hne : (49 :: List.replicate n 48 : List UInt8) ≠ [48] ∧ (49 :: List.replicate n 48 : List UInt8) ≠ [49] := ⟨fun h => (by rw [h] at hl; simp at hl; omega), fun h => (by rw [h] at hl; simp at hl; omega)⟩
  have hv1 : dval [49] = 1 := by decide
  have hQ : QIs (49 :: 47 :: 49 :: List.replicate n 48) := by
    unfold QIs
    rw [e2, e3, en]
    exact ⟨form_of (by decide), by decide, fun _ => ⟨by decide, hF, hne.1, hne.2⟩⟩
  have hp : 0 < dval (49 :: List.replicate n 48) := Nat.pos_of_ne_zero fun h => hne.1 ((dval_zero_iff hF).2 h)
  refine .inr (.inr (.inl ⟨.inr (.inr (.inr ⟨hQ, ?_, ?_, ?_, rfl⟩)), en, ?_, ?_, rfl⟩))
  · rw [e2]; decide
  · rw [e3, hl]; omega
  · rw [e2, hv1]; exact Nat.gcd_one_left _
  · show dval (qn _) ≤ dval (qd _); rw [e2, e3, hv1]; exact hp
  · right; rw [e3, hl]; omega
theorem pe_big : PErr (49 :: 47 :: 49 :: List.replicate 1000 48) 5 := pe_bigN 1000 (by omega) (by omega)

theorem nbin {l : List UInt8} (h : (l.all fun c => c == 48 || c == 49) = false) : ¬ Bin l := fun hb => by
  rw [List.all_eq_true.2 fun c hc => by rcases hb c hc with rfl | rfl <;> decide] at h; cases h
theorem sh_lit (k n m d a b : Nat) (hd : 2 ^ n = d) (ha : k / Nat.gcd k d = a) (hb : d / Nat.gcd k d = b) (hd0 : d ≠ 0) (ha9 : a < 10) (hb9 : b < 10) (s : List UInt8) (h : [UInt8.ofNat (48 + a)] ++ (if b = 1 then [] else [47, UInt8.ofNat (48 + b)]) = s) : sh k n = s := by
  unfold sh
  rw [hd]
  exact qlit false k d a b hd0 ha hb ha9 hb9 s (by simpa using h)
theorem law_13 : fl (lawl 1 3 2) = [([48], [49, 47, 50]), ([49], [49, 47, 52]), ([108, 97, 116, 101], [49, 47, 52])] := by
  unfold lawl
  rw [show kzero 1 3 2 = 2 from by decide, show kone 1 3 2 = 1 from by decide, show opn 1 3 2 = 1 from by decide, sh_lit 2 2 0 4 1 2 (by decide) (by decide) (by decide) (by decide) (by decide) (by decide) [49, 47, 50] (by decide), sh_lit 1 2 0 4 1 4 (by decide) (by decide) (by decide) (by decide) (by decide) (by decide) [49, 47, 52] (by decide)]
  decide


set_option maxRecDepth 100000 in
theorem coinNames_calls (w0 : World) (ht0 : TabOk w0) :
    Calls Tryz.prog 4 #[] w0 (Ret fun v w' => v = .bool true ∧ Below w0.heap.size w0 w') := by
  have hW0 := Below.refl w0.heap.size w0
  refine enter Tryz.func4 rfl Tryz.ntmps4 (Nat.le_of_ble_eq_true rfl) ?_
  refine dr U 600 rfl trivial ?_
  refine call (f := 8) rfl rfl cb8 (clives_calls w0 ht0) ?_; rintro v w1 ⟨rfl, hB1⟩; refine ⟨_, rfl, ?_⟩; have ht1 := ht0.below hB1; have hW1 := bl_tr hW0 hB1 hW0.size; refine dr U 600 rfl trivial ?_
  have ht1 := ht0.below hW1
  refine call (f := 9) rfl rfl cb9 (draw_calls [49, 47, 50] [49] (by decide) (by decide) w1 ht1) ?_
  rintro v w2 ⟨hr, hB2⟩
  have hW2 := bl_tr hW1 hB2 hW1.size
  obtain rfl := draw_ex 1 2 (by decide) (by decide) (by decide) (nd_one (by decide)) _ _ s12 (by decide) (by decide) hr
  rw [show tos 1 2 [49] = (true, 0, 1) from by decide]
  refine ⟨_, rfl, ?_⟩
  refine dr U 600 rfl trivial ?_
  refine al U rfl rfl rfl rfl ?_
  intro b2 w3 hbB2 hsB2 hkB2 hgB2
  refine dr U 600 rfl trivial ?_
  unfold dvl
  refine st U rfl rfl rfl rfl rfl rfl rfl rfl rfl rfl (hkB2) ?_
  intro w4 hk4 hgC2 hsC2
  refine dr U 600 rfl trivial ?_
  have hz := hW2.size
  have hW3 := hW2.grown hgB2 hz (fun k e => by cases e)
  have hW4 := hW3.grown hgC2 hW3.size (fun k e => by cases e; omega)
  have hKA4 := Below.refl w4.heap.size w4
  -- 0
  have ht4 := ht0.below hW4
  refine call (f := 9) rfl rfl cb9 (draw_calls [48] [49, 49] (by decide) (by decide) w4 ht4) ?_
  rintro v w5 ⟨hr, hB5⟩
  have hW5 := bl_tr hW4 hB5 hW4.size
  have hKA5 := bl_tr hKA4 hB5 hKA4.size
  obtain rfl := draw_ex 0 1 (by decide) (by decide) (by decide) (nd_one (by decide)) _ _ s0 (by decide) (by decide) hr
  rw [show tos 0 1 [49, 49] = (true, 0, 0) from by decide]
  refine ⟨_, rfl, ?_⟩
  refine dr U 600 rfl trivial ?_
  refine al U rfl rfl rfl rfl ?_
  intro b5 w6 hbB5 hsB5 hkB5 hgB5
  refine dr U 600 rfl trivial ?_
  unfold dvl
  refine st U rfl rfl rfl rfl rfl rfl rfl rfl rfl rfl (hkB5) ?_
  intro w7 hk7 hgC5 hsC5
  refine dr U 600 rfl trivial ?_
  have hz := hW5.size
  have hW6 := hW5.grown hgB5 hz (fun k e => by cases e)
  have hW7 := hW6.grown hgC5 hW6.size (fun k e => by cases e; omega)
  have hz := hKA5.size
  have hKA6 := hKA5.grown hgB5 hz (fun k e => by cases e)
  have hKA7 := hKA6.grown hgC5 hKA6.size (fun k e => by cases e; omega)
  have hKB7 := Below.refl w7.heap.size w7
  have ht7 := ht0.below hW7
  refine call (f := 9) rfl rfl cb9 (draw_calls [49] [] (by decide) (by decide) w7 ht7) ?_
  rintro v w8 ⟨hr, hB8⟩
  have hW8 := bl_tr hW7 hB8 hW7.size
  have hKA8 := bl_tr hKA7 hB8 hKA7.size
  have hKB8 := bl_tr hKB7 hB8 hKB7.size
  obtain rfl := draw_ex 1 1 (by decide) (by decide) (by decide) (nd_one (by decide)) _ _ s1 (by decide) (by decide) hr
  rw [show tos 1 1 [] = (true, 1, 0) from by decide]
  refine ⟨_, rfl, ?_⟩
  refine dr U 600 rfl trivial ?_
  refine al U rfl rfl rfl rfl ?_
  intro b8 w9 hbB8 hsB8 hkB8 hgB8
  refine dr U 600 rfl trivial ?_
  unfold dvl
  refine st U rfl rfl rfl rfl rfl rfl rfl rfl rfl rfl (hkB8) ?_
  intro w10 hk10 hgC8 hsC8
  refine dr U 600 rfl trivial ?_
  have hz := hW8.size
  have hW9 := hW8.grown hgB8 hz (fun k e => by cases e)
  have hW10 := hW9.grown hgC8 hW9.size (fun k e => by cases e; omega)
  have hz := hKA8.size
  have hKA9 := hKA8.grown hgB8 hz (fun k e => by cases e)
  have hKA10 := hKA9.grown hgC8 hKA9.size (fun k e => by cases e; omega)
  have hz := hKB8.size
  have hKB9 := hKB8.grown hgB8 hz (fun k e => by cases e)
  have hKB10 := hKB9.grown hgC8 hKB9.size (fun k e => by cases e; omega)
  have hKC10 := Below.refl w10.heap.size w10
  have ht10 := ht0.below hW10
  refine call (f := 9) rfl rfl cb9 (draw_calls [51, 47, 52] [49, 48] (by decide) (by decide) w10 ht10) ?_
  rintro v w11 ⟨hr, hB11⟩
  have hW11 := bl_tr hW10 hB11 hW10.size
  have hKA11 := bl_tr hKA10 hB11 hKA10.size
  have hKB11 := bl_tr hKB10 hB11 hKB10.size
  have hKC11 := bl_tr hKC10 hB11 hKC10.size
  obtain rfl := draw_ex 3 4 (by decide) (by decide) (by decide) (nd_one (by decide)) _ _ s34 (by decide) (by decide) hr
  rw [show tos 3 4 [49, 48] = (true, 1, 2) from by decide]
  refine ⟨_, rfl, ?_⟩
  refine dr U 600 rfl trivial ?_
  refine al U rfl rfl rfl rfl ?_
  intro b11 w12 hbB11 hsB11 hkB11 hgB11
  refine dr U 600 rfl trivial ?_
  unfold dvl
  refine st U rfl rfl rfl rfl rfl rfl rfl rfl rfl rfl (hkB11) ?_
  intro w13 hk13 hgC11 hsC11
  refine dr U 600 rfl trivial ?_
  have hz := hW11.size
  have hW12 := hW11.grown hgB11 hz (fun k e => by cases e)
  have hW13 := hW12.grown hgC11 hW12.size (fun k e => by cases e; omega)
  have hz := hKA11.size
  have hKA12 := hKA11.grown hgB11 hz (fun k e => by cases e)
  have hKA13 := hKA12.grown hgC11 hKA12.size (fun k e => by cases e; omega)
  have hz := hKB11.size
  have hKB12 := hKB11.grown hgB11 hz (fun k e => by cases e)
  have hKB13 := hKB12.grown hgC11 hKB12.size (fun k e => by cases e; omega)
  have hz := hKC11.size
  have hKC12 := hKC11.grown hgB11 hz (fun k e => by cases e)
  have hKC13 := hKC12.grown hgC11 hKC12.size (fun k e => by cases e; omega)
  have hKE13 := Below.refl w13.heap.size w13
  have ht13 := ht0.below hW13
  refine call (f := 9) rfl rfl cb9 (draw_calls [51, 47, 52] [] (by decide) (by decide) w13 ht13) ?_
  rintro v w14 ⟨hr, hB14⟩
  have hW14 := bl_tr hW13 hB14 hW13.size
  have hKA14 := bl_tr hKA13 hB14 hKA13.size
  have hKB14 := bl_tr hKB13 hB14 hKB13.size
  have hKC14 := bl_tr hKC13 hB14 hKC13.size
  have hKE14 := bl_tr hKE13 hB14 hKE13.size
  obtain rfl := draw_ex 3 4 (by decide) (by decide) (by decide) (nd_one (by decide)) _ _ s34 (by decide) (by decide) hr
  rw [show tos 3 4 [] = (false, 0, 0) from by decide]
  refine ⟨_, rfl, ?_⟩
  refine dr U 600 rfl trivial ?_
  refine al U rfl rfl rfl rfl ?_
  intro b14 w15 hbB14 hsB14 hkB14 hgB14
  refine dr U 600 rfl trivial ?_
  unfold dvl
  refine st U rfl rfl rfl rfl rfl rfl rfl rfl rfl rfl (hkB14) ?_
  intro w16 hk16 hgC14 hsC14
  refine dr U 600 rfl trivial ?_
  have hz := hW14.size
  have hW15 := hW14.grown hgB14 hz (fun k e => by cases e)
  have hW16 := hW15.grown hgC14 hW15.size (fun k e => by cases e; omega)
  have hz := hKA14.size
  have hKA15 := hKA14.grown hgB14 hz (fun k e => by cases e)
  have hKA16 := hKA15.grown hgC14 hKA15.size (fun k e => by cases e; omega)
  have hz := hKB14.size
  have hKB15 := hKB14.grown hgB14 hz (fun k e => by cases e)
  have hKB16 := hKB15.grown hgC14 hKB15.size (fun k e => by cases e; omega)
  have hz := hKC14.size
  have hKC15 := hKC14.grown hgB14 hz (fun k e => by cases e)
  have hKC16 := hKC15.grown hgC14 hKC15.size (fun k e => by cases e; omega)
  have hz := hKE14.size
  have hKE15 := hKE14.grown hgB14 hz (fun k e => by cases e)
  have hKE16 := hKE15.grown hgC14 hKE15.size (fun k e => by cases e; omega)
  have hKF16 := Below.refl w16.heap.size w16
  have ht16 := ht0.below hW16
  refine call (f := 9) rfl rfl cb9 (draw_calls [51, 47, 50] [48] (by decide) (by decide) w16 ht16) ?_
  rintro v w17 ⟨hr, hB17⟩
  have hW17 := bl_tr hW16 hB17 hW16.size
  have hKA17 := bl_tr hKA16 hB17 hKA16.size
  have hKB17 := bl_tr hKB16 hB17 hKB16.size
  have hKC17 := bl_tr hKC16 hB17 hKC16.size
  have hKE17 := bl_tr hKE16 hB17 hKE16.size
  have hKF17 := bl_tr hKF16 hB17 hKF16.size
  obtain rfl := hr.uniq (.inl ⟨2, by decide, .inl ⟨by decide, pe_32⟩, rfl⟩)
  refine ⟨_, rfl, ?_⟩
  refine dr U 600 rfl trivial ?_
  refine al U rfl rfl rfl rfl ?_
  intro b17 w18 hbB17 hsB17 hkB17 hgB17
  refine dr U 600 rfl trivial ?_
  unfold dvl
  refine st U rfl rfl rfl rfl rfl rfl rfl rfl rfl rfl (hkB17) ?_
  intro w19 hk19 hgC17 hsC17
  refine dr U 600 rfl trivial ?_
  have hz := hW17.size
  have hW18 := hW17.grown hgB17 hz (fun k e => by cases e)
  have hW19 := hW18.grown hgC17 hW18.size (fun k e => by cases e; omega)
  have hz := hKA17.size
  have hKA18 := hKA17.grown hgB17 hz (fun k e => by cases e)
  have hKA19 := hKA18.grown hgC17 hKA18.size (fun k e => by cases e; omega)
  have hz := hKB17.size
  have hKB18 := hKB17.grown hgB17 hz (fun k e => by cases e)
  have hKB19 := hKB18.grown hgC17 hKB18.size (fun k e => by cases e; omega)
  have hz := hKC17.size
  have hKC18 := hKC17.grown hgB17 hz (fun k e => by cases e)
  have hKC19 := hKC18.grown hgC17 hKC18.size (fun k e => by cases e; omega)
  have hz := hKE17.size
  have hKE18 := hKE17.grown hgB17 hz (fun k e => by cases e)
  have hKE19 := hKE18.grown hgC17 hKE18.size (fun k e => by cases e; omega)
  have hz := hKF17.size
  have hKF18 := hKF17.grown hgB17 hz (fun k e => by cases e)
  have hKF19 := hKF18.grown hgC17 hKF18.size (fun k e => by cases e; omega)
  have ht19 := ht0.below hW19
  refine call (f := 9) rfl rfl cb9 (draw_calls [50, 47, 52] [48] (by decide) (by decide) w19 ht19) ?_
  rintro v w20 ⟨hr, hB20⟩
  have hW20 := bl_tr hW19 hB20 hW19.size
  have hKA20 := bl_tr hKA19 hB20 hKA19.size
  have hKB20 := bl_tr hKB19 hB20 hKB19.size
  have hKC20 := bl_tr hKC19 hB20 hKC19.size
  have hKE20 := bl_tr hKE19 hB20 hKE19.size
  have hKF20 := bl_tr hKF19 hB20 hKF19.size
  obtain rfl := hr.uniq (.inl ⟨3, by decide, .inl ⟨by decide, pe_24⟩, rfl⟩)
  refine ⟨_, rfl, ?_⟩
  refine dr U 600 rfl trivial ?_
  refine al U rfl rfl rfl rfl ?_
  intro b20 w21 hbB20 hsB20 hkB20 hgB20
  refine dr U 600 rfl trivial ?_
  unfold dvl
  refine st U rfl rfl rfl rfl rfl rfl rfl rfl rfl rfl (hkB20) ?_
  intro w22 hk22 hgC20 hsC20
  refine dr U 600 rfl trivial ?_
  have hz := hW20.size
  have hW21 := hW20.grown hgB20 hz (fun k e => by cases e)
  have hW22 := hW21.grown hgC20 hW21.size (fun k e => by cases e; omega)
  have hz := hKA20.size
  have hKA21 := hKA20.grown hgB20 hz (fun k e => by cases e)
  have hKA22 := hKA21.grown hgC20 hKA21.size (fun k e => by cases e; omega)
  have hz := hKB20.size
  have hKB21 := hKB20.grown hgB20 hz (fun k e => by cases e)
  have hKB22 := hKB21.grown hgC20 hKB21.size (fun k e => by cases e; omega)
  have hz := hKC20.size
  have hKC21 := hKC20.grown hgB20 hz (fun k e => by cases e)
  have hKC22 := hKC21.grown hgC20 hKC21.size (fun k e => by cases e; omega)
  have hz := hKE20.size
  have hKE21 := hKE20.grown hgB20 hz (fun k e => by cases e)
  have hKE22 := hKE21.grown hgC20 hKE21.size (fun k e => by cases e; omega)
  have hz := hKF20.size
  have hKF21 := hKF20.grown hgB20 hz (fun k e => by cases e)
  have hKF22 := hKF21.grown hgC20 hKF21.size (fun k e => by cases e; omega)
  have ht22 := ht0.below hW22
  refine call (f := 9) rfl rfl cb9 (draw_calls [49, 47, 50] [50] (by decide) (by decide) w22 ht22) ?_
  rintro v w23 ⟨hr, hB23⟩
  have hW23 := bl_tr hW22 hB23 hW22.size
  have hKA23 := bl_tr hKA22 hB23 hKA22.size
  have hKB23 := bl_tr hKB22 hB23 hKB22.size
  have hKC23 := bl_tr hKC22 hB23 hKC22.size
  have hKE23 := bl_tr hKE22 hB23 hKE22.size
  have hKF23 := bl_tr hKF22 hB23 hKF22.size
  obtain rfl := hr.uniq (.inl ⟨3, by decide, .inr ⟨pr_s12.1, .inr (.inr ⟨nbin (by decide), rfl⟩)⟩, rfl⟩)
  refine ⟨_, rfl, ?_⟩
  refine dr U 600 rfl trivial ?_
  refine al U rfl rfl rfl rfl ?_
  intro b23 w24 hbB23 hsB23 hkB23 hgB23
  refine dr U 600 rfl trivial ?_
  unfold dvl
  refine st U rfl rfl rfl rfl rfl rfl rfl rfl rfl rfl (hkB23) ?_
  intro w25 hk25 hgC23 hsC23
  refine dr U 600 rfl trivial ?_
  have hz := hW23.size
  have hW24 := hW23.grown hgB23 hz (fun k e => by cases e)
  have hW25 := hW24.grown hgC23 hW24.size (fun k e => by cases e; omega)
  have hz := hKA23.size
  have hKA24 := hKA23.grown hgB23 hz (fun k e => by cases e)
  have hKA25 := hKA24.grown hgC23 hKA24.size (fun k e => by cases e; omega)
  have hz := hKB23.size
  have hKB24 := hKB23.grown hgB23 hz (fun k e => by cases e)
  have hKB25 := hKB24.grown hgC23 hKB24.size (fun k e => by cases e; omega)
  have hz := hKC23.size
  have hKC24 := hKC23.grown hgB23 hz (fun k e => by cases e)
  have hKC25 := hKC24.grown hgC23 hKC24.size (fun k e => by cases e; omega)
  have hz := hKE23.size
  have hKE24 := hKE23.grown hgB23 hz (fun k e => by cases e)
  have hKE25 := hKE24.grown hgC23 hKE24.size (fun k e => by cases e; omega)
  have hz := hKF23.size
  have hKF24 := hKF23.grown hgB23 hz (fun k e => by cases e)
  have hKF25 := hKF24.grown hgC23 hKF24.size (fun k e => by cases e; omega)
  have ht25 := ht0.below hW25
  refine call (f := 10) rfl rfl cb10 (late_calls [49, 47, 50] (-1) (by decide) w25 ht25) ?_
  rintro v w26 ⟨hr, hB26⟩
  have hW26 := bl_tr hW25 hB26 hW25.size
  have hKA26 := bl_tr hKA25 hB26 hKA25.size
  have hKB26 := bl_tr hKB25 hB26 hKB25.size
  have hKC26 := bl_tr hKC25 hB26 hKC25.size
  have hKE26 := bl_tr hKE25 hB26 hKE25.size
  have hKF26 := bl_tr hKF25 hB26 hKF25.size
  obtain rfl := hr.uniq (.inl ⟨2, by decide, .inr (.inl ⟨pr_s12.1, .inl (by decide), rfl⟩), rfl⟩)
  refine ⟨_, rfl, ?_⟩
  refine dr U 600 rfl trivial ?_
  have ht26 := ht0.below hW26
  refine call (f := 10) rfl rfl cb10 (late_calls [49, 47, 51] 2 (by decide) w26 ht26) ?_
  rintro v w27 ⟨hr, hB27⟩
  have hW27 := bl_tr hW26 hB27 hW26.size
  have hKA27 := bl_tr hKA26 hB27 hKA26.size
  have hKB27 := bl_tr hKB26 hB27 hKB26.size
  have hKC27 := bl_tr hKC26 hB27 hKC26.size
  have hKE27 := bl_tr hKE26 hB27 hKE26.size
  have hKF27 := bl_tr hKF26 hB27 hKF26.size
  have hr := hr.uniq (.inr ⟨.inr (.inr ⟨pr_s13.1, by decide, by decide, rfl⟩), rfl⟩)
  rw [pr_s13.2.1, pr_s13.2.2, show opn 1 3 ((2 : Int).toNat) = 1 from by decide, show (2 : Int).toNat = 2 from rfl, sh_lit 1 2 0 4 1 4 (by decide) (by decide) (by decide) (by decide) (by decide) (by decide) [49, 47, 52] (by decide)] at hr
  obtain rfl := hr
  refine ⟨_, rfl, ?_⟩
  refine dr U 600 rfl trivial ?_
  have ht27 := ht0.below hW27
  refine call (f := 10) rfl rfl cb10 (late_calls [51, 47, 52] 2 (by decide) w27 ht27) ?_
  rintro v w28 ⟨hr, hB28⟩
  have hW28 := bl_tr hW27 hB28 hW27.size
  have hKA28 := bl_tr hKA27 hB28 hKA27.size
  have hKB28 := bl_tr hKB27 hB28 hKB27.size
  have hKC28 := bl_tr hKC27 hB28 hKC27.size
  have hKE28 := bl_tr hKE27 hB28 hKE27.size
  have hKF28 := bl_tr hKF27 hB28 hKF27.size
  have hr := hr.uniq (.inr ⟨.inr (.inr ⟨pr_s34.1, by decide, by decide, rfl⟩), rfl⟩)
  rw [pr_s34.2.1, pr_s34.2.2, show opn 3 4 ((2 : Int).toNat) = 0 from by decide, show (2 : Int).toNat = 2 from rfl, sh_lit 0 2 0 4 0 1 (by decide) (by decide) (by decide) (by decide) (by decide) (by decide) [48] (by decide)] at hr
  obtain rfl := hr
  refine ⟨_, rfl, ?_⟩
  refine dr U 600 rfl trivial ?_
  have ht28 := ht0.below hW28
  refine call (f := 10) rfl rfl cb10 (late_calls [51, 47, 52] 1 (by decide) w28 ht28) ?_
  rintro v w29 ⟨hr, hB29⟩
  have hW29 := bl_tr hW28 hB29 hW28.size
  have hKA29 := bl_tr hKA28 hB29 hKA28.size
  have hKB29 := bl_tr hKB28 hB29 hKB28.size
  have hKC29 := bl_tr hKC28 hB29 hKC28.size
  have hKE29 := bl_tr hKE28 hB29 hKE28.size
  have hKF29 := bl_tr hKF28 hB29 hKF28.size
  have hr := hr.uniq (.inr ⟨.inr (.inr ⟨pr_s34.1, by decide, by decide, rfl⟩), rfl⟩)
  rw [pr_s34.2.1, pr_s34.2.2, show opn 3 4 ((1 : Int).toNat) = 1 from by decide, show (1 : Int).toNat = 1 from rfl, sh_lit 1 1 0 2 1 2 (by decide) (by decide) (by decide) (by decide) (by decide) (by decide) [49, 47, 50] (by decide)] at hr
  obtain rfl := hr
  refine ⟨_, rfl, ?_⟩
  refine dr U 600 rfl trivial ?_
  have ht29 := ht0.below hW29
  refine call (f := 11) rfl rfl cb11 (law_calls [49, 47, 51] 2 (by decide) w29 ht29) ?_
  rintro v w30 ⟨hr, hB30⟩
  have hW30 := bl_tr hW29 hB30 hW29.size
  have hKA30 := bl_tr hKA29 hB30 hKA29.size
  have hKB30 := bl_tr hKB29 hB30 hKB29.size
  have hKC30 := bl_tr hKC29 hB30 hKC29.size
  have hKE30 := bl_tr hKE29 hB30 hKE29.size
  have hKF30 := bl_tr hKF29 hB30 hKF29.size
  rcases hr with ⟨e, h0, hle, rfl⟩ | ⟨_, la, lc, rfl, hsl⟩
  · exact absurd (hle.uniq (.inr (.inr ⟨pr_s13.1, by decide, by decide, rfl⟩))) h0
  rw [pr_s13.2.1, pr_s13.2.2, show (2 : Int).toNat = 2 from rfl, law_13] at hsl ⊢
  refine ⟨_, rfl, ?_⟩
  refine dr U 600 rfl trivial ?_
  have hKL30 := Below.refl w30.heap.size w30
  have ht30 := ht0.below hW30
  refine call (f := 9) rfl rfl cb9 (draw_calls [45, 49, 47, 50] [48] (by decide) (by decide) w30 ht30) ?_
  rintro v w31 ⟨hr, hB31⟩
  have hW31 := bl_tr hW30 hB31 hW30.size
  have hKA31 := bl_tr hKA30 hB31 hKA30.size
  have hKB31 := bl_tr hKB30 hB31 hKB30.size
  have hKC31 := bl_tr hKC30 hB31 hKC30.size
  have hKE31 := bl_tr hKE30 hB31 hKE30.size
  have hKF31 := bl_tr hKF30 hB31 hKF30.size
  have hKL31 := bl_tr hKL30 hB31 hKL30.size
  obtain rfl := hr.uniq (.inl ⟨2, by decide, .inl ⟨by decide, pe_m12⟩, rfl⟩)
  refine ⟨_, rfl, ?_⟩
  refine dr U 600 rfl trivial ?_
  refine al U rfl rfl rfl rfl ?_
  intro b31 w32 hbB31 hsB31 hkB31 hgB31
  refine dr U 600 rfl trivial ?_
  unfold dvl
  refine st U rfl rfl rfl rfl rfl rfl rfl rfl rfl rfl (hkB31) ?_
  intro w33 hk33 hgC31 hsC31
  refine dr U 600 rfl trivial ?_
  have hz := hW31.size
  have hW32 := hW31.grown hgB31 hz (fun k e => by cases e)
  have hW33 := hW32.grown hgC31 hW32.size (fun k e => by cases e; omega)
  have hz := hKA31.size
  have hKA32 := hKA31.grown hgB31 hz (fun k e => by cases e)
  have hKA33 := hKA32.grown hgC31 hKA32.size (fun k e => by cases e; omega)
  have hz := hKB31.size
  have hKB32 := hKB31.grown hgB31 hz (fun k e => by cases e)
  have hKB33 := hKB32.grown hgC31 hKB32.size (fun k e => by cases e; omega)
  have hz := hKC31.size
  have hKC32 := hKC31.grown hgB31 hz (fun k e => by cases e)
  have hKC33 := hKC32.grown hgC31 hKC32.size (fun k e => by cases e; omega)
  have hz := hKE31.size
  have hKE32 := hKE31.grown hgB31 hz (fun k e => by cases e)
  have hKE33 := hKE32.grown hgC31 hKE32.size (fun k e => by cases e; omega)
  have hz := hKF31.size
  have hKF32 := hKF31.grown hgB31 hz (fun k e => by cases e)
  have hKF33 := hKF32.grown hgC31 hKF32.size (fun k e => by cases e; omega)
  have hz := hKL31.size
  have hKL32 := hKL31.grown hgB31 hz (fun k e => by cases e)
  have hKL33 := hKL32.grown hgC31 hKL32.size (fun k e => by cases e; omega)
  refine call (f := 12) rfl rfl cb12 (times_str [48] 1000 (by decide) (by decide) (by decide) w33) ?_
  rintro v w34 ⟨rfl, hB34⟩
  have hW34 := bl_tr hW33 hB34 hW33.size
  have hKA34 := bl_tr hKA33 hB34 hKA33.size
  have hKB34 := bl_tr hKB33 hB34 hKB33.size
  have hKC34 := bl_tr hKC33 hB34 hKC33.size
  have hKE34 := bl_tr hKE33 hB34 hKE33.size
  have hKF34 := bl_tr hKF33 hB34 hKF33.size
  have hKL34 := bl_tr hKL33 hB34 hKL33.size
  refine ⟨_, rfl, ?_⟩
  rw [reps_one]
  refine dr U 600 rfl (by simp only [AllP, InR, List.nil_append, List.cons_append, and_true, List.length_cons, List.length_nil, List.length_append, List.length_replicate]; omega) ?_
  have ht34 := ht0.below hW34
  refine call (f := 9) rfl rfl cb9 (draw_calls (49 :: 47 :: 49 :: List.replicate 1000 48) [48] (by simp only [List.length_cons, List.length_replicate]; decide) (by decide) w34 ht34) ?_
  rintro v w35 ⟨hr, hB35⟩
  have hW35 := bl_tr hW34 hB35 hW34.size
  have hKA35 := bl_tr hKA34 hB35 hKA34.size
  have hKB35 := bl_tr hKB34 hB35 hKB34.size
  have hKC35 := bl_tr hKC34 hB35 hKC34.size
  have hKE35 := bl_tr hKE34 hB35 hKE34.size
  have hKF35 := bl_tr hKF34 hB35 hKF34.size
  have hKL35 := bl_tr hKL34 hB35 hKL34.size
  obtain rfl := hr.uniq (.inl ⟨5, by decide, .inl ⟨by decide, pe_big⟩, rfl⟩)
  refine ⟨_, rfl, ?_⟩
  refine dr U 600 rfl trivial ?_
  refine al U rfl rfl rfl rfl ?_
  intro b35 w36 hbB35 hsB35 hkB35 hgB35
  refine dr U 600 rfl trivial ?_
  unfold dvl
  refine st U rfl rfl rfl rfl rfl rfl rfl rfl rfl rfl (hkB35) ?_
  intro w37 hk37 hgC35 hsC35
  refine dr U 600 rfl trivial ?_
  have hz := hW35.size
  have hW36 := hW35.grown hgB35 hz (fun k e => by cases e)
  have hW37 := hW36.grown hgC35 hW36.size (fun k e => by cases e; omega)
  have hz := hKA35.size
  have hKA36 := hKA35.grown hgB35 hz (fun k e => by cases e)
  have hKA37 := hKA36.grown hgC35 hKA36.size (fun k e => by cases e; omega)
  have hz := hKB35.size
  have hKB36 := hKB35.grown hgB35 hz (fun k e => by cases e)
  have hKB37 := hKB36.grown hgC35 hKB36.size (fun k e => by cases e; omega)
  have hz := hKC35.size
  have hKC36 := hKC35.grown hgB35 hz (fun k e => by cases e)
  have hKC37 := hKC36.grown hgC35 hKC36.size (fun k e => by cases e; omega)
  have hz := hKE35.size
  have hKE36 := hKE35.grown hgB35 hz (fun k e => by cases e)
  have hKE37 := hKE36.grown hgC35 hKE36.size (fun k e => by cases e; omega)
  have hz := hKF35.size
  have hKF36 := hKF35.grown hgB35 hz (fun k e => by cases e)
  have hKF37 := hKF36.grown hgC35 hKF36.size (fun k e => by cases e; omega)
  have hz := hKL35.size
  have hKL36 := hKL35.grown hgB35 hz (fun k e => by cases e)
  have hKL37 := hKL36.grown hgC35 hKL36.size (fun k e => by cases e; omega)
  refine call (f := 12) rfl rfl cb12 (times_str [48] 257 (by decide) (by decide) (by decide) w37) ?_
  rintro v w38 ⟨rfl, hB38⟩
  have hW38 := bl_tr hW37 hB38 hW37.size
  have hKA38 := bl_tr hKA37 hB38 hKA37.size
  have hKB38 := bl_tr hKB37 hB38 hKB37.size
  have hKC38 := bl_tr hKC37 hB38 hKC37.size
  have hKE38 := bl_tr hKE37 hB38 hKE37.size
  have hKF38 := bl_tr hKF37 hB38 hKF37.size
  have hKL38 := bl_tr hKL37 hB38 hKL37.size
  refine ⟨_, rfl, ?_⟩
  rw [reps_one]
  refine dr U 600 rfl trivial ?_
  have ht38 := ht0.below hW38
  refine call (f := 9) rfl rfl cb9 (draw_calls [49, 47, 50] (List.replicate 257 48) (by decide) (by rw [List.length_replicate]; decide) w38 ht38) ?_
  rintro v w39 ⟨hr, hB39⟩
  have hW39 := bl_tr hW38 hB39 hW38.size
  have hKA39 := bl_tr hKA38 hB39 hKA38.size
  have hKB39 := bl_tr hKB38 hB39 hKB38.size
  have hKC39 := bl_tr hKC38 hB39 hKC38.size
  have hKE39 := bl_tr hKE38 hB39 hKE38.size
  have hKF39 := bl_tr hKF38 hB39 hKF38.size
  have hKL39 := bl_tr hKL38 hB39 hKL38.size
  obtain rfl := hr.uniq (.inl ⟨4, by decide, .inr ⟨pr_s12.1, .inr (.inl ⟨fun c hc => .inl (List.eq_of_mem_replicate hc), by rw [List.length_replicate]; decide, rfl⟩)⟩, rfl⟩)
  refine ⟨_, rfl, ?_⟩
  refine dr U 600 rfl trivial ?_
  refine al U rfl rfl rfl rfl ?_
  intro b39 w40 hbB39 hsB39 hkB39 hgB39
  refine dr U 600 rfl trivial ?_
  unfold dvl
  refine st U rfl rfl rfl rfl rfl rfl rfl rfl rfl rfl (hkB39) ?_
  intro w41 hk41 hgC39 hsC39
  refine dr U 600 rfl trivial ?_
  have hz := hW39.size
  have hW40 := hW39.grown hgB39 hz (fun k e => by cases e)
  have hW41 := hW40.grown hgC39 hW40.size (fun k e => by cases e; omega)
  have hz := hKA39.size
  have hKA40 := hKA39.grown hgB39 hz (fun k e => by cases e)
  have hKA41 := hKA40.grown hgC39 hKA40.size (fun k e => by cases e; omega)
  have hz := hKB39.size
  have hKB40 := hKB39.grown hgB39 hz (fun k e => by cases e)
  have hKB41 := hKB40.grown hgC39 hKB40.size (fun k e => by cases e; omega)
  have hz := hKC39.size
  have hKC40 := hKC39.grown hgB39 hz (fun k e => by cases e)
  have hKC41 := hKC40.grown hgC39 hKC40.size (fun k e => by cases e; omega)
  have hz := hKE39.size
  have hKE40 := hKE39.grown hgB39 hz (fun k e => by cases e)
  have hKE41 := hKE40.grown hgC39 hKE40.size (fun k e => by cases e; omega)
  have hz := hKF39.size
  have hKF40 := hKF39.grown hgB39 hz (fun k e => by cases e)
  have hKF41 := hKF40.grown hgC39 hKF40.size (fun k e => by cases e; omega)
  have hz := hKL39.size
  have hKL40 := hKL39.grown hgB39 hz (fun k e => by cases e)
  have hKL41 := hKL40.grown hgC39 hKL40.size (fun k e => by cases e; omega)
  have ht41 := ht0.below hW41
  refine call (f := 11) rfl rfl cb11 (law_calls [49, 47, 50] 257 (by decide) w41 ht41) ?_
  rintro v w42 ⟨hr, hB42⟩
  have hW42 := bl_tr hW41 hB42 hW41.size
  have hKA42 := bl_tr hKA41 hB42 hKA41.size
  have hKB42 := bl_tr hKB41 hB42 hKB41.size
  have hKC42 := bl_tr hKC41 hB42 hKC41.size
  have hKE42 := bl_tr hKE41 hB42 hKE41.size
  have hKF42 := bl_tr hKF41 hB42 hKF41.size
  have hKL42 := bl_tr hKL41 hB42 hKL41.size
  rcases Or.symm (show _ ∨ _ from hr) with ⟨hle, _⟩ | ⟨e, h0, hle, rfl⟩
  · cases hle.uniq (.inr (.inl ⟨pr_s12.1, .inr (by decide), rfl⟩))
  obtain rfl := hle.uniq (.inr (.inl ⟨pr_s12.1, .inr (by decide), rfl⟩))
  refine ⟨_, rfl, ?_⟩
  refine dr U 600 rfl trivial ?_
  refine cF rfl rfl rfl ((fun h => h rfl)) ?_; refine dr U 600 rfl trivial ?_
  refine cF rfl rfl rfl ((fun h => h rfl)) ?_; refine dr U 600 rfl trivial ?_
  refine cF rfl rfl rfl ((fun h => h rfl)) ?_; refine dr U 600 rfl trivial ?_
  refine cF rfl rfl rfl ((fun h => h rfl)) ?_; refine dr U 600 rfl trivial ?_
  refine cF rfl rfl rfl ((fun h => h rfl)) ?_; refine dr U 600 rfl trivial ?_
  refine cF rfl rfl rfl ((fun h => h rfl)) ?_; refine dr U 600 rfl trivial ?_
  refine cF rfl rfl rfl ((fun h => h rfl)) ?_; refine dr U 600 rfl trivial ?_
  refine cF rfl rfl rfl ((fun h => h rfl)) ?_; refine dr U 600 rfl trivial ?_
  have hk := hk4.below hKA42 hk4.lt
  refine lg rfl ag_draw rfl rfl hk rfl ?_
  refine dr U 600 rfl trivial ?_
  refine eqA rfl rfl eg_draw (draw_eq _ _ _ _ _ _) rfl rfl ?_
  rw [decide_eq_true (by decide)]
  refine dr U 600 rfl trivial ?_
  have hk := hk7.below hKB42 hk7.lt
  refine lg rfl ag_draw rfl rfl hk rfl ?_
  refine dr U 600 rfl trivial ?_
  refine eqA rfl rfl eg_draw (draw_eq _ _ _ _ _ _) rfl rfl ?_
  rw [decide_eq_true (by decide)]
  refine dr U 600 rfl trivial ?_
  have hk := hk10.below hKC42 hk10.lt
  refine lg rfl ag_draw rfl rfl hk rfl ?_
  refine dr U 600 rfl trivial ?_
  refine eqA rfl rfl eg_draw (draw_eq _ _ _ _ _ _) rfl rfl ?_
  rw [decide_eq_true (by decide)]
  refine dr U 600 rfl trivial ?_
  have hk := hk13.below hKE42 hk13.lt
  refine lg rfl ag_draw rfl rfl hk rfl ?_
  refine dr U 600 rfl trivial ?_
  refine eqA rfl rfl eg_draw (draw_eq _ _ _ _ _ _) rfl rfl ?_
  rw [decide_eq_true (by decide)]
  refine dr U 600 rfl trivial ?_
  have hk := hk16.below hKF42 hk16.lt
  refine lg rfl ag_draw rfl rfl hk rfl ?_
  refine dr U 600 rfl trivial ?_
  refine eqA rfl rfl eg_draw (draw_eq _ _ _ _ _ _) rfl rfl ?_
  rw [decide_eq_true (by decide)]
  refine dr U 600 rfl trivial ?_
  refine cT rfl rfl rfl (rfl) ?_; refine dr U 600 rfl trivial ?_
  refine cT rfl rfl rfl (rfl) ?_; refine dr U 600 rfl trivial ?_
  refine cT rfl rfl rfl (rfl) ?_; refine dr U 600 rfl trivial ?_
  refine bsS U [[.string ⟨⟨[48]⟩⟩, .string ⟨⟨[49, 47, 50]⟩⟩], [.string ⟨⟨[49]⟩⟩, .string ⟨⟨[49, 47, 52]⟩⟩], [.string ⟨⟨[108, 97, 116, 101]⟩⟩, .string ⟨⟨[49, 47, 52]⟩⟩]] rfl rfl rfl rfl rfl rfl (by decide) (by decide) (by intro cs h; simp at h; rcases h with rfl | rfl | rfl <;> rfl) ?_
  intro wz hkz hsz hgz
  have hWz := hW42.grown hgz hW42.size (fun k e => by cases e)
  have hLz := hKL42.grown hgz hKL42.size (fun k e => by cases e)
  have hsz : Sl wz (some ⟨w42.heap.size, 0, none⟩) (mcells [([48], [49, 47, 50]), ([49], [49, 47, 52]), ([108, 97, 116, 101], [49, 47, 52])]) := hkz.sl 0
  have hsm := samem_calls [([48], [49, 47, 50]), ([49], [49, 47, 52]), ([108, 97, 116, 101], [49, 47, 52])] [([48], [49, 47, 50]), ([49], [49, 47, 52]), ([108, 97, 116, 101], [49, 47, 52])] la (some ⟨w42.heap.size, 0, none⟩) lc 3 wz (hsl.stay hLz) hsz (by show 3 ≤ 1099511627776; decide) (by show 3 ≤ 1099511627776; decide)
  rw [decide_eq_true rfl] at hsm
  refine call (f := 13) rfl rfl cb13 hsm ?_
  rintro v wy ⟨rfl, hBy⟩
  have hWy := bl_tr hWz hBy hWz.size
  refine ⟨_, rfl, ?_⟩
  refine dr U 600 rfl trivial ?_
  exact ret Tryz.results4 rfl ⟨_, rfl, rfl, hWy⟩
end Go.Proofs.YtabplbmbnakalaaGreatDoor
