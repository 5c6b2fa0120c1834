/-
  The law BitsNames: it returns true.
  Conditions: the library's table of powers of ten is laid.
-/
import Derived.Test.YtcnbohfejgdcbaaGreatDoorYLawG
import Derived.Test.YtcnbohfejgdcbaaGreatDoorYLawF
import Derived.Test.YtcnbohfejgdcbaaGreatDoorYLawC
set_option linter.unusedSimpArgs false
set_option linter.unusedVariables false
set_option maxHeartbeats 2000000
namespace Go.Proofs.YtcnbohfejgdcbaaGreatDoor
open Go Go.Proofs Go.RowKit Go.Lib

theorem WordR.uniq {x : List UInt8} {n : Int} {v v' : Value} (h : WordR x n v) (h' : WordR x n v') : v = v' := by
  rcases h with ⟨e, h1, h2, rfl⟩ | ⟨h1, h2, rfl⟩ | ⟨h1, h2, h3, h4, rfl⟩ <;> rcases h' with ⟨e', g1, g2, rfl⟩ | ⟨g1, g2, rfl⟩ | ⟨g1, g2, g3, g4, rfl⟩ <;> first
    | rfl
    | (rw [h2.uniq' g2])
    | exact absurd (h2.uniq' g1) h1
    | exact absurd (g2.uniq' h1) g1
    | (exfalso; omega)
theorem digs_of {l : List UInt8} (h : (l.all fun c => decide (48 ≤ c.toNat) && decide (c.toNat ≤ 57)) = true) : Dgs l := fun c hc => by
  have := List.all_eq_true.1 h c hc
  simp at this; exact this
theorem d5 : decDigits (bval [49, 48, 49]) = [53] := by rw [show bval [49, 48, 49] = 5 from rfl, decDigits_one (by omega)]; rfl
theorem d0 : decDigits (bval []) = [48] := by rw [show bval [] = 0 from rfl, decDigits_one (by omega)]; rfl
theorem q0 : qtext (mkq false (bval []) (2 ^ ([] : List UInt8).length)) = [48] := by
  rw [qtext_mkq _ _ _ (by decide), show bval [] / Nat.gcd (bval []) (2 ^ ([] : List UInt8).length) = 0 from by decide,
    show 2 ^ ([] : List UInt8).length / Nat.gcd (bval []) (2 ^ ([] : List UInt8).length) = 1 from by decide, decDigits_one (by omega)]
  rfl
theorem q1 : qtext (mkq false 1 (2 ^ ([] : List UInt8).length)) = [49] := by
  rw [qtext_mkq _ _ _ (by decide), show 1 / Nat.gcd 1 (2 ^ ([] : List UInt8).length) = 1 from by decide,
    show 2 ^ ([] : List UInt8).length / Nat.gcd 1 (2 ^ ([] : List UInt8).length) = 1 from by decide, decDigits_one (by omega)]
  rfl

theorem nm1 (w : World) (ht : TabOk w) : Calls Tryz.prog 14 #[.string ⟨⟨[49, 48, 49]⟩⟩] w (Ret fun v w' => v = .tuple ⟨[.string ⟨⟨[53]⟩⟩, .int .i64 0]⟩ ∧ Below w.heap.size w w') :=
  (number_calls' [49, 48, 49] (by decide) w ht).mono (by rintro e w' ⟨v, rfl, h, hB⟩; exact ⟨v, rfl, h.uniq (.inr ⟨.inl ⟨bin_of (by decide), by decide, rfl⟩, by rw [d5]⟩), hB⟩)
theorem nm2 (w : World) (ht : TabOk w) : Calls Tryz.prog 14 #[.string ⟨⟨[]⟩⟩] w (Ret fun v w' => v = .tuple ⟨[.string ⟨⟨[48]⟩⟩, .int .i64 0]⟩ ∧ Below w.heap.size w w') :=
  (number_calls' [] (by decide) w ht).mono (by rintro e w' ⟨v, rfl, h, hB⟩; exact ⟨v, rfl, h.uniq (.inr ⟨.inl ⟨bin_of (by decide), by decide, rfl⟩, by rw [d0]⟩), hB⟩)
theorem chk5 : Chk [53] 0 := .inl ⟨⟨by simp, .inr (by decide), digs_of (by decide)⟩, by decide, rfl⟩
theorem wd1 (w : World) (ht : TabOk w) : Calls Tryz.prog 15 #[.string ⟨⟨[53]⟩⟩, .int .i64 4] w (Ret fun v w' => v = .tuple ⟨[.string ⟨⟨[48, 49, 48, 49]⟩⟩, .int .i64 0]⟩ ∧ Below w.heap.size w w') :=
  (word_calls [53] 4 (by decide) (by omega) w ht).mono (by rintro e w' ⟨v, rfl, h, hB⟩; exact ⟨v, rfl, h.uniq (.inr (.inr ⟨chk5, by omega, by omega, by decide, rfl⟩)), hB⟩)
theorem wd2 (w : World) (ht : TabOk w) : Calls Tryz.prog 15 #[.string ⟨⟨[53]⟩⟩, .int .i64 2] w (Ret fun v w' => v = .tuple ⟨[.string ⟨⟨[]⟩⟩, .int .i64 2]⟩ ∧ Below w.heap.size w w') :=
  (word_calls [53] 2 (by decide) (by omega) w ht).mono (by rintro e w' ⟨v, rfl, h, hB⟩; exact ⟨v, rfl, h.uniq (.inr (.inl ⟨chk5, .inr (.inr (by decide)), rfl⟩)), hB⟩)
theorem wd3 (w : World) (ht : TabOk w) : Calls Tryz.prog 15 #[.string ⟨⟨[]⟩⟩, .int .i64 2] w (Ret fun v w' => v = .tuple ⟨[.string ⟨⟨[]⟩⟩, .int .i64 3]⟩ ∧ Below w.heap.size w w') :=
  (word_calls [] 2 (by decide) (by omega) w ht).mono (by rintro e w' ⟨v, rfl, h, hB⟩; exact ⟨v, rfl, h.uniq (.inl ⟨3, by decide, .inr (.inr ⟨fun h => h.1 rfl, rfl⟩), rfl⟩), hB⟩)
theorem wd4 (w : World) (ht : TabOk w) : Calls Tryz.prog 15 #[.string ⟨⟨[48]⟩⟩, .int .i64 (-1)] w (Ret fun v w' => v = .tuple ⟨[.string ⟨⟨[]⟩⟩, .int .i64 2]⟩ ∧ Below w.heap.size w w') :=
  (word_calls [48] (-1) (by decide) (by omega) w ht).mono (by rintro e w' ⟨v, rfl, h, hB⟩; exact ⟨v, rfl, h.uniq (.inr (.inl ⟨.inl ⟨⟨by simp, .inl rfl, digs_of (by decide)⟩, by decide, rfl⟩, .inl (by omega), rfl⟩)), hB⟩)
theorem al1 (w : World) (ht : TabOk w) : Calls Tryz.prog 10 #[.int .i64 13] w (Ret fun v w' => v = .tuple ⟨[.slice none 0 0, .int .i64 2]⟩ ∧ Below w.heap.size w w') :=
  (all_calls 13 (by omega) w).mono (by
    rintro e w' ⟨v, rfl, h, hB⟩
    rcases h with ⟨_, h⟩ | ⟨_, h, _⟩
    · exact ⟨v, rfl, h, hB⟩
    · exfalso; omega)
theorem ce1 (w : World) (ht : TabOk w) : Calls Tryz.prog 11 #[.string ⟨⟨[]⟩⟩] w (Ret fun v w' => v = .tuple ⟨[.string ⟨⟨[48]⟩⟩, .string ⟨⟨[49]⟩⟩, .int .i64 0]⟩ ∧ Below w.heap.size w w') :=
  (cell_calls [] (by decide) w ht).mono (by rintro e w' ⟨v, rfl, h, hB⟩; exact ⟨v, rfl, h.uniq (.inr ⟨.inl ⟨bin_of (by decide), by decide, rfl⟩, by rw [q0, q1]⟩), hB⟩)
theorem cu1 (w : World) (ht : TabOk w) : Calls Tryz.prog 16 #[.string ⟨⟨[48, 49, 48]⟩⟩, .int .i64 2] w (Ret fun v w' => v = .tuple ⟨[.slice none 0 0, .int .i64 16]⟩ ∧ Below w.heap.size w w') :=
  (cut_calls [48, 49, 48] 2 (by decide) (by omega) w).mono (by
    rintro e w' ⟨v, rfl, h, hB⟩
    rcases h with ⟨h, _⟩ | ⟨_, h, _⟩ | ⟨_, _, _, _, h⟩ | ⟨_, _, _, h, _⟩
    · exact absurd (bin_of (by decide)) h
    · exfalso; omega
    · exact ⟨v, rfl, h, hB⟩
    · exact absurd h (by decide))
theorem cu2 (w : World) (ht : TabOk w) : Calls Tryz.prog 16 #[.string ⟨⟨[]⟩⟩, .int .i64 0] w (Ret fun v w' => v = .tuple ⟨[.slice none 0 0, .int .i64 2]⟩ ∧ Below w.heap.size w w') :=
  (cut_calls [] 0 (by decide) (by omega) w).mono (by
    rintro e w' ⟨v, rfl, h, hB⟩
    rcases h with ⟨h, _⟩ | ⟨_, h, h'⟩ | ⟨_, h, _⟩ | ⟨_, h, _⟩
    · exact absurd (bin_of (by decide)) h
    · exact ⟨v, rfl, h', hB⟩
    · exfalso; omega
    · exfalso; omega)
theorem CutR.six {v : Value} {W w : World} (h : CutR [48, 49, 48, 48, 49, 49] 2 W v w) :
    ∃ a c, v = .tuple ⟨[.slice a 3 c, .int .i64 0]⟩ ∧ w.ownsRow W.heap.size 30 1 (.slice a 3 c) 3 (strs (cuts 2 [48, 49, 48, 48, 49, 49] 3)) := by
  rcases h with ⟨h, _⟩ | ⟨_, h, _⟩ | ⟨_, _, _, h, _⟩ | ⟨_, _, _, _, h⟩
  · exact absurd (bin_of (by decide)) h
  · exfalso; omega
  · exact absurd (by decide) h
  · exact h
theorem reps_bin {s : List UInt8} (h : Bin s) : ∀ k, Bin (reps s k)
  | 0, c, hc => by cases hc
  | k + 1, c, hc => by
    rw [reps, List.mem_append] at hc
    rcases hc with hc | hc
    · exact reps_bin h k c hc
    · exact h c hc

theorem bitsNames_calls (w0 : World) (ht0 : TabOk w0) : Calls Tryz.prog 7 #[] w0 (Ret fun v w' => v = .bool true ∧ Below w0.heap.size w0 w') := by
  have hW0 := Below.refl w0.heap.size w0
  refine enter Tryz.func7 rfl Tryz.ntmps7 (Nat.le_of_ble_eq_true rfl) ?_
  refine dr U 600 rfl trivial ?_
  refine call (f := 9) rfl rfl cb9 (blives_calls w0 ht0) ?_; rintro v w1 ⟨rfl, hB1⟩; refine ⟨_, rfl, ?_⟩; have ht1 := ht0.below hB1; have hW1 := bl_tr hW0 hB1 hW0.size; refine dr U 600 rfl trivial ?_
  refine call (f := 14) rfl rfl cb14 (nm1 w1 ht1) ?_; rintro v w2 ⟨rfl, hB2⟩; refine ⟨_, rfl, ?_⟩; have ht2 := ht1.below hB2; have hW2 := bl_tr hW1 hB2 hW1.size; refine dr U 600 rfl trivial ?_
  refine call (f := 14) rfl rfl cb14 (nm2 w2 ht2) ?_; rintro v w3 ⟨rfl, hB3⟩; refine ⟨_, rfl, ?_⟩; have ht3 := ht2.below hB3; have hW3 := bl_tr hW2 hB3 hW2.size; refine dr U 600 rfl trivial ?_
  refine call (f := 15) rfl rfl cb15 (wd1 w3 ht3) ?_; rintro v w4 ⟨rfl, hB4⟩; refine ⟨_, rfl, ?_⟩; have ht4 := ht3.below hB4; have hW4 := bl_tr hW3 hB4 hW3.size; refine dr U 600 rfl trivial ?_
  refine call (f := 15) rfl rfl cb15 (wd2 w4 ht4) ?_; rintro v w5 ⟨rfl, hB5⟩; refine ⟨_, rfl, ?_⟩; have ht5 := ht4.below hB5; have hW5 := bl_tr hW4 hB5 hW4.size; refine dr U 600 rfl trivial ?_
  refine call (f := 10) rfl rfl cb10 (al1 w5 ht5) ?_; rintro v w6 ⟨rfl, hB6⟩; refine ⟨_, rfl, ?_⟩; have ht6 := ht5.below hB6; have hW6 := bl_tr hW5 hB6 hW5.size; refine dr U 600 rfl trivial ?_
  refine bs1 U (v := .int .u8 160) rfl rfl rfl rfl rfl rfl rfl ?_
  intro w7 hk7 hs7 hg7
  have hW7 := hW6.grown hg7 hW6.size (fun k e => by cases e)
  refine dr U 600 rfl trivial ?_
  refine call (f := 19) rfl rfl cb19 (frombytes_calls [160] 3 (some ⟨w6.heap.size, 0, none⟩) 1 w7 (hk7.sl 0) (by decide) (by omega)) ?_
  rintro v w8 ⟨hr, hB8⟩
  obtain rfl := hr.uniq (.inr (.inr ⟨by omega, by omega, by decide, rfl⟩))
  refine ⟨_, rfl, ?_⟩
  have hW8 := bl_tr hW7 hB8 hW7.size
  refine dr U 600 rfl trivial ?_
  refine bs1 U (v := .int .u8 160) rfl rfl rfl rfl rfl rfl rfl ?_
  intro w9 hk9 hs9 hg9
  have hW9 := hW8.grown hg9 hW8.size (fun k e => by cases e)
  refine dr U 600 rfl trivial ?_
  refine call (f := 19) rfl rfl cb19 (frombytes_calls [160] 9 (some ⟨w8.heap.size, 0, none⟩) 1 w9 (hk9.sl 0) (by decide) (by omega)) ?_
  rintro v w10 ⟨hr, hB10⟩
  obtain rfl := hr.uniq (.inr (.inl ⟨by omega, by omega, by decide, rfl⟩))
  refine ⟨_, rfl, ?_⟩
  have hW10 := bl_tr hW9 hB10 hW9.size
  refine dr U 600 rfl trivial ?_
  refine call (f := 16) rfl rfl cb16 (cut_calls [48, 49, 48, 48, 49, 49] 2 (by decide) (by omega) w10) ?_
  rintro v w11 ⟨hr, hB11⟩
  obtain ⟨a, c, rfl, ho⟩ := hr.six
  refine ⟨_, rfl, ?_⟩
  have hW11 := bl_tr hW10 hB11 hW10.size
  have ht11 := ht0.below hW11
  have hx := own_sl ho
  refine dr U 600 rfl trivial ?_
  refine call (f := 16) rfl rfl cb16 (cu1 w11 ht11) ?_; rintro v w12 ⟨rfl, hB12⟩; refine ⟨_, rfl, ?_⟩; have ht12 := ht11.below hB12; have hW12 := bl_tr hW11 hB12 hW11.size; refine dr U 600 rfl trivial ?_
  have hx := hx.stay hB12
  refine call (f := 15) rfl rfl cb15 (wd3 w12 ht12) ?_; rintro v w13 ⟨rfl, hB13⟩; refine ⟨_, rfl, ?_⟩; have ht13 := ht12.below hB13; have hW13 := bl_tr hW12 hB13 hW12.size; refine dr U 600 rfl trivial ?_
  have hx := hx.stay hB13
  refine call (f := 15) rfl rfl cb15 (wd4 w13 ht13) ?_; rintro v w14 ⟨rfl, hB14⟩; refine ⟨_, rfl, ?_⟩; have ht14 := ht13.below hB14; have hW14 := bl_tr hW13 hB14 hW13.size; refine dr U 600 rfl trivial ?_
  have hx := hx.stay hB14
  refine call (f := 11) rfl rfl cb11 (ce1 w14 ht14) ?_; rintro v w15 ⟨rfl, hB15⟩; refine ⟨_, rfl, ?_⟩; have ht15 := ht14.below hB15; have hW15 := bl_tr hW14 hB15 hW14.size; refine dr U 600 rfl trivial ?_
  have hx := hx.stay hB15
  refine call (f := 20) rfl rfl cb20 (times_str [49] 257 (by decide) (by omega) (by decide) w15) ?_
  rintro v w16 ⟨rfl, hB16⟩
  refine ⟨_, rfl, ?_⟩
  have hW16 := bl_tr hW15 hB16 hW15.size
  have ht16 := ht0.below hW16
  have hx := hx.stay hB16
  refine dr U 600 rfl trivial ?_
  refine call (f := 14) rfl rfl cb14 (number_calls' (reps [49] 257) (by rw [reps_length]; decide) w16 ht16) ?_
  rintro v w17 ⟨hr, hB17⟩
  obtain rfl := hr.uniq (.inl ⟨4, by decide, .inr (.inl ⟨reps_bin (bin_of (by decide)) _, by rw [reps_length]; decide, rfl⟩), rfl⟩)
  refine ⟨_, rfl, ?_⟩
  have hW17 := bl_tr hW16 hB17 hW16.size
  have ht17 := ht0.below hW17
  have hx := hx.stay hB17
  refine dr U 600 rfl trivial ?_
  refine call (f := 16) rfl rfl cb16 (cu2 w17 ht17) ?_; rintro v w18 ⟨rfl, hB18⟩; refine ⟨_, rfl, ?_⟩; have ht18 := ht17.below hB18; have hW18 := bl_tr hW17 hB18 hW17.size; refine dr U 600 rfl trivial ?_
  have hx := hx.stay hB18
  refine bss2 U rfl rfl rfl rfl rfl rfl ?_
  intro w19 hk19 hs19 hg19
  have hB19 : Below w18.heap.size w18 w19 := (Below.refl _ _).grown hg19 (Nat.le_refl _) (fun k e => by cases e)
  have hW19 := bl_tr hW18 hB19 hW18.size
  have hx := hx.stay hB19
  refine dr U 600 rfl trivial ?_
  refine call (f := 17) rfl rfl cb17 (join_calls [[48, 49], [120]] (some ⟨w18.heap.size, 0, none⟩) 2 w19 (hk19.sl 0) (by decide) (by decide)) ?_
  rintro v w20 ⟨hr, hB20⟩
  obtain rfl := hr.uniq (.inl ⟨⟨[120], by simp, fun h => by have := h 120 (by simp); revert this; decide⟩, rfl⟩)
  refine ⟨_, rfl, ?_⟩
  have hW20 := bl_tr hW19 hB20 hW19.size
  have hx := hx.stay hB20
  refine dr U 600 rfl trivial ?_
  refine call (f := 10) rfl rfl cb10 (all_calls 0 (by omega) w20) ?_
  rintro v w21 ⟨hr, hB21⟩
  obtain ⟨a2, c2, rfl, ho2⟩ := AllR.ok (n := 0) (k := 1) hr (by omega) rfl
  refine ⟨_, rfl, ?_⟩
  have hW21 := bl_tr hW20 hB21 hW20.size
  have hx := hx.stay hB21
  have hy := own_sl ho2
  refine dr U 600 rfl trivial ?_
  refine cF rfl rfl rfl ((by decide)) ?_; refine dr U 600 rfl trivial ?_
  refine cF rfl rfl rfl ((by decide)) ?_; refine dr U 600 rfl trivial ?_
  refine cF rfl rfl rfl ((by decide)) ?_; refine dr U 600 rfl trivial ?_
  refine cF rfl rfl rfl ((by decide)) ?_; refine dr U 600 rfl trivial ?_
  refine cF rfl rfl rfl ((by decide)) ?_; refine dr U 600 rfl trivial ?_
  refine cF rfl rfl rfl ((by decide)) ?_; refine dr U 600 rfl trivial ?_
  refine cF rfl rfl rfl ((by decide)) ?_; refine dr U 600 rfl trivial ?_
  refine cF rfl rfl rfl ((by decide)) ?_; refine dr U 600 rfl trivial ?_
  refine cF rfl rfl rfl ((by decide)) ?_; refine dr U 600 rfl trivial ?_
  refine cF rfl rfl rfl ((by decide)) ?_; refine dr U 600 rfl trivial ?_
  refine cF rfl rfl rfl ((by decide)) ?_; refine dr U 600 rfl trivial ?_
  refine cF rfl rfl rfl ((by decide)) ?_; refine dr U 600 rfl trivial ?_
  refine cF rfl rfl rfl ((by decide)) ?_; refine dr U 600 rfl trivial ?_
  refine cF rfl rfl rfl ((by decide)) ?_; refine dr U 600 rfl trivial ?_
  refine cF rfl rfl rfl ((by decide)) ?_; refine dr U 600 rfl trivial ?_
  refine cF rfl rfl rfl ((by decide)) ?_; refine dr U 600 rfl trivial ?_
  refine cT rfl rfl rfl (rfl) ?_; refine dr U 600 rfl trivial ?_
  refine cT rfl rfl rfl (rfl) ?_; refine dr U 600 rfl trivial ?_
  refine cT rfl rfl rfl (rfl) ?_; refine dr U 600 rfl trivial ?_
  refine cT rfl rfl rfl ((by decide)) ?_; refine dr U 600 rfl trivial ?_
  refine bss3 U rfl rfl rfl rfl rfl rfl rfl ?_
  intro w22 hk22 hs22 hg22
  have hB22 : Below w21.heap.size w21 w22 := (Below.refl _ _).grown hg22 (Nat.le_refl _) (fun k e => by cases e)
  have hW22 := bl_tr hW21 hB22 hW21.size
  have hx := hx.stay hB22
  have hy := hy.stay hB22
  have hsm := same_calls (cuts 2 [48, 49, 48, 48, 49, 49] 3) [[48, 49], [48, 48], [49, 49]] a (some ⟨w21.heap.size, 0, none⟩) c 3 w22 hx (hk22.sl 0) (by decide) (by decide)
  rw [show decide (cuts 2 [48, 49, 48, 48, 49, 49] 3 = [[48, 49], [48, 48], [49, 49]]) = true from by decide] at hsm
  refine dr U 600 rfl trivial ?_
  refine call (f := 18) rfl rfl cb18 hsm ?_
  rintro v w23 ⟨rfl, hB23⟩
  refine ⟨_, rfl, ?_⟩
  have hW23 := bl_tr hW22 hB23 hW22.size
  have hy := hy.stay hB23
  refine dr U 600 rfl trivial ?_
  refine cT rfl rfl rfl (rfl) ?_; refine dr U 600 rfl trivial ?_
  refine cT rfl rfl rfl (rfl) ?_; refine dr U 600 rfl trivial ?_
  refine cT rfl rfl rfl (rfl) ?_; refine dr U 600 rfl trivial ?_
  refine il U rfl rfl rfl rfl rfl rfl rfl (fun _ => rfl) rfl 0 rfl (by decide) hy rfl ?_
  refine dr U 600 rfl trivial ?_
  refine cT rfl rfl rfl (rfl) ?_; refine dr U 600 rfl trivial ?_
  refine call (f := 12) rfl rfl cb12 (bcheck_calls [48, 49, 50] (by decide) w23) ?_
  rintro v w24 ⟨⟨e, rfl, he⟩, hB24⟩
  obtain rfl := he.uniq (.inr ⟨fun h => by have := h 50 (by simp); revert this; decide, rfl⟩)
  refine ⟨_, rfl, ?_⟩
  have hW24 := bl_tr hW23 hB24 hW23.size
  refine dr U 600 rfl trivial ?_
  refine cT rfl rfl rfl (rfl) ?_; refine dr U 600 rfl trivial ?_
  refine call (f := 20) rfl rfl cb20 (times_str [49, 48] 300 (by decide) (by omega) (by decide) w24) ?_
  rintro v w25 ⟨rfl, hB25⟩
  refine ⟨_, rfl, ?_⟩
  have hW25 := bl_tr hW24 hB25 hW24.size
  refine dr U 600 rfl trivial ?_
  refine call (f := 12) rfl rfl cb12 (bcheck_calls (reps [49, 48] 300) (by rw [reps_length]; decide) w25) ?_
  rintro v w26 ⟨⟨e, rfl, he⟩, hB26⟩
  obtain rfl := he.uniq (.inl ⟨reps_bin (bin_of (by decide)) _, rfl⟩)
  refine ⟨_, rfl, ?_⟩
  refine dr U 600 rfl trivial ?_
  refine cT rfl rfl rfl (rfl) ?_; refine dr U 600 rfl trivial ?_
  exact ret Tryz.results7 rfl ⟨_, rfl, rfl, bl_tr hW25 hB26 hW25.size⟩
end Go.Proofs.YtcnbohfejgdcbaaGreatDoor
