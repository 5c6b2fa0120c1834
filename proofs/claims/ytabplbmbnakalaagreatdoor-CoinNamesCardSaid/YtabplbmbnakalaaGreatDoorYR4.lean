/-
  Walks of the reference's rational numbers: integer, Make.
  Conditions: texts take fewer than 2^40 bytes.
-/
import Derived.Test.YtabplbmbnakalaaGreatDoorYStr
import Derived.Test.YtabplbmbnakalaaGreatDoorYR2b
import Derived.Test.YtabplbmbnakalaaGreatDoorYR3
set_option linter.unusedSimpArgs false
set_option linter.unusedVariables false
set_option maxHeartbeats 1000000
namespace Go.Proofs.YtabplbmbnakalaaGreatDoor
open Go Go.Proofs Go.RowKit Go.Lib

theorem ineg_nil : ineg [] = false ∧ irest [] = [] := ⟨rfl, rfl⟩
theorem ineg_cons (c : UInt8) (t : List UInt8) : ineg (c :: t) = decide (c = 45) ∧ irest (c :: t) = if c = 45 then t else c :: t := by
  have h : ineg (c :: t) = decide (c = 45) := by
    unfold ineg hasPrefix
    simp only [List.isPrefixOf, Bool.and_true]
    by_cases hc : c = 45
    · subst hc; rfl
    · rw [decide_eq_false hc, beq_eq_false_iff_ne]; exact fun h => hc h.symm
  refine ⟨h, ?_⟩
  unfold irest trimPrefix
  unfold ineg at h
  rw [h]
  simp

theorem rinteger_calls (x : List UInt8) (hx : x.length ≤ 1099511627776) (w : World) :
    Calls Tryz.prog 68 #[.string ⟨⟨x⟩⟩] w (Ret fun v w' => (∃ b, v = .tuple ⟨[.bool (ineg x), .string ⟨⟨irest x⟩⟩, .bool b]⟩ ∧ (b = true ↔ IOk x)) ∧ w = w') := by
  cases x with
  | nil =>
    obtain ⟨hng, hrs⟩ := ineg_nil
    have hio : IOk [] ↔ Form [] ∧ ¬(false = true ∧ ([] : List UInt8) = [48]) := by unfold IOk; rw [hng, hrs]
    refine enter Tryz.func68 rfl Tryz.ntmps68 (Nat.le_of_ble_eq_true rfl) ?_
    refine dr U 600 rfl trivial ?_
    refine cF rfl rfl rfl ((by decide)) ?_; refine dr U 600 rfl trivial ?_
    refine call (f := 69) rfl rfl cb69 (rdigits_calls [] (by first | exact Nat.zero_le _ | exact hx | (simp at hx; omega)) w) ?_
    rintro v w1 ⟨⟨bb, rfl, hb⟩, rfl⟩
    refine ⟨_, rfl, ?_⟩
    cases bb with
    | false =>
      refine dr U 600 rfl trivial ?_
      exact ret Tryz.results68 rfl ⟨_, rfl, ⟨false, by rw [hng, hrs]; rfl, by rw [hio]; simp at hb; simp [hb]⟩, rfl⟩
    | true =>
      have hf := hb.1 rfl
      refine dr U 600 rfl trivial ?_
      exact ret Tryz.results68 rfl ⟨_, rfl, ⟨true, by rw [hng, hrs]; rfl, by rw [hio]; simp [hf]⟩, rfl⟩
  | cons c t =>
    obtain ⟨hng, hrs⟩ := ineg_cons c t
    by_cases hc : c = 45
    · subst hc
      rw [if_pos rfl] at hrs
      rw [decide_eq_true rfl] at hng
      have hio : IOk (45 :: t) ↔ Form t ∧ ¬(true = true ∧ t = [48]) := by unfold IOk; rw [hng, hrs]
      refine enter Tryz.func68 rfl Tryz.ntmps68 (Nat.le_of_ble_eq_true rfl) ?_
      refine dr U 600 rfl trivial ?_
      refine cT rfl rfl rfl (by simp only [List.length_cons]; omega) ?_
      refine dr U 600 rfl (by simp only [AllP, InR, List.nil_append, List.cons_append, and_true, List.length_cons, List.length_nil, List.length_append]; omega) ?_
      refine cT rfl rfl rfl rfl ?_
      refine dr U 600 rfl (by simp only [AllP, InR, List.nil_append, List.cons_append, and_true, List.length_cons, List.length_nil, List.length_append]; omega) ?_
      refine call (f := 69) rfl rfl cb69 (rdigits_calls t (by first | exact Nat.zero_le _ | exact hx | (simp at hx; omega)) w) ?_
      rintro v w1 ⟨⟨bb, rfl, hb⟩, rfl⟩
      refine ⟨_, rfl, ?_⟩
      cases bb with
      | false =>
        refine dr U 600 rfl trivial ?_
        exact ret Tryz.results68 rfl ⟨_, rfl, ⟨false, by rw [hng, hrs]; rfl, by rw [hio]; simp at hb; simp [hb]⟩, rfl⟩
      | true =>
        have hf := hb.1 rfl
        refine dr U 600 rfl trivial ?_
        refine cS rfl rfl rfl rfl (fun hq => ?_) (fun hq => ?_)
        · refine dr U 600 rfl trivial ?_
          exact ret Tryz.results68 rfl ⟨_, rfl, ⟨false, by rw [hng, hrs]; rfl, by rw [hio]; exact ⟨fun h => (by cases h), fun h => absurd ⟨rfl, hq⟩ h.2⟩⟩, rfl⟩
        · refine dr U 600 rfl trivial ?_
          exact ret Tryz.results68 rfl ⟨_, rfl, ⟨true, by rw [hng, hrs]; rfl, by rw [hio]; exact ⟨fun _ => ⟨hf, fun h => hq h.2⟩, fun _ => rfl⟩⟩, rfl⟩
    · rw [if_neg hc] at hrs
      rw [decide_eq_false hc] at hng
      have hio : IOk (c :: t) ↔ Form (c :: t) ∧ ¬(false = true ∧ c :: t = [48]) := by unfold IOk; rw [hng, hrs]
      refine enter Tryz.func68 rfl Tryz.ntmps68 (Nat.le_of_ble_eq_true rfl) ?_
      refine dr U 600 rfl trivial ?_
      refine cT rfl rfl rfl (by simp only [List.length_cons]; omega) ?_
      refine dr U 600 rfl (by simp only [AllP, InR, List.nil_append, List.cons_append, and_true, List.length_cons, List.length_nil, List.length_append]; omega) ?_
      refine cF rfl rfl rfl ((fun h => hc (UInt8.toNat_inj.1 (show c.toNat = 45 from Int.ofNat.inj h)))) ?_; refine dr U 600 rfl trivial ?_
      refine call (f := 69) rfl rfl cb69 (rdigits_calls (c :: t) (by first | exact Nat.zero_le _ | exact hx | (simp at hx; omega)) w) ?_
      rintro v w1 ⟨⟨bb, rfl, hb⟩, rfl⟩
      refine ⟨_, rfl, ?_⟩
      cases bb with
      | false =>
        refine dr U 600 rfl trivial ?_
        exact ret Tryz.results68 rfl ⟨_, rfl, ⟨false, by rw [hng, hrs]; rfl, by rw [hio]; simp at hb; simp [hb]⟩, rfl⟩
      | true =>
        have hf := hb.1 rfl
        refine dr U 600 rfl trivial ?_
        exact ret Tryz.results68 rfl ⟨_, rfl, ⟨true, by rw [hng, hrs]; rfl, by rw [hio]; simp [hf]⟩, rfl⟩

theorem nd_div_le {a b k : Nat} (h : nDigits a ≤ k) : nDigits (a / b) ≤ k := Nat.le_trans (nD_mono (Nat.div_le_self _ _)) h
theorem rmk_calls (x y : List UInt8) (hx : x.length ≤ 1099511627776) (hy : y.length ≤ 1099511627776) (w : World) :
    Calls Tryz.prog 40 #[.string ⟨⟨x⟩⟩, .string ⟨⟨y⟩⟩] w (Ret fun v w' => MakeR x y v ∧ Below w.heap.size w w') := by
  have hlen := irest_len x
  refine enter Tryz.func40 rfl Tryz.ntmps40 (Nat.le_of_ble_eq_true rfl) ?_
  refine dr U 600 rfl trivial ?_
  refine call (f := 68) rfl rfl cb68 (rinteger_calls x hx w) ?_
  rintro v w1 ⟨⟨b, rfl, hb⟩, rfl⟩
  refine ⟨_, rfl, ?_⟩
  have hB1 := Below.refl w.heap.size w
  cases b with
  | false =>
    have hn : ¬ IOk x := fun h => by have := hb.2 h; cases this
    refine dr U 600 rfl trivial ?_
    exact ret Tryz.results40 rfl ⟨_, rfl, .inl ⟨3, by decide, .inl ⟨hn, rfl⟩, rfl⟩, hB1⟩
  | true =>
    have hio := hb.1 rfl
    refine dr U 600 rfl trivial ?_
    refine cS rfl rfl rfl rfl (fun hq => ?_) (fun hq => ?_)
    · refine dr U 600 rfl trivial ?_
      exact ret Tryz.results40 rfl ⟨_, rfl, .inl ⟨5, by decide, .inr (.inl ⟨hio, by omega, rfl⟩), rfl⟩, hB1⟩
    · have hle : (irest x).length ≤ 4000 := by omega
      refine dr U 600 rfl trivial ?_
      refine call (f := 80) rfl rfl cb80 (refCheck_calls y (by omega) w) ?_
      rintro v w2 ⟨⟨e, rfl, hc⟩, rfl⟩
      refine ⟨_, rfl, ?_⟩
      refine dr U 600 rfl trivial ?_
      refine cS rfl rfl rfl rfl (fun hq => ?_) (fun hq => ?_)
      · refine dr U 600 rfl trivial ?_
        exact ret Tryz.results40 rfl ⟨_, rfl, .inl ⟨e, hq, .inr (.inr (.inl ⟨hio, hle, hq, hc⟩)), rfl⟩, hB1⟩
      · obtain rfl := Classical.not_not.1 hq
        refine dr U 600 rfl trivial ?_
        refine cS rfl rfl rfl rfl (fun hq => ?_) (fun hq => ?_)
        · refine dr U 600 rfl trivial ?_
          exact ret Tryz.results40 rfl ⟨_, rfl, .inl ⟨6, by decide, .inr (.inr (.inr (.inl ⟨hio, hle, hc, hq, rfl⟩))), rfl⟩, hB1⟩
        · have hoy := chk_ok hc
          have hlx := form_len ⟨hio.1, hle⟩
          have hly := form_len hoy
          have hd0 := dval48 hoy.1 hq
          refine dr U 600 rfl trivial ?_
          refine call (f := 70) rfl rfl cb70 (read_calls (irest x) hio.1.2.2 (by omega) w) ?_
          rintro v w3 ⟨a3, c3, rfl, ho3, hB3'⟩
          refine ⟨_, rfl, ?_⟩
          have hB3 := bl_tr hB1 hB3' hB1.size
          refine dr U 600 rfl trivial ?_
          refine call (f := 70) rfl rfl cb70 (read_calls y hoy.1.2.2 (by omega) w3) ?_
          rintro v w4 ⟨a4, c4, rfl, ho4, hB4'⟩
          refine ⟨_, rfl, ?_⟩
          have hB4 := bl_tr hB3 hB4' hB3.size
          refine dr U 600 rfl trivial ?_
          refine call (f := 81) rfl rfl cb81 (reduce_calls (ineg x) (dval (irest x)) (dval y) hd0 a3 a4 c3 c4 w4 ((ownI_rd ho3).below hB4') (ownI_rd ho4) (by omega) (by omega)) ?_
          rintro v w5 ⟨hv, hB5'⟩
          refine ⟨_, rfl, ?_⟩
          have hB5 := bl_tr hB4 hB5' hB4.size
          have h1 : nDigits (mkq (ineg x) (dval (irest x)) (dval y)).num.natAbs ≤ 1000000000000 := by rw [mkq_num _ _ _ hd0]; exact nd_div_le (by omega)
          have h2 : nDigits (mkq (ineg x) (dval (irest x)) (dval y)).den ≤ 1000000000000 := by rw [(mkq_form _ _ _ hd0).2]; exact nd_div_le (by omega)
          refine dr U 600 rfl trivial ?_
          refine call (f := 45) rfl rfl cb45 (rwriteq_calls _ v w5 hv (fits_mkq hd0 (by omega) (by omega)) h1 h2) ?_
          rintro v w6 ⟨hr, hB6'⟩
          obtain ⟨s, e, rfl⟩ := hr.tup
          refine ⟨_, rfl, ?_⟩
          refine dr U 600 rfl trivial ?_
          exact ret Tryz.results40 rfl ⟨_, rfl, .inr ⟨.inr (.inr (.inr (.inr ⟨hio, hle, hc, hq, rfl⟩))), hr⟩, bl_tr hB5 hB6' hB5.size⟩
end Go.Proofs.YtabplbmbnakalaaGreatDoor
