/-
  Walks of the reference's bit strings: Check, small, Value, Two, Share, checked, Number, Cell, word, Word, FromBytes, Cut, Join; copies of slices.
  Conditions: texts take fewer than 2^40 bytes.
-/
import Derived.Test.YtcnbohfejgdcbaaGreatDoorYRG
import Derived.Test.YtcnbohfejgdcbaaGreatDoorYBl
import Derived.Test.YtcnbohfejgdcbaaGreatDoorYR5
import Derived.Test.YtcnbohfejgdcbaaGreatDoorYBk
import Derived.Test.YtcnbohfejgdcbaaGreatDoorYOw
set_option linter.unusedSimpArgs false
set_option linter.unusedVariables false
set_option maxHeartbeats 1000000
namespace Go.Proofs.YtcnbohfejgdcbaaGreatDoor
open Go Go.Proofs Go.RowKit Go.Lib

theorem rbcheck_calls (l : List UInt8) (hl : l.length ≤ 1099511627776) (w : World) :
    Calls Tryz.prog 29 #[.string ⟨⟨l⟩⟩] w (Ret fun v w' => (∃ e, v = .int .i64 e ∧ BChk l e) ∧ w = w') := by
  refine enter Tryz.func29 rfl Tryz.ntmps29 (Nat.le_of_ble_eq_true rfl) ?_
  refine dr U 600 rfl trivial ?_
  refine loopR (fun f w' m => ∃ i : Nat, f = [(0, .string ⟨⟨l⟩⟩), (3, .int .i64 (i : Nat))] ∧ i ≤ l.length ∧ (∀ c ∈ l.take i, c = 48 ∨ c = 49) ∧ w = w' ∧ m = l.length - i) ⟨0, rfl, by omega, by simp, rfl, rfl⟩ ⟨rfl, rfl, trivial⟩ ?_
  rintro f w1 m ⟨i, rfl, hi, hd, rfl, rfl⟩
  refine dr U 600 rfl trivial ?_
  refine cS rfl rfl rfl rfl (fun hq => ?_) (fun hq => ?_)
  · have hil : i < l.length := by omega
    have hgd : l.getD i 0 = l[i] := by simp [List.getD, hil]
    have hmem : l[i] ∈ l := List.getElem_mem hil
    have next : (l[i] = 48 ∨ l[i] = 49) → ∀ c ∈ l.take (i + 1), c = 48 ∨ c = 49 := fun h c hc => by
      rw [List.take_succ_eq_append_getElem hil] at hc
      rcases List.mem_append.1 hc with h1 | h1
      · exact hd c h1
      · rw [List.mem_singleton.1 h1]; exact h
    refine dr U 600 rfl (by first | exact True.intro | (simp only [AllP, InR, List.nil_append, List.cons_append, and_true]; omega)) ?_
    simp only [Int.toNat_natCast, hgd]
    refine cS rfl rfl rfl rfl (fun hq1 => ?_) (fun hq1 => ?_)
    · refine dr U 600 rfl (by first | exact True.intro | (simp only [AllP, InR, List.nil_append, List.cons_append, and_true]; omega)) ?_
      simp only [Int.toNat_natCast, hgd]
      refine cS rfl rfl rfl rfl (fun hq2 => ?_) (fun hq2 => ?_)
      · refine dr U 600 rfl trivial ?_
        refine ret Tryz.results29 rfl ⟨_, rfl, ⟨3, rfl, .inr ⟨fun h => ?_, rfl⟩⟩, rfl⟩
        rcases h _ hmem with e | e
        · exact hq1 (by rw [e]; rfl)
        · exact hq2 (by rw [e]; rfl)
      · have he : l[i] = 49 := UInt8.toNat_inj.1 (by have := Classical.not_not.1 hq2; simp; omega)
        refine dr U 600 rfl (by first | exact True.intro | (simp only [AllP, InR, List.nil_append, List.cons_append, and_true]; omega)) ?_
        exact rend _ _ ⟨i + 1, rfl, by omega, next (.inr he), rfl, rfl⟩ (by omega) ⟨rfl, iv (by omega), trivial⟩
    · have he : l[i] = 48 := UInt8.toNat_inj.1 (by have := Classical.not_not.1 hq1; simp; omega)
      refine dr U 600 rfl (by first | exact True.intro | (simp only [AllP, InR, List.nil_append, List.cons_append, and_true]; omega)) ?_
      exact rend _ _ ⟨i + 1, rfl, by omega, next (.inl he), rfl, rfl⟩ (by omega) ⟨rfl, iv (by omega), trivial⟩
  · obtain rfl : i = l.length := by omega
    rw [List.take_length] at hd
    refine dr U 600 rfl trivial ?_
    exact ret Tryz.results29 rfl ⟨_, rfl, ⟨0, rfl, .inl ⟨hd, rfl⟩⟩, rfl⟩

theorem rchecked_calls (l : List UInt8) (hl : l.length ≤ 1099511627776) (w : World) :
    Calls Tryz.prog 45 #[.string ⟨⟨l⟩⟩] w (Ret fun v w' => (∃ e, v = .int .i64 e ∧ SChk l e) ∧ w = w') := by
  refine enter Tryz.func45 rfl Tryz.ntmps45 (Nat.le_of_ble_eq_true rfl) ?_
  refine dr U 600 rfl trivial ?_
  refine call (f := 29) rfl rfl cb29 (rbcheck_calls l hl w) ?_
  rintro v w1 ⟨⟨e, rfl, he⟩, rfl⟩
  refine ⟨_, rfl, ?_⟩
  refine dr U 600 rfl trivial ?_
  refine cS rfl rfl rfl rfl (fun hq => ?_) (fun hq => ?_)
  · refine dr U 600 rfl trivial ?_
    rcases he with ⟨_, h⟩ | ⟨h1, rfl⟩
    · exact absurd h hq
    · exact ret Tryz.results45 rfl ⟨_, rfl, ⟨_, rfl, .inr (.inr ⟨h1, rfl⟩)⟩, rfl⟩
  · obtain rfl := Classical.not_not.1 hq
    have hb : Bin l := by
      rcases he with ⟨h, _⟩ | ⟨_, h⟩
      · exact h
      · cases h
    refine dr U 600 rfl trivial ?_
    refine cS rfl rfl rfl rfl (fun hq => ?_) (fun hq => ?_)
    · refine dr U 600 rfl trivial ?_
      exact ret Tryz.results45 rfl ⟨_, rfl, ⟨_, rfl, .inr (.inl ⟨hb, by omega, rfl⟩)⟩, rfl⟩
    · refine dr U 600 rfl trivial ?_
      exact ret Tryz.results45 rfl ⟨_, rfl, ⟨_, rfl, .inl ⟨hb, by omega, rfl⟩⟩, rfl⟩

theorem rint_nat (k : Nat) (hk : (k : Int) ≤ 9223372036854775807) (w : World) :
    Calls Tryz.prog 88 #[.int .i64 (k : Nat)] w (Ret fun v w' => v = .string ⟨⟨decDigits k⟩⟩ ∧ w = w') := by
  refine enter Tryz.func88 rfl Tryz.ntmps88 (Nat.le_of_ble_eq_true rfl) ?_
  refine dr U 600 rfl trivial ?_
  refine cT rfl rfl rfl ((by omega)) ?_; refine dr U 600 rfl trivial ?_
  refine call (f := 118) rfl rfl cb118 (refFromInt_calls (k : Nat) hk w) ?_
  rintro v w1 ⟨hv, rfl⟩
  obtain rfl : v = .tuple ⟨[.string ⟨⟨decDigits k⟩⟩, .int .i64 0]⟩ := by
    rcases hv with ⟨h, _⟩ | ⟨_, h⟩
    · omega
    · rw [Int.toNat_natCast] at h; exact h
  refine ⟨_, rfl, ?_⟩
  refine dr U 600 rfl trivial ?_
  exact ret Tryz.results88 rfl ⟨_, rfl, rfl, rfl⟩
theorem rsmall_calls (k : Nat) (hk : (k : Int) ≤ 9223372036854775807) (w : World) :
    Calls Tryz.prog 49 #[.int .i64 (k : Nat)] w (Ret fun v w' => RedI w' v (lim k) ∧ Below w.heap.size w w') := by
  have hk19 := nD_le 19 k (by omega) (by omega)
  have hkl := decDigits_length k
  refine enter Tryz.func49 rfl Tryz.ntmps49 (Nat.le_of_ble_eq_true rfl) ?_
  refine dr U 600 rfl trivial ?_
  refine call (f := 88) rfl rfl cb88 (rint_nat k hk w) ?_
  rintro v w1 ⟨rfl, rfl⟩
  refine ⟨_, rfl, ?_⟩
  refine call (f := 52) rfl rfl cb52 (read_calls (decDigits k) (dec_dval k).1 (by omega) w) ?_
  rintro v w2 ho
  rw [(dec_dval k).2] at ho
  have hB := ho
  obtain ⟨a, c, rfl, ho2, hB⟩ := ho
  refine ⟨_, rfl, ?_⟩
  refine dr U 600 rfl trivial ?_
  exact ret Tryz.results49 rfl ⟨_, rfl, ⟨a, c, rfl, ownI_rd ho2⟩, hB⟩

theorem lim_two {m : Nat} (h : m ≤ 2 ^ 256) : (lim m).length ≤ 78 := by
  refine Nat.le_trans (lim_le_nD m) (nD_le _ _ (by omega) (Nat.lt_of_le_of_lt h (by decide)))
theorem pow_257 {n : Nat} (h : n ≤ 256) : 2 ^ n ≤ 2 ^ 256 := Nat.pow_le_pow_right (by omega) h

theorem rvalue_calls (l : List UInt8) (hl : l.length ≤ 256) (w : World) :
    Calls Tryz.prog 47 #[.string ⟨⟨l⟩⟩] w (Ret fun v w' => RedI w' v (lim (bval l)) ∧ Below w.heap.size w w') := by
  refine enter Tryz.func47 rfl Tryz.ntmps47 (Nat.le_of_ble_eq_true rfl) ?_
  refine dr U 600 rfl trivial ?_
  refine call (f := 49) rfl rfl cb49 (rsmall_calls 0 (by omega) w) ?_
  rintro v w1 ⟨⟨a1, c1, rfl, hr1⟩, hB1⟩
  refine ⟨_, rfl, ?_⟩
  refine dr U 600 rfl trivial ?_
  refine loopR (fun f w' m => ∃ (i : Nat) (a : Option Addr) (c : Nat), f = [(0, .string ⟨⟨l⟩⟩), (3, .slice a (lim (bval (l.take i))).length c), (4, .int .i64 (i : Nat))] ∧ i ≤ l.length ∧ RdI w' a c (lim (bval (l.take i))) ∧ Below w.heap.size w w' ∧ m = l.length - i)
    ⟨0, a1, c1, rfl, by omega, hr1, hB1, rfl⟩ ⟨rfl, rfl, rfl, trivial⟩ ?_
  rintro f w2 m ⟨i, a, c, rfl, hi, hr, hB, rfl⟩
  refine dr U 600 rfl trivial ?_
  refine cS rfl rfl rfl rfl (fun hq => ?_) (fun hq => ?_)
  · have hil : i < l.length := by omega
    have hgd : l.getD i 0 = l[i] := by simp [List.getD, hil]
    have htk := bval_take hil
    have hlt := bval_lt i (l.take i) (by rw [List.length_take]; omega)
    have hpp := pow_257 (n := i + 1) (by omega)
    have hps := Nat.pow_succ 2 i
    have hlm := lim_two (m := bval (l.take i)) (by omega)
    have hlm2 := lim_two (m := bval (l.take i) + bval (l.take i)) (by omega)
    refine dr U 600 rfl trivial ?_
    refine call (f := 74) rfl rfl cb74 (plus_calls _ _ a a c c w2 hr hr (by omega) (by omega)) ?_
    rintro v w3 ⟨a3, c3, rfl, ho3, hB3⟩
    refine ⟨_, rfl, ?_⟩
    have hB3' := bl_tr hB hB3 hB.size
    refine dr U 600 rfl (by first | exact True.intro | (simp only [AllP, InR, List.nil_append, List.cons_append, and_true]; omega)) ?_
    simp only [Int.toNat_natCast, hgd]
    refine cS rfl rfl rfl rfl (fun hq1 => ?_) (fun hq1 => ?_)
    · have he : l[i] = 49 := UInt8.toNat_inj.1 (by simp; omega)
      have e1 : 2 * bval (l.take i) + bv1 (l.getD i 0) = bval (l.take i) + bval (l.take i) + 1 := by rw [hgd, he]; unfold bv1; rw [if_pos rfl]; omega
      refine dr U 600 rfl trivial ?_
      refine call (f := 49) rfl rfl cb49 (rsmall_calls 1 (by omega) w3) ?_
      rintro v w4 ⟨⟨a4, c4, rfl, hr4⟩, hB4⟩
      refine ⟨_, rfl, ?_⟩
      have hB4' := bl_tr hB3' hB4 hB3'.size
      refine call (f := 74) rfl rfl cb74 (plus_calls _ _ a3 a4 c3 c4 w4 ((ownI_rd ho3).below hB4) hr4 (by omega) (by rw [lim_one]; decide)) ?_
      rintro v w5 ⟨a5, c5, rfl, ho5, hB5⟩
      refine ⟨_, rfl, ?_⟩
      have hB5' := bl_tr hB4' hB5 hB4'.size
      refine dr U 600 rfl (by first | exact True.intro | (simp only [AllP, InR, List.nil_append, List.cons_append, and_true]; omega)) ?_
      refine rend _ _ ⟨i + 1, a5, c5, rfl, by omega, by rw [htk, e1]; exact (ownI_rd ho5), hB5', rfl⟩ (by omega) ⟨rfl, by rw [htk, e1]; rfl, iv (by omega), trivial⟩
    · have he : l[i] ≠ 49 := fun e => hq1 (by rw [e]; rfl)
      have e1 : 2 * bval (l.take i) + bv1 (l.getD i 0) = bval (l.take i) + bval (l.take i) := by rw [hgd]; unfold bv1; rw [if_neg he]; omega
      refine dr U 600 rfl (by first | exact True.intro | (simp only [AllP, InR, List.nil_append, List.cons_append, and_true]; omega)) ?_
      refine rend _ _ ⟨i + 1, a3, c3, rfl, by omega, by rw [htk, e1]; exact (ownI_rd ho3), hB3', rfl⟩ (by omega) ⟨rfl, by rw [htk, e1]; rfl, iv (by omega), trivial⟩
  · obtain rfl : i = l.length := by omega
    rw [List.take_length] at hr
    simp only [List.take_length]
    refine dr U 600 rfl trivial ?_
    exact ret Tryz.results47 rfl ⟨_, rfl, ⟨a, c, rfl, hr⟩, hB⟩

theorem rtwop_calls (n : Nat) (hn : n ≤ 256) (w : World) :
    Calls Tryz.prog 53 #[.int .i64 (n : Nat)] w (Ret fun v w' => RedI w' v (lim (2 ^ n)) ∧ Below w.heap.size w w') := by
  refine enter Tryz.func53 rfl Tryz.ntmps53 (Nat.le_of_ble_eq_true rfl) ?_
  refine dr U 600 rfl trivial ?_
  refine call (f := 49) rfl rfl cb49 (rsmall_calls 1 (by omega) w) ?_
  rintro v w1 ⟨⟨a1, c1, rfl, hr1⟩, hB1⟩
  refine ⟨_, rfl, ?_⟩
  refine dr U 600 rfl trivial ?_
  refine loopR (l0 := [(0, .int .i64 (n : Nat)), (3, .slice a1 (lim (2 ^ (n - n))).length c1)]) (fun f w' m => ∃ (a : Option Addr) (c : Nat), f = [(0, .int .i64 (m : Nat)), (3, .slice a (lim (2 ^ (n - m))).length c)] ∧ m ≤ n ∧ RdI w' a c (lim (2 ^ (n - m))) ∧ Below w.heap.size w w') (m0 := n)
    ⟨a1, c1, rfl, by omega, by rw [Nat.sub_self]; exact hr1, hB1⟩ ⟨rfl, by rw [Nat.sub_self]; rfl, trivial⟩ ?_
  rintro f w2 m ⟨a, c, rfl, hm, hr, hB⟩
  refine dr U 600 rfl trivial ?_
  refine cS rfl rfl rfl rfl (fun hq => ?_) (fun hq => ?_)
  · have hm0 : 0 < m := by omega
    have hlm := lim_two (m := 2 ^ (n - m)) (pow_257 (by omega))
    refine dr U 600 rfl trivial ?_
    refine call (f := 74) rfl rfl cb74 (plus_calls _ _ a a c c w2 hr hr (by omega) (by omega)) ?_
    rintro v w3 ⟨a3, c3, rfl, ho3, hB3⟩
    refine ⟨_, rfl, ?_⟩
    have e : 2 ^ (n - m) + 2 ^ (n - m) = 2 ^ (n - (m - 1)) := by rw [show n - (m - 1) = (n - m) + 1 from by omega, Nat.pow_succ]; omega
    rw [e] at ho3 ⊢
    refine dr U 600 rfl (by first | exact True.intro | (simp only [AllP, InR, List.nil_append, List.cons_append, and_true]; omega)) ?_
    exact rend _ (m - 1) ⟨a3, c3, rfl, by omega, ownI_rd ho3, bl_tr hB hB3 hB.size⟩ (by omega) ⟨iv (by omega), rfl, trivial⟩
  · obtain rfl : m = 0 := by omega
    rw [Nat.sub_zero] at hr
    simp only [Nat.sub_zero]
    refine dr U 600 rfl trivial ?_
    exact ret Tryz.results53 rfl ⟨_, rfl, ⟨a, c, rfl, hr⟩, hB⟩

theorem rshare_calls (k n : Nat) (hn : n ≤ 256) (hk : k ≤ 2 ^ n) (a : Option Addr) (c : Nat) (w : World) (hr : RdI w a c (lim k)) :
    Calls Tryz.prog 48 #[.slice a (lim k).length c, .int .i64 (n : Nat)] w (Ret fun v w' => v = .string ⟨⟨qtext (mkq false k (2 ^ n))⟩⟩ ∧ Below w.heap.size w w') := by
  have h2 : 2 ^ n < 10 ^ 78 := Nat.lt_of_le_of_lt (Nat.pow_le_pow_right (by omega) hn) (by decide)
  have hkd := nD_le 78 k (by omega) (by omega)
  have h2d := nD_le 78 (2 ^ n) (by omega) h2
  have hkl := decDigits_length k
  have h2l := decDigits_length (2 ^ n)
  have hlk := lim_le_nD k
  have hl2 := lim_le_nD (2 ^ n)
  refine enter Tryz.func48 rfl Tryz.ntmps48 (Nat.le_of_ble_eq_true rfl) ?_
  refine dr U 600 rfl trivial ?_
  refine call (f := 46) rfl rfl cb46 (write_ref k a c w hr (by omega)) ?_
  rintro v w1 ⟨rfl, hB1⟩
  refine ⟨_, rfl, ?_⟩
  refine dr U 600 rfl trivial ?_
  refine call (f := 53) rfl rfl cb53 (rtwop_calls n hn w1) ?_
  rintro v w2 ⟨⟨a2, c2, rfl, hr2⟩, hB2⟩
  refine ⟨_, rfl, ?_⟩
  have hB2' := bl_tr hB1 hB2 hB1.size
  refine call (f := 46) rfl rfl cb46 (write_ref (2 ^ n) a2 c2 w2 hr2 (by omega)) ?_
  rintro v w3 ⟨rfl, hB3⟩
  refine ⟨_, rfl, ?_⟩
  have hB3' := bl_tr hB2' hB3 hB2'.size
  refine call (f := 87) rfl rfl cb87 (rmk_calls (decDigits k) (decDigits (2 ^ n)) (by omega) (by omega) w3) ?_
  rintro v w4 ⟨hm, hB4⟩
  obtain rfl := make_nat (by omega) (by omega) (Nat.ne_of_gt (Nat.pow_pos (by omega))) hm
  refine ⟨_, rfl, ?_⟩
  refine dr U 600 rfl trivial ?_
  exact ret Tryz.results48 rfl ⟨_, rfl, rfl, bl_tr hB3' hB4 hB3'.size⟩

theorem rnumber_calls (l : List UInt8) (hl : l.length ≤ 1099511627776) (w : World) :
    Calls Tryz.prog 21 #[.string ⟨⟨l⟩⟩] w (Ret fun v w' => NumR l v ∧ Below w.heap.size w w') := by
  refine enter Tryz.func21 rfl Tryz.ntmps21 (Nat.le_of_ble_eq_true rfl) ?_
  refine dr U 600 rfl trivial ?_
  refine call (f := 45) rfl rfl cb45 (rchecked_calls l hl w) ?_
  rintro v w1 ⟨⟨e, rfl, he⟩, rfl⟩
  refine ⟨_, rfl, ?_⟩
  refine dr U 600 rfl trivial ?_
  refine cS rfl rfl rfl rfl (fun hq => ?_) (fun hq => ?_)
  · refine dr U 600 rfl trivial ?_
    exact ret Tryz.results21 rfl ⟨_, rfl, .inl ⟨e, hq, he, rfl⟩, Below.refl _ _⟩
  · obtain rfl := Classical.not_not.1 hq
    obtain ⟨hb, hl2⟩ := he.ok
    have hlt := bval_lt l.length l rfl
    have hp := pow_257 (n := l.length) (by omega)
    refine dr U 600 rfl trivial ?_
    refine call (f := 47) rfl rfl cb47 (rvalue_calls l hl2 w) ?_
    rintro v w2 ⟨⟨a2, c2, rfl, hr2⟩, hB2⟩
    refine ⟨_, rfl, ?_⟩
    refine call (f := 46) rfl rfl cb46 (write_ref (bval l) a2 c2 w2 hr2 (by have := lim_two (m := bval l) (by omega); omega)) ?_
    rintro v w3 ⟨rfl, hB3⟩
    refine ⟨_, rfl, ?_⟩
    refine dr U 600 rfl trivial ?_
    exact ret Tryz.results21 rfl ⟨_, rfl, .inr ⟨he, rfl⟩, bl_tr hB2 hB3 hB2.size⟩

theorem rcell_calls (l : List UInt8) (hl : l.length ≤ 1099511627776) (w : World) :
    Calls Tryz.prog 22 #[.string ⟨⟨l⟩⟩] w (Ret fun v w' => CellR l v ∧ Below w.heap.size w w') := by
  refine enter Tryz.func22 rfl Tryz.ntmps22 (Nat.le_of_ble_eq_true rfl) ?_
  refine dr U 600 rfl trivial ?_
  refine call (f := 45) rfl rfl cb45 (rchecked_calls l hl w) ?_
  rintro v w1 ⟨⟨e, rfl, he⟩, rfl⟩
  refine ⟨_, rfl, ?_⟩
  refine dr U 600 rfl trivial ?_
  refine cS rfl rfl rfl rfl (fun hq => ?_) (fun hq => ?_)
  · refine dr U 600 rfl trivial ?_
    exact ret Tryz.results22 rfl ⟨_, rfl, .inl ⟨e, hq, he, rfl⟩, Below.refl _ _⟩
  · obtain rfl := Classical.not_not.1 hq
    obtain ⟨hb, hl2⟩ := he.ok
    have hlt := bval_lt l.length l rfl
    refine dr U 600 rfl trivial ?_
    refine call (f := 47) rfl rfl cb47 (rvalue_calls l hl2 w) ?_
    rintro v w2 ⟨⟨a2, c2, rfl, hr2⟩, hB2⟩
    refine ⟨_, rfl, ?_⟩
    refine dr U 600 rfl trivial ?_
    refine call (f := 48) rfl rfl cb48 (rshare_calls (bval l) l.length hl2 (by omega) a2 c2 w2 hr2) ?_
    rintro v w3 ⟨rfl, hB3⟩
    refine ⟨_, rfl, ?_⟩
    have hB3' := bl_tr hB2 hB3 hB2.size
    refine dr U 600 rfl trivial ?_
    refine call (f := 49) rfl rfl cb49 (rsmall_calls 1 (by omega) w3) ?_
    rintro v w4 ⟨⟨a4, c4, rfl, hr4⟩, hB4⟩
    refine ⟨_, rfl, ?_⟩
    have hB4' := bl_tr hB3' hB4 hB3'.size
    refine dr U 600 rfl trivial ?_
    refine call (f := 48) rfl rfl cb48 (rshare_calls 1 l.length hl2 (Nat.pow_pos (by omega)) a4 c4 w4 hr4) ?_
    rintro v w5 ⟨rfl, hB5⟩
    refine ⟨_, rfl, ?_⟩
    refine dr U 600 rfl trivial ?_
    exact ret Tryz.results22 rfl ⟨_, rfl, .inr ⟨he, rfl⟩, bl_tr hB4' hB5 hB4'.size⟩

theorem bitsOf_front : ∀ (i k : Nat), bitsOf (i + 1) k = (if k / 2 ^ i % 2 = 1 then 49 else 48) :: bitsOf i k
  | 0, k => by simp [bitsOf]
  | i + 1, k => by
    rw [bitsOf, bitsOf_front i (k / 2), bitsOf, Nat.pow_succ', Nat.div_div_eq_div_mul]; rfl

theorem rword_calls (k n : Nat) (hn : n ≤ 256) (hk : k < 2 ^ n) (a : Option Addr) (c : Nat) (w : World) (hr : RdI w a c (lim k)) :
    Calls Tryz.prog 54 #[.slice a (lim k).length c, .int .i64 (n : Nat)] w (Ret fun v w' => v = .string ⟨⟨bitsOf n k⟩⟩ ∧ Below w.heap.size w w') := by
  have hp := pow_257 (n := n) (by omega)
  have hlk := lim_two (m := k) (by omega)
  refine enter Tryz.func54 rfl Tryz.ntmps54 (Nat.le_of_ble_eq_true rfl) ?_
  refine dr U 600 rfl trivial ?_
  refine loopR (l0 := [(0, .slice a (lim (k / 2 ^ (n - n))).length c), (1, .int .i64 (n : Nat)), (5, .string ⟨⟨[]⟩⟩)]) (fun f w' m => ∃ (a : Option Addr) (c : Nat) (s : List UInt8), f = [(0, .slice a (lim (k / 2 ^ (n - m))).length c), (1, .int .i64 (m : Nat)), (5, .string ⟨⟨s⟩⟩)] ∧ m ≤ n ∧ s = bitsOf (n - m) k ∧ RdI w' a c (lim (k / 2 ^ (n - m))) ∧ Below w.heap.size w w' ∧ s.length ≤ n - m) (m0 := n)
    ⟨a, c, [], rfl, by omega, by rw [Nat.sub_self]; rfl, by rw [Nat.sub_self, Nat.pow_zero, Nat.div_one]; exact hr, Below.refl _ _, by simp⟩ ⟨by rw [Nat.sub_self, Nat.pow_zero, Nat.div_one]; rfl, rfl, rfl, trivial⟩ ?_
  rintro f w2 m ⟨a2, c2, s, rfl, hm, hs, hr2, hB, hsl⟩
  have hqk : (lim (k / 2 ^ (n - m))).length ≤ 78 := Nat.le_trans (lim_len_mono (Nat.div_le_self _ _)) hlk
  refine dr U 600 rfl trivial ?_
  refine cS rfl rfl rfl rfl (fun hq => ?_) (fun hq => ?_)
  · have hm0 : 0 < m := by omega
    refine dr U 600 rfl trivial ?_
    refine call (f := 49) rfl rfl cb49 (rsmall_calls 2 (by omega) w2) ?_
    rintro v w1 ⟨⟨a1, c1, rfl, hr1⟩, hB1⟩
    refine ⟨_, rfl, ?_⟩
    have hB1' := bl_tr hB hB1 hB.size
    refine call (f := 90) rfl rfl cb90 (divide_calls _ 2 (by omega) a2 a1 c2 c1 w1 (hr2.below hB1) hr1 (by omega) (by have := lim_two (m := 2) (by decide); omega)) ?_
    rintro v w3 ⟨v1, v2, rfl, ⟨a3, c3, rfl, hr3⟩, ⟨a4, c4, rfl, hr4⟩, hB3⟩
    refine ⟨_, rfl, ?_⟩
    have hB3' := bl_tr hB1' hB3 hB1'.size
    have ediv : k / 2 ^ (n - m) / 2 = k / 2 ^ (n - (m - 1)) := by rw [show n - (m - 1) = (n - m) + 1 from by omega, Nat.pow_succ, Nat.div_div_eq_div_mul]
    rw [ediv] at hr3 ⊢
    refine dr U 600 rfl trivial ?_
    refine call (f := 49) rfl rfl cb49 (rsmall_calls 1 (by omega) w3) ?_
    rintro v w5 ⟨⟨a5, c5, rfl, hr5⟩, hB5⟩
    refine ⟨_, rfl, ?_⟩
    have hB5' := bl_tr hB3' hB5 hB3'.size
    have hl1 := lim_two (m := k / 2 ^ (n - m) % 2) (Nat.le_trans (Nat.le_of_lt (Nat.mod_lt _ (by omega))) (by decide))
    refine call (f := 51) rfl rfl cb51 (order_calls _ 1 a4 a5 c4 c5 w5 (hr4.below hB5) hr5 (by omega) (by rw [lim_one]; decide)) ?_
    rintro v w6 ⟨rfl, hB6⟩
    refine ⟨_, rfl, ?_⟩
    have hB6' := bl_tr hB5' hB6 hB5'.size
    have hr3 := (hr3.below hB5).below hB6
    refine cS rfl rfl rfl rfl (fun hq => ?_) (fun hq => ?_)
    · have hbit : (if k / 2 ^ (n - m) % 2 = 1 then (49 : UInt8) else 48) = 49 := if_pos (cmpN_zero.1 hq)
      refine dr U 600 rfl (by simp only [AllP, InR, List.nil_append, List.cons_append, and_true, List.length_cons, List.length_nil, List.length_append]; omega) ?_
      refine rend _ (m - 1) ⟨a3, c3, 49 :: s, rfl, by omega, ?_, hr3, hB6', by simp only [List.length_cons]; omega⟩ (by omega) ⟨rfl, iv (by omega), rfl, trivial⟩
      rw [show n - (m - 1) = (n - m) + 1 from by omega, bitsOf_front, hbit, hs]
    · have hbit : (if k / 2 ^ (n - m) % 2 = 1 then (49 : UInt8) else 48) = 48 := if_neg (fun h => hq (cmpN_zero.2 h))
      refine dr U 600 rfl (by simp only [AllP, InR, List.nil_append, List.cons_append, and_true, List.length_cons, List.length_nil, List.length_append]; omega) ?_
      refine rend _ (m - 1) ⟨a3, c3, 48 :: s, rfl, by omega, ?_, hr3, hB6', by simp only [List.length_cons]; omega⟩ (by omega) ⟨rfl, iv (by omega), rfl, trivial⟩
      rw [show n - (m - 1) = (n - m) + 1 from by omega, bitsOf_front, hbit, hs]
  · obtain rfl : m = 0 := by omega
    rw [Nat.sub_zero] at hs
    subst hs
    refine dr U 600 rfl trivial ?_
    exact ret Tryz.results54 rfl ⟨_, rfl, rfl, hB⟩

theorem rWord_calls (x : List UInt8) (n : Int) (hx : x.length ≤ 1099511627776) (hn : -9223372036854775808 ≤ n ∧ n ≤ 9223372036854775807) (w : World) :
    Calls Tryz.prog 23 #[.string ⟨⟨x⟩⟩, .int .i64 n] w (Ret fun v w' => WordR x n v ∧ Below w.heap.size w w') := by
  refine enter Tryz.func23 rfl Tryz.ntmps23 (Nat.le_of_ble_eq_true rfl) ?_
  refine dr U 600 rfl trivial ?_
  refine call (f := 50) rfl rfl cb50 (refCheck_calls x (by omega) w) ?_
  rintro v w1 ⟨⟨e, rfl, he⟩, rfl⟩
  refine ⟨_, rfl, ?_⟩
  refine dr U 600 rfl trivial ?_
  refine cS rfl rfl rfl rfl (fun hq => ?_) (fun hq => ?_)
  · refine dr U 600 rfl trivial ?_
    exact ret Tryz.results23 rfl ⟨_, rfl, .inl ⟨e, hq, he, rfl⟩, Below.refl _ _⟩
  · obtain rfl := Classical.not_not.1 hq
    have hform := chk_ok he
    have hly := form_len hform
    refine dr U 600 rfl trivial ?_
    refine cS rfl rfl rfl rfl (fun hq1 => ?_) (fun hq1 => ?_)
    · refine dr U 600 rfl trivial ?_
      exact ret Tryz.results23 rfl ⟨_, rfl, .inr (.inl ⟨he, (.inl hq1), rfl⟩), (Below.refl _ _)⟩
    · refine dr U 600 rfl trivial ?_
      refine cS rfl rfl rfl rfl (fun hq2 => ?_) (fun hq2 => ?_)
      · refine dr U 600 rfl trivial ?_
        exact ret Tryz.results23 rfl ⟨_, rfl, .inr (.inl ⟨he, (.inr (.inl hq2)), rfl⟩), (Below.refl _ _)⟩
      · obtain ⟨k, rfl⟩ : ∃ k : Nat, n = (k : Int) := ⟨n.toNat, by omega⟩
        have hk : k ≤ 256 := by omega
        have hl2 := lim_two (m := 2 ^ k) (pow_257 (by omega))
        refine dr U 600 rfl trivial ?_
        refine call (f := 52) rfl rfl cb52 (read_calls x hform.1.2.2 (by omega) w) ?_
        rintro v w2 ⟨a2, c2, rfl, ho2, hB2⟩
        refine ⟨_, rfl, ?_⟩
        refine dr U 600 rfl trivial ?_
        refine call (f := 53) rfl rfl cb53 (rtwop_calls k hk w2) ?_
        rintro v w3 ⟨⟨a3, c3, rfl, hr3⟩, hB3⟩
        refine ⟨_, rfl, ?_⟩
        have hB3' := bl_tr hB2 hB3 hB2.size
        refine call (f := 51) rfl rfl cb51 (order_calls _ _ a2 a3 c2 c3 w3 ((ownI_rd ho2).below hB3) hr3 (by omega) (by omega)) ?_
        rintro v w4 ⟨rfl, hB4⟩
        refine ⟨_, rfl, ?_⟩
        have hB4' := bl_tr hB3' hB4 hB3'.size
        refine cS rfl rfl rfl rfl (fun hq3 => ?_) (fun hq3 => ?_)
        · have hge : 2 ^ k ≤ dval x := by
            rcases Nat.lt_or_ge (dval x) (2 ^ k) with h | h
            · have := cmpN_neg.2 h; omega
            · exact h
          refine dr U 600 rfl trivial ?_
          exact ret Tryz.results23 rfl ⟨_, rfl, .inr (.inl ⟨he, (.inr (.inr hge)), rfl⟩), hB4'⟩
        · have hlt : dval x < 2 ^ k := cmpN_neg.1 (by omega)
          refine dr U 600 rfl trivial ?_
          refine call (f := 52) rfl rfl cb52 (read_calls x hform.1.2.2 (by omega) w4) ?_
          rintro v w5 ⟨a5, c5, rfl, ho5, hB5⟩
          refine ⟨_, rfl, ?_⟩
          have hB5' := bl_tr hB4' hB5 hB4'.size
          refine dr U 600 rfl trivial ?_
          refine call (f := 54) rfl rfl cb54 (rword_calls _ k hk hlt a5 c5 w5 (ownI_rd ho5)) ?_
          rintro v w6 ⟨rfl, hB6⟩
          refine ⟨_, rfl, ?_⟩
          refine dr U 600 rfl trivial ?_
          exact ret Tryz.results23 rfl ⟨_, rfl, .inr (.inr ⟨he, by omega, by omega, hlt, rfl⟩), bl_tr hB5' hB6 hB5'.size⟩

theorem rfrombytes_calls (bs : List UInt8) (n : Int) (a : Option Addr) (c : Nat) (w : World) (hs : Sl w a (byteCells bs)) (hl : bs.length ≤ 1099511627776) (hn : -9223372036854775808 ≤ n ∧ n ≤ 9223372036854775807) :
    Calls Tryz.prog 25 #[.slice a bs.length c, .int .i64 n] w (Ret fun v w' => FbR bs n v ∧ w = w') := by
  refine enter Tryz.func25 rfl Tryz.ntmps25 (Nat.le_of_ble_eq_true rfl) ?_
  refine dr U 600 rfl trivial ?_
  refine cS rfl rfl rfl rfl (fun hq => ?_) (fun hq => ?_)
  · refine dr U 600 rfl trivial ?_
    exact ret Tryz.results25 rfl ⟨_, rfl, .inl ⟨.inl hq, rfl⟩, rfl⟩
  · refine dr U 600 rfl trivial ?_
    refine cS rfl rfl rfl rfl (fun hq => ?_) (fun hq => ?_)
    · refine dr U 600 rfl trivial ?_
      exact ret Tryz.results25 rfl ⟨_, rfl, .inl ⟨.inr hq, rfl⟩, rfl⟩
    · obtain ⟨k, rfl⟩ : ∃ k : Nat, n = (k : Int) := ⟨n.toNat, by omega⟩
      have hk : k ≤ 256 := by omega
      refine dr U 600 rfl (by first | exact True.intro | (simp only [AllP, InR, List.nil_append, List.cons_append, and_true]; omega)) ?_
      refine cS rfl rfl rfl rfl (fun hq => ?_) (fun hq => ?_)
      · refine dr U 600 rfl trivial ?_
        exact ret Tryz.results25 rfl ⟨_, rfl, .inr (.inl ⟨by omega, by omega, hq, rfl⟩), rfl⟩
      · refine dr U 600 rfl trivial ?_
        refine loopR (fun f w' m => ∃ (i : Nat) (s : List UInt8), f = [(0, .slice a bs.length c), (1, .int .i64 (k : Nat)), (6, .string ⟨⟨s⟩⟩), (7, .int .i64 (i : Nat))] ∧ i ≤ k ∧ s = fbits bs i ∧ w = w' ∧ m = k - i)
          ⟨0, [], rfl, by omega, rfl, rfl, rfl⟩ ⟨rfl, rfl, rfl, rfl, trivial⟩ ?_
        rintro f w1 m ⟨i, s, rfl, hi, rfl, rfl, rfl⟩
        have hfl := fbits_length bs i
        refine dr U 600 rfl trivial ?_
        refine cS rfl rfl rfl rfl (fun hq => ?_) (fun hq => ?_)
        · have hix : i / 8 < bs.length := by omega
          have hcell : (byteCells bs)[i / 8]? = some (.int .u8 ((bs.getD (i / 8) 0).toNat : Nat)) := by simp [byteCells, hix, List.getD]
          have hxl := (bs.getD (i / 8) 0).toNat_lt
          refine dr U 600 rfl (by first | exact True.intro | (simp only [AllP, InR, List.nil_append, List.cons_append, and_true]; omega)) ?_
          refine il U rfl rfl rfl rfl rfl rfl rfl (fun _ => rfl) rfl (i / 8) (by omega) hix hs hcell ?_
          refine dr U 600 rfl (by first | exact True.intro | (simp only [AllP, InR, List.nil_append, List.cons_append, and_true]; omega)) ?_
          refine shr8 (bs.getD (i / 8) 0).toNat (7 - i % 8) rfl (iv (by omega)) (by omega) rfl rfl ?_
          refine and8 _ rfl rfl (Nat.lt_of_le_of_lt (Nat.div_le_self _ _) hxl) rfl rfl ?_
          refine cS rfl rfl rfl rfl (fun hq => ?_) (fun hq => ?_)
          · have hbit : fbit bs i = true := decide_eq_true (by exact_mod_cast hq)
            refine dr U 600 rfl (by simp only [AllP, InR, List.nil_append, List.cons_append, and_true, List.length_cons, List.length_nil, List.length_append]; omega) ?_
            exact rend _ _ ⟨i + 1, fbits bs i ++ [49], rfl, by omega, by rw [fbits_succ, hbit]; rfl, rfl, rfl⟩ (by omega) ⟨rfl, rfl, rfl, iv (by omega), trivial⟩
          · have hbit : fbit bs i = false := decide_eq_false (fun h => hq (by exact_mod_cast h))
            refine dr U 600 rfl (by simp only [AllP, InR, List.nil_append, List.cons_append, and_true, List.length_cons, List.length_nil, List.length_append]; omega) ?_
            exact rend _ _ ⟨i + 1, fbits bs i ++ [48], rfl, by omega, by rw [fbits_succ, hbit]; rfl, rfl, rfl⟩ (by omega) ⟨rfl, rfl, rfl, iv (by omega), trivial⟩
        · obtain rfl : i = k := by omega
          refine dr U 600 rfl trivial ?_
          exact ret Tryz.results25 rfl ⟨_, rfl, .inr (.inr ⟨by omega, by omega, by omega, rfl⟩), rfl⟩

theorem piece_at (n : Nat) (l : List UInt8) (i : Nat) : (l.take (i * n + n)).drop (i * n) = piece n l i := by
  unfold piece
  rw [List.drop_take, Nat.add_sub_cancel_left]
theorem rcut_calls (l : List UInt8) (n : Int) (hl : l.length ≤ 1099511627776) (hn : -9223372036854775808 ≤ n ∧ n ≤ 9223372036854775807) (w : World) :
    Calls Tryz.prog 26 #[.string ⟨⟨l⟩⟩, .int .i64 n] w (Ret fun v w' => CutR l n w v w' ∧ Below w.heap.size w w') := by
  refine enter Tryz.func26 rfl Tryz.ntmps26 (Nat.le_of_ble_eq_true rfl) ?_
  refine dr U 600 rfl trivial ?_
  refine call (f := 29) rfl rfl cb29 (rbcheck_calls l hl w) ?_
  rintro v w1 ⟨⟨e, rfl, he⟩, rfl⟩
  refine ⟨_, rfl, ?_⟩
  refine dr U 600 rfl trivial ?_
  refine cS rfl rfl rfl rfl (fun hq => ?_) (fun hq => ?_)
  · refine dr U 600 rfl trivial ?_
    rcases he with ⟨_, h⟩ | ⟨h1, rfl⟩
    · exact absurd h hq
    · exact ret Tryz.results26 rfl ⟨_, rfl, .inl ⟨h1, rfl⟩, Below.refl _ _⟩
  · obtain rfl := Classical.not_not.1 hq
    have hb : Bin l := by
      rcases he with ⟨h, _⟩ | ⟨_, h⟩
      · exact h
      · cases h
    refine dr U 600 rfl trivial ?_
    refine cS rfl rfl rfl rfl (fun hq1 => ?_) (fun hq1 => ?_)
    · refine dr U 600 rfl trivial ?_
      exact ret Tryz.results26 rfl ⟨_, rfl, .inr (.inl ⟨hb, .inl hq1, rfl⟩), Below.refl _ _⟩
    · refine dr U 600 rfl trivial ?_
      refine cS rfl rfl rfl rfl (fun hq2 => ?_) (fun hq2 => ?_)
      · refine dr U 600 rfl trivial ?_
        exact ret Tryz.results26 rfl ⟨_, rfl, .inr (.inl ⟨hb, .inr hq2, rfl⟩), Below.refl _ _⟩
      · obtain ⟨k, rfl⟩ : ∃ k : Nat, n = (k : Int) := ⟨n.toNat, by omega⟩
        have hk : k ≤ 256 := by omega
        have hk1 : 1 ≤ k := by omega
        refine dr U 600 rfl (by first | exact True.intro | (simp only [AllP, InR, List.nil_append, List.cons_append, and_true]; omega)) ?_
        refine cS rfl rfl rfl rfl (fun hq3 => ?_) (fun hq3 => ?_)
        · refine dr U 600 rfl trivial ?_
          exact ret Tryz.results26 rfl ⟨_, rfl, .inr (.inr (.inl ⟨hb, by omega, by omega, by rw [Int.toNat_natCast]; omega, rfl⟩)), Below.refl _ _⟩
        · have hmod : l.length % k = 0 := by omega
          have hNk : l.length / k * k = l.length := Nat.div_mul_cancel (Nat.dvd_of_mod_eq_zero hmod)
          have hNl : l.length / k ≤ l.length := Nat.div_le_self _ _
          generalize hN : l.length / k = N at *
          refine dr U 600 rfl trivial ?_
          refine loopR (fun f w' m => ∃ (i p : Nat) (a : Option Addr) (c : Nat), f = [(0, .string ⟨⟨l⟩⟩), (1, .int .i64 (k : Nat)), (7, .slice a i c), (8, .int .i64 (p : Nat))] ∧ i ≤ N ∧ p = i * k ∧ w'.ownsRow w.heap.size 30 1 (.slice a i c) i (strs (cuts k l i)) ∧ Below w.heap.size w w' ∧ m = N - i)
            ⟨0, 0, none, 0, rfl, by omega, by simp, ⟨rfl, .inl ⟨rfl, rfl⟩⟩, Below.refl _ _, rfl⟩ ⟨rfl, rfl, rfl, rfl, trivial⟩ ?_
          rintro f w1 m ⟨i, p, a, c, rfl, hi, hp, ho, hB, rfl⟩
          refine dr U 600 rfl trivial ?_
          refine cS rfl rfl rfl rfl (fun hq => ?_) (fun hq => ?_)
          · have hiN : i < N := by
              rcases Nat.lt_or_ge i N with h | h
              · exact h
              · have : N * k ≤ i * k := Nat.mul_le_mul_right k h
                omega
            have hpk : p + k ≤ l.length := by
              have : (i + 1) * k ≤ N * k := Nat.mul_le_mul_right k hiN
              rw [Nat.succ_mul] at this; omega
            refine dr U 600 rfl (by first | exact True.intro | (simp only [AllP, InR, List.nil_append, List.cons_append, and_true]; omega)) ?_
            simp only [show ((p : Int) + (k : Int)).toNat = p + k from by omega, Int.toNat_natCast]
            have hpc : (l.take (p + k)).drop p = piece k l i := by rw [hp]; exact piece_at k l i
            rw [hpc]
            refine ap U (v := (.string ⟨⟨piece k l i⟩⟩)) rfl rfl rfl rfl rfl rfl (fun _ => rfl) rfl (fun _ => rfl) rfl rfl rfl ho hB.size (by omega) (by decide) ?_
            intro a2 c2 w2 ho2 hg2
            refine dr U 600 rfl (by first | exact True.intro | (simp only [AllP, InR, List.nil_append, List.cons_append, and_true]; omega)) ?_
            refine rend _ _ ⟨i + 1, p + k, a2, c2, rfl, by omega, by rw [Nat.succ_mul, hp], by rw [cuts_succ]; exact ho2, hB.grown hg2 hB.size (fun g e => (own_block ho g e).1), rfl⟩ (by omega) ⟨rfl, rfl, rfl, iv (by omega), trivial⟩
          · have hiN : i = N := by
              rcases Nat.lt_or_ge i N with h | h
              · have : (i + 1) * k ≤ N * k := Nat.mul_le_mul_right k h
                rw [Nat.succ_mul] at this; omega
              · omega
            subst hiN
            refine dr U 600 rfl trivial ?_
            refine ret Tryz.results26 rfl ⟨_, rfl, .inr (.inr (.inr ⟨hb, by omega, by omega, by rw [Int.toNat_natCast]; exact hmod, a, c, ?_, ?_⟩)), hB⟩
            · rw [Int.toNat_natCast, hN]; rfl
            · rw [Int.toNat_natCast, hN]; exact ho

theorem rjoin_calls (ls : List (List UInt8)) (a : Option Addr) (c : Nat) (w : World) (hs : Sl w a (strs ls)) (hl : ls.length ≤ 1099511627776) (hf : ls.flatten.length ≤ 1099511627776) :
    Calls Tryz.prog 28 #[.slice a ls.length c] w (Ret fun v w' => JoinR ls v ∧ w = w') := by
  refine enter Tryz.func28 rfl Tryz.ntmps28 (Nat.le_of_ble_eq_true rfl) ?_
  refine dr U 600 rfl trivial ?_
  refine loopR (fun f w' m => ∃ (i : Nat) (s : List UInt8), f = [(0, .slice a ls.length c), (4, .string ⟨⟨s⟩⟩), (5, .int .i64 (i : Nat))] ∧ i ≤ ls.length ∧ s = (ls.take i).flatten ∧ (∀ t ∈ ls.take i, Bin t) ∧ w = w' ∧ m = ls.length - i)
    ⟨0, [], rfl, by omega, rfl, fun t h => by simp at h, rfl, rfl⟩ ⟨rfl, rfl, rfl, trivial⟩ ?_
  rintro f w1 m ⟨i, s, rfl, hi, rfl, hb, rfl, rfl⟩
  refine dr U 600 rfl trivial ?_
  refine cS rfl rfl rfl rfl (fun hq => ?_) (fun hq => ?_)
  · have hil : i < ls.length := by omega
    have hgd : ls.getD i [] = ls[i] := by simp [List.getD, hil]
    have hmem : ls[i] ∈ ls := List.getElem_mem hil
    have hft := flat_take i hil
    have hfl := flat_len (ls := ls) (i + 1)
    have hlen := congrArg List.length hft
    rw [List.length_append] at hlen
    refine dr U 600 rfl trivial ?_
    refine il U rfl rfl rfl rfl rfl rfl rfl (fun _ => rfl) rfl i rfl hil hs (getS hil) ?_
    refine call (f := 29) rfl rfl cb29 (rbcheck_calls _ (by omega) w) ?_
    rintro v w2 ⟨⟨e, rfl, he⟩, rfl⟩
    refine ⟨_, rfl, ?_⟩
    refine dr U 600 rfl trivial ?_
    refine cS rfl rfl rfl rfl (fun hq => ?_) (fun hq => ?_)
    · refine dr U 600 rfl trivial ?_
      rcases he with ⟨_, h⟩ | ⟨h1, rfl⟩
      · exact absurd h hq
      · exact ret Tryz.results28 rfl ⟨_, rfl, .inl ⟨⟨_, hmem, hgd ▸ h1⟩, rfl⟩, rfl⟩
    · have hbi : Bin ls[i] := by
        rcases he with ⟨h, _⟩ | ⟨_, h⟩
        · exact hgd ▸ h
        · exact absurd h (fun h => hq (by rw [h]; decide))
      refine dr U 600 rfl trivial ?_
      refine il U rfl rfl rfl rfl rfl rfl rfl (fun _ => rfl) rfl i rfl hil hs (getS hil) ?_
      refine dr U 600 rfl (by first | exact True.intro | (simp only [AllP, InR, List.nil_append, List.cons_append, and_true]; omega)) ?_
      refine rend _ _ ⟨i + 1, (ls.take i).flatten ++ ls.getD i [], rfl, by omega, hft.symm, fun t ht => ?_, rfl, rfl⟩ (by omega) ⟨rfl, rfl, iv (by omega), trivial⟩
      · rw [List.take_succ_eq_append_getElem hil] at ht
        rcases List.mem_append.1 ht with h | h
        · exact hb t h
        · rw [List.mem_singleton.1 h]; exact hbi
  · obtain rfl : i = ls.length := by omega
    rw [List.take_length] at hb
    simp only [List.take_length]
    refine dr U 600 rfl trivial ?_
    exact ret Tryz.results28 rfl ⟨_, rfl, .inr ⟨hb, rfl⟩, rfl⟩

theorem ownby_calls (bs : List UInt8) (a : Option Addr) (c : Nat) (w : World) (hs : Sl w a (byteCells bs)) (hl : bs.length ≤ 1099511627776) :
    Calls Tryz.prog 24 #[.slice a bs.length c] w (Ret fun v w' => (∃ a' c', v = .slice a' bs.length c' ∧ Sl w' a' (byteCells bs)) ∧ Below w.heap.size w w') := by
  refine enter Tryz.func24 rfl Tryz.ntmps24 (Nat.le_of_ble_eq_true rfl) ?_
  refine dr U 600 rfl trivial ?_
  refine bs0 U rfl rfl rfl rfl ?_
  intro w1 ho1 hs1 hg1
  have hB1 : Below w.heap.size w w1 := (Below.refl _ _).grown hg1 (Nat.le_refl _) (fun k e => by cases e)
  refine dr U 600 rfl trivial ?_
  refine aw U rfl rfl rfl rfl rfl rfl rfl rfl rfl ho1 (hs.stay hB1) (by rw [byteCells_length, Nat.mul_one]) (fun u hu => by
    unfold byteCells at hu
    obtain ⟨x, _, rfl⟩ := List.mem_map.1 hu; rfl) hB1.size (by omega) rfl ?_
  intro a2 c2 w2 ho2 hg2
  rw [Nat.zero_add, List.nil_append] at ho2
  simp only [Nat.zero_add]
  refine dr U 600 rfl trivial ?_
  exact ret Tryz.results24 rfl ⟨_, rfl, ⟨a2, c2, rfl, own_sl ho2⟩, hB1.grown hg2 hB1.size (fun g e => by simp [ab] at e; omega)⟩
theorem ownls_calls (ls : List (List UInt8)) (a : Option Addr) (c : Nat) (w : World) (hs : Sl w a (strs ls)) (hl : ls.length ≤ 1099511627776) :
    Calls Tryz.prog 27 #[.slice a ls.length c] w (Ret fun v w' => (∃ a' c', v = .slice a' ls.length c' ∧ Sl w' a' (strs ls)) ∧ Below w.heap.size w w') := by
  refine enter Tryz.func27 rfl Tryz.ntmps27 (Nat.le_of_ble_eq_true rfl) ?_
  refine dr U 600 rfl trivial ?_
  refine bs0 U rfl rfl rfl rfl ?_
  intro w1 ho1 hs1 hg1
  have hB1 : Below w.heap.size w w1 := (Below.refl _ _).grown hg1 (Nat.le_refl _) (fun k e => by cases e)
  refine dr U 600 rfl trivial ?_
  refine aw U rfl rfl rfl rfl rfl rfl rfl rfl rfl ho1 (hs.stay hB1) (by unfold strs; rw [List.length_map, Nat.mul_one]) (fun u hu => by
    unfold strs at hu
    obtain ⟨x, _, rfl⟩ := List.mem_map.1 hu; rfl) hB1.size (by omega) rfl ?_
  intro a2 c2 w2 ho2 hg2
  rw [Nat.zero_add, List.nil_append] at ho2
  simp only [Nat.zero_add]
  refine dr U 600 rfl trivial ?_
  exact ret Tryz.results27 rfl ⟨_, rfl, ⟨a2, c2, rfl, own_sl ho2⟩, hB1.grown hg2 hB1.size (fun g e => by simp [ab] at e; omega)⟩
end Go.Proofs.YtcnbohfejgdcbaaGreatDoor
