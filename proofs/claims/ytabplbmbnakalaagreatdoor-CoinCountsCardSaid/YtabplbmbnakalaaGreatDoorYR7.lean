/-
  Walks of the reference's bit strings: Check, small, Value, Two, Share, checked, Number, Cell, word, Word, FromBytes, Cut, Join; copies of slices.
  Conditions: texts take fewer than 2^40 bytes.
-/
import Derived.Test.YtabplbmbnakalaaGreatDoorYOw
import Derived.Test.YtabplbmbnakalaaGreatDoorYRG
import Derived.Test.YtabplbmbnakalaaGreatDoorYR4
import Derived.Test.YtabplbmbnakalaaGreatDoorYBl
import Derived.Test.YtabplbmbnakalaaGreatDoorYBk
set_option linter.unusedSimpArgs false
set_option linter.unusedVariables false
set_option maxHeartbeats 1000000
namespace Go.Proofs.YtabplbmbnakalaaGreatDoor
open Go Go.Proofs Go.RowKit Go.Lib

theorem rbcheck_calls (l : List UInt8) (hl : l.length ≤ 1099511627776) (w : World) :
    Calls Tryz.prog 66 #[.string ⟨⟨l⟩⟩] w (Ret fun v w' => (∃ e, v = .int .i64 e ∧ BChk l e) ∧ w = w') := by
  refine enter Tryz.func66 rfl Tryz.ntmps66 (Nat.le_of_ble_eq_true rfl) ?_
  refine dr U 600 rfl trivial ?_
  refine loopR (fun f w' m => ∃ i : Nat, f = [(0, .string ⟨⟨l⟩⟩), (3, .int .i64 (i : Nat))] ∧ i ≤ l.length ∧ (∀ c ∈ l.take i, c = 48 ∨ c = 49) ∧ w = w' ∧ m = l.length - i) ⟨0, rfl, by omega, by simp, rfl, rfl⟩ ⟨rfl, rfl, trivial⟩ ?_
  rintro f w1 m ⟨i, rfl, hi, hd, rfl, rfl⟩
  refine dr U 600 rfl trivial ?_
  refine cS rfl rfl rfl rfl (fun hq => ?_) (fun hq => ?_)
  · have hil : i < l.length := by omega
    have hgd : l.getD i 0 = l[i] := by simp [List.getD, hil]
    have hmem : l[i] ∈ l := List.getElem_mem hil
    have next : (l[i] = 48 ∨ l[i] = 49) → ∀ c ∈ l.take (i + 1), c = 48 ∨ c = 49 := fun h c hc => by
      rw [List.take_succ_eq_append_getElem hil] at hc
      rcases List.mem_append.1 hc with h1 | h1
      · exact hd c h1
      · rw [List.mem_singleton.1 h1]; exact h
    refine dr U 600 rfl (by first | exact True.intro | (simp only [AllP, InR, List.nil_append, List.cons_append, and_true]; omega)) ?_
    simp only [Int.toNat_natCast, hgd]
    refine cS rfl rfl rfl rfl (fun hq1 => ?_) (fun hq1 => ?_)
    · refine dr U 600 rfl (by first | exact True.intro | (simp only [AllP, InR, List.nil_append, List.cons_append, and_true]; omega)) ?_
      simp only [Int.toNat_natCast, hgd]
      refine cS rfl rfl rfl rfl (fun hq2 => ?_) (fun hq2 => ?_)
      · refine dr U 600 rfl trivial ?_
        refine ret Tryz.results66 rfl ⟨_, rfl, ⟨3, rfl, .inr ⟨fun h => ?_, rfl⟩⟩, rfl⟩
        rcases h _ hmem with e | e
        · exact hq1 (by rw [e]; rfl)
        · exact hq2 (by rw [e]; rfl)
      · have he : l[i] = 49 := UInt8.toNat_inj.1 (by have := Classical.not_not.1 hq2; simp; omega)
        refine dr U 600 rfl (by first | exact True.intro | (simp only [AllP, InR, List.nil_append, List.cons_append, and_true]; omega)) ?_
        exact rend _ _ ⟨i + 1, rfl, by omega, next (.inr he), rfl, rfl⟩ (by omega) ⟨rfl, iv (by omega), trivial⟩
    · have he : l[i] = 48 := UInt8.toNat_inj.1 (by have := Classical.not_not.1 hq1; simp; omega)
      refine dr U 600 rfl (by first | exact True.intro | (simp only [AllP, InR, List.nil_append, List.cons_append, and_true]; omega)) ?_
      exact rend _ _ ⟨i + 1, rfl, by omega, next (.inl he), rfl, rfl⟩ (by omega) ⟨rfl, iv (by omega), trivial⟩
  · obtain rfl : i = l.length := by omega
    rw [List.take_length] at hd
    refine dr U 600 rfl trivial ?_
    exact ret Tryz.results66 rfl ⟨_, rfl, ⟨0, rfl, .inl ⟨hd, rfl⟩⟩, rfl⟩

theorem rint_nat (k : Nat) (hk : (k : Int) ≤ 9223372036854775807) (w : World) :
    Calls Tryz.prog 41 #[.int .i64 (k : Nat)] w (Ret fun v w' => v = .string ⟨⟨decDigits k⟩⟩ ∧ w = w') := by
  refine enter Tryz.func41 rfl Tryz.ntmps41 (Nat.le_of_ble_eq_true rfl) ?_
  refine dr U 600 rfl trivial ?_
  refine cT rfl rfl rfl ((by omega)) ?_; refine dr U 600 rfl trivial ?_
  refine call (f := 82) rfl rfl cb82 (refFromInt_calls (k : Nat) hk w) ?_
  rintro v w1 ⟨hv, rfl⟩
  obtain rfl : v = .tuple ⟨[.string ⟨⟨decDigits k⟩⟩, .int .i64 0]⟩ := by
    rcases hv with ⟨h, _⟩ | ⟨_, h⟩
    · omega
    · rw [Int.toNat_natCast] at h; exact h
  refine ⟨_, rfl, ?_⟩
  refine dr U 600 rfl trivial ?_
  exact ret Tryz.results41 rfl ⟨_, rfl, rfl, rfl⟩
theorem rsmall_calls (k : Nat) (hk : (k : Int) ≤ 9223372036854775807) (w : World) :
    Calls Tryz.prog 78 #[.int .i64 (k : Nat)] w (Ret fun v w' => RedI w' v (lim k) ∧ Below w.heap.size w w') := by
  have hk19 := nD_le 19 k (by omega) (by omega)
  have hkl := decDigits_length k
  refine enter Tryz.func78 rfl Tryz.ntmps78 (Nat.le_of_ble_eq_true rfl) ?_
  refine dr U 600 rfl trivial ?_
  refine call (f := 41) rfl rfl cb41 (rint_nat k hk w) ?_
  rintro v w1 ⟨rfl, rfl⟩
  refine ⟨_, rfl, ?_⟩
  refine call (f := 70) rfl rfl cb70 (read_calls (decDigits k) (dec_dval k).1 (by omega) w) ?_
  rintro v w2 ho
  rw [(dec_dval k).2] at ho
  have hB := ho
  obtain ⟨a, c, rfl, ho2, hB⟩ := ho
  refine ⟨_, rfl, ?_⟩
  refine dr U 600 rfl trivial ?_
  exact ret Tryz.results78 rfl ⟨_, rfl, ⟨a, c, rfl, ownI_rd ho2⟩, hB⟩

theorem lim_two {m : Nat} (h : m ≤ 2 ^ 256) : (lim m).length ≤ 78 := by
  refine Nat.le_trans (lim_le_nD m) (nD_le _ _ (by omega) (Nat.lt_of_le_of_lt h (by decide)))
theorem pow_257 {n : Nat} (h : n ≤ 256) : 2 ^ n ≤ 2 ^ 256 := Nat.pow_le_pow_right (by omega) h

theorem rvalue_calls (l : List UInt8) (hl : l.length ≤ 256) (w : World) :
    Calls Tryz.prog 105 #[.string ⟨⟨l⟩⟩] w (Ret fun v w' => RedI w' v (lim (bval l)) ∧ Below w.heap.size w w') := by
  refine enter Tryz.func105 rfl Tryz.ntmps105 (Nat.le_of_ble_eq_true rfl) ?_
  refine dr U 600 rfl trivial ?_
  refine call (f := 78) rfl rfl cb78 (rsmall_calls 0 (by omega) w) ?_
  rintro v w1 ⟨⟨a1, c1, rfl, hr1⟩, hB1⟩
  refine ⟨_, rfl, ?_⟩
  refine dr U 600 rfl trivial ?_
  refine loopR (fun f w' m => ∃ (i : Nat) (a : Option Addr) (c : Nat), f = [(0, .string ⟨⟨l⟩⟩), (3, .slice a (lim (bval (l.take i))).length c), (4, .int .i64 (i : Nat))] ∧ i ≤ l.length ∧ RdI w' a c (lim (bval (l.take i))) ∧ Below w.heap.size w w' ∧ m = l.length - i)
    ⟨0, a1, c1, rfl, by omega, hr1, hB1, rfl⟩ ⟨rfl, rfl, rfl, trivial⟩ ?_
  rintro f w2 m ⟨i, a, c, rfl, hi, hr, hB, rfl⟩
  refine dr U 600 rfl trivial ?_
  refine cS rfl rfl rfl rfl (fun hq => ?_) (fun hq => ?_)
  · have hil : i < l.length := by omega
    have hgd : l.getD i 0 = l[i] := by simp [List.getD, hil]
    have htk := bval_take hil
    have hlt := bval_lt i (l.take i) (by rw [List.length_take]; omega)
    have hpp := pow_257 (n := i + 1) (by omega)
    have hps := Nat.pow_succ 2 i
    have hlm := lim_two (m := bval (l.take i)) (by omega)
    have hlm2 := lim_two (m := bval (l.take i) + bval (l.take i)) (by omega)
    refine dr U 600 rfl trivial ?_
    refine call (f := 79) rfl rfl cb79 (plus_calls _ _ a a c c w2 hr hr (by omega) (by omega)) ?_
    rintro v w3 ⟨a3, c3, rfl, ho3, hB3⟩
    refine ⟨_, rfl, ?_⟩
    have hB3' := bl_tr hB hB3 hB.size
    refine dr U 600 rfl (by first | exact True.intro | (simp only [AllP, InR, List.nil_append, List.cons_append, and_true]; omega)) ?_
    simp only [Int.toNat_natCast, hgd]
    refine cS rfl rfl rfl rfl (fun hq1 => ?_) (fun hq1 => ?_)
    · have he : l[i] = 49 := UInt8.toNat_inj.1 (by simp; omega)
      have e1 : 2 * bval (l.take i) + bv1 (l.getD i 0) = bval (l.take i) + bval (l.take i) + 1 := by rw [hgd, he]; unfold bv1; rw [if_pos rfl]; omega
      refine dr U 600 rfl trivial ?_
      refine call (f := 78) rfl rfl cb78 (rsmall_calls 1 (by omega) w3) ?_
      rintro v w4 ⟨⟨a4, c4, rfl, hr4⟩, hB4⟩
      refine ⟨_, rfl, ?_⟩
      have hB4' := bl_tr hB3' hB4 hB3'.size
      refine call (f := 79) rfl rfl cb79 (plus_calls _ _ a3 a4 c3 c4 w4 ((ownI_rd ho3).below hB4) hr4 (by omega) (by rw [lim_one]; decide)) ?_
      rintro v w5 ⟨a5, c5, rfl, ho5, hB5⟩
      refine ⟨_, rfl, ?_⟩
      have hB5' := bl_tr hB4' hB5 hB4'.size
      refine dr U 600 rfl (by first | exact True.intro | (simp only [AllP, InR, List.nil_append, List.cons_append, and_true]; omega)) ?_
      refine rend _ _ ⟨i + 1, a5, c5, rfl, by omega, by rw [htk, e1]; exact (ownI_rd ho5), hB5', rfl⟩ (by omega) ⟨rfl, by rw [htk, e1]; rfl, iv (by omega), trivial⟩
    · have he : l[i] ≠ 49 := fun e => hq1 (by rw [e]; rfl)
      have e1 : 2 * bval (l.take i) + bv1 (l.getD i 0) = bval (l.take i) + bval (l.take i) := by rw [hgd]; unfold bv1; rw [if_neg he]; omega
      refine dr U 600 rfl (by first | exact True.intro | (simp only [AllP, InR, List.nil_append, List.cons_append, and_true]; omega)) ?_
      refine rend _ _ ⟨i + 1, a3, c3, rfl, by omega, by rw [htk, e1]; exact (ownI_rd ho3), hB3', rfl⟩ (by omega) ⟨rfl, by rw [htk, e1]; rfl, iv (by omega), trivial⟩
  · obtain rfl : i = l.length := by omega
    rw [List.take_length] at hr
    simp only [List.take_length]
    refine dr U 600 rfl trivial ?_
    exact ret Tryz.results105 rfl ⟨_, rfl, ⟨a, c, rfl, hr⟩, hB⟩

theorem rtwop_calls (n : Nat) (hn : n ≤ 256) (w : World) :
    Calls Tryz.prog 38 #[.int .i64 (n : Nat)] w (Ret fun v w' => RedI w' v (lim (2 ^ n)) ∧ Below w.heap.size w w') := by
  refine enter Tryz.func38 rfl Tryz.ntmps38 (Nat.le_of_ble_eq_true rfl) ?_
  refine dr U 600 rfl trivial ?_
  refine call (f := 78) rfl rfl cb78 (rsmall_calls 1 (by omega) w) ?_
  rintro v w1 ⟨⟨a1, c1, rfl, hr1⟩, hB1⟩
  refine ⟨_, rfl, ?_⟩
  refine dr U 600 rfl trivial ?_
  refine loopR (l0 := [(0, .int .i64 (n : Nat)), (3, .slice a1 (lim (2 ^ (n - n))).length c1)]) (fun f w' m => ∃ (a : Option Addr) (c : Nat), f = [(0, .int .i64 (m : Nat)), (3, .slice a (lim (2 ^ (n - m))).length c)] ∧ m ≤ n ∧ RdI w' a c (lim (2 ^ (n - m))) ∧ Below w.heap.size w w') (m0 := n)
    ⟨a1, c1, rfl, by omega, by rw [Nat.sub_self]; exact hr1, hB1⟩ ⟨rfl, by rw [Nat.sub_self]; rfl, trivial⟩ ?_
  rintro f w2 m ⟨a, c, rfl, hm, hr, hB⟩
  refine dr U 600 rfl trivial ?_
  refine cS rfl rfl rfl rfl (fun hq => ?_) (fun hq => ?_)
  · have hm0 : 0 < m := by omega
    have hlm := lim_two (m := 2 ^ (n - m)) (pow_257 (by omega))
    refine dr U 600 rfl trivial ?_
    refine call (f := 79) rfl rfl cb79 (plus_calls _ _ a a c c w2 hr hr (by omega) (by omega)) ?_
    rintro v w3 ⟨a3, c3, rfl, ho3, hB3⟩
    refine ⟨_, rfl, ?_⟩
    have e : 2 ^ (n - m) + 2 ^ (n - m) = 2 ^ (n - (m - 1)) := by rw [show n - (m - 1) = (n - m) + 1 from by omega, Nat.pow_succ]; omega
    rw [e] at ho3 ⊢
    refine dr U 600 rfl (by first | exact True.intro | (simp only [AllP, InR, List.nil_append, List.cons_append, and_true]; omega)) ?_
    exact rend _ (m - 1) ⟨a3, c3, rfl, by omega, ownI_rd ho3, bl_tr hB hB3 hB.size⟩ (by omega) ⟨iv (by omega), rfl, trivial⟩
  · obtain rfl : m = 0 := by omega
    rw [Nat.sub_zero] at hr
    simp only [Nat.sub_zero]
    refine dr U 600 rfl trivial ?_
    exact ret Tryz.results38 rfl ⟨_, rfl, ⟨a, c, rfl, hr⟩, hB⟩

theorem rshare_calls (k n : Nat) (hn : n ≤ 256) (hk : k ≤ 2 ^ n) (a : Option Addr) (c : Nat) (w : World) (hr : RdI w a c (lim k)) :
    Calls Tryz.prog 36 #[.slice a (lim k).length c, .int .i64 (n : Nat)] w (Ret fun v w' => v = .string ⟨⟨qtext (mkq false k (2 ^ n))⟩⟩ ∧ Below w.heap.size w w') := by
  have h2 : 2 ^ n < 10 ^ 78 := Nat.lt_of_le_of_lt (Nat.pow_le_pow_right (by omega) hn) (by decide)
  have hkd := nD_le 78 k (by omega) (by omega)
  have h2d := nD_le 78 (2 ^ n) (by omega) h2
  have hkl := decDigits_length k
  have h2l := decDigits_length (2 ^ n)
  have hlk := lim_le_nD k
  have hl2 := lim_le_nD (2 ^ n)
  refine enter Tryz.func36 rfl Tryz.ntmps36 (Nat.le_of_ble_eq_true rfl) ?_
  refine dr U 600 rfl trivial ?_
  refine call (f := 76) rfl rfl cb76 (write_ref k a c w hr (by omega)) ?_
  rintro v w1 ⟨rfl, hB1⟩
  refine ⟨_, rfl, ?_⟩
  refine dr U 600 rfl trivial ?_
  refine call (f := 38) rfl rfl cb38 (rtwop_calls n hn w1) ?_
  rintro v w2 ⟨⟨a2, c2, rfl, hr2⟩, hB2⟩
  refine ⟨_, rfl, ?_⟩
  have hB2' := bl_tr hB1 hB2 hB1.size
  refine call (f := 76) rfl rfl cb76 (write_ref (2 ^ n) a2 c2 w2 hr2 (by omega)) ?_
  rintro v w3 ⟨rfl, hB3⟩
  refine ⟨_, rfl, ?_⟩
  have hB3' := bl_tr hB2' hB3 hB2'.size
  refine call (f := 40) rfl rfl cb40 (rmk_calls (decDigits k) (decDigits (2 ^ n)) (by omega) (by omega) w3) ?_
  rintro v w4 ⟨hm, hB4⟩
  obtain rfl := make_nat (by omega) (by omega) (Nat.ne_of_gt (Nat.pow_pos (by omega))) hm
  refine ⟨_, rfl, ?_⟩
  refine dr U 600 rfl trivial ?_
  exact ret Tryz.results36 rfl ⟨_, rfl, rfl, bl_tr hB3' hB4 hB3'.size⟩

theorem bitsOf_front : ∀ (i k : Nat), bitsOf (i + 1) k = (if k / 2 ^ i % 2 = 1 then 49 else 48) :: bitsOf i k
  | 0, k => by simp [bitsOf]
  | i + 1, k => by
    rw [bitsOf, bitsOf_front i (k / 2), bitsOf, Nat.pow_succ', Nat.div_div_eq_div_mul]; rfl

theorem piece_at (n : Nat) (l : List UInt8) (i : Nat) : (l.take (i * n + n)).drop (i * n) = piece n l i := by
  unfold piece
  rw [List.drop_take, Nat.add_sub_cancel_left]
end Go.Proofs.YtabplbmbnakalaaGreatDoor
