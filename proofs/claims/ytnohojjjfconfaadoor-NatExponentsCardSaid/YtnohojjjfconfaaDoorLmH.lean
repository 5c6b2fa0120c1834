/-
  Walks of package limbs: Digits, Gcd.
  Conditions: fewer than 2^36 limbs; the library's table of powers of ten is laid.
-/
import Derived.Test.YtnohojjjfconfaaDoorFmt
import Derived.Test.YtnohojjjfconfaaDoorNumD
set_option linter.unusedSimpArgs false
set_option linter.unusedVariables false
namespace Go.Proofs.YtnohojjjfconfaaDoor
open Go Go.Proofs Go.RowKit Go.Lib

theorem digits_calls (n : Nat) (a : Option Addr) (c : Nat) (w : World) (ha : Rd w a c (lim n)) (hl : (lim n).length ≤ 68719476736) (ht : TabOk w) :
    Calls Tryd.prog 44 #[.slice a (lim n).length c] w (Ret fun v w' => v = .int .i64 (nDigits n) ∧ Below w.heap.size w w') := by
  refine enter Tryd.func44 rfl Tryd.ntmps44 (Nat.le_of_ble_eq_true rfl) ?_
  refine dr U 600 rfl trivial ?_
  refine cS rfl rfl rfl rfl (fun hq => ?_) (fun hq => ?_)
  · have h0 : n = 0 := lim_eq_nil.1 (List.length_eq_zero_iff.1 (by omega))
    refine dr U 600 rfl trivial ?_
    refine ret Tryd.results44 rfl ⟨_, rfl, ?_, Below.refl _ _⟩
    rw [h0, nD_zero]; rfl
  · have h0 : n ≠ 0 := fun e => hq (by rw [e, lim_zero]; rfl)
    have hx := (lim_Lm n).getD ((lim n).length - 1)
    have hnd := nD_lim h0
    refine dr U 600 rfl (by first | exact True.intro | (simp only [AllP, InR, List.nil_append, List.cons_append, and_true]; omega)) ?_
    refine il U rfl rfl rfl rfl rfl rfl rfl (fun _ => rfl) rfl ((lim n).length - 1) (by omega) (by omega) ha.1 (getU (by omega)) ?_
    refine call (f := 50) rfl rfl cb50 (fmt_calls _ hx w ht) ?_
    rintro v w1 ⟨rfl, hB⟩
    refine ⟨_, rfl, ?_⟩
    have hb := nDigits_pos ((lim n).getD ((lim n).length - 1) 0)
    have hb2 := nD_le 9 ((lim n).getD ((lim n).length - 1) 0) (by omega) hx
    have hdl := decDigits_length ((lim n).getD ((lim n).length - 1) 0)
    refine dr U 600 rfl (by first | exact True.intro | (simp only [AllP, InR, List.nil_append, List.cons_append, and_true]; omega)) ?_
    refine ret Tryd.results44 rfl ⟨_, rfl, ?_, hB⟩
    show Value.int _ _ = Value.int _ _
    congr 1
    omega

theorem gcd_calls (p q : Nat) (a b : Option Addr) (c d : Nat) (w : World) (ha : Rd w a c (lim p)) (hb : Rd w b d (lim q)) (hpl : (lim p).length ≤ 68719476736) (hql : (lim q).length ≤ 68719476736) :
    Calls Tryd.prog 26 #[.slice a (lim p).length c, .slice b (lim q).length d] w (Ret fun v w' => Red w' v (lim (Nat.gcd p q)) ∧ Below w.heap.size w w') := by
  refine enter Tryd.func26 rfl Tryd.ntmps26 (Nat.le_of_ble_eq_true rfl) ?_
  refine dr U 600 rfl trivial ?_
  refine loopR (fun l w' mu => ∃ m0 a0 c0 b0 d0, l = [(0, .slice a0 (lim m0).length c0), (1, .slice b0 (lim mu).length d0)] ∧ Rd w' a0 c0 (lim m0) ∧ Rd w' b0 d0 (lim mu) ∧ Nat.gcd m0 mu = Nat.gcd p q ∧ (lim m0).length ≤ 68719476736 ∧ (lim mu).length ≤ 68719476736 ∧ Below w.heap.size w w')
    (m0 := q) ⟨p, a, c, b, d, rfl, ha, hb, rfl, hpl, hql, Below.refl _ _⟩ ⟨rfl, rfl, trivial⟩ ?_
  rintro l w1 mu ⟨m0, a0, c0, b0, d0, rfl, ha, hb, hg, hl1, hl2, hB⟩
  refine dr U 600 rfl trivial ?_
  refine cS rfl rfl rfl rfl (fun hq => ?_) (fun hq => ?_)
  · have h0 : 0 < mu := by
      rcases Nat.eq_zero_or_pos mu with h | h
      · rw [h, lim_zero] at hq; simp at hq
      · exact h
    refine dr U 600 rfl trivial ?_
    refine call (f := 29) rfl rfl cb29 (divmod_calls m0 mu h0 a0 b0 c0 d0 w1 ha hb hl1 hl2) ?_
    rintro v w2 ⟨v1, v2, rfl, _, ⟨a2, c2, rfl, hr2⟩, hB2⟩
    refine ⟨_, rfl, ?_⟩
    refine dr U 600 rfl trivial ?_
    refine rend _ (m0 % mu) ⟨mu, b0, d0, a2, c2, rfl, hb.below hB2, hr2, ?_, hl2, Nat.le_trans (lim_len_mono (Nat.le_of_lt (Nat.mod_lt _ h0))) hl2, bl_tr hB hB2 hB.size⟩ (Nat.mod_lt _ h0) ⟨rfl, rfl, trivial⟩
    rw [← hg, Nat.gcd_comm m0 mu, Nat.gcd_rec mu m0]; exact Nat.gcd_comm _ _
  · have h0 : mu = 0 := lim_eq_nil.1 (List.length_eq_zero_iff.1 (by omega))
    subst h0
    rw [Nat.gcd_zero_right] at hg
    subst hg
    refine dr U 600 rfl trivial ?_
    exact ret Tryd.results26 rfl ⟨_, rfl, ⟨a0, c0, rfl, ha⟩, hB⟩
end Go.Proofs.YtnohojjjfconfaaDoor
