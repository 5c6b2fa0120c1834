/-
  Walk of the statements' Pick; digits of powers.
  Conditions: the number of choices is at least 1.
-/
import Derived.Test.YtnohojjjfconfaaDoorRing
set_option linter.unusedSimpArgs false
set_option linter.unusedVariables false
set_option maxHeartbeats 1000000
namespace Go.Proofs.YtnohojjjfconfaaDoor
open Go Go.Proofs Go.RowKit Go.Lib

theorem tmod_range (x n : Int) (hn : 1 ≤ n) : -n < x.tmod n ∧ x.tmod n < n ∧ (0 ≤ x → 0 ≤ x.tmod n) := by
  rcases Int.le_total 0 x with h | h
  · rw [Int.tmod_eq_emod_of_nonneg h]
    have := Int.emod_nonneg x (show n ≠ 0 by omega)
    have := Int.emod_lt_of_pos x (show 0 < n by omega)
    omega
  · obtain ⟨y, rfl⟩ : ∃ y, x = -y := ⟨-x, by omega⟩
    rw [Int.neg_tmod, Int.tmod_eq_emod_of_nonneg (by omega)]
    have := Int.emod_nonneg y (show n ≠ 0 by omega)
    have := Int.emod_lt_of_pos y (show 0 < n by omega)
    refine ⟨by omega, by omega, fun h0 => ?_⟩
    have : y = 0 := by omega
    subst this
    simp

section
variable {P : Program} {ro : Option Nat} {n : Nat} {ds : List Deferred} {Q : PT} {l l' : Fr} {w w' : World} {arr : Array Oper} {r : List Oper} {k : List It}
theorem rem1 {d : Nat} {t t2 ty : TypeId} {x y : Operand} {ps : String} {af : Array Edge} {g : Option (Nat × Bool)} {kk : IntKind} {m q : Int} (hx : ev l x = some (.int kk m)) (hy : ev l y = some (.int kk q)) (hq : q ≠ 0) (hg : gd arr l g = some true) (hd : Nat.blt d n = true)
    (t' : T P ro n ds Q ((d, .int kk (m.tmod q)) :: l) w (.ops arr r) k) : T P ro n ds Q l w (.ops arr (⟨some d, .binOp .rem t x y t2, ty, ps, af, g⟩ :: r)) k :=
  opv (v := .int kk (m.tmod q)) (by intro c h; cases h) hg (put1_some hd) (fun a hf => by simp [execOp, hf.ev hx, hf.ev hy, eqGuard, binOp, Op.intDiv, hq]) t'
end

theorem pick_calls (x : Int) (n : Nat) (hn : 1 ≤ n) (hn2 : n ≤ 9223372036854775807) (w : World) : Calls Tryd.prog 9 #[.int .i64 x, .int .i64 (n : Nat)] w (Ret fun v w' => (∃ r : Nat, v = .int .i64 (r : Nat) ∧ r < n) ∧ w = w') := by
  obtain ⟨h1, h2, _⟩ := tmod_range x n (by omega)
  refine enter Tryd.func9 rfl Tryd.ntmps9 (Nat.le_of_ble_eq_true rfl) ?_
  first | (refine dr U 4 rfl trivial ?_; refine rem1 rfl rfl (by omega) rfl rfl ?_) | (refine dr U 5 rfl trivial ?_; refine rem1 rfl rfl (by omega) rfl rfl ?_) | (refine dr U 6 rfl trivial ?_; refine rem1 rfl rfl (by omega) rfl rfl ?_) | (refine dr U 7 rfl trivial ?_; refine rem1 rfl rfl (by omega) rfl rfl ?_) | (refine dr U 8 rfl trivial ?_; refine rem1 rfl rfl (by omega) rfl rfl ?_) | (refine dr U 9 rfl trivial ?_; refine rem1 rfl rfl (by omega) rfl rfl ?_) | (refine dr U 10 rfl trivial ?_; refine rem1 rfl rfl (by omega) rfl rfl ?_) | (refine dr U 11 rfl trivial ?_; refine rem1 rfl rfl (by omega) rfl rfl ?_) | (refine dr U 12 rfl trivial ?_; refine rem1 rfl rfl (by omega) rfl rfl ?_) | (refine dr U 13 rfl trivial ?_; refine rem1 rfl rfl (by omega) rfl rfl ?_) | (refine dr U 14 rfl trivial ?_; refine rem1 rfl rfl (by omega) rfl rfl ?_) | (refine dr U 15 rfl trivial ?_; refine rem1 rfl rfl (by omega) rfl rfl ?_)
  refine dr U 600 rfl trivial ?_
  refine cS rfl rfl rfl rfl (fun hq => ?_) (fun hq => ?_)
  · refine dr U 600 rfl (by first | exact True.intro | (simp only [AllP, InR, List.nil_append, List.cons_append, and_true]; omega)) ?_
    refine ret Tryd.results9 rfl ⟨_, rfl, ⟨(x.tmod n + n).toNat, ?_, by omega⟩, rfl⟩
    show Value.int .i64 _ = .int .i64 _
    congr 1; omega
  · refine dr U 600 rfl (by first | exact True.intro | (simp only [AllP, InR, List.nil_append, List.cons_append, and_true]; omega)) ?_
    refine ret Tryd.results9 rfl ⟨_, rfl, ⟨(x.tmod n).toNat, ?_, by omega⟩, rfl⟩
    show Value.int .i64 _ = .int .i64 _
    congr 1; omega

theorem nD_pow {m d : Nat} (k : Nat) (h : nDigits m ≤ d) : nDigits (m ^ k) ≤ d * k + 1 := by
  refine nD_le _ _ (by omega) ?_
  have h1 := Nat.lt_of_lt_of_le (lt_pow_nDigits m) (Nat.pow_le_pow_right (n := 10) (by omega) h)
  have h2 : m ^ k ≤ (10 ^ d) ^ k := Nat.pow_le_pow_left (Nat.le_of_lt h1) k
  rw [← Nat.pow_mul] at h2
  exact Nat.lt_of_le_of_lt h2 (Nat.pow_lt_pow_right (by omega) (by omega))
end Go.Proofs.YtnohojjjfconfaaDoor
