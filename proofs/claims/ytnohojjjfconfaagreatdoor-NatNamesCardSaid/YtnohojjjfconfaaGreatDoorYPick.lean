/-
  Walk of the statements' Pick; digits of powers.
  Conditions: the number of choices is at least 1.
-/
import Derived.Test.YtnohojjjfconfaaGreatDoorYEng
import Derived.Test.YtnohojjjfconfaaGreatDoorYTab
import Derived.Test.YtnohojjjfconfaaGreatDoorYNum
set_option linter.unusedSimpArgs false
set_option linter.unusedVariables false
set_option maxHeartbeats 1000000
namespace Go.Proofs.YtnohojjjfconfaaGreatDoor
open Go Go.Proofs Go.RowKit Go.Lib

theorem pick_calls (x : Int) (n : Nat) (hn : 1 ≤ n) (hn2 : n ≤ 9223372036854775807) (w : World) : Calls Tryz.prog 15 #[.int .i64 x, .int .i64 (n : Nat)] w (Ret fun v w' => (∃ r : Nat, v = .int .i64 (r : Nat) ∧ r < n) ∧ w = w') := by
  obtain ⟨h1, h2, _⟩ := tmod_range x n (by omega)
  refine enter Tryz.func15 rfl Tryz.ntmps15 (Nat.le_of_ble_eq_true rfl) ?_
  first | (refine dr U 4 rfl trivial ?_; refine rem1 rfl rfl (by omega) rfl rfl ?_) | (refine dr U 5 rfl trivial ?_; refine rem1 rfl rfl (by omega) rfl rfl ?_) | (refine dr U 6 rfl trivial ?_; refine rem1 rfl rfl (by omega) rfl rfl ?_) | (refine dr U 7 rfl trivial ?_; refine rem1 rfl rfl (by omega) rfl rfl ?_) | (refine dr U 8 rfl trivial ?_; refine rem1 rfl rfl (by omega) rfl rfl ?_) | (refine dr U 9 rfl trivial ?_; refine rem1 rfl rfl (by omega) rfl rfl ?_) | (refine dr U 10 rfl trivial ?_; refine rem1 rfl rfl (by omega) rfl rfl ?_) | (refine dr U 11 rfl trivial ?_; refine rem1 rfl rfl (by omega) rfl rfl ?_) | (refine dr U 12 rfl trivial ?_; refine rem1 rfl rfl (by omega) rfl rfl ?_) | (refine dr U 13 rfl trivial ?_; refine rem1 rfl rfl (by omega) rfl rfl ?_) | (refine dr U 14 rfl trivial ?_; refine rem1 rfl rfl (by omega) rfl rfl ?_) | (refine dr U 15 rfl trivial ?_; refine rem1 rfl rfl (by omega) rfl rfl ?_)
  refine dr U 600 rfl trivial ?_
  refine cS rfl rfl rfl rfl (fun hq => ?_) (fun hq => ?_)
  · refine dr U 600 rfl (by first | exact True.intro | (simp only [AllP, InR, List.nil_append, List.cons_append, and_true]; omega)) ?_
    refine ret Tryz.results15 rfl ⟨_, rfl, ⟨(x.tmod n + n).toNat, ?_, by omega⟩, rfl⟩
    show Value.int .i64 _ = .int .i64 _
    congr 1; omega
  · refine dr U 600 rfl (by first | exact True.intro | (simp only [AllP, InR, List.nil_append, List.cons_append, and_true]; omega)) ?_
    refine ret Tryz.results15 rfl ⟨_, rfl, ⟨(x.tmod n).toNat, ?_, by omega⟩, rfl⟩
    show Value.int .i64 _ = .int .i64 _
    congr 1; omega

theorem nD_pow {m d : Nat} (k : Nat) (h : nDigits m ≤ d) : nDigits (m ^ k) ≤ d * k + 1 := by
  refine nD_le _ _ (by omega) ?_
  have h1 := Nat.lt_of_lt_of_le (lt_pow_nDigits m) (Nat.pow_le_pow_right (n := 10) (by omega) h)
  have h2 : m ^ k ≤ (10 ^ d) ^ k := Nat.pow_le_pow_left (Nat.le_of_lt h1) k
  rw [← Nat.pow_mul] at h2
  exact Nat.lt_of_le_of_lt h2 (Nat.pow_lt_pow_right (by omega) (by omega))
end Go.Proofs.YtnohojjjfconfaaGreatDoor
