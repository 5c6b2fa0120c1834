/-
  Walk of the statements' Pick; digits of powers.
  Conditions: the number of choices is at least 1.
-/
import Derived.Test.YtfdekppnilffeaaGreatDoorYEng
import Derived.Test.YtfdekppnilffeaaGreatDoorYTab
import Derived.Test.YtfdekppnilffeaaGreatDoorYNum
set_option linter.unusedSimpArgs false
set_option linter.unusedVariables false
set_option maxHeartbeats 1000000
namespace Go.Proofs.YtfdekppnilffeaaGreatDoor
open Go Go.Proofs Go.RowKit Go.Lib

theorem pick_calls (x : Int) (n : Nat) (hn : 1 ≤ n) (hn2 : n ≤ 9223372036854775807) (w : World) : Calls Tryz.prog 10 #[.int .i64 x, .int .i64 (n : Nat)] w (Ret fun v w' => (∃ r : Nat, v = .int .i64 (r : Nat) ∧ r < n) ∧ w = w') := by
  obtain ⟨h1, h2, _⟩ := tmod_range x n (by omega)
  refine enter Tryz.func10 rfl Tryz.ntmps10 (Nat.le_of_ble_eq_true rfl) ?_
  first | (refine dr U 4 rfl trivial ?_; refine rem1 rfl rfl (by omega) rfl rfl ?_) | (refine dr U 5 rfl trivial ?_; refine rem1 rfl rfl (by omega) rfl rfl ?_) | (refine dr U 6 rfl trivial ?_; refine rem1 rfl rfl (by omega) rfl rfl ?_) | (refine dr U 7 rfl trivial ?_; refine rem1 rfl rfl (by omega) rfl rfl ?_) | (refine dr U 8 rfl trivial ?_; refine rem1 rfl rfl (by omega) rfl rfl ?_) | (refine dr U 9 rfl trivial ?_; refine rem1 rfl rfl (by omega) rfl rfl ?_) | (refine dr U 10 rfl trivial ?_; refine rem1 rfl rfl (by omega) rfl rfl ?_) | (refine dr U 11 rfl trivial ?_; refine rem1 rfl rfl (by omega) rfl rfl ?_) | (refine dr U 12 rfl trivial ?_; refine rem1 rfl rfl (by omega) rfl rfl ?_) | (refine dr U 13 rfl trivial ?_; refine rem1 rfl rfl (by omega) rfl rfl ?_) | (refine dr U 14 rfl trivial ?_; refine rem1 rfl rfl (by omega) rfl rfl ?_) | (refine dr U 15 rfl trivial ?_; refine rem1 rfl rfl (by omega) rfl rfl ?_)
  refine dr U 600 rfl trivial ?_
  refine cS rfl rfl rfl rfl (fun hq => ?_) (fun hq => ?_)
  · refine dr U 600 rfl (by first | exact True.intro | (simp only [AllP, InR, List.nil_append, List.cons_append, and_true]; omega)) ?_
    refine ret Tryz.results10 rfl ⟨_, rfl, ⟨(x.tmod n + n).toNat, ?_, by omega⟩, rfl⟩
    show Value.int .i64 _ = .int .i64 _
    congr 1; omega
  · refine dr U 600 rfl (by first | exact True.intro | (simp only [AllP, InR, List.nil_append, List.cons_append, and_true]; omega)) ?_
    refine ret Tryz.results10 rfl ⟨_, rfl, ⟨(x.tmod n).toNat, ?_, by omega⟩, rfl⟩
    show Value.int .i64 _ = .int .i64 _
    congr 1; omega

end Go.Proofs.YtfdekppnilffeaaGreatDoor
