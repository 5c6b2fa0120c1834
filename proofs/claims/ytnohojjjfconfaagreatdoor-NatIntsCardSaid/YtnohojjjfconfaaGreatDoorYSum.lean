/-
  Walks of the law package's helpers: sum, product.
  Conditions: texts are no longer than an int can tell; the library's table of powers of ten is laid.
-/
import Derived.Test.YtnohojjjfconfaaGreatDoorYRng
import Derived.Test.YtnohojjjfconfaaGreatDoorYLives
set_option linter.unusedSimpArgs false
set_option linter.unusedVariables false
set_option maxHeartbeats 1000000
namespace Go.Proofs.YtnohojjjfconfaaGreatDoor
open Go Go.Proofs Go.RowKit Go.Lib

theorem Num.dec {k n : Nat} (h : nDigits n ≤ k) : Num k (decDigits n) n := ⟨rfl, h⟩
theorem num_zero : Num 1 [48] 0 := lit_num (by decide)
theorem num_one : Num 1 [49] 1 := lit_num (by decide)

theorem sum_calls {x y : List UInt8} {m n j k : Nat} (hx : Num j x m) (hy : Num k y n) (hj : j ≤ 3999) (hk : k ≤ 3999) (w : World) (ht : TabOk w) :
    Calls Tryz.prog 16 #[.string ⟨⟨x⟩⟩, .string ⟨⟨y⟩⟩] w (Ret fun v w' => v = .string ⟨⟨decDigits (m + n)⟩⟩ ∧ Below w.heap.size w w') := by
  refine enter Tryz.func16 rfl Tryz.ntmps16 (Nat.le_of_ble_eq_true rfl) ?_
  refine dr U 600 rfl trivial ?_
  refine call (f := 21) rfl rfl cb21 (nadd_calls hx hy hj hk w ht) ?_
  rintro v w1 ⟨rfl, hB⟩
  refine ⟨_, rfl, ?_⟩
  refine dr U 600 rfl trivial ?_
  exact ret Tryz.results16 rfl ⟨_, rfl, rfl, hB⟩
theorem product_calls {x y : List UInt8} {m n j k : Nat} (hx : Num j x m) (hy : Num k y n) (hjk : j + k ≤ 4000) (w : World) (ht : TabOk w) :
    Calls Tryz.prog 17 #[.string ⟨⟨x⟩⟩, .string ⟨⟨y⟩⟩] w (Ret fun v w' => v = .string ⟨⟨decDigits (m * n)⟩⟩ ∧ Below w.heap.size w w') := by
  refine enter Tryz.func17 rfl Tryz.ntmps17 (Nat.le_of_ble_eq_true rfl) ?_
  refine dr U 600 rfl trivial ?_
  refine call (f := 24) rfl rfl cb24 (nmul_calls hx hy hjk w ht) ?_
  rintro v w1 ⟨rfl, hB⟩
  refine ⟨_, rfl, ?_⟩
  refine dr U 600 rfl trivial ?_
  exact ret Tryz.results17 rfl ⟨_, rfl, rfl, hB⟩

end Go.Proofs.YtnohojjjfconfaaGreatDoor
