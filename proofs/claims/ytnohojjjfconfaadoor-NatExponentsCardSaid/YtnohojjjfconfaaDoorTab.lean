/-
  What these proofs know of this program's types, and that its functions can be called, asked of the program itself.
  No conditions.
-/
import Derived.Test.YtnohojjjfconfaaDoorDrw
import Derived.Test.YtnohojjjfconfaaDoorProg
import Derived.KernelRfl
namespace Go.Proofs.YtnohojjjfconfaaDoor
open Go Go.Proofs Go.RowKit

theorem inf40 : InfOk Tryd.prog 40 (1, 24, .slice none 0 0) := inf_of (by kernel_rfl)
theorem inf22 : InfOk Tryd.prog 22 (1, 16, .string ⟨#[]⟩) := inf_of (by kernel_rfl)
theorem inf44 : InfOk Tryd.prog 44 (1, 8, .int .u64 0) := inf_of (by kernel_rfl)
theorem inf3 : InfOk Tryd.prog 3 (1, 8, .int .i64 0) := inf_of (by kernel_rfl)
theorem inf9 : InfOk Tryd.prog 9 (1, 16, .string ⟨#[]⟩) := inf_of (by kernel_rfl)
theorem inf38 : InfOk Tryd.prog 38 (1, 24, .slice none 0 0) := inf_of (by kernel_rfl)
theorem inf70 : InfOk Tryd.prog 70 (1, 24, .slice none 0 0) := inf_of (by kernel_rfl)
theorem inf4 : InfOk Tryd.prog 4 (1, 1, .bool false) := inf_of (by kernel_rfl)
theorem inf76 : InfOk Tryd.prog 76 (1, 24, .slice none 0 0) := inf_of (by kernel_rfl)
theorem inf69 : InfOk Tryd.prog 69 (1, 8, .pointer none) := inf_of (by kernel_rfl)
theorem inf48 : InfOk Tryd.prog 48 (1, 8, .nilFunc) := inf_of (by kernel_rfl)
theorem inf72 : InfOk Tryd.prog 72 (2, 32, .agg #[.pointer none, .slice none 0 0]) := inf_of (by kernel_rfl)
theorem inf125 : InfOk Tryd.prog 125 (2, 2, .agg #[.int .u8 0, .int .u8 0]) := inf_of (by kernel_rfl)
theorem inf96 : InfOk Tryd.prog 96 (1, 8, .pointer none) := inf_of (by kernel_rfl)
theorem inf99 : InfOk Tryd.prog 99 (24, 24, .agg #[.int .u8 0, .int .u8 0, .int .u8 0, .int .u8 0, .int .u8 0, .int .u8 0, .int .u8 0, .int .u8 0, .int .u8 0, .int .u8 0, .int .u8 0, .int .u8 0, .int .u8 0, .int .u8 0, .int .u8 0, .int .u8 0, .int .u8 0, .int .u8 0, .int .u8 0, .int .u8 0, .int .u8 0, .int .u8 0, .int .u8 0, .int .u8 0]) := inf_of (by kernel_rfl)
theorem inf131 : InfOk Tryd.prog 131 (32, 32, .agg #[.int .u8 0, .int .u8 0, .int .u8 0, .int .u8 0, .int .u8 0, .int .u8 0, .int .u8 0, .int .u8 0, .int .u8 0, .int .u8 0, .int .u8 0, .int .u8 0, .int .u8 0, .int .u8 0, .int .u8 0, .int .u8 0, .int .u8 0, .int .u8 0, .int .u8 0, .int .u8 0, .int .u8 0, .int .u8 0, .int .u8 0, .int .u8 0, .int .u8 0, .int .u8 0, .int .u8 0, .int .u8 0, .int .u8 0, .int .u8 0, .int .u8 0, .int .u8 0]) := inf_of (by kernel_rfl)
theorem inf132 : InfOk Tryd.prog 132 (64, 64, .agg #[.int .u8 0, .int .u8 0, .int .u8 0, .int .u8 0, .int .u8 0, .int .u8 0, .int .u8 0, .int .u8 0, .int .u8 0, .int .u8 0, .int .u8 0, .int .u8 0, .int .u8 0, .int .u8 0, .int .u8 0, .int .u8 0, .int .u8 0, .int .u8 0, .int .u8 0, .int .u8 0, .int .u8 0, .int .u8 0, .int .u8 0, .int .u8 0, .int .u8 0, .int .u8 0, .int .u8 0, .int .u8 0, .int .u8 0, .int .u8 0, .int .u8 0, .int .u8 0, .int .u8 0, .int .u8 0, .int .u8 0, .int .u8 0, .int .u8 0, .int .u8 0, .int .u8 0, .int .u8 0, .int .u8 0, .int .u8 0, .int .u8 0, .int .u8 0, .int .u8 0, .int .u8 0, .int .u8 0, .int .u8 0, .int .u8 0, .int .u8 0, .int .u8 0, .int .u8 0, .int .u8 0, .int .u8 0, .int .u8 0, .int .u8 0, .int .u8 0, .int .u8 0, .int .u8 0, .int .u8 0, .int .u8 0, .int .u8 0, .int .u8 0, .int .u8 0]) := inf_of (by kernel_rfl)
theorem inf114 : InfOk Tryd.prog 114 (20, 160, .agg #[.int .u64 0, .int .u64 0, .int .u64 0, .int .u64 0, .int .u64 0, .int .u64 0, .int .u64 0, .int .u64 0, .int .u64 0, .int .u64 0, .int .u64 0, .int .u64 0, .int .u64 0, .int .u64 0, .int .u64 0, .int .u64 0, .int .u64 0, .int .u64 0, .int .u64 0, .int .u64 0]) := inf_of (by kernel_rfl)
theorem inf126 : InfOk Tryd.prog 126 (32, 32, .agg #[.int .u8 0, .int .u8 0, .int .u8 0, .int .u8 0, .int .u8 0, .int .u8 0, .int .u8 0, .int .u8 0, .int .u8 0, .int .u8 0, .int .u8 0, .int .u8 0, .int .u8 0, .int .u8 0, .int .u8 0, .int .u8 0, .int .u8 0, .int .u8 0, .int .u8 0, .int .u8 0, .int .u8 0, .int .u8 0, .int .u8 0, .int .u8 0, .int .u8 0, .int .u8 0, .int .u8 0, .int .u8 0, .int .u8 0, .int .u8 0, .int .u8 0, .int .u8 0]) := inf_of (by kernel_rfl)
theorem inf56 : InfOk Tryd.prog 56 (1, 16, .nilIface) := inf_of (by kernel_rfl)
theorem inf26 : InfOk Tryd.prog 26 (1, 8, .int .i64 0) := inf_of (by kernel_rfl)
theorem inf81 : InfOk Tryd.prog 81 (1, 8, .pointer none) := inf_of (by kernel_rfl)
theorem inf86 : InfOk Tryd.prog 86 (256, 256, .agg #[.bool false, .bool false, .bool false, .bool false, .bool false, .bool false, .bool false, .bool false, .bool false, .bool false, .bool false, .bool false, .bool false, .bool false, .bool false, .bool false, .bool false, .bool false, .bool false, .bool false, .bool false, .bool false, .bool false, .bool false, .bool false, .bool false, .bool false, .bool false, .bool false, .bool false, .bool false, .bool false, .bool false, .bool false, .bool false, .bool false, .bool false, .bool false, .bool false, .bool false, .bool false, .bool false, .bool false, .bool false, .bool false, .bool false, .bool false, .bool false, .bool false, .bool false, .bool false, .bool false, .bool false, .bool false, .bool false, .bool false, .bool false, .bool false, .bool false, .bool false, .bool false, .bool false, .bool false, .bool false, .bool false, .bool false, .bool false, .bool false, .bool false, .bool false, .bool false, .bool false, .bool false, .bool false, .bool false, .bool false, .bool false, .bool false, .bool false, .bool false, .bool false, .bool false, .bool false, .bool false, .bool false, .bool false, .bool false, .bool false, .bool false, .bool false, .bool false, .bool false, .bool false, .bool false, .bool false, .bool false, .bool false, .bool false, .bool false, .bool false, .bool false, .bool false, .bool false, .bool false, .bool false, .bool false, .bool false, .bool false, .bool false, .bool false, .bool false, .bool false, .bool false, .bool false, .bool false, .bool false, .bool false, .bool false, .bool false, .bool false, .bool false, .bool false, .bool false, .bool false, .bool false, .bool false, .bool false, .bool false, .bool false, .bool false, .bool false, .bool false, .bool false, .bool false, .bool false, .bool false, .bool false, .bool false, .bool false, .bool false, .bool false, .bool false, .bool false, .bool false, .bool false, .bool false, .bool false, .bool false, .bool false, .bool false, .bool false, .bool false, .bool false, .bool false, .bool false, .bool false, .bool false, .bool false, .bool false, .bool false, .bool false, .bool false, .bool false, .bool false, .bool false, .bool false, .bool false, .bool false, .bool false, .bool false, .bool false, .bool false, .bool false, .bool false, .bool false, .bool false, .bool false, .bool false, .bool false, .bool false, .bool false, .bool false, .bool false, .bool false, .bool false, .bool false, .bool false, .bool false, .bool false, .bool false, .bool false, .bool false, .bool false, .bool false, .bool false, .bool false, .bool false, .bool false, .bool false, .bool false, .bool false, .bool false, .bool false, .bool false, .bool false, .bool false, .bool false, .bool false, .bool false, .bool false, .bool false, .bool false, .bool false, .bool false, .bool false, .bool false, .bool false, .bool false, .bool false, .bool false, .bool false, .bool false, .bool false, .bool false, .bool false, .bool false, .bool false, .bool false, .bool false, .bool false, .bool false, .bool false, .bool false, .bool false, .bool false, .bool false, .bool false, .bool false, .bool false, .bool false, .bool false, .bool false, .bool false, .bool false, .bool false, .bool false, .bool false, .bool false, .bool false, .bool false, .bool false, .bool false, .bool false, .bool false, .bool false, .bool false]) := inf_of (by kernel_rfl)
theorem inf5 : InfOk Tryd.prog 5 (1, 1, .int .u8 0) := inf_of (by kernel_rfl)
def uL : List (Nat × TypeDesc) := [(40, .slice 44), (22, .string), (44, .int .u64), (3, .int .i64), (9, .string), (38, .slice 22), (70, .slice 5), (4, .bool), (76, .slice 26), (69, .pointer 72), (99, .array 24 5), (131, .array 32 5), (132, .array 64 5), (114, .array 20 44), (126, .array 16 125), (26, .int .i64), (81, .pointer 5), (86, .array 256 4), (5, .int .u8)]
def iL : List (Nat × Nat × Nat × Value) := [(40, 1, 24, .slice none 0 0), (22, 1, 16, .string ⟨#[]⟩), (44, 1, 8, .int .u64 0), (3, 1, 8, .int .i64 0), (9, 1, 16, .string ⟨#[]⟩), (38, 1, 24, .slice none 0 0), (70, 1, 24, .slice none 0 0), (4, 1, 1, .bool false), (76, 1, 24, .slice none 0 0), (69, 1, 8, .pointer none), (48, 1, 8, .nilFunc), (72, 2, 32, .agg #[.pointer none, .slice none 0 0]), (125, 2, 2, .agg #[.int .u8 0, .int .u8 0]), (96, 1, 8, .pointer none), (99, 24, 24, .agg #[.int .u8 0, .int .u8 0, .int .u8 0, .int .u8 0, .int .u8 0, .int .u8 0, .int .u8 0, .int .u8 0, .int .u8 0, .int .u8 0, .int .u8 0, .int .u8 0, .int .u8 0, .int .u8 0, .int .u8 0, .int .u8 0, .int .u8 0, .int .u8 0, .int .u8 0, .int .u8 0, .int .u8 0, .int .u8 0, .int .u8 0, .int .u8 0]), (131, 32, 32, .agg #[.int .u8 0, .int .u8 0, .int .u8 0, .int .u8 0, .int .u8 0, .int .u8 0, .int .u8 0, .int .u8 0, .int .u8 0, .int .u8 0, .int .u8 0, .int .u8 0, .int .u8 0, .int .u8 0, .int .u8 0, .int .u8 0, .int .u8 0, .int .u8 0, .int .u8 0, .int .u8 0, .int .u8 0, .int .u8 0, .int .u8 0, .int .u8 0, .int .u8 0, .int .u8 0, .int .u8 0, .int .u8 0, .int .u8 0, .int .u8 0, .int .u8 0, .int .u8 0]), (132, 64, 64, .agg #[.int .u8 0, .int .u8 0, .int .u8 0, .int .u8 0, .int .u8 0, .int .u8 0, .int .u8 0, .int .u8 0, .int .u8 0, .int .u8 0, .int .u8 0, .int .u8 0, .int .u8 0, .int .u8 0, .int .u8 0, .int .u8 0, .int .u8 0, .int .u8 0, .int .u8 0, .int .u8 0, .int .u8 0, .int .u8 0, .int .u8 0, .int .u8 0, .int .u8 0, .int .u8 0, .int .u8 0, .int .u8 0, .int .u8 0, .int .u8 0, .int .u8 0, .int .u8 0, .int .u8 0, .int .u8 0, .int .u8 0, .int .u8 0, .int .u8 0, .int .u8 0, .int .u8 0, .int .u8 0, .int .u8 0, .int .u8 0, .int .u8 0, .int .u8 0, .int .u8 0, .int .u8 0, .int .u8 0, .int .u8 0, .int .u8 0, .int .u8 0, .int .u8 0, .int .u8 0, .int .u8 0, .int .u8 0, .int .u8 0, .int .u8 0, .int .u8 0, .int .u8 0, .int .u8 0, .int .u8 0, .int .u8 0, .int .u8 0, .int .u8 0, .int .u8 0]), (114, 20, 160, .agg #[.int .u64 0, .int .u64 0, .int .u64 0, .int .u64 0, .int .u64 0, .int .u64 0, .int .u64 0, .int .u64 0, .int .u64 0, .int .u64 0, .int .u64 0, .int .u64 0, .int .u64 0, .int .u64 0, .int .u64 0, .int .u64 0, .int .u64 0, .int .u64 0, .int .u64 0, .int .u64 0]), (126, 32, 32, .agg #[.int .u8 0, .int .u8 0, .int .u8 0, .int .u8 0, .int .u8 0, .int .u8 0, .int .u8 0, .int .u8 0, .int .u8 0, .int .u8 0, .int .u8 0, .int .u8 0, .int .u8 0, .int .u8 0, .int .u8 0, .int .u8 0, .int .u8 0, .int .u8 0, .int .u8 0, .int .u8 0, .int .u8 0, .int .u8 0, .int .u8 0, .int .u8 0, .int .u8 0, .int .u8 0, .int .u8 0, .int .u8 0, .int .u8 0, .int .u8 0, .int .u8 0, .int .u8 0]), (56, 1, 16, .nilIface), (26, 1, 8, .int .i64 0), (81, 1, 8, .pointer none), (86, 256, 256, .agg #[.bool false, .bool false, .bool false, .bool false, .bool false, .bool false, .bool false, .bool false, .bool false, .bool false, .bool false, .bool false, .bool false, .bool false, .bool false, .bool false, .bool false, .bool false, .bool false, .bool false, .bool false, .bool false, .bool false, .bool false, .bool false, .bool false, .bool false, .bool false, .bool false, .bool false, .bool false, .bool false, .bool false, .bool false, .bool false, .bool false, .bool false, .bool false, .bool false, .bool false, .bool false, .bool false, .bool false, .bool false, .bool false, .bool false, .bool false, .bool false, .bool false, .bool false, .bool false, .bool false, .bool false, .bool false, .bool false, .bool false, .bool false, .bool false, .bool false, .bool false, .bool false, .bool false, .bool false, .bool false, .bool false, .bool false, .bool false, .bool false, .bool false, .bool false, .bool false, .bool false, .bool false, .bool false, .bool false, .bool false, .bool false, .bool false, .bool false, .bool false, .bool false, .bool false, .bool false, .bool false, .bool false, .bool false, .bool false, .bool false, .bool false, .bool false, .bool false, .bool false, .bool false, .bool false, .bool false, .bool false, .bool false, .bool false, .bool false, .bool false, .bool false, .bool false, .bool false, .bool false, .bool false, .bool false, .bool false, .bool false, .bool false, .bool false, .bool false, .bool false, .bool false, .bool false, .bool false, .bool false, .bool false, .bool false, .bool false, .bool false, .bool false, .bool false, .bool false, .bool false, .bool false, .bool false, .bool false, .bool false, .bool false, .bool false, .bool false, .bool false, .bool false, .bool false, .bool false, .bool false, .bool false, .bool false, .bool false, .bool false, .bool false, .bool false, .bool false, .bool false, .bool false, .bool false, .bool false, .bool false, .bool false, .bool false, .bool false, .bool false, .bool false, .bool false, .bool false, .bool false, .bool false, .bool false, .bool false, .bool false, .bool false, .bool false, .bool false, .bool false, .bool false, .bool false, .bool false, .bool false, .bool false, .bool false, .bool false, .bool false, .bool false, .bool false, .bool false, .bool false, .bool false, .bool false, .bool false, .bool false, .bool false, .bool false, .bool false, .bool false, .bool false, .bool false, .bool false, .bool false, .bool false, .bool false, .bool false, .bool false, .bool false, .bool false, .bool false, .bool false, .bool false, .bool false, .bool false, .bool false, .bool false, .bool false, .bool false, .bool false, .bool false, .bool false, .bool false, .bool false, .bool false, .bool false, .bool false, .bool false, .bool false, .bool false, .bool false, .bool false, .bool false, .bool false, .bool false, .bool false, .bool false, .bool false, .bool false, .bool false, .bool false, .bool false, .bool false, .bool false, .bool false, .bool false, .bool false, .bool false, .bool false, .bool false, .bool false, .bool false, .bool false, .bool false, .bool false, .bool false, .bool false, .bool false, .bool false, .bool false, .bool false, .bool false, .bool false, .bool false, .bool false, .bool false, .bool false, .bool false, .bool false, .bool false, .bool false, .bool false]), (5, 1, 1, .int .u8 0)]
def sL : List (Nat × Nat) := [(40, 1), (22, 1), (44, 1), (3, 1), (9, 1), (38, 1), (70, 1), (4, 1), (76, 1), (69, 1), (48, 1), (72, 2), (125, 2), (96, 1), (99, 24), (131, 32), (132, 64), (114, 20), (126, 32), (56, 1), (26, 1), (81, 1), (86, 256), (5, 1)]
def fL : List (Nat × List (Nat × Nat)) := [(72, [(0, 0), (1, 1)])]
theorem fo72_0 : FoOk Tryd.prog 72 0 0 := fo_of Tryd.underlying72 rfl rfl inf69 (by decide)
theorem fo72_1 : FoOk Tryd.prog 72 1 1 := fo_of Tryd.underlying72 rfl rfl inf70 (by decide)
theorem uL_ok : AllL (fun t d => Tryd.prog.underlying t = some d) uL := ⟨Tryd.underlying40, Tryd.underlying22, Tryd.underlying44, Tryd.underlying3, Tryd.underlying9, Tryd.underlying38, Tryd.underlying70, Tryd.underlying4, Tryd.underlying76, Tryd.underlying69, Tryd.underlying99, Tryd.underlying131, Tryd.underlying132, Tryd.underlying114, Tryd.underlying126, Tryd.underlying26, Tryd.underlying81, Tryd.underlying86, Tryd.underlying5, trivial⟩
theorem iL_ok : AllL (fun t d => InfOk Tryd.prog t d) iL := ⟨inf40, inf22, inf44, inf3, inf9, inf38, inf70, inf4, inf76, inf69, inf48, inf72, inf125, inf96, inf99, inf131, inf132, inf114, inf126, inf56, inf26, inf81, inf86, inf5, trivial⟩
theorem sL_ok : AllL (fun t d => ∃ i, Tryd.prog.info? t = some i ∧ i.size = d) sL := ⟨inf40.sz, inf22.sz, inf44.sz, inf3.sz, inf9.sz, inf38.sz, inf70.sz, inf4.sz, inf76.sz, inf69.sz, inf48.sz, inf72.sz, inf125.sz, inf96.sz, inf99.sz, inf131.sz, inf132.sz, inf114.sz, inf126.sz, inf56.sz, inf26.sz, inf81.sz, inf86.sz, inf5.sz, trivial⟩
theorem fL_ok : AllL (fun t d => AllL (fun f o => FoOk Tryd.prog t f o) d) fL := ⟨⟨fo72_0, fo72_1, trivial⟩, trivial⟩
def U : Tys Tryd.prog where
  tb := ⟨lk uL, lk sL, lk iL, fun t f => lk2 fL t f⟩
  hu := lk_all uL uL_ok
  hs := lk_all sL sL_ok
  hi := fun t _ _ _ h => lk_all iL iL_ok t _ h
  hf := fun _ _ _ h => lk2_all fL fL_ok h
theorem hmo : Tryd.prog.follows .mixedOrders = true := by kernel_rfl
theorem cb3 : Callable Tryd.prog 3 := ⟨_, Tryd.func3, by kernel_rfl, rfl⟩
theorem cb4 : Callable Tryd.prog 4 := ⟨_, Tryd.func4, by kernel_rfl, rfl⟩
theorem cb5 : Callable Tryd.prog 5 := ⟨_, Tryd.func5, by kernel_rfl, rfl⟩
theorem cb6 : Callable Tryd.prog 6 := ⟨_, Tryd.func6, by kernel_rfl, rfl⟩
theorem cb7 : Callable Tryd.prog 7 := ⟨_, Tryd.func7, by kernel_rfl, rfl⟩
theorem cb8 : Callable Tryd.prog 8 := ⟨_, Tryd.func8, by kernel_rfl, rfl⟩
theorem cb9 : Callable Tryd.prog 9 := ⟨_, Tryd.func9, by kernel_rfl, rfl⟩
theorem cb10 : Callable Tryd.prog 10 := ⟨_, Tryd.func10, by kernel_rfl, rfl⟩
theorem cb11 : Callable Tryd.prog 11 := ⟨_, Tryd.func11, by kernel_rfl, rfl⟩
theorem cb12 : Callable Tryd.prog 12 := ⟨_, Tryd.func12, by kernel_rfl, rfl⟩
theorem cb13 : Callable Tryd.prog 13 := ⟨_, Tryd.func13, by kernel_rfl, rfl⟩
theorem cb14 : Callable Tryd.prog 14 := ⟨_, Tryd.func14, by kernel_rfl, rfl⟩
theorem cb15 : Callable Tryd.prog 15 := ⟨_, Tryd.func15, by kernel_rfl, rfl⟩
theorem cb16 : Callable Tryd.prog 16 := ⟨_, Tryd.func16, by kernel_rfl, rfl⟩
theorem cb17 : Callable Tryd.prog 17 := ⟨_, Tryd.func17, by kernel_rfl, rfl⟩
theorem cb18 : Callable Tryd.prog 18 := ⟨_, Tryd.func18, by kernel_rfl, rfl⟩
theorem cb19 : Callable Tryd.prog 19 := ⟨_, Tryd.func19, by kernel_rfl, rfl⟩
theorem cb20 : Callable Tryd.prog 20 := ⟨_, Tryd.func20, by kernel_rfl, rfl⟩
theorem cb21 : Callable Tryd.prog 21 := ⟨_, Tryd.func21, by kernel_rfl, rfl⟩
theorem cb22 : Callable Tryd.prog 22 := ⟨_, Tryd.func22, by kernel_rfl, rfl⟩
theorem cb23 : Callable Tryd.prog 23 := ⟨_, Tryd.func23, by kernel_rfl, rfl⟩
theorem cb24 : Callable Tryd.prog 24 := ⟨_, Tryd.func24, by kernel_rfl, rfl⟩
theorem cb25 : Callable Tryd.prog 25 := ⟨_, Tryd.func25, by kernel_rfl, rfl⟩
theorem cb26 : Callable Tryd.prog 26 := ⟨_, Tryd.func26, by kernel_rfl, rfl⟩
theorem cb27 : Callable Tryd.prog 27 := ⟨_, Tryd.func27, by kernel_rfl, rfl⟩
theorem cb28 : Callable Tryd.prog 28 := ⟨_, Tryd.func28, by kernel_rfl, rfl⟩
theorem cb29 : Callable Tryd.prog 29 := ⟨_, Tryd.func29, by kernel_rfl, rfl⟩
theorem cb30 : Callable Tryd.prog 30 := ⟨_, Tryd.func30, by kernel_rfl, rfl⟩
theorem cb31 : Callable Tryd.prog 31 := ⟨_, Tryd.func31, by kernel_rfl, rfl⟩
theorem cb32 : Callable Tryd.prog 32 := ⟨_, Tryd.func32, by kernel_rfl, rfl⟩
theorem cb33 : Callable Tryd.prog 33 := ⟨_, Tryd.func33, by kernel_rfl, rfl⟩
theorem cb34 : Callable Tryd.prog 34 := ⟨_, Tryd.func34, by kernel_rfl, rfl⟩
theorem cb35 : Callable Tryd.prog 35 := ⟨_, Tryd.func35, by kernel_rfl, rfl⟩
theorem cb36 : Callable Tryd.prog 36 := ⟨_, Tryd.func36, by kernel_rfl, rfl⟩
theorem cb37 : Callable Tryd.prog 37 := ⟨_, Tryd.func37, by kernel_rfl, rfl⟩
theorem cb38 : Callable Tryd.prog 38 := ⟨_, Tryd.func38, by kernel_rfl, rfl⟩
theorem cb39 : Callable Tryd.prog 39 := ⟨_, Tryd.func39, by kernel_rfl, rfl⟩
theorem cb40 : Callable Tryd.prog 40 := ⟨_, Tryd.func40, by kernel_rfl, rfl⟩
theorem cb41 : Callable Tryd.prog 41 := ⟨_, Tryd.func41, by kernel_rfl, rfl⟩
theorem cb42 : Callable Tryd.prog 42 := ⟨_, Tryd.func42, by kernel_rfl, rfl⟩
theorem cb43 : Callable Tryd.prog 43 := ⟨_, Tryd.func43, by kernel_rfl, rfl⟩
theorem cb44 : Callable Tryd.prog 44 := ⟨_, Tryd.func44, by kernel_rfl, rfl⟩
theorem cb45 : Callable Tryd.prog 45 := ⟨_, Tryd.func45, by kernel_rfl, rfl⟩
theorem cb46 : Callable Tryd.prog 46 := ⟨_, Tryd.func46, by kernel_rfl, rfl⟩
theorem cb47 : Callable Tryd.prog 47 := ⟨_, Tryd.func47, by kernel_rfl, rfl⟩
theorem cb48 : Callable Tryd.prog 48 := ⟨_, Tryd.func48, by kernel_rfl, rfl⟩
theorem cb49 : Callable Tryd.prog 49 := ⟨_, Tryd.func49, by kernel_rfl, rfl⟩
theorem cb50 : Callable Tryd.prog 50 := ⟨_, Tryd.func50, by kernel_rfl, rfl⟩
theorem cb51 : Callable Tryd.prog 51 := ⟨_, Tryd.func51, by kernel_rfl, rfl⟩
theorem cb52 : Callable Tryd.prog 52 := ⟨_, Tryd.func52, by kernel_rfl, rfl⟩
theorem cb53 : Callable Tryd.prog 53 := ⟨_, Tryd.func53, by kernel_rfl, rfl⟩
theorem cb54 : Callable Tryd.prog 54 := ⟨_, Tryd.func54, by kernel_rfl, rfl⟩
theorem cb55 : Callable Tryd.prog 55 := ⟨_, Tryd.func55, by kernel_rfl, rfl⟩
theorem cb56 : Callable Tryd.prog 56 := ⟨_, Tryd.func56, by kernel_rfl, rfl⟩
theorem cb57 : Callable Tryd.prog 57 := ⟨_, Tryd.func57, by kernel_rfl, rfl⟩
theorem cb58 : Callable Tryd.prog 58 := ⟨_, Tryd.func58, by kernel_rfl, rfl⟩
theorem cb59 : Callable Tryd.prog 59 := ⟨_, Tryd.func59, by kernel_rfl, rfl⟩
theorem cb60 : Callable Tryd.prog 60 := ⟨_, Tryd.func60, by kernel_rfl, rfl⟩
theorem cb61 : Callable Tryd.prog 61 := ⟨_, Tryd.func61, by kernel_rfl, rfl⟩
theorem cb62 : Callable Tryd.prog 62 := ⟨_, Tryd.func62, by kernel_rfl, rfl⟩
theorem cb63 : Callable Tryd.prog 63 := ⟨_, Tryd.func63, by kernel_rfl, rfl⟩
theorem cb64 : Callable Tryd.prog 64 := ⟨_, Tryd.func64, by kernel_rfl, rfl⟩
theorem cb65 : Callable Tryd.prog 65 := ⟨_, Tryd.func65, by kernel_rfl, rfl⟩
theorem cb66 : Callable Tryd.prog 66 := ⟨_, Tryd.func66, by kernel_rfl, rfl⟩
theorem cb67 : Callable Tryd.prog 67 := ⟨_, Tryd.func67, by kernel_rfl, rfl⟩
theorem cb68 : Callable Tryd.prog 68 := ⟨_, Tryd.func68, by kernel_rfl, rfl⟩
theorem cb69 : Callable Tryd.prog 69 := ⟨_, Tryd.func69, by kernel_rfl, rfl⟩
theorem cb70 : Callable Tryd.prog 70 := ⟨_, Tryd.func70, by kernel_rfl, rfl⟩
theorem cb71 : Callable Tryd.prog 71 := ⟨_, Tryd.func71, by kernel_rfl, rfl⟩
theorem cb72 : Callable Tryd.prog 72 := ⟨_, Tryd.func72, by kernel_rfl, rfl⟩
theorem cb73 : Callable Tryd.prog 73 := ⟨_, Tryd.func73, by kernel_rfl, rfl⟩
theorem cb74 : Callable Tryd.prog 74 := ⟨_, Tryd.func74, by kernel_rfl, rfl⟩
theorem cb76 : Callable Tryd.prog 76 := ⟨_, Tryd.func76, by kernel_rfl, rfl⟩
theorem cb77 : Callable Tryd.prog 77 := ⟨_, Tryd.func77, by kernel_rfl, rfl⟩
theorem cb78 : Callable Tryd.prog 78 := ⟨_, Tryd.func78, by kernel_rfl, rfl⟩
theorem cb79 : Callable Tryd.prog 79 := ⟨_, Tryd.func79, by kernel_rfl, rfl⟩
theorem cb80 : Callable Tryd.prog 80 := ⟨_, Tryd.func80, by kernel_rfl, rfl⟩
theorem cb81 : Callable Tryd.prog 81 := ⟨_, Tryd.func81, by kernel_rfl, rfl⟩
theorem cb82 : Callable Tryd.prog 82 := ⟨_, Tryd.func82, by kernel_rfl, rfl⟩
theorem cb83 : Callable Tryd.prog 83 := ⟨_, Tryd.func83, by kernel_rfl, rfl⟩
theorem cb84 : Callable Tryd.prog 84 := ⟨_, Tryd.func84, by kernel_rfl, rfl⟩
theorem cb85 : Callable Tryd.prog 85 := ⟨_, Tryd.func85, by kernel_rfl, rfl⟩
theorem cb86 : Callable Tryd.prog 86 := ⟨_, Tryd.func86, by kernel_rfl, rfl⟩
theorem cb87 : Callable Tryd.prog 87 := ⟨_, Tryd.func87, by kernel_rfl, rfl⟩
theorem cb88 : Callable Tryd.prog 88 := ⟨_, Tryd.func88, by kernel_rfl, rfl⟩
theorem cb89 : Callable Tryd.prog 89 := ⟨_, Tryd.func89, by kernel_rfl, rfl⟩
theorem cb90 : Callable Tryd.prog 90 := ⟨_, Tryd.func90, by kernel_rfl, rfl⟩
theorem cb91 : Callable Tryd.prog 91 := ⟨_, Tryd.func91, by kernel_rfl, rfl⟩
theorem cb92 : Callable Tryd.prog 92 := ⟨_, Tryd.func92, by kernel_rfl, rfl⟩
theorem cb93 : Callable Tryd.prog 93 := ⟨_, Tryd.func93, by kernel_rfl, rfl⟩
theorem cb94 : Callable Tryd.prog 94 := ⟨_, Tryd.func94, by kernel_rfl, rfl⟩
theorem cb95 : Callable Tryd.prog 95 := ⟨_, Tryd.func95, by kernel_rfl, rfl⟩
theorem cb96 : Callable Tryd.prog 96 := ⟨_, Tryd.func96, by kernel_rfl, rfl⟩
theorem cb97 : Callable Tryd.prog 97 := ⟨_, Tryd.func97, by kernel_rfl, rfl⟩
theorem cb98 : Callable Tryd.prog 98 := ⟨_, Tryd.func98, by kernel_rfl, rfl⟩
theorem cb99 : Callable Tryd.prog 99 := ⟨_, Tryd.func99, by kernel_rfl, rfl⟩
theorem cb100 : Callable Tryd.prog 100 := ⟨_, Tryd.func100, by kernel_rfl, rfl⟩
theorem cb102 : Callable Tryd.prog 102 := ⟨_, Tryd.func102, by kernel_rfl, rfl⟩
theorem cb103 : Callable Tryd.prog 103 := ⟨_, Tryd.func103, by kernel_rfl, rfl⟩
theorem cb136 : Callable Tryd.prog 136 := ⟨_, Tryd.func136, by kernel_rfl, rfl⟩
end Go.Proofs.YtnohojjjfconfaaDoor
