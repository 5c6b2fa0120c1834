/-
  What these proofs know of this program's types, and that its functions can be called, asked of the program itself.
  No conditions.
-/
import Derived.Test.YtnohojjjfconfaaGreatDoorYRng
import Derived.Test.YtnohojjjfconfaaGreatDoorProg
import Derived.KernelRfl
namespace Go.Proofs.YtnohojjjfconfaaGreatDoor
open Go Go.Proofs Go.RowKit

theorem inf44 : InfOk Tryz.prog 44 (1, 24, .slice none 0 0) := inf_of (by kernel_rfl)
theorem inf22 : InfOk Tryz.prog 22 (1, 16, .string ⟨#[]⟩) := inf_of (by kernel_rfl)
theorem inf51 : InfOk Tryz.prog 51 (1, 24, .slice none 0 0) := inf_of (by kernel_rfl)
theorem inf3 : InfOk Tryz.prog 3 (1, 8, .int .i64 0) := inf_of (by kernel_rfl)
theorem inf48 : InfOk Tryz.prog 48 (1, 8, .int .u64 0) := inf_of (by kernel_rfl)
theorem inf9 : InfOk Tryz.prog 9 (1, 16, .string ⟨#[]⟩) := inf_of (by kernel_rfl)
theorem inf86 : InfOk Tryz.prog 86 (1, 24, .slice none 0 0) := inf_of (by kernel_rfl)
theorem inf4 : InfOk Tryz.prog 4 (1, 1, .bool false) := inf_of (by kernel_rfl)
theorem inf88 : InfOk Tryz.prog 88 (2, 32, .agg #[.pointer none, .slice none 0 0]) := inf_of (by kernel_rfl)
theorem inf42 : InfOk Tryz.prog 42 (1, 24, .slice none 0 0) := inf_of (by kernel_rfl)
theorem inf92 : InfOk Tryz.prog 92 (1, 24, .slice none 0 0) := inf_of (by kernel_rfl)
theorem inf85 : InfOk Tryz.prog 85 (1, 8, .pointer none) := inf_of (by kernel_rfl)
theorem inf68 : InfOk Tryz.prog 68 (1, 8, .nilFunc) := inf_of (by kernel_rfl)
theorem inf5 : InfOk Tryz.prog 5 (1, 1, .int .u8 0) := inf_of (by kernel_rfl)
theorem inf149 : InfOk Tryz.prog 149 (2, 2, .agg #[.int .u8 0, .int .u8 0]) := inf_of (by kernel_rfl)
theorem inf21 : InfOk Tryz.prog 21 (1, 4, .int .i32 0) := inf_of (by kernel_rfl)
theorem inf120 : InfOk Tryz.prog 120 (1, 8, .pointer none) := inf_of (by kernel_rfl)
theorem inf127 : InfOk Tryz.prog 127 (24, 24, .agg #[.int .u8 0, .int .u8 0, .int .u8 0, .int .u8 0, .int .u8 0, .int .u8 0, .int .u8 0, .int .u8 0, .int .u8 0, .int .u8 0, .int .u8 0, .int .u8 0, .int .u8 0, .int .u8 0, .int .u8 0, .int .u8 0, .int .u8 0, .int .u8 0, .int .u8 0, .int .u8 0, .int .u8 0, .int .u8 0, .int .u8 0, .int .u8 0]) := inf_of (by kernel_rfl)
theorem inf154 : InfOk Tryz.prog 154 (32, 32, .agg #[.int .u8 0, .int .u8 0, .int .u8 0, .int .u8 0, .int .u8 0, .int .u8 0, .int .u8 0, .int .u8 0, .int .u8 0, .int .u8 0, .int .u8 0, .int .u8 0, .int .u8 0, .int .u8 0, .int .u8 0, .int .u8 0, .int .u8 0, .int .u8 0, .int .u8 0, .int .u8 0, .int .u8 0, .int .u8 0, .int .u8 0, .int .u8 0, .int .u8 0, .int .u8 0, .int .u8 0, .int .u8 0, .int .u8 0, .int .u8 0, .int .u8 0, .int .u8 0]) := inf_of (by kernel_rfl)
theorem inf155 : InfOk Tryz.prog 155 (64, 64, .agg #[.int .u8 0, .int .u8 0, .int .u8 0, .int .u8 0, .int .u8 0, .int .u8 0, .int .u8 0, .int .u8 0, .int .u8 0, .int .u8 0, .int .u8 0, .int .u8 0, .int .u8 0, .int .u8 0, .int .u8 0, .int .u8 0, .int .u8 0, .int .u8 0, .int .u8 0, .int .u8 0, .int .u8 0, .int .u8 0, .int .u8 0, .int .u8 0, .int .u8 0, .int .u8 0, .int .u8 0, .int .u8 0, .int .u8 0, .int .u8 0, .int .u8 0, .int .u8 0, .int .u8 0, .int .u8 0, .int .u8 0, .int .u8 0, .int .u8 0, .int .u8 0, .int .u8 0, .int .u8 0, .int .u8 0, .int .u8 0, .int .u8 0, .int .u8 0, .int .u8 0, .int .u8 0, .int .u8 0, .int .u8 0, .int .u8 0, .int .u8 0, .int .u8 0, .int .u8 0, .int .u8 0, .int .u8 0, .int .u8 0, .int .u8 0, .int .u8 0, .int .u8 0, .int .u8 0, .int .u8 0, .int .u8 0, .int .u8 0, .int .u8 0, .int .u8 0]) := inf_of (by kernel_rfl)
theorem inf141 : InfOk Tryz.prog 141 (20, 160, .agg #[.int .u64 0, .int .u64 0, .int .u64 0, .int .u64 0, .int .u64 0, .int .u64 0, .int .u64 0, .int .u64 0, .int .u64 0, .int .u64 0, .int .u64 0, .int .u64 0, .int .u64 0, .int .u64 0, .int .u64 0, .int .u64 0, .int .u64 0, .int .u64 0, .int .u64 0, .int .u64 0]) := inf_of (by kernel_rfl)
theorem inf150 : InfOk Tryz.prog 150 (32, 32, .agg #[.int .u8 0, .int .u8 0, .int .u8 0, .int .u8 0, .int .u8 0, .int .u8 0, .int .u8 0, .int .u8 0, .int .u8 0, .int .u8 0, .int .u8 0, .int .u8 0, .int .u8 0, .int .u8 0, .int .u8 0, .int .u8 0, .int .u8 0, .int .u8 0, .int .u8 0, .int .u8 0, .int .u8 0, .int .u8 0, .int .u8 0, .int .u8 0, .int .u8 0, .int .u8 0, .int .u8 0, .int .u8 0, .int .u8 0, .int .u8 0, .int .u8 0, .int .u8 0]) := inf_of (by kernel_rfl)
theorem inf58 : InfOk Tryz.prog 58 (1, 16, .nilIface) := inf_of (by kernel_rfl)
theorem inf25 : InfOk Tryz.prog 25 (1, 8, .int .i64 0) := inf_of (by kernel_rfl)
theorem inf102 : InfOk Tryz.prog 102 (1, 8, .pointer none) := inf_of (by kernel_rfl)
theorem inf114 : InfOk Tryz.prog 114 (256, 256, .agg #[.bool false, .bool false, .bool false, .bool false, .bool false, .bool false, .bool false, .bool false, .bool false, .bool false, .bool false, .bool false, .bool false, .bool false, .bool false, .bool false, .bool false, .bool false, .bool false, .bool false, .bool false, .bool false, .bool false, .bool false, .bool false, .bool false, .bool false, .bool false, .bool false, .bool false, .bool false, .bool false, .bool false, .bool false, .bool false, .bool false, .bool false, .bool false, .bool false, .bool false, .bool false, .bool false, .bool false, .bool false, .bool false, .bool false, .bool false, .bool false, .bool false, .bool false, .bool false, .bool false, .bool false, .bool false, .bool false, .bool false, .bool false, .bool false, .bool false, .bool false, .bool false, .bool false, .bool false, .bool false, .bool false, .bool false, .bool false, .bool false, .bool false, .bool false, .bool false, .bool false, .bool false, .bool false, .bool false, .bool false, .bool false, .bool false, .bool false, .bool false, .bool false, .bool false, .bool false, .bool false, .bool false, .bool false, .bool false, .bool false, .bool false, .bool false, .bool false, .bool false, .bool false, .bool false, .bool false, .bool false, .bool false, .bool false, .bool false, .bool false, .bool false, .bool false, .bool false, .bool false, .bool false, .bool false, .bool false, .bool false, .bool false, .bool false, .bool false, .bool false, .bool false, .bool false, .bool false, .bool false, .bool false, .bool false, .bool false, .bool false, .bool false, .bool false, .bool false, .bool false, .bool false, .bool false, .bool false, .bool false, .bool false, .bool false, .bool false, .bool false, .bool false, .bool false, .bool false, .bool false, .bool false, .bool false, .bool false, .bool false, .bool false, .bool false, .bool false, .bool false, .bool false, .bool false, .bool false, .bool false, .bool false, .bool false, .bool false, .bool false, .bool false, .bool false, .bool false, .bool false, .bool false, .bool false, .bool false, .bool false, .bool false, .bool false, .bool false, .bool false, .bool false, .bool false, .bool false, .bool false, .bool false, .bool false, .bool false, .bool false, .bool false, .bool false, .bool false, .bool false, .bool false, .bool false, .bool false, .bool false, .bool false, .bool false, .bool false, .bool false, .bool false, .bool false, .bool false, .bool false, .bool false, .bool false, .bool false, .bool false, .bool false, .bool false, .bool false, .bool false, .bool false, .bool false, .bool false, .bool false, .bool false, .bool false, .bool false, .bool false, .bool false, .bool false, .bool false, .bool false, .bool false, .bool false, .bool false, .bool false, .bool false, .bool false, .bool false, .bool false, .bool false, .bool false, .bool false, .bool false, .bool false, .bool false, .bool false, .bool false, .bool false, .bool false, .bool false, .bool false, .bool false, .bool false, .bool false, .bool false, .bool false, .bool false, .bool false, .bool false, .bool false, .bool false, .bool false, .bool false, .bool false, .bool false, .bool false, .bool false, .bool false, .bool false, .bool false, .bool false, .bool false, .bool false, .bool false, .bool false, .bool false, .bool false, .bool false, .bool false]) := inf_of (by kernel_rfl)
def uL : List (Nat × TypeDesc) := [(44, .slice 48), (22, .string), (51, .slice 3), (3, .int .i64), (48, .int .u64), (9, .string), (86, .slice 5), (4, .bool), (42, .slice 22), (92, .slice 25), (85, .pointer 88), (5, .int .u8), (21, .int .i32), (127, .array 24 5), (154, .array 32 5), (155, .array 64 5), (141, .array 20 48), (150, .array 16 149), (25, .int .i64), (102, .pointer 5), (114, .array 256 4)]
def iL : List (Nat × Nat × Nat × Value) := [(44, 1, 24, .slice none 0 0), (22, 1, 16, .string ⟨#[]⟩), (51, 1, 24, .slice none 0 0), (3, 1, 8, .int .i64 0), (48, 1, 8, .int .u64 0), (9, 1, 16, .string ⟨#[]⟩), (86, 1, 24, .slice none 0 0), (4, 1, 1, .bool false), (88, 2, 32, .agg #[.pointer none, .slice none 0 0]), (42, 1, 24, .slice none 0 0), (92, 1, 24, .slice none 0 0), (85, 1, 8, .pointer none), (68, 1, 8, .nilFunc), (5, 1, 1, .int .u8 0), (149, 2, 2, .agg #[.int .u8 0, .int .u8 0]), (21, 1, 4, .int .i32 0), (120, 1, 8, .pointer none), (127, 24, 24, .agg #[.int .u8 0, .int .u8 0, .int .u8 0, .int .u8 0, .int .u8 0, .int .u8 0, .int .u8 0, .int .u8 0, .int .u8 0, .int .u8 0, .int .u8 0, .int .u8 0, .int .u8 0, .int .u8 0, .int .u8 0, .int .u8 0, .int .u8 0, .int .u8 0, .int .u8 0, .int .u8 0, .int .u8 0, .int .u8 0, .int .u8 0, .int .u8 0]), (154, 32, 32, .agg #[.int .u8 0, .int .u8 0, .int .u8 0, .int .u8 0, .int .u8 0, .int .u8 0, .int .u8 0, .int .u8 0, .int .u8 0, .int .u8 0, .int .u8 0, .int .u8 0, .int .u8 0, .int .u8 0, .int .u8 0, .int .u8 0, .int .u8 0, .int .u8 0, .int .u8 0, .int .u8 0, .int .u8 0, .int .u8 0, .int .u8 0, .int .u8 0, .int .u8 0, .int .u8 0, .int .u8 0, .int .u8 0, .int .u8 0, .int .u8 0, .int .u8 0, .int .u8 0]), (155, 64, 64, .agg #[.int .u8 0, .int .u8 0, .int .u8 0, .int .u8 0, .int .u8 0, .int .u8 0, .int .u8 0, .int .u8 0, .int .u8 0, .int .u8 0, .int .u8 0, .int .u8 0, .int .u8 0, .int .u8 0, .int .u8 0, .int .u8 0, .int .u8 0, .int .u8 0, .int .u8 0, .int .u8 0, .int .u8 0, .int .u8 0, .int .u8 0, .int .u8 0, .int .u8 0, .int .u8 0, .int .u8 0, .int .u8 0, .int .u8 0, .int .u8 0, .int .u8 0, .int .u8 0, .int .u8 0, .int .u8 0, .int .u8 0, .int .u8 0, .int .u8 0, .int .u8 0, .int .u8 0, .int .u8 0, .int .u8 0, .int .u8 0, .int .u8 0, .int .u8 0, .int .u8 0, .int .u8 0, .int .u8 0, .int .u8 0, .int .u8 0, .int .u8 0, .int .u8 0, .int .u8 0, .int .u8 0, .int .u8 0, .int .u8 0, .int .u8 0, .int .u8 0, .int .u8 0, .int .u8 0, .int .u8 0, .int .u8 0, .int .u8 0, .int .u8 0, .int .u8 0]), (141, 20, 160, .agg #[.int .u64 0, .int .u64 0, .int .u64 0, .int .u64 0, .int .u64 0, .int .u64 0, .int .u64 0, .int .u64 0, .int .u64 0, .int .u64 0, .int .u64 0, .int .u64 0, .int .u64 0, .int .u64 0, .int .u64 0, .int .u64 0, .int .u64 0, .int .u64 0, .int .u64 0, .int .u64 0]), (150, 32, 32, .agg #[.int .u8 0, .int .u8 0, .int .u8 0, .int .u8 0, .int .u8 0, .int .u8 0, .int .u8 0, .int .u8 0, .int .u8 0, .int .u8 0, .int .u8 0, .int .u8 0, .int .u8 0, .int .u8 0, .int .u8 0, .int .u8 0, .int .u8 0, .int .u8 0, .int .u8 0, .int .u8 0, .int .u8 0, .int .u8 0, .int .u8 0, .int .u8 0, .int .u8 0, .int .u8 0, .int .u8 0, .int .u8 0, .int .u8 0, .int .u8 0, .int .u8 0, .int .u8 0]), (58, 1, 16, .nilIface), (25, 1, 8, .int .i64 0), (102, 1, 8, .pointer none), (114, 256, 256, .agg #[.bool false, .bool false, .bool false, .bool false, .bool false, .bool false, .bool false, .bool false, .bool false, .bool false, .bool false, .bool false, .bool false, .bool false, .bool false, .bool false, .bool false, .bool false, .bool false, .bool false, .bool false, .bool false, .bool false, .bool false, .bool false, .bool false, .bool false, .bool false, .bool false, .bool false, .bool false, .bool false, .bool false, .bool false, .bool false, .bool false, .bool false, .bool false, .bool false, .bool false, .bool false, .bool false, .bool false, .bool false, .bool false, .bool false, .bool false, .bool false, .bool false, .bool false, .bool false, .bool false, .bool false, .bool false, .bool false, .bool false, .bool false, .bool false, .bool false, .bool false, .bool false, .bool false, .bool false, .bool false, .bool false, .bool false, .bool false, .bool false, .bool false, .bool false, .bool false, .bool false, .bool false, .bool false, .bool false, .bool false, .bool false, .bool false, .bool false, .bool false, .bool false, .bool false, .bool false, .bool false, .bool false, .bool false, .bool false, .bool false, .bool false, .bool false, .bool false, .bool false, .bool false, .bool false, .bool false, .bool false, .bool false, .bool false, .bool false, .bool false, .bool false, .bool false, .bool false, .bool false, .bool false, .bool false, .bool false, .bool false, .bool false, .bool false, .bool false, .bool false, .bool false, .bool false, .bool false, .bool false, .bool false, .bool false, .bool false, .bool false, .bool false, .bool false, .bool false, .bool false, .bool false, .bool false, .bool false, .bool false, .bool false, .bool false, .bool false, .bool false, .bool false, .bool false, .bool false, .bool false, .bool false, .bool false, .bool false, .bool false, .bool false, .bool false, .bool false, .bool false, .bool false, .bool false, .bool false, .bool false, .bool false, .bool false, .bool false, .bool false, .bool false, .bool false, .bool false, .bool false, .bool false, .bool false, .bool false, .bool false, .bool false, .bool false, .bool false, .bool false, .bool false, .bool false, .bool false, .bool false, .bool false, .bool false, .bool false, .bool false, .bool false, .bool false, .bool false, .bool false, .bool false, .bool false, .bool false, .bool false, .bool false, .bool false, .bool false, .bool false, .bool false, .bool false, .bool false, .bool false, .bool false, .bool false, .bool false, .bool false, .bool false, .bool false, .bool false, .bool false, .bool false, .bool false, .bool false, .bool false, .bool false, .bool false, .bool false, .bool false, .bool false, .bool false, .bool false, .bool false, .bool false, .bool false, .bool false, .bool false, .bool false, .bool false, .bool false, .bool false, .bool false, .bool false, .bool false, .bool false, .bool false, .bool false, .bool false, .bool false, .bool false, .bool false, .bool false, .bool false, .bool false, .bool false, .bool false, .bool false, .bool false, .bool false, .bool false, .bool false, .bool false, .bool false, .bool false, .bool false, .bool false, .bool false, .bool false, .bool false, .bool false, .bool false, .bool false, .bool false, .bool false, .bool false, .bool false, .bool false, .bool false, .bool false, .bool false, .bool false])]
def sL : List (Nat × Nat) := [(44, 1), (22, 1), (51, 1), (3, 1), (48, 1), (9, 1), (86, 1), (4, 1), (88, 2), (42, 1), (92, 1), (85, 1), (68, 1), (5, 1), (149, 2), (21, 1), (120, 1), (127, 24), (154, 32), (155, 64), (141, 20), (150, 32), (58, 1), (25, 1), (102, 1), (114, 256)]
def fL : List (Nat × List (Nat × Nat)) := [(88, [(0, 0), (1, 1)])]
def lL : List (Nat × List (Nat × Nat)) := []
def bL : List (Nat × List (Nat × Nat) × List Value) := [(149, [(0, 1), (1, 1)], [.int .u8 0, .int .u8 0])]
theorem bd149 : BdOk Tryz.prog 149 ([(0, 1), (1, 1)], [.int .u8 0, .int .u8 0]) := bd_of Tryz.underlying149 (by kernel_rfl) (by kernel_rfl)
theorem fo88_0 : FoOk Tryz.prog 88 0 0 := fo_of Tryz.underlying88 rfl rfl inf85 (by decide)
theorem fo88_1 : FoOk Tryz.prog 88 1 1 := fo_of Tryz.underlying88 rfl rfl inf86 (by decide)
theorem uL_ok : AllL (fun t d => Tryz.prog.underlying t = some d) uL := ⟨Tryz.underlying44, Tryz.underlying22, Tryz.underlying51, Tryz.underlying3, Tryz.underlying48, Tryz.underlying9, Tryz.underlying86, Tryz.underlying4, Tryz.underlying42, Tryz.underlying92, Tryz.underlying85, Tryz.underlying5, Tryz.underlying21, Tryz.underlying127, Tryz.underlying154, Tryz.underlying155, Tryz.underlying141, Tryz.underlying150, Tryz.underlying25, Tryz.underlying102, Tryz.underlying114, trivial⟩
theorem iL_ok : AllL (fun t d => InfOk Tryz.prog t d) iL := ⟨inf44, inf22, inf51, inf3, inf48, inf9, inf86, inf4, inf88, inf42, inf92, inf85, inf68, inf5, inf149, inf21, inf120, inf127, inf154, inf155, inf141, inf150, inf58, inf25, inf102, inf114, trivial⟩
theorem sL_ok : AllL (fun t d => ∃ i, Tryz.prog.info? t = some i ∧ i.size = d) sL := ⟨inf44.sz, inf22.sz, inf51.sz, inf3.sz, inf48.sz, inf9.sz, inf86.sz, inf4.sz, inf88.sz, inf42.sz, inf92.sz, inf85.sz, inf68.sz, inf5.sz, inf149.sz, inf21.sz, inf120.sz, inf127.sz, inf154.sz, inf155.sz, inf141.sz, inf150.sz, inf58.sz, inf25.sz, inf102.sz, inf114.sz, trivial⟩
theorem fL_ok : AllL (fun t d => AllL (fun f o => FoOk Tryz.prog t f o) d) fL := ⟨⟨fo88_0, fo88_1, trivial⟩, trivial⟩
theorem lL_ok : AllL (fun t d => AllL (fun f o => FlOk Tryz.prog t f o) d) lL := trivial
theorem bL_ok : AllL (fun t d => BdOk Tryz.prog t d) bL := ⟨bd149, trivial⟩
def U : Tys Tryz.prog where
  tb := ⟨lk uL, lk sL, lk iL, fun t f => lk2 fL t f, fun t f => lk2 lL t f, lk bL⟩
  hu := lk_all uL uL_ok
  hs := lk_all sL sL_ok
  hi := fun t _ _ _ h => lk_all iL iL_ok t _ h
  hf := fun _ _ _ h => lk2_all fL fL_ok h
  hl := fun _ _ _ h => lk2_all lL lL_ok h
  hb := fun t _ _ h => lk_all bL bL_ok t _ h
theorem hmo : Tryz.prog.follows .mixedOrders = true := by kernel_rfl
theorem cb3 : Callable Tryz.prog 3 := ⟨_, Tryz.func3, by kernel_rfl, rfl⟩
theorem cb4 : Callable Tryz.prog 4 := ⟨_, Tryz.func4, by kernel_rfl, rfl⟩
theorem cb5 : Callable Tryz.prog 5 := ⟨_, Tryz.func5, by kernel_rfl, rfl⟩
theorem cb6 : Callable Tryz.prog 6 := ⟨_, Tryz.func6, by kernel_rfl, rfl⟩
theorem cb7 : Callable Tryz.prog 7 := ⟨_, Tryz.func7, by kernel_rfl, rfl⟩
theorem cb8 : Callable Tryz.prog 8 := ⟨_, Tryz.func8, by kernel_rfl, rfl⟩
theorem cb9 : Callable Tryz.prog 9 := ⟨_, Tryz.func9, by kernel_rfl, rfl⟩
theorem cb10 : Callable Tryz.prog 10 := ⟨_, Tryz.func10, by kernel_rfl, rfl⟩
theorem cb11 : Callable Tryz.prog 11 := ⟨_, Tryz.func11, by kernel_rfl, rfl⟩
theorem cb12 : Callable Tryz.prog 12 := ⟨_, Tryz.func12, by kernel_rfl, rfl⟩
theorem cb13 : Callable Tryz.prog 13 := ⟨_, Tryz.func13, by kernel_rfl, rfl⟩
theorem cb14 : Callable Tryz.prog 14 := ⟨_, Tryz.func14, by kernel_rfl, rfl⟩
theorem cb15 : Callable Tryz.prog 15 := ⟨_, Tryz.func15, by kernel_rfl, rfl⟩
theorem cb16 : Callable Tryz.prog 16 := ⟨_, Tryz.func16, by kernel_rfl, rfl⟩
theorem cb17 : Callable Tryz.prog 17 := ⟨_, Tryz.func17, by kernel_rfl, rfl⟩
theorem cb18 : Callable Tryz.prog 18 := ⟨_, Tryz.func18, by kernel_rfl, rfl⟩
theorem cb19 : Callable Tryz.prog 19 := ⟨_, Tryz.func19, by kernel_rfl, rfl⟩
theorem cb20 : Callable Tryz.prog 20 := ⟨_, Tryz.func20, by kernel_rfl, rfl⟩
theorem cb21 : Callable Tryz.prog 21 := ⟨_, Tryz.func21, by kernel_rfl, rfl⟩
theorem cb22 : Callable Tryz.prog 22 := ⟨_, Tryz.func22, by kernel_rfl, rfl⟩
theorem cb23 : Callable Tryz.prog 23 := ⟨_, Tryz.func23, by kernel_rfl, rfl⟩
theorem cb24 : Callable Tryz.prog 24 := ⟨_, Tryz.func24, by kernel_rfl, rfl⟩
theorem cb25 : Callable Tryz.prog 25 := ⟨_, Tryz.func25, by kernel_rfl, rfl⟩
theorem cb26 : Callable Tryz.prog 26 := ⟨_, Tryz.func26, by kernel_rfl, rfl⟩
theorem cb27 : Callable Tryz.prog 27 := ⟨_, Tryz.func27, by kernel_rfl, rfl⟩
theorem cb28 : Callable Tryz.prog 28 := ⟨_, Tryz.func28, by kernel_rfl, rfl⟩
theorem cb29 : Callable Tryz.prog 29 := ⟨_, Tryz.func29, by kernel_rfl, rfl⟩
theorem cb30 : Callable Tryz.prog 30 := ⟨_, Tryz.func30, by kernel_rfl, rfl⟩
theorem cb31 : Callable Tryz.prog 31 := ⟨_, Tryz.func31, by kernel_rfl, rfl⟩
theorem cb32 : Callable Tryz.prog 32 := ⟨_, Tryz.func32, by kernel_rfl, rfl⟩
theorem cb33 : Callable Tryz.prog 33 := ⟨_, Tryz.func33, by kernel_rfl, rfl⟩
theorem cb34 : Callable Tryz.prog 34 := ⟨_, Tryz.func34, by kernel_rfl, rfl⟩
theorem cb35 : Callable Tryz.prog 35 := ⟨_, Tryz.func35, by kernel_rfl, rfl⟩
theorem cb36 : Callable Tryz.prog 36 := ⟨_, Tryz.func36, by kernel_rfl, rfl⟩
theorem cb37 : Callable Tryz.prog 37 := ⟨_, Tryz.func37, by kernel_rfl, rfl⟩
theorem cb38 : Callable Tryz.prog 38 := ⟨_, Tryz.func38, by kernel_rfl, rfl⟩
theorem cb39 : Callable Tryz.prog 39 := ⟨_, Tryz.func39, by kernel_rfl, rfl⟩
theorem cb40 : Callable Tryz.prog 40 := ⟨_, Tryz.func40, by kernel_rfl, rfl⟩
theorem cb41 : Callable Tryz.prog 41 := ⟨_, Tryz.func41, by kernel_rfl, rfl⟩
theorem cb42 : Callable Tryz.prog 42 := ⟨_, Tryz.func42, by kernel_rfl, rfl⟩
theorem cb43 : Callable Tryz.prog 43 := ⟨_, Tryz.func43, by kernel_rfl, rfl⟩
theorem cb44 : Callable Tryz.prog 44 := ⟨_, Tryz.func44, by kernel_rfl, rfl⟩
theorem cb45 : Callable Tryz.prog 45 := ⟨_, Tryz.func45, by kernel_rfl, rfl⟩
theorem cb46 : Callable Tryz.prog 46 := ⟨_, Tryz.func46, by kernel_rfl, rfl⟩
theorem cb47 : Callable Tryz.prog 47 := ⟨_, Tryz.func47, by kernel_rfl, rfl⟩
theorem cb48 : Callable Tryz.prog 48 := ⟨_, Tryz.func48, by kernel_rfl, rfl⟩
theorem cb49 : Callable Tryz.prog 49 := ⟨_, Tryz.func49, by kernel_rfl, rfl⟩
theorem cb50 : Callable Tryz.prog 50 := ⟨_, Tryz.func50, by kernel_rfl, rfl⟩
theorem cb51 : Callable Tryz.prog 51 := ⟨_, Tryz.func51, by kernel_rfl, rfl⟩
theorem cb52 : Callable Tryz.prog 52 := ⟨_, Tryz.func52, by kernel_rfl, rfl⟩
theorem cb53 : Callable Tryz.prog 53 := ⟨_, Tryz.func53, by kernel_rfl, rfl⟩
theorem cb54 : Callable Tryz.prog 54 := ⟨_, Tryz.func54, by kernel_rfl, rfl⟩
theorem cb55 : Callable Tryz.prog 55 := ⟨_, Tryz.func55, by kernel_rfl, rfl⟩
theorem cb56 : Callable Tryz.prog 56 := ⟨_, Tryz.func56, by kernel_rfl, rfl⟩
theorem cb57 : Callable Tryz.prog 57 := ⟨_, Tryz.func57, by kernel_rfl, rfl⟩
theorem cb58 : Callable Tryz.prog 58 := ⟨_, Tryz.func58, by kernel_rfl, rfl⟩
theorem cb59 : Callable Tryz.prog 59 := ⟨_, Tryz.func59, by kernel_rfl, rfl⟩
theorem cb60 : Callable Tryz.prog 60 := ⟨_, Tryz.func60, by kernel_rfl, rfl⟩
theorem cb61 : Callable Tryz.prog 61 := ⟨_, Tryz.func61, by kernel_rfl, rfl⟩
theorem cb62 : Callable Tryz.prog 62 := ⟨_, Tryz.func62, by kernel_rfl, rfl⟩
theorem cb63 : Callable Tryz.prog 63 := ⟨_, Tryz.func63, by kernel_rfl, rfl⟩
theorem cb64 : Callable Tryz.prog 64 := ⟨_, Tryz.func64, by kernel_rfl, rfl⟩
theorem cb65 : Callable Tryz.prog 65 := ⟨_, Tryz.func65, by kernel_rfl, rfl⟩
theorem cb66 : Callable Tryz.prog 66 := ⟨_, Tryz.func66, by kernel_rfl, rfl⟩
theorem cb67 : Callable Tryz.prog 67 := ⟨_, Tryz.func67, by kernel_rfl, rfl⟩
theorem cb68 : Callable Tryz.prog 68 := ⟨_, Tryz.func68, by kernel_rfl, rfl⟩
theorem cb69 : Callable Tryz.prog 69 := ⟨_, Tryz.func69, by kernel_rfl, rfl⟩
theorem cb70 : Callable Tryz.prog 70 := ⟨_, Tryz.func70, by kernel_rfl, rfl⟩
theorem cb71 : Callable Tryz.prog 71 := ⟨_, Tryz.func71, by kernel_rfl, rfl⟩
theorem cb72 : Callable Tryz.prog 72 := ⟨_, Tryz.func72, by kernel_rfl, rfl⟩
theorem cb73 : Callable Tryz.prog 73 := ⟨_, Tryz.func73, by kernel_rfl, rfl⟩
theorem cb74 : Callable Tryz.prog 74 := ⟨_, Tryz.func74, by kernel_rfl, rfl⟩
theorem cb75 : Callable Tryz.prog 75 := ⟨_, Tryz.func75, by kernel_rfl, rfl⟩
theorem cb76 : Callable Tryz.prog 76 := ⟨_, Tryz.func76, by kernel_rfl, rfl⟩
theorem cb77 : Callable Tryz.prog 77 := ⟨_, Tryz.func77, by kernel_rfl, rfl⟩
theorem cb78 : Callable Tryz.prog 78 := ⟨_, Tryz.func78, by kernel_rfl, rfl⟩
theorem cb79 : Callable Tryz.prog 79 := ⟨_, Tryz.func79, by kernel_rfl, rfl⟩
theorem cb80 : Callable Tryz.prog 80 := ⟨_, Tryz.func80, by kernel_rfl, rfl⟩
theorem cb81 : Callable Tryz.prog 81 := ⟨_, Tryz.func81, by kernel_rfl, rfl⟩
theorem cb82 : Callable Tryz.prog 82 := ⟨_, Tryz.func82, by kernel_rfl, rfl⟩
theorem cb83 : Callable Tryz.prog 83 := ⟨_, Tryz.func83, by kernel_rfl, rfl⟩
theorem cb84 : Callable Tryz.prog 84 := ⟨_, Tryz.func84, by kernel_rfl, rfl⟩
theorem cb85 : Callable Tryz.prog 85 := ⟨_, Tryz.func85, by kernel_rfl, rfl⟩
theorem cb86 : Callable Tryz.prog 86 := ⟨_, Tryz.func86, by kernel_rfl, rfl⟩
theorem cb87 : Callable Tryz.prog 87 := ⟨_, Tryz.func87, by kernel_rfl, rfl⟩
theorem cb88 : Callable Tryz.prog 88 := ⟨_, Tryz.func88, by kernel_rfl, rfl⟩
theorem cb89 : Callable Tryz.prog 89 := ⟨_, Tryz.func89, by kernel_rfl, rfl⟩
theorem cb90 : Callable Tryz.prog 90 := ⟨_, Tryz.func90, by kernel_rfl, rfl⟩
theorem cb91 : Callable Tryz.prog 91 := ⟨_, Tryz.func91, by kernel_rfl, rfl⟩
theorem cb92 : Callable Tryz.prog 92 := ⟨_, Tryz.func92, by kernel_rfl, rfl⟩
theorem cb93 : Callable Tryz.prog 93 := ⟨_, Tryz.func93, by kernel_rfl, rfl⟩
theorem cb94 : Callable Tryz.prog 94 := ⟨_, Tryz.func94, by kernel_rfl, rfl⟩
theorem cb95 : Callable Tryz.prog 95 := ⟨_, Tryz.func95, by kernel_rfl, rfl⟩
theorem cb96 : Callable Tryz.prog 96 := ⟨_, Tryz.func96, by kernel_rfl, rfl⟩
theorem cb97 : Callable Tryz.prog 97 := ⟨_, Tryz.func97, by kernel_rfl, rfl⟩
theorem cb98 : Callable Tryz.prog 98 := ⟨_, Tryz.func98, by kernel_rfl, rfl⟩
theorem cb99 : Callable Tryz.prog 99 := ⟨_, Tryz.func99, by kernel_rfl, rfl⟩
theorem cb100 : Callable Tryz.prog 100 := ⟨_, Tryz.func100, by kernel_rfl, rfl⟩
theorem cb101 : Callable Tryz.prog 101 := ⟨_, Tryz.func101, by kernel_rfl, rfl⟩
theorem cb102 : Callable Tryz.prog 102 := ⟨_, Tryz.func102, by kernel_rfl, rfl⟩
theorem cb103 : Callable Tryz.prog 103 := ⟨_, Tryz.func103, by kernel_rfl, rfl⟩
theorem cb104 : Callable Tryz.prog 104 := ⟨_, Tryz.func104, by kernel_rfl, rfl⟩
theorem cb105 : Callable Tryz.prog 105 := ⟨_, Tryz.func105, by kernel_rfl, rfl⟩
theorem cb106 : Callable Tryz.prog 106 := ⟨_, Tryz.func106, by kernel_rfl, rfl⟩
theorem cb107 : Callable Tryz.prog 107 := ⟨_, Tryz.func107, by kernel_rfl, rfl⟩
theorem cb108 : Callable Tryz.prog 108 := ⟨_, Tryz.func108, by kernel_rfl, rfl⟩
theorem cb109 : Callable Tryz.prog 109 := ⟨_, Tryz.func109, by kernel_rfl, rfl⟩
theorem cb110 : Callable Tryz.prog 110 := ⟨_, Tryz.func110, by kernel_rfl, rfl⟩
theorem cb111 : Callable Tryz.prog 111 := ⟨_, Tryz.func111, by kernel_rfl, rfl⟩
theorem cb113 : Callable Tryz.prog 113 := ⟨_, Tryz.func113, by kernel_rfl, rfl⟩
theorem cb114 : Callable Tryz.prog 114 := ⟨_, Tryz.func114, by kernel_rfl, rfl⟩
theorem cb115 : Callable Tryz.prog 115 := ⟨_, Tryz.func115, by kernel_rfl, rfl⟩
theorem cb116 : Callable Tryz.prog 116 := ⟨_, Tryz.func116, by kernel_rfl, rfl⟩
theorem cb117 : Callable Tryz.prog 117 := ⟨_, Tryz.func117, by kernel_rfl, rfl⟩
theorem cb118 : Callable Tryz.prog 118 := ⟨_, Tryz.func118, by kernel_rfl, rfl⟩
theorem cb119 : Callable Tryz.prog 119 := ⟨_, Tryz.func119, by kernel_rfl, rfl⟩
theorem cb120 : Callable Tryz.prog 120 := ⟨_, Tryz.func120, by kernel_rfl, rfl⟩
theorem cb121 : Callable Tryz.prog 121 := ⟨_, Tryz.func121, by kernel_rfl, rfl⟩
theorem cb122 : Callable Tryz.prog 122 := ⟨_, Tryz.func122, by kernel_rfl, rfl⟩
theorem cb123 : Callable Tryz.prog 123 := ⟨_, Tryz.func123, by kernel_rfl, rfl⟩
theorem cb124 : Callable Tryz.prog 124 := ⟨_, Tryz.func124, by kernel_rfl, rfl⟩
theorem cb125 : Callable Tryz.prog 125 := ⟨_, Tryz.func125, by kernel_rfl, rfl⟩
theorem cb126 : Callable Tryz.prog 126 := ⟨_, Tryz.func126, by kernel_rfl, rfl⟩
theorem cb127 : Callable Tryz.prog 127 := ⟨_, Tryz.func127, by kernel_rfl, rfl⟩
theorem cb128 : Callable Tryz.prog 128 := ⟨_, Tryz.func128, by kernel_rfl, rfl⟩
theorem cb129 : Callable Tryz.prog 129 := ⟨_, Tryz.func129, by kernel_rfl, rfl⟩
theorem cb130 : Callable Tryz.prog 130 := ⟨_, Tryz.func130, by kernel_rfl, rfl⟩
theorem cb131 : Callable Tryz.prog 131 := ⟨_, Tryz.func131, by kernel_rfl, rfl⟩
theorem cb132 : Callable Tryz.prog 132 := ⟨_, Tryz.func132, by kernel_rfl, rfl⟩
theorem cb133 : Callable Tryz.prog 133 := ⟨_, Tryz.func133, by kernel_rfl, rfl⟩
theorem cb134 : Callable Tryz.prog 134 := ⟨_, Tryz.func134, by kernel_rfl, rfl⟩
theorem cb135 : Callable Tryz.prog 135 := ⟨_, Tryz.func135, by kernel_rfl, rfl⟩
theorem cb136 : Callable Tryz.prog 136 := ⟨_, Tryz.func136, by kernel_rfl, rfl⟩
theorem cb138 : Callable Tryz.prog 138 := ⟨_, Tryz.func138, by kernel_rfl, rfl⟩
theorem cb170 : Callable Tryz.prog 170 := ⟨_, Tryz.func170, by kernel_rfl, rfl⟩
end Go.Proofs.YtnohojjjfconfaaGreatDoor
