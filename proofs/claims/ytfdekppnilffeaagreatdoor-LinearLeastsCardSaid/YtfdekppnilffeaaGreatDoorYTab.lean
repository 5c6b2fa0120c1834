/-
  What these proofs know of this program's types, and that its functions can be called, asked of the program itself.
  No conditions.
-/
import Derived.Test.YtfdekppnilffeaaGreatDoorYRng
import Derived.Test.YtfdekppnilffeaaGreatDoorProg
import Derived.KernelRfl
namespace Go.Proofs.YtfdekppnilffeaaGreatDoor
open Go Go.Proofs Go.RowKit

theorem inf22 : InfOk Tryz.prog 22 (1, 24, .slice none 0 0) := inf_of (by kernel_rfl)
theorem inf23 : InfOk Tryz.prog 23 (1, 24, .slice none 0 0) := inf_of (by kernel_rfl)
theorem inf103 : InfOk Tryz.prog 103 (1, 24, .slice none 0 0) := inf_of (by kernel_rfl)
theorem inf73 : InfOk Tryz.prog 73 (1, 24, .slice none 0 0) := inf_of (by kernel_rfl)
theorem inf75 : InfOk Tryz.prog 75 (3, 56, .agg #[.bool false, .slice none 0 0, .slice none 0 0]) := inf_of (by kernel_rfl)
theorem inf105 : InfOk Tryz.prog 105 (3, 56, .agg #[.bool false, .slice none 0 0, .slice none 0 0]) := inf_of (by kernel_rfl)
theorem inf3 : InfOk Tryz.prog 3 (1, 8, .int .i64 0) := inf_of (by kernel_rfl)
theorem inf58 : InfOk Tryz.prog 58 (1, 24, .slice none 0 0) := inf_of (by kernel_rfl)
theorem inf57 : InfOk Tryz.prog 57 (1, 24, .slice none 0 0) := inf_of (by kernel_rfl)
theorem inf93 : InfOk Tryz.prog 93 (1, 24, .slice none 0 0) := inf_of (by kernel_rfl)
theorem inf142 : InfOk Tryz.prog 142 (1, 8, .int .u64 0) := inf_of (by kernel_rfl)
theorem inf87 : InfOk Tryz.prog 87 (1, 24, .slice none 0 0) := inf_of (by kernel_rfl)
theorem inf34 : InfOk Tryz.prog 34 (1, 16, .string ⟨#[]⟩) := inf_of (by kernel_rfl)
theorem inf9 : InfOk Tryz.prog 9 (1, 16, .string ⟨#[]⟩) := inf_of (by kernel_rfl)
theorem inf4 : InfOk Tryz.prog 4 (1, 1, .bool false) := inf_of (by kernel_rfl)
theorem inf136 : InfOk Tryz.prog 136 (1, 24, .slice none 0 0) := inf_of (by kernel_rfl)
theorem inf147 : InfOk Tryz.prog 147 (1, 8, .pointer none) := inf_of (by kernel_rfl)
theorem inf149 : InfOk Tryz.prog 149 (2, 32, .agg #[.pointer none, .slice none 0 0]) := inf_of (by kernel_rfl)
theorem inf220 : InfOk Tryz.prog 220 (2, 2, .agg #[.int .u8 0, .int .u8 0]) := inf_of (by kernel_rfl)
theorem inf5 : InfOk Tryz.prog 5 (1, 1, .int .u8 0) := inf_of (by kernel_rfl)
theorem inf186 : InfOk Tryz.prog 186 (24, 24, .agg #[.int .u8 0, .int .u8 0, .int .u8 0, .int .u8 0, .int .u8 0, .int .u8 0, .int .u8 0, .int .u8 0, .int .u8 0, .int .u8 0, .int .u8 0, .int .u8 0, .int .u8 0, .int .u8 0, .int .u8 0, .int .u8 0, .int .u8 0, .int .u8 0, .int .u8 0, .int .u8 0, .int .u8 0, .int .u8 0, .int .u8 0, .int .u8 0]) := inf_of (by kernel_rfl)
theorem inf191 : InfOk Tryz.prog 191 (1, 8, .pointer none) := inf_of (by kernel_rfl)
theorem inf226 : InfOk Tryz.prog 226 (32, 32, .agg #[.int .u8 0, .int .u8 0, .int .u8 0, .int .u8 0, .int .u8 0, .int .u8 0, .int .u8 0, .int .u8 0, .int .u8 0, .int .u8 0, .int .u8 0, .int .u8 0, .int .u8 0, .int .u8 0, .int .u8 0, .int .u8 0, .int .u8 0, .int .u8 0, .int .u8 0, .int .u8 0, .int .u8 0, .int .u8 0, .int .u8 0, .int .u8 0, .int .u8 0, .int .u8 0, .int .u8 0, .int .u8 0, .int .u8 0, .int .u8 0, .int .u8 0, .int .u8 0]) := inf_of (by kernel_rfl)
theorem inf227 : InfOk Tryz.prog 227 (64, 64, .agg #[.int .u8 0, .int .u8 0, .int .u8 0, .int .u8 0, .int .u8 0, .int .u8 0, .int .u8 0, .int .u8 0, .int .u8 0, .int .u8 0, .int .u8 0, .int .u8 0, .int .u8 0, .int .u8 0, .int .u8 0, .int .u8 0, .int .u8 0, .int .u8 0, .int .u8 0, .int .u8 0, .int .u8 0, .int .u8 0, .int .u8 0, .int .u8 0, .int .u8 0, .int .u8 0, .int .u8 0, .int .u8 0, .int .u8 0, .int .u8 0, .int .u8 0, .int .u8 0, .int .u8 0, .int .u8 0, .int .u8 0, .int .u8 0, .int .u8 0, .int .u8 0, .int .u8 0, .int .u8 0, .int .u8 0, .int .u8 0, .int .u8 0, .int .u8 0, .int .u8 0, .int .u8 0, .int .u8 0, .int .u8 0, .int .u8 0, .int .u8 0, .int .u8 0, .int .u8 0, .int .u8 0, .int .u8 0, .int .u8 0, .int .u8 0, .int .u8 0, .int .u8 0, .int .u8 0, .int .u8 0, .int .u8 0, .int .u8 0, .int .u8 0, .int .u8 0]) := inf_of (by kernel_rfl)
theorem inf206 : InfOk Tryz.prog 206 (20, 160, .agg #[.int .u64 0, .int .u64 0, .int .u64 0, .int .u64 0, .int .u64 0, .int .u64 0, .int .u64 0, .int .u64 0, .int .u64 0, .int .u64 0, .int .u64 0, .int .u64 0, .int .u64 0, .int .u64 0, .int .u64 0, .int .u64 0, .int .u64 0, .int .u64 0, .int .u64 0, .int .u64 0]) := inf_of (by kernel_rfl)
theorem inf221 : InfOk Tryz.prog 221 (32, 32, .agg #[.int .u8 0, .int .u8 0, .int .u8 0, .int .u8 0, .int .u8 0, .int .u8 0, .int .u8 0, .int .u8 0, .int .u8 0, .int .u8 0, .int .u8 0, .int .u8 0, .int .u8 0, .int .u8 0, .int .u8 0, .int .u8 0, .int .u8 0, .int .u8 0, .int .u8 0, .int .u8 0, .int .u8 0, .int .u8 0, .int .u8 0, .int .u8 0, .int .u8 0, .int .u8 0, .int .u8 0, .int .u8 0, .int .u8 0, .int .u8 0, .int .u8 0, .int .u8 0]) := inf_of (by kernel_rfl)
theorem inf151 : InfOk Tryz.prog 151 (1, 16, .nilIface) := inf_of (by kernel_rfl)
theorem inf110 : InfOk Tryz.prog 110 (1, 8, .nilFunc) := inf_of (by kernel_rfl)
theorem inf132 : InfOk Tryz.prog 132 (1, 8, .nilFunc) := inf_of (by kernel_rfl)
theorem inf170 : InfOk Tryz.prog 170 (1, 8, .pointer none) := inf_of (by kernel_rfl)
theorem inf179 : InfOk Tryz.prog 179 (256, 256, .agg #[.bool false, .bool false, .bool false, .bool false, .bool false, .bool false, .bool false, .bool false, .bool false, .bool false, .bool false, .bool false, .bool false, .bool false, .bool false, .bool false, .bool false, .bool false, .bool false, .bool false, .bool false, .bool false, .bool false, .bool false, .bool false, .bool false, .bool false, .bool false, .bool false, .bool false, .bool false, .bool false, .bool false, .bool false, .bool false, .bool false, .bool false, .bool false, .bool false, .bool false, .bool false, .bool false, .bool false, .bool false, .bool false, .bool false, .bool false, .bool false, .bool false, .bool false, .bool false, .bool false, .bool false, .bool false, .bool false, .bool false, .bool false, .bool false, .bool false, .bool false, .bool false, .bool false, .bool false, .bool false, .bool false, .bool false, .bool false, .bool false, .bool false, .bool false, .bool false, .bool false, .bool false, .bool false, .bool false, .bool false, .bool false, .bool false, .bool false, .bool false, .bool false, .bool false, .bool false, .bool false, .bool false, .bool false, .bool false, .bool false, .bool false, .bool false, .bool false, .bool false, .bool false, .bool false, .bool false, .bool false, .bool false, .bool false, .bool false, .bool false, .bool false, .bool false, .bool false, .bool false, .bool false, .bool false, .bool false, .bool false, .bool false, .bool false, .bool false, .bool false, .bool false, .bool false, .bool false, .bool false, .bool false, .bool false, .bool false, .bool false, .bool false, .bool false, .bool false, .bool false, .bool false, .bool false, .bool false, .bool false, .bool false, .bool false, .bool false, .bool false, .bool false, .bool false, .bool false, .bool false, .bool false, .bool false, .bool false, .bool false, .bool false, .bool false, .bool false, .bool false, .bool false, .bool false, .bool false, .bool false, .bool false, .bool false, .bool false, .bool false, .bool false, .bool false, .bool false, .bool false, .bool false, .bool false, .bool false, .bool false, .bool false, .bool false, .bool false, .bool false, .bool false, .bool false, .bool false, .bool false, .bool false, .bool false, .bool false, .bool false, .bool false, .bool false, .bool false, .bool false, .bool false, .bool false, .bool false, .bool false, .bool false, .bool false, .bool false, .bool false, .bool false, .bool false, .bool false, .bool false, .bool false, .bool false, .bool false, .bool false, .bool false, .bool false, .bool false, .bool false, .bool false, .bool false, .bool false, .bool false, .bool false, .bool false, .bool false, .bool false, .bool false, .bool false, .bool false, .bool false, .bool false, .bool false, .bool false, .bool false, .bool false, .bool false, .bool false, .bool false, .bool false, .bool false, .bool false, .bool false, .bool false, .bool false, .bool false, .bool false, .bool false, .bool false, .bool false, .bool false, .bool false, .bool false, .bool false, .bool false, .bool false, .bool false, .bool false, .bool false, .bool false, .bool false, .bool false, .bool false, .bool false, .bool false, .bool false, .bool false, .bool false, .bool false, .bool false, .bool false, .bool false, .bool false, .bool false, .bool false, .bool false, .bool false, .bool false, .bool false]) := inf_of (by kernel_rfl)
def uL : List (Nat × TypeDesc) := [(22, .slice 23), (23, .slice 34), (103, .slice 142), (73, .slice 3), (3, .int .i64), (58, .slice 105), (57, .slice 58), (93, .slice 75), (142, .int .u64), (87, .slice 93), (34, .string), (9, .string), (4, .bool), (136, .slice 5), (147, .pointer 149), (5, .int .u8), (186, .array 24 5), (226, .array 32 5), (227, .array 64 5), (206, .array 20 142), (221, .array 16 220), (110, .func #[58] #[4] false), (132, .func #[105, 105, 105] #[105] false), (170, .pointer 5), (179, .array 256 4)]
def iL : List (Nat × Nat × Nat × Value) := [(22, 1, 24, .slice none 0 0), (23, 1, 24, .slice none 0 0), (103, 1, 24, .slice none 0 0), (73, 1, 24, .slice none 0 0), (75, 3, 56, .agg #[.bool false, .slice none 0 0, .slice none 0 0]), (105, 3, 56, .agg #[.bool false, .slice none 0 0, .slice none 0 0]), (3, 1, 8, .int .i64 0), (58, 1, 24, .slice none 0 0), (57, 1, 24, .slice none 0 0), (93, 1, 24, .slice none 0 0), (142, 1, 8, .int .u64 0), (87, 1, 24, .slice none 0 0), (34, 1, 16, .string ⟨#[]⟩), (9, 1, 16, .string ⟨#[]⟩), (4, 1, 1, .bool false), (136, 1, 24, .slice none 0 0), (147, 1, 8, .pointer none), (149, 2, 32, .agg #[.pointer none, .slice none 0 0]), (220, 2, 2, .agg #[.int .u8 0, .int .u8 0]), (5, 1, 1, .int .u8 0), (186, 24, 24, .agg #[.int .u8 0, .int .u8 0, .int .u8 0, .int .u8 0, .int .u8 0, .int .u8 0, .int .u8 0, .int .u8 0, .int .u8 0, .int .u8 0, .int .u8 0, .int .u8 0, .int .u8 0, .int .u8 0, .int .u8 0, .int .u8 0, .int .u8 0, .int .u8 0, .int .u8 0, .int .u8 0, .int .u8 0, .int .u8 0, .int .u8 0, .int .u8 0]), (191, 1, 8, .pointer none), (226, 32, 32, .agg #[.int .u8 0, .int .u8 0, .int .u8 0, .int .u8 0, .int .u8 0, .int .u8 0, .int .u8 0, .int .u8 0, .int .u8 0, .int .u8 0, .int .u8 0, .int .u8 0, .int .u8 0, .int .u8 0, .int .u8 0, .int .u8 0, .int .u8 0, .int .u8 0, .int .u8 0, .int .u8 0, .int .u8 0, .int .u8 0, .int .u8 0, .int .u8 0, .int .u8 0, .int .u8 0, .int .u8 0, .int .u8 0, .int .u8 0, .int .u8 0, .int .u8 0, .int .u8 0]), (227, 64, 64, .agg #[.int .u8 0, .int .u8 0, .int .u8 0, .int .u8 0, .int .u8 0, .int .u8 0, .int .u8 0, .int .u8 0, .int .u8 0, .int .u8 0, .int .u8 0, .int .u8 0, .int .u8 0, .int .u8 0, .int .u8 0, .int .u8 0, .int .u8 0, .int .u8 0, .int .u8 0, .int .u8 0, .int .u8 0, .int .u8 0, .int .u8 0, .int .u8 0, .int .u8 0, .int .u8 0, .int .u8 0, .int .u8 0, .int .u8 0, .int .u8 0, .int .u8 0, .int .u8 0, .int .u8 0, .int .u8 0, .int .u8 0, .int .u8 0, .int .u8 0, .int .u8 0, .int .u8 0, .int .u8 0, .int .u8 0, .int .u8 0, .int .u8 0, .int .u8 0, .int .u8 0, .int .u8 0, .int .u8 0, .int .u8 0, .int .u8 0, .int .u8 0, .int .u8 0, .int .u8 0, .int .u8 0, .int .u8 0, .int .u8 0, .int .u8 0, .int .u8 0, .int .u8 0, .int .u8 0, .int .u8 0, .int .u8 0, .int .u8 0, .int .u8 0, .int .u8 0]), (206, 20, 160, .agg #[.int .u64 0, .int .u64 0, .int .u64 0, .int .u64 0, .int .u64 0, .int .u64 0, .int .u64 0, .int .u64 0, .int .u64 0, .int .u64 0, .int .u64 0, .int .u64 0, .int .u64 0, .int .u64 0, .int .u64 0, .int .u64 0, .int .u64 0, .int .u64 0, .int .u64 0, .int .u64 0]), (221, 32, 32, .agg #[.int .u8 0, .int .u8 0, .int .u8 0, .int .u8 0, .int .u8 0, .int .u8 0, .int .u8 0, .int .u8 0, .int .u8 0, .int .u8 0, .int .u8 0, .int .u8 0, .int .u8 0, .int .u8 0, .int .u8 0, .int .u8 0, .int .u8 0, .int .u8 0, .int .u8 0, .int .u8 0, .int .u8 0, .int .u8 0, .int .u8 0, .int .u8 0, .int .u8 0, .int .u8 0, .int .u8 0, .int .u8 0, .int .u8 0, .int .u8 0, .int .u8 0, .int .u8 0]), (151, 1, 16, .nilIface), (110, 1, 8, .nilFunc), (132, 1, 8, .nilFunc), (170, 1, 8, .pointer none), (179, 256, 256, .agg #[.bool false, .bool false, .bool false, .bool false, .bool false, .bool false, .bool false, .bool false, .bool false, .bool false, .bool false, .bool false, .bool false, .bool false, .bool false, .bool false, .bool false, .bool false, .bool false, .bool false, .bool false, .bool false, .bool false, .bool false, .bool false, .bool false, .bool false, .bool false, .bool false, .bool false, .bool false, .bool false, .bool false, .bool false, .bool false, .bool false, .bool false, .bool false, .bool false, .bool false, .bool false, .bool false, .bool false, .bool false, .bool false, .bool false, .bool false, .bool false, .bool false, .bool false, .bool false, .bool false, .bool false, .bool false, .bool false, .bool false, .bool false, .bool false, .bool false, .bool false, .bool false, .bool false, .bool false, .bool false, .bool false, .bool false, .bool false, .bool false, .bool false, .bool false, .bool false, .bool false, .bool false, .bool false, .bool false, .bool false, .bool false, .bool false, .bool false, .bool false, .bool false, .bool false, .bool false, .bool false, .bool false, .bool false, .bool false, .bool false, .bool false, .bool false, .bool false, .bool false, .bool false, .bool false, .bool false, .bool false, .bool false, .bool false, .bool false, .bool false, .bool false, .bool false, .bool false, .bool false, .bool false, .bool false, .bool false, .bool false, .bool false, .bool false, .bool false, .bool false, .bool false, .bool false, .bool false, .bool false, .bool false, .bool false, .bool false, .bool false, .bool false, .bool false, .bool false, .bool false, .bool false, .bool false, .bool false, .bool false, .bool false, .bool false, .bool false, .bool false, .bool false, .bool false, .bool false, .bool false, .bool false, .bool false, .bool false, .bool false, .bool false, .bool false, .bool false, .bool false, .bool false, .bool false, .bool false, .bool false, .bool false, .bool false, .bool false, .bool false, .bool false, .bool false, .bool false, .bool false, .bool false, .bool false, .bool false, .bool false, .bool false, .bool false, .bool false, .bool false, .bool false, .bool false, .bool false, .bool false, .bool false, .bool false, .bool false, .bool false, .bool false, .bool false, .bool false, .bool false, .bool false, .bool false, .bool false, .bool false, .bool false, .bool false, .bool false, .bool false, .bool false, .bool false, .bool false, .bool false, .bool false, .bool false, .bool false, .bool false, .bool false, .bool false, .bool false, .bool false, .bool false, .bool false, .bool false, .bool false, .bool false, .bool false, .bool false, .bool false, .bool false, .bool false, .bool false, .bool false, .bool false, .bool false, .bool false, .bool false, .bool false, .bool false, .bool false, .bool false, .bool false, .bool false, .bool false, .bool false, .bool false, .bool false, .bool false, .bool false, .bool false, .bool false, .bool false, .bool false, .bool false, .bool false, .bool false, .bool false, .bool false, .bool false, .bool false, .bool false, .bool false, .bool false, .bool false, .bool false, .bool false, .bool false, .bool false, .bool false, .bool false, .bool false, .bool false, .bool false, .bool false, .bool false, .bool false, .bool false, .bool false, .bool false, .bool false, .bool false])]
def sL : List (Nat × Nat) := [(22, 1), (23, 1), (103, 1), (73, 1), (75, 3), (105, 3), (3, 1), (58, 1), (57, 1), (93, 1), (142, 1), (87, 1), (34, 1), (9, 1), (4, 1), (136, 1), (147, 1), (149, 2), (220, 2), (5, 1), (186, 24), (191, 1), (226, 32), (227, 64), (206, 20), (221, 32), (151, 1), (110, 1), (132, 1), (170, 1), (179, 256)]
def fL : List (Nat × List (Nat × Nat)) := [(75, [(0, 0), (1, 1), (2, 2)]), (105, [(0, 0), (1, 1), (2, 2)]), (149, [(0, 0), (1, 1)])]
def lL : List (Nat × List (Nat × Nat)) := []
def bL : List (Nat × List (Nat × Nat) × List Value) := [(75, [(0, 1), (1, 1), (2, 1)], [.bool false, .slice none 0 0, .slice none 0 0]), (105, [(0, 1), (1, 1), (2, 1)], [.bool false, .slice none 0 0, .slice none 0 0]), (220, [(0, 1), (1, 1)], [.int .u8 0, .int .u8 0])]
theorem bd75 : BdOk Tryz.prog 75 ([(0, 1), (1, 1), (2, 1)], [.bool false, .slice none 0 0, .slice none 0 0]) := bd_of Tryz.underlying75 (by kernel_rfl) (by kernel_rfl)
theorem bd105 : BdOk Tryz.prog 105 ([(0, 1), (1, 1), (2, 1)], [.bool false, .slice none 0 0, .slice none 0 0]) := bd_of Tryz.underlying105 (by kernel_rfl) (by kernel_rfl)
theorem bd220 : BdOk Tryz.prog 220 ([(0, 1), (1, 1)], [.int .u8 0, .int .u8 0]) := bd_of Tryz.underlying220 (by kernel_rfl) (by kernel_rfl)
theorem fo75_0 : FoOk Tryz.prog 75 0 0 := fo_of Tryz.underlying75 rfl rfl inf4 (by decide)
theorem fo75_1 : FoOk Tryz.prog 75 1 1 := fo_of Tryz.underlying75 rfl rfl inf73 (by decide)
theorem fo75_2 : FoOk Tryz.prog 75 2 2 := fo_of Tryz.underlying75 rfl rfl inf73 (by decide)
theorem fo105_0 : FoOk Tryz.prog 105 0 0 := fo_of Tryz.underlying105 rfl rfl inf4 (by decide)
theorem fo105_1 : FoOk Tryz.prog 105 1 1 := fo_of Tryz.underlying105 rfl rfl inf103 (by decide)
theorem fo105_2 : FoOk Tryz.prog 105 2 2 := fo_of Tryz.underlying105 rfl rfl inf103 (by decide)
theorem fo149_0 : FoOk Tryz.prog 149 0 0 := fo_of Tryz.underlying149 rfl rfl inf147 (by decide)
theorem fo149_1 : FoOk Tryz.prog 149 1 1 := fo_of Tryz.underlying149 rfl rfl inf136 (by decide)
theorem uL_ok : AllL (fun t d => Tryz.prog.underlying t = some d) uL := ⟨Tryz.underlying22, Tryz.underlying23, Tryz.underlying103, Tryz.underlying73, Tryz.underlying3, Tryz.underlying58, Tryz.underlying57, Tryz.underlying93, Tryz.underlying142, Tryz.underlying87, Tryz.underlying34, Tryz.underlying9, Tryz.underlying4, Tryz.underlying136, Tryz.underlying147, Tryz.underlying5, Tryz.underlying186, Tryz.underlying226, Tryz.underlying227, Tryz.underlying206, Tryz.underlying221, Tryz.underlying110, Tryz.underlying132, Tryz.underlying170, Tryz.underlying179, trivial⟩
theorem iL_ok : AllL (fun t d => InfOk Tryz.prog t d) iL := ⟨inf22, inf23, inf103, inf73, inf75, inf105, inf3, inf58, inf57, inf93, inf142, inf87, inf34, inf9, inf4, inf136, inf147, inf149, inf220, inf5, inf186, inf191, inf226, inf227, inf206, inf221, inf151, inf110, inf132, inf170, inf179, trivial⟩
theorem sL_ok : AllL (fun t d => ∃ i, Tryz.prog.info? t = some i ∧ i.size = d) sL := ⟨inf22.sz, inf23.sz, inf103.sz, inf73.sz, inf75.sz, inf105.sz, inf3.sz, inf58.sz, inf57.sz, inf93.sz, inf142.sz, inf87.sz, inf34.sz, inf9.sz, inf4.sz, inf136.sz, inf147.sz, inf149.sz, inf220.sz, inf5.sz, inf186.sz, inf191.sz, inf226.sz, inf227.sz, inf206.sz, inf221.sz, inf151.sz, inf110.sz, inf132.sz, inf170.sz, inf179.sz, trivial⟩
theorem fL_ok : AllL (fun t d => AllL (fun f o => FoOk Tryz.prog t f o) d) fL := ⟨⟨fo75_0, fo75_1, fo75_2, trivial⟩, ⟨fo105_0, fo105_1, fo105_2, trivial⟩, ⟨fo149_0, fo149_1, trivial⟩, trivial⟩
theorem lL_ok : AllL (fun t d => AllL (fun f o => FlOk Tryz.prog t f o) d) lL := trivial
theorem bL_ok : AllL (fun t d => BdOk Tryz.prog t d) bL := ⟨bd75, bd105, bd220, trivial⟩
def U : Tys Tryz.prog where
  tb := ⟨lk uL, lk sL, lk iL, fun t f => lk2 fL t f, fun t f => lk2 lL t f, lk bL⟩
  hu := lk_all uL uL_ok
  hs := lk_all sL sL_ok
  hi := fun t _ _ _ h => lk_all iL iL_ok t _ h
  hf := fun _ _ _ h => lk2_all fL fL_ok h
  hl := fun _ _ _ h => lk2_all lL lL_ok h
  hb := fun t _ _ h => lk_all bL bL_ok t _ h
theorem hmo : Tryz.prog.follows .mixedOrders = true := by kernel_rfl
theorem cb9 : Callable Tryz.prog 9 := ⟨_, Tryz.func9, by kernel_rfl, rfl⟩
theorem cb10 : Callable Tryz.prog 10 := ⟨_, Tryz.func10, by kernel_rfl, rfl⟩
theorem cb11 : Callable Tryz.prog 11 := ⟨_, Tryz.func11, by kernel_rfl, rfl⟩
theorem cb12 : Callable Tryz.prog 12 := ⟨_, Tryz.func12, by kernel_rfl, rfl⟩
theorem cb13 : Callable Tryz.prog 13 := ⟨_, Tryz.func13, by kernel_rfl, rfl⟩
theorem cb14 : Callable Tryz.prog 14 := ⟨_, Tryz.func14, by kernel_rfl, rfl⟩
theorem cb15 : Callable Tryz.prog 15 := ⟨_, Tryz.func15, by kernel_rfl, rfl⟩
theorem cb16 : Callable Tryz.prog 16 := ⟨_, Tryz.func16, by kernel_rfl, rfl⟩
theorem cb17 : Callable Tryz.prog 17 := ⟨_, Tryz.func17, by kernel_rfl, rfl⟩
theorem cb18 : Callable Tryz.prog 18 := ⟨_, Tryz.func18, by kernel_rfl, rfl⟩
theorem cb19 : Callable Tryz.prog 19 := ⟨_, Tryz.func19, by kernel_rfl, rfl⟩
theorem cb20 : Callable Tryz.prog 20 := ⟨_, Tryz.func20, by kernel_rfl, rfl⟩
theorem cb21 : Callable Tryz.prog 21 := ⟨_, Tryz.func21, by kernel_rfl, rfl⟩
theorem cb22 : Callable Tryz.prog 22 := ⟨_, Tryz.func22, by kernel_rfl, rfl⟩
theorem cb28 : Callable Tryz.prog 28 := ⟨_, Tryz.func28, by kernel_rfl, rfl⟩
theorem cb29 : Callable Tryz.prog 29 := ⟨_, Tryz.func29, by kernel_rfl, rfl⟩
theorem cb30 : Callable Tryz.prog 30 := ⟨_, Tryz.func30, by kernel_rfl, rfl⟩
theorem cb31 : Callable Tryz.prog 31 := ⟨_, Tryz.func31, by kernel_rfl, rfl⟩
theorem cb32 : Callable Tryz.prog 32 := ⟨_, Tryz.func32, by kernel_rfl, rfl⟩
theorem cb43 : Callable Tryz.prog 43 := ⟨_, Tryz.func43, by kernel_rfl, rfl⟩
theorem cb44 : Callable Tryz.prog 44 := ⟨_, Tryz.func44, by kernel_rfl, rfl⟩
theorem cb45 : Callable Tryz.prog 45 := ⟨_, Tryz.func45, by kernel_rfl, rfl⟩
theorem cb46 : Callable Tryz.prog 46 := ⟨_, Tryz.func46, by kernel_rfl, rfl⟩
theorem cb47 : Callable Tryz.prog 47 := ⟨_, Tryz.func47, by kernel_rfl, rfl⟩
theorem cb48 : Callable Tryz.prog 48 := ⟨_, Tryz.func48, by kernel_rfl, rfl⟩
theorem cb49 : Callable Tryz.prog 49 := ⟨_, Tryz.func49, by kernel_rfl, rfl⟩
theorem cb50 : Callable Tryz.prog 50 := ⟨_, Tryz.func50, by kernel_rfl, rfl⟩
theorem cb51 : Callable Tryz.prog 51 := ⟨_, Tryz.func51, by kernel_rfl, rfl⟩
theorem cb52 : Callable Tryz.prog 52 := ⟨_, Tryz.func52, by kernel_rfl, rfl⟩
theorem cb53 : Callable Tryz.prog 53 := ⟨_, Tryz.func53, by kernel_rfl, rfl⟩
theorem cb54 : Callable Tryz.prog 54 := ⟨_, Tryz.func54, by kernel_rfl, rfl⟩
theorem cb55 : Callable Tryz.prog 55 := ⟨_, Tryz.func55, by kernel_rfl, rfl⟩
theorem cb56 : Callable Tryz.prog 56 := ⟨_, Tryz.func56, by kernel_rfl, rfl⟩
theorem cb57 : Callable Tryz.prog 57 := ⟨_, Tryz.func57, by kernel_rfl, rfl⟩
theorem cb58 : Callable Tryz.prog 58 := ⟨_, Tryz.func58, by kernel_rfl, rfl⟩
theorem cb59 : Callable Tryz.prog 59 := ⟨_, Tryz.func59, by kernel_rfl, rfl⟩
theorem cb62 : Callable Tryz.prog 62 := ⟨_, Tryz.func62, by kernel_rfl, rfl⟩
theorem cb73 : Callable Tryz.prog 73 := ⟨_, Tryz.func73, by kernel_rfl, rfl⟩
theorem cb74 : Callable Tryz.prog 74 := ⟨_, Tryz.func74, by kernel_rfl, rfl⟩
theorem cb75 : Callable Tryz.prog 75 := ⟨_, Tryz.func75, by kernel_rfl, rfl⟩
theorem cb76 : Callable Tryz.prog 76 := ⟨_, Tryz.func76, by kernel_rfl, rfl⟩
theorem cb77 : Callable Tryz.prog 77 := ⟨_, Tryz.func77, by kernel_rfl, rfl⟩
theorem cb78 : Callable Tryz.prog 78 := ⟨_, Tryz.func78, by kernel_rfl, rfl⟩
theorem cb79 : Callable Tryz.prog 79 := ⟨_, Tryz.func79, by kernel_rfl, rfl⟩
theorem cb80 : Callable Tryz.prog 80 := ⟨_, Tryz.func80, by kernel_rfl, rfl⟩
theorem cb81 : Callable Tryz.prog 81 := ⟨_, Tryz.func81, by kernel_rfl, rfl⟩
theorem cb82 : Callable Tryz.prog 82 := ⟨_, Tryz.func82, by kernel_rfl, rfl⟩
theorem cb83 : Callable Tryz.prog 83 := ⟨_, Tryz.func83, by kernel_rfl, rfl⟩
theorem cb84 : Callable Tryz.prog 84 := ⟨_, Tryz.func84, by kernel_rfl, rfl⟩
theorem cb85 : Callable Tryz.prog 85 := ⟨_, Tryz.func85, by kernel_rfl, rfl⟩
theorem cb86 : Callable Tryz.prog 86 := ⟨_, Tryz.func86, by kernel_rfl, rfl⟩
theorem cb87 : Callable Tryz.prog 87 := ⟨_, Tryz.func87, by kernel_rfl, rfl⟩
theorem cb88 : Callable Tryz.prog 88 := ⟨_, Tryz.func88, by kernel_rfl, rfl⟩
theorem cb89 : Callable Tryz.prog 89 := ⟨_, Tryz.func89, by kernel_rfl, rfl⟩
theorem cb91 : Callable Tryz.prog 91 := ⟨_, Tryz.func91, by kernel_rfl, rfl⟩
theorem cb92 : Callable Tryz.prog 92 := ⟨_, Tryz.func92, by kernel_rfl, rfl⟩
theorem cb99 : Callable Tryz.prog 99 := ⟨_, Tryz.func99, by kernel_rfl, rfl⟩
theorem cb100 : Callable Tryz.prog 100 := ⟨_, Tryz.func100, by kernel_rfl, rfl⟩
theorem cb101 : Callable Tryz.prog 101 := ⟨_, Tryz.func101, by kernel_rfl, rfl⟩
theorem cb102 : Callable Tryz.prog 102 := ⟨_, Tryz.func102, by kernel_rfl, rfl⟩
theorem cb103 : Callable Tryz.prog 103 := ⟨_, Tryz.func103, by kernel_rfl, rfl⟩
theorem cb104 : Callable Tryz.prog 104 := ⟨_, Tryz.func104, by kernel_rfl, rfl⟩
theorem cb105 : Callable Tryz.prog 105 := ⟨_, Tryz.func105, by kernel_rfl, rfl⟩
theorem cb106 : Callable Tryz.prog 106 := ⟨_, Tryz.func106, by kernel_rfl, rfl⟩
theorem cb107 : Callable Tryz.prog 107 := ⟨_, Tryz.func107, by kernel_rfl, rfl⟩
theorem cb108 : Callable Tryz.prog 108 := ⟨_, Tryz.func108, by kernel_rfl, rfl⟩
theorem cb109 : Callable Tryz.prog 109 := ⟨_, Tryz.func109, by kernel_rfl, rfl⟩
theorem cb110 : Callable Tryz.prog 110 := ⟨_, Tryz.func110, by kernel_rfl, rfl⟩
theorem cb111 : Callable Tryz.prog 111 := ⟨_, Tryz.func111, by kernel_rfl, rfl⟩
theorem cb112 : Callable Tryz.prog 112 := ⟨_, Tryz.func112, by kernel_rfl, rfl⟩
theorem cb113 : Callable Tryz.prog 113 := ⟨_, Tryz.func113, by kernel_rfl, rfl⟩
theorem cb114 : Callable Tryz.prog 114 := ⟨_, Tryz.func114, by kernel_rfl, rfl⟩
theorem cb115 : Callable Tryz.prog 115 := ⟨_, Tryz.func115, by kernel_rfl, rfl⟩
theorem cb116 : Callable Tryz.prog 116 := ⟨_, Tryz.func116, by kernel_rfl, rfl⟩
theorem cb117 : Callable Tryz.prog 117 := ⟨_, Tryz.func117, by kernel_rfl, rfl⟩
theorem cb118 : Callable Tryz.prog 118 := ⟨_, Tryz.func118, by kernel_rfl, rfl⟩
theorem cb120 : Callable Tryz.prog 120 := ⟨_, Tryz.func120, by kernel_rfl, rfl⟩
theorem cb121 : Callable Tryz.prog 121 := ⟨_, Tryz.func121, by kernel_rfl, rfl⟩
theorem cb122 : Callable Tryz.prog 122 := ⟨_, Tryz.func122, by kernel_rfl, rfl⟩
theorem cb123 : Callable Tryz.prog 123 := ⟨_, Tryz.func123, by kernel_rfl, rfl⟩
theorem cb124 : Callable Tryz.prog 124 := ⟨_, Tryz.func124, by kernel_rfl, rfl⟩
theorem cb125 : Callable Tryz.prog 125 := ⟨_, Tryz.func125, by kernel_rfl, rfl⟩
theorem cb126 : Callable Tryz.prog 126 := ⟨_, Tryz.func126, by kernel_rfl, rfl⟩
theorem cb127 : Callable Tryz.prog 127 := ⟨_, Tryz.func127, by kernel_rfl, rfl⟩
theorem cb128 : Callable Tryz.prog 128 := ⟨_, Tryz.func128, by kernel_rfl, rfl⟩
theorem cb129 : Callable Tryz.prog 129 := ⟨_, Tryz.func129, by kernel_rfl, rfl⟩
theorem cb130 : Callable Tryz.prog 130 := ⟨_, Tryz.func130, by kernel_rfl, rfl⟩
theorem cb131 : Callable Tryz.prog 131 := ⟨_, Tryz.func131, by kernel_rfl, rfl⟩
theorem cb132 : Callable Tryz.prog 132 := ⟨_, Tryz.func132, by kernel_rfl, rfl⟩
theorem cb133 : Callable Tryz.prog 133 := ⟨_, Tryz.func133, by kernel_rfl, rfl⟩
theorem cb134 : Callable Tryz.prog 134 := ⟨_, Tryz.func134, by kernel_rfl, rfl⟩
theorem cb135 : Callable Tryz.prog 135 := ⟨_, Tryz.func135, by kernel_rfl, rfl⟩
theorem cb136 : Callable Tryz.prog 136 := ⟨_, Tryz.func136, by kernel_rfl, rfl⟩
theorem cb137 : Callable Tryz.prog 137 := ⟨_, Tryz.func137, by kernel_rfl, rfl⟩
theorem cb138 : Callable Tryz.prog 138 := ⟨_, Tryz.func138, by kernel_rfl, rfl⟩
theorem cb139 : Callable Tryz.prog 139 := ⟨_, Tryz.func139, by kernel_rfl, rfl⟩
theorem cb140 : Callable Tryz.prog 140 := ⟨_, Tryz.func140, by kernel_rfl, rfl⟩
theorem cb141 : Callable Tryz.prog 141 := ⟨_, Tryz.func141, by kernel_rfl, rfl⟩
theorem cb142 : Callable Tryz.prog 142 := ⟨_, Tryz.func142, by kernel_rfl, rfl⟩
theorem cb143 : Callable Tryz.prog 143 := ⟨_, Tryz.func143, by kernel_rfl, rfl⟩
theorem cb144 : Callable Tryz.prog 144 := ⟨_, Tryz.func144, by kernel_rfl, rfl⟩
theorem cb145 : Callable Tryz.prog 145 := ⟨_, Tryz.func145, by kernel_rfl, rfl⟩
theorem cb146 : Callable Tryz.prog 146 := ⟨_, Tryz.func146, by kernel_rfl, rfl⟩
theorem cb147 : Callable Tryz.prog 147 := ⟨_, Tryz.func147, by kernel_rfl, rfl⟩
theorem cb148 : Callable Tryz.prog 148 := ⟨_, Tryz.func148, by kernel_rfl, rfl⟩
theorem cb149 : Callable Tryz.prog 149 := ⟨_, Tryz.func149, by kernel_rfl, rfl⟩
theorem cb150 : Callable Tryz.prog 150 := ⟨_, Tryz.func150, by kernel_rfl, rfl⟩
theorem cb151 : Callable Tryz.prog 151 := ⟨_, Tryz.func151, by kernel_rfl, rfl⟩
theorem cb162 : Callable Tryz.prog 162 := ⟨_, Tryz.func162, by kernel_rfl, rfl⟩
theorem cb163 : Callable Tryz.prog 163 := ⟨_, Tryz.func163, by kernel_rfl, rfl⟩
theorem cb164 : Callable Tryz.prog 164 := ⟨_, Tryz.func164, by kernel_rfl, rfl⟩
end Go.Proofs.YtfdekppnilffeaaGreatDoor
