/-
  What these proofs know of this program's types, and that its functions can be called, asked of the program itself.
  No conditions.
-/
import Derived.Test.YtejlpdbiacmfcaaGreatDoorYDrw
import Derived.Test.YtejlpdbiacmfcaaGreatDoorProg
import Derived.KernelRfl
namespace Go.Proofs.YtejlpdbiacmfcaaGreatDoor
open Go Go.Proofs Go.RowKit

theorem inf3 : InfOk Tryz.prog 3 (1, 8, .int .i64 0) := inf_of (by kernel_rfl)
theorem inf74 : InfOk Tryz.prog 74 (1, 24, .slice none 0 0) := inf_of (by kernel_rfl)
theorem inf23 : InfOk Tryz.prog 23 (1, 24, .slice none 0 0) := inf_of (by kernel_rfl)
theorem inf84 : InfOk Tryz.prog 84 (1, 24, .slice none 0 0) := inf_of (by kernel_rfl)
theorem inf29 : InfOk Tryz.prog 29 (1, 24, .slice none 0 0) := inf_of (by kernel_rfl)
theorem inf27 : InfOk Tryz.prog 27 (1, 24, .slice none 0 0) := inf_of (by kernel_rfl)
theorem inf76 : InfOk Tryz.prog 76 (3, 56, .agg #[.bool false, .slice none 0 0, .slice none 0 0]) := inf_of (by kernel_rfl)
theorem inf86 : InfOk Tryz.prog 86 (3, 56, .agg #[.bool false, .slice none 0 0, .slice none 0 0]) := inf_of (by kernel_rfl)
theorem inf35 : InfOk Tryz.prog 35 (1, 16, .string ⟨#[]⟩) := inf_of (by kernel_rfl)
theorem inf79 : InfOk Tryz.prog 79 (1, 8, .int .u64 0) := inf_of (by kernel_rfl)
theorem inf9 : InfOk Tryz.prog 9 (1, 16, .string ⟨#[]⟩) := inf_of (by kernel_rfl)
theorem inf105 : InfOk Tryz.prog 105 (1, 24, .slice none 0 0) := inf_of (by kernel_rfl)
theorem inf169 : InfOk Tryz.prog 169 (1, 24, .slice none 0 0) := inf_of (by kernel_rfl)
theorem inf112 : InfOk Tryz.prog 112 (1, 24, .slice none 0 0) := inf_of (by kernel_rfl)
theorem inf71 : InfOk Tryz.prog 71 (1, 24, .slice none 0 0) := inf_of (by kernel_rfl)
theorem inf4 : InfOk Tryz.prog 4 (1, 1, .bool false) := inf_of (by kernel_rfl)
theorem inf172 : InfOk Tryz.prog 172 (1, 24, .slice none 0 0) := inf_of (by kernel_rfl)
theorem inf34 : InfOk Tryz.prog 34 (1, 24, .slice none 0 0) := inf_of (by kernel_rfl)
theorem inf33 : InfOk Tryz.prog 33 (2, 16, .agg #[.int .i64 0, .int .i64 0]) := inf_of (by kernel_rfl)
theorem inf131 : InfOk Tryz.prog 131 (1, 24, .slice none 0 0) := inf_of (by kernel_rfl)
theorem inf158 : InfOk Tryz.prog 158 (1, 8, .pointer none) := inf_of (by kernel_rfl)
theorem inf160 : InfOk Tryz.prog 160 (2, 32, .agg #[.pointer none, .slice none 0 0]) := inf_of (by kernel_rfl)
theorem inf246 : InfOk Tryz.prog 246 (2, 2, .agg #[.int .u8 0, .int .u8 0]) := inf_of (by kernel_rfl)
theorem inf21 : InfOk Tryz.prog 21 (1, 4, .int .i32 0) := inf_of (by kernel_rfl)
theorem inf5 : InfOk Tryz.prog 5 (1, 1, .int .u8 0) := inf_of (by kernel_rfl)
theorem inf60 : InfOk Tryz.prog 60 (1, 8, .nilFunc) := inf_of (by kernel_rfl)
theorem inf110 : InfOk Tryz.prog 110 (1, 8, .nilFunc) := inf_of (by kernel_rfl)
theorem inf197 : InfOk Tryz.prog 197 (24, 24, .agg #[.int .u8 0, .int .u8 0, .int .u8 0, .int .u8 0, .int .u8 0, .int .u8 0, .int .u8 0, .int .u8 0, .int .u8 0, .int .u8 0, .int .u8 0, .int .u8 0, .int .u8 0, .int .u8 0, .int .u8 0, .int .u8 0, .int .u8 0, .int .u8 0, .int .u8 0, .int .u8 0, .int .u8 0, .int .u8 0, .int .u8 0, .int .u8 0]) := inf_of (by kernel_rfl)
theorem inf212 : InfOk Tryz.prog 212 (1, 8, .pointer none) := inf_of (by kernel_rfl)
theorem inf136 : InfOk Tryz.prog 136 (1, 8, .nilFunc) := inf_of (by kernel_rfl)
theorem inf242 : InfOk Tryz.prog 242 (32, 32, .agg #[.int .u8 0, .int .u8 0, .int .u8 0, .int .u8 0, .int .u8 0, .int .u8 0, .int .u8 0, .int .u8 0, .int .u8 0, .int .u8 0, .int .u8 0, .int .u8 0, .int .u8 0, .int .u8 0, .int .u8 0, .int .u8 0, .int .u8 0, .int .u8 0, .int .u8 0, .int .u8 0, .int .u8 0, .int .u8 0, .int .u8 0, .int .u8 0, .int .u8 0, .int .u8 0, .int .u8 0, .int .u8 0, .int .u8 0, .int .u8 0, .int .u8 0, .int .u8 0]) := inf_of (by kernel_rfl)
theorem inf243 : InfOk Tryz.prog 243 (64, 64, .agg #[.int .u8 0, .int .u8 0, .int .u8 0, .int .u8 0, .int .u8 0, .int .u8 0, .int .u8 0, .int .u8 0, .int .u8 0, .int .u8 0, .int .u8 0, .int .u8 0, .int .u8 0, .int .u8 0, .int .u8 0, .int .u8 0, .int .u8 0, .int .u8 0, .int .u8 0, .int .u8 0, .int .u8 0, .int .u8 0, .int .u8 0, .int .u8 0, .int .u8 0, .int .u8 0, .int .u8 0, .int .u8 0, .int .u8 0, .int .u8 0, .int .u8 0, .int .u8 0, .int .u8 0, .int .u8 0, .int .u8 0, .int .u8 0, .int .u8 0, .int .u8 0, .int .u8 0, .int .u8 0, .int .u8 0, .int .u8 0, .int .u8 0, .int .u8 0, .int .u8 0, .int .u8 0, .int .u8 0, .int .u8 0, .int .u8 0, .int .u8 0, .int .u8 0, .int .u8 0, .int .u8 0, .int .u8 0, .int .u8 0, .int .u8 0, .int .u8 0, .int .u8 0, .int .u8 0, .int .u8 0, .int .u8 0, .int .u8 0, .int .u8 0, .int .u8 0]) := inf_of (by kernel_rfl)
theorem inf218 : InfOk Tryz.prog 218 (20, 160, .agg #[.int .u64 0, .int .u64 0, .int .u64 0, .int .u64 0, .int .u64 0, .int .u64 0, .int .u64 0, .int .u64 0, .int .u64 0, .int .u64 0, .int .u64 0, .int .u64 0, .int .u64 0, .int .u64 0, .int .u64 0, .int .u64 0, .int .u64 0, .int .u64 0, .int .u64 0, .int .u64 0]) := inf_of (by kernel_rfl)
theorem inf247 : InfOk Tryz.prog 247 (32, 32, .agg #[.int .u8 0, .int .u8 0, .int .u8 0, .int .u8 0, .int .u8 0, .int .u8 0, .int .u8 0, .int .u8 0, .int .u8 0, .int .u8 0, .int .u8 0, .int .u8 0, .int .u8 0, .int .u8 0, .int .u8 0, .int .u8 0, .int .u8 0, .int .u8 0, .int .u8 0, .int .u8 0, .int .u8 0, .int .u8 0, .int .u8 0, .int .u8 0, .int .u8 0, .int .u8 0, .int .u8 0, .int .u8 0, .int .u8 0, .int .u8 0, .int .u8 0, .int .u8 0]) := inf_of (by kernel_rfl)
theorem inf162 : InfOk Tryz.prog 162 (1, 16, .nilIface) := inf_of (by kernel_rfl)
theorem inf70 : InfOk Tryz.prog 70 (1, 8, .nilFunc) := inf_of (by kernel_rfl)
theorem inf101 : InfOk Tryz.prog 101 (1, 8, .nilFunc) := inf_of (by kernel_rfl)
theorem inf102 : InfOk Tryz.prog 102 (1, 8, .nilFunc) := inf_of (by kernel_rfl)
theorem inf179 : InfOk Tryz.prog 179 (1, 8, .nilFunc) := inf_of (by kernel_rfl)
theorem inf190 : InfOk Tryz.prog 190 (1, 8, .pointer none) := inf_of (by kernel_rfl)
theorem inf206 : InfOk Tryz.prog 206 (256, 256, .agg #[.bool false, .bool false, .bool false, .bool false, .bool false, .bool false, .bool false, .bool false, .bool false, .bool false, .bool false, .bool false, .bool false, .bool false, .bool false, .bool false, .bool false, .bool false, .bool false, .bool false, .bool false, .bool false, .bool false, .bool false, .bool false, .bool false, .bool false, .bool false, .bool false, .bool false, .bool false, .bool false, .bool false, .bool false, .bool false, .bool false, .bool false, .bool false, .bool false, .bool false, .bool false, .bool false, .bool false, .bool false, .bool false, .bool false, .bool false, .bool false, .bool false, .bool false, .bool false, .bool false, .bool false, .bool false, .bool false, .bool false, .bool false, .bool false, .bool false, .bool false, .bool false, .bool false, .bool false, .bool false, .bool false, .bool false, .bool false, .bool false, .bool false, .bool false, .bool false, .bool false, .bool false, .bool false, .bool false, .bool false, .bool false, .bool false, .bool false, .bool false, .bool false, .bool false, .bool false, .bool false, .bool false, .bool false, .bool false, .bool false, .bool false, .bool false, .bool false, .bool false, .bool false, .bool false, .bool false, .bool false, .bool false, .bool false, .bool false, .bool false, .bool false, .bool false, .bool false, .bool false, .bool false, .bool false, .bool false, .bool false, .bool false, .bool false, .bool false, .bool false, .bool false, .bool false, .bool false, .bool false, .bool false, .bool false, .bool false, .bool false, .bool false, .bool false, .bool false, .bool false, .bool false, .bool false, .bool false, .bool false, .bool false, .bool false, .bool false, .bool false, .bool false, .bool false, .bool false, .bool false, .bool false, .bool false, .bool false, .bool false, .bool false, .bool false, .bool false, .bool false, .bool false, .bool false, .bool false, .bool false, .bool false, .bool false, .bool false, .bool false, .bool false, .bool false, .bool false, .bool false, .bool false, .bool false, .bool false, .bool false, .bool false, .bool false, .bool false, .bool false, .bool false, .bool false, .bool false, .bool false, .bool false, .bool false, .bool false, .bool false, .bool false, .bool false, .bool false, .bool false, .bool false, .bool false, .bool false, .bool false, .bool false, .bool false, .bool false, .bool false, .bool false, .bool false, .bool false, .bool false, .bool false, .bool false, .bool false, .bool false, .bool false, .bool false, .bool false, .bool false, .bool false, .bool false, .bool false, .bool false, .bool false, .bool false, .bool false, .bool false, .bool false, .bool false, .bool false, .bool false, .bool false, .bool false, .bool false, .bool false, .bool false, .bool false, .bool false, .bool false, .bool false, .bool false, .bool false, .bool false, .bool false, .bool false, .bool false, .bool false, .bool false, .bool false, .bool false, .bool false, .bool false, .bool false, .bool false, .bool false, .bool false, .bool false, .bool false, .bool false, .bool false, .bool false, .bool false, .bool false, .bool false, .bool false, .bool false, .bool false, .bool false, .bool false, .bool false, .bool false, .bool false, .bool false, .bool false, .bool false, .bool false, .bool false, .bool false, .bool false]) := inf_of (by kernel_rfl)
def uL : List (Nat × TypeDesc) := [(3, .int .i64), (74, .slice 79), (23, .slice 3), (84, .slice 3), (29, .slice 35), (27, .slice 23), (35, .string), (79, .int .u64), (9, .string), (105, .slice 76), (169, .slice 86), (112, .slice 105), (71, .slice 29), (4, .bool), (172, .slice 169), (34, .slice 33), (33, .array 2 3), (131, .slice 5), (158, .pointer 160), (21, .int .i32), (5, .int .u8), (60, .func #[23] #[4] false), (110, .func #[76, 76] #[35, 24] false), (197, .array 24 5), (136, .func #[76] #[35, 24] false), (242, .array 32 5), (243, .array 64 5), (218, .array 20 79), (247, .array 16 246), (70, .func #[33] #[4] false), (101, .func #[3] #[4] false), (102, .func #[3, 3] #[4] false), (179, .func #[105] #[4] false), (190, .pointer 5), (206, .array 256 4)]
def iL : List (Nat × Nat × Nat × Value) := [(3, 1, 8, .int .i64 0), (74, 1, 24, .slice none 0 0), (23, 1, 24, .slice none 0 0), (84, 1, 24, .slice none 0 0), (29, 1, 24, .slice none 0 0), (27, 1, 24, .slice none 0 0), (76, 3, 56, .agg #[.bool false, .slice none 0 0, .slice none 0 0]), (86, 3, 56, .agg #[.bool false, .slice none 0 0, .slice none 0 0]), (35, 1, 16, .string ⟨#[]⟩), (79, 1, 8, .int .u64 0), (9, 1, 16, .string ⟨#[]⟩), (105, 1, 24, .slice none 0 0), (169, 1, 24, .slice none 0 0), (112, 1, 24, .slice none 0 0), (71, 1, 24, .slice none 0 0), (4, 1, 1, .bool false), (172, 1, 24, .slice none 0 0), (34, 1, 24, .slice none 0 0), (33, 2, 16, .agg #[.int .i64 0, .int .i64 0]), (131, 1, 24, .slice none 0 0), (158, 1, 8, .pointer none), (160, 2, 32, .agg #[.pointer none, .slice none 0 0]), (246, 2, 2, .agg #[.int .u8 0, .int .u8 0]), (21, 1, 4, .int .i32 0), (5, 1, 1, .int .u8 0), (60, 1, 8, .nilFunc), (110, 1, 8, .nilFunc), (197, 24, 24, .agg #[.int .u8 0, .int .u8 0, .int .u8 0, .int .u8 0, .int .u8 0, .int .u8 0, .int .u8 0, .int .u8 0, .int .u8 0, .int .u8 0, .int .u8 0, .int .u8 0, .int .u8 0, .int .u8 0, .int .u8 0, .int .u8 0, .int .u8 0, .int .u8 0, .int .u8 0, .int .u8 0, .int .u8 0, .int .u8 0, .int .u8 0, .int .u8 0]), (212, 1, 8, .pointer none), (136, 1, 8, .nilFunc), (242, 32, 32, .agg #[.int .u8 0, .int .u8 0, .int .u8 0, .int .u8 0, .int .u8 0, .int .u8 0, .int .u8 0, .int .u8 0, .int .u8 0, .int .u8 0, .int .u8 0, .int .u8 0, .int .u8 0, .int .u8 0, .int .u8 0, .int .u8 0, .int .u8 0, .int .u8 0, .int .u8 0, .int .u8 0, .int .u8 0, .int .u8 0, .int .u8 0, .int .u8 0, .int .u8 0, .int .u8 0, .int .u8 0, .int .u8 0, .int .u8 0, .int .u8 0, .int .u8 0, .int .u8 0]), (243, 64, 64, .agg #[.int .u8 0, .int .u8 0, .int .u8 0, .int .u8 0, .int .u8 0, .int .u8 0, .int .u8 0, .int .u8 0, .int .u8 0, .int .u8 0, .int .u8 0, .int .u8 0, .int .u8 0, .int .u8 0, .int .u8 0, .int .u8 0, .int .u8 0, .int .u8 0, .int .u8 0, .int .u8 0, .int .u8 0, .int .u8 0, .int .u8 0, .int .u8 0, .int .u8 0, .int .u8 0, .int .u8 0, .int .u8 0, .int .u8 0, .int .u8 0, .int .u8 0, .int .u8 0, .int .u8 0, .int .u8 0, .int .u8 0, .int .u8 0, .int .u8 0, .int .u8 0, .int .u8 0, .int .u8 0, .int .u8 0, .int .u8 0, .int .u8 0, .int .u8 0, .int .u8 0, .int .u8 0, .int .u8 0, .int .u8 0, .int .u8 0, .int .u8 0, .int .u8 0, .int .u8 0, .int .u8 0, .int .u8 0, .int .u8 0, .int .u8 0, .int .u8 0, .int .u8 0, .int .u8 0, .int .u8 0, .int .u8 0, .int .u8 0, .int .u8 0, .int .u8 0]), (218, 20, 160, .agg #[.int .u64 0, .int .u64 0, .int .u64 0, .int .u64 0, .int .u64 0, .int .u64 0, .int .u64 0, .int .u64 0, .int .u64 0, .int .u64 0, .int .u64 0, .int .u64 0, .int .u64 0, .int .u64 0, .int .u64 0, .int .u64 0, .int .u64 0, .int .u64 0, .int .u64 0, .int .u64 0]), (247, 32, 32, .agg #[.int .u8 0, .int .u8 0, .int .u8 0, .int .u8 0, .int .u8 0, .int .u8 0, .int .u8 0, .int .u8 0, .int .u8 0, .int .u8 0, .int .u8 0, .int .u8 0, .int .u8 0, .int .u8 0, .int .u8 0, .int .u8 0, .int .u8 0, .int .u8 0, .int .u8 0, .int .u8 0, .int .u8 0, .int .u8 0, .int .u8 0, .int .u8 0, .int .u8 0, .int .u8 0, .int .u8 0, .int .u8 0, .int .u8 0, .int .u8 0, .int .u8 0, .int .u8 0]), (162, 1, 16, .nilIface), (70, 1, 8, .nilFunc), (101, 1, 8, .nilFunc), (102, 1, 8, .nilFunc), (179, 1, 8, .nilFunc), (190, 1, 8, .pointer none), (206, 256, 256, .agg #[.bool false, .bool false, .bool false, .bool false, .bool false, .bool false, .bool false, .bool false, .bool false, .bool false, .bool false, .bool false, .bool false, .bool false, .bool false, .bool false, .bool false, .bool false, .bool false, .bool false, .bool false, .bool false, .bool false, .bool false, .bool false, .bool false, .bool false, .bool false, .bool false, .bool false, .bool false, .bool false, .bool false, .bool false, .bool false, .bool false, .bool false, .bool false, .bool false, .bool false, .bool false, .bool false, .bool false, .bool false, .bool false, .bool false, .bool false, .bool false, .bool false, .bool false, .bool false, .bool false, .bool false, .bool false, .bool false, .bool false, .bool false, .bool false, .bool false, .bool false, .bool false, .bool false, .bool false, .bool false, .bool false, .bool false, .bool false, .bool false, .bool false, .bool false, .bool false, .bool false, .bool false, .bool false, .bool false, .bool false, .bool false, .bool false, .bool false, .bool false, .bool false, .bool false, .bool false, .bool false, .bool false, .bool false, .bool false, .bool false, .bool false, .bool false, .bool false, .bool false, .bool false, .bool false, .bool false, .bool false, .bool false, .bool false, .bool false, .bool false, .bool false, .bool false, .bool false, .bool false, .bool false, .bool false, .bool false, .bool false, .bool false, .bool false, .bool false, .bool false, .bool false, .bool false, .bool false, .bool false, .bool false, .bool false, .bool false, .bool false, .bool false, .bool false, .bool false, .bool false, .bool false, .bool false, .bool false, .bool false, .bool false, .bool false, .bool false, .bool false, .bool false, .bool false, .bool false, .bool false, .bool false, .bool false, .bool false, .bool false, .bool false, .bool false, .bool false, .bool false, .bool false, .bool false, .bool false, .bool false, .bool false, .bool false, .bool false, .bool false, .bool false, .bool false, .bool false, .bool false, .bool false, .bool false, .bool false, .bool false, .bool false, .bool false, .bool false, .bool false, .bool false, .bool false, .bool false, .bool false, .bool false, .bool false, .bool false, .bool false, .bool false, .bool false, .bool false, .bool false, .bool false, .bool false, .bool false, .bool false, .bool false, .bool false, .bool false, .bool false, .bool false, .bool false, .bool false, .bool false, .bool false, .bool false, .bool false, .bool false, .bool false, .bool false, .bool false, .bool false, .bool false, .bool false, .bool false, .bool false, .bool false, .bool false, .bool false, .bool false, .bool false, .bool false, .bool false, .bool false, .bool false, .bool false, .bool false, .bool false, .bool false, .bool false, .bool false, .bool false, .bool false, .bool false, .bool false, .bool false, .bool false, .bool false, .bool false, .bool false, .bool false, .bool false, .bool false, .bool false, .bool false, .bool false, .bool false, .bool false, .bool false, .bool false, .bool false, .bool false, .bool false, .bool false, .bool false, .bool false, .bool false, .bool false, .bool false, .bool false, .bool false, .bool false, .bool false, .bool false, .bool false, .bool false, .bool false, .bool false, .bool false, .bool false, .bool false, .bool false])]
def sL : List (Nat × Nat) := [(3, 1), (74, 1), (23, 1), (84, 1), (29, 1), (27, 1), (76, 3), (86, 3), (35, 1), (79, 1), (9, 1), (105, 1), (169, 1), (112, 1), (71, 1), (4, 1), (172, 1), (34, 1), (33, 2), (131, 1), (158, 1), (160, 2), (246, 2), (21, 1), (5, 1), (60, 1), (110, 1), (197, 24), (212, 1), (136, 1), (242, 32), (243, 64), (218, 20), (247, 32), (162, 1), (70, 1), (101, 1), (102, 1), (179, 1), (190, 1), (206, 256)]
def fL : List (Nat × List (Nat × Nat)) := [(76, [(0, 0), (1, 1), (2, 2)]), (86, [(0, 0), (1, 1), (2, 2)]), (160, [(0, 0), (1, 1)])]
def lL : List (Nat × List (Nat × Nat)) := []
def bL : List (Nat × List (Nat × Nat) × List Value) := [(76, [(0, 1), (1, 1), (2, 1)], [.bool false, .slice none 0 0, .slice none 0 0]), (86, [(0, 1), (1, 1), (2, 1)], [.bool false, .slice none 0 0, .slice none 0 0]), (246, [(0, 1), (1, 1)], [.int .u8 0, .int .u8 0])]
theorem bd76 : BdOk Tryz.prog 76 ([(0, 1), (1, 1), (2, 1)], [.bool false, .slice none 0 0, .slice none 0 0]) := bd_of Tryz.underlying76 (by kernel_rfl) (by kernel_rfl)
theorem bd86 : BdOk Tryz.prog 86 ([(0, 1), (1, 1), (2, 1)], [.bool false, .slice none 0 0, .slice none 0 0]) := bd_of Tryz.underlying86 (by kernel_rfl) (by kernel_rfl)
theorem bd246 : BdOk Tryz.prog 246 ([(0, 1), (1, 1)], [.int .u8 0, .int .u8 0]) := bd_of Tryz.underlying246 (by kernel_rfl) (by kernel_rfl)
theorem fo76_0 : FoOk Tryz.prog 76 0 0 := fo_of Tryz.underlying76 rfl rfl inf4 (by decide)
theorem fo76_1 : FoOk Tryz.prog 76 1 1 := fo_of Tryz.underlying76 rfl rfl inf74 (by decide)
theorem fo76_2 : FoOk Tryz.prog 76 2 2 := fo_of Tryz.underlying76 rfl rfl inf74 (by decide)
theorem fo86_0 : FoOk Tryz.prog 86 0 0 := fo_of Tryz.underlying86 rfl rfl inf4 (by decide)
theorem fo86_1 : FoOk Tryz.prog 86 1 1 := fo_of Tryz.underlying86 rfl rfl inf84 (by decide)
theorem fo86_2 : FoOk Tryz.prog 86 2 2 := fo_of Tryz.underlying86 rfl rfl inf84 (by decide)
theorem fo160_0 : FoOk Tryz.prog 160 0 0 := fo_of Tryz.underlying160 rfl rfl inf158 (by decide)
theorem fo160_1 : FoOk Tryz.prog 160 1 1 := fo_of Tryz.underlying160 rfl rfl inf131 (by decide)
theorem uL_ok : AllL (fun t d => Tryz.prog.underlying t = some d) uL := ⟨Tryz.underlying3, Tryz.underlying74, Tryz.underlying23, Tryz.underlying84, Tryz.underlying29, Tryz.underlying27, Tryz.underlying35, Tryz.underlying79, Tryz.underlying9, Tryz.underlying105, Tryz.underlying169, Tryz.underlying112, Tryz.underlying71, Tryz.underlying4, Tryz.underlying172, Tryz.underlying34, Tryz.underlying33, Tryz.underlying131, Tryz.underlying158, Tryz.underlying21, Tryz.underlying5, Tryz.underlying60, Tryz.underlying110, Tryz.underlying197, Tryz.underlying136, Tryz.underlying242, Tryz.underlying243, Tryz.underlying218, Tryz.underlying247, Tryz.underlying70, Tryz.underlying101, Tryz.underlying102, Tryz.underlying179, Tryz.underlying190, Tryz.underlying206, trivial⟩
theorem iL_ok : AllL (fun t d => InfOk Tryz.prog t d) iL := ⟨inf3, inf74, inf23, inf84, inf29, inf27, inf76, inf86, inf35, inf79, inf9, inf105, inf169, inf112, inf71, inf4, inf172, inf34, inf33, inf131, inf158, inf160, inf246, inf21, inf5, inf60, inf110, inf197, inf212, inf136, inf242, inf243, inf218, inf247, inf162, inf70, inf101, inf102, inf179, inf190, inf206, trivial⟩
theorem sL_ok : AllL (fun t d => ∃ i, Tryz.prog.info? t = some i ∧ i.size = d) sL := ⟨inf3.sz, inf74.sz, inf23.sz, inf84.sz, inf29.sz, inf27.sz, inf76.sz, inf86.sz, inf35.sz, inf79.sz, inf9.sz, inf105.sz, inf169.sz, inf112.sz, inf71.sz, inf4.sz, inf172.sz, inf34.sz, inf33.sz, inf131.sz, inf158.sz, inf160.sz, inf246.sz, inf21.sz, inf5.sz, inf60.sz, inf110.sz, inf197.sz, inf212.sz, inf136.sz, inf242.sz, inf243.sz, inf218.sz, inf247.sz, inf162.sz, inf70.sz, inf101.sz, inf102.sz, inf179.sz, inf190.sz, inf206.sz, trivial⟩
theorem fL_ok : AllL (fun t d => AllL (fun f o => FoOk Tryz.prog t f o) d) fL := ⟨⟨fo76_0, fo76_1, fo76_2, trivial⟩, ⟨fo86_0, fo86_1, fo86_2, trivial⟩, ⟨fo160_0, fo160_1, trivial⟩, trivial⟩
theorem lL_ok : AllL (fun t d => AllL (fun f o => FlOk Tryz.prog t f o) d) lL := trivial
theorem bL_ok : AllL (fun t d => BdOk Tryz.prog t d) bL := ⟨bd76, bd86, bd246, trivial⟩
def U : Tys Tryz.prog where
 tb := ⟨lk uL, lk sL, lk iL, fun t f => lk2 fL t f, fun t f => lk2 lL t f, lk bL⟩
 hu := lk_all uL uL_ok
 hs := lk_all sL sL_ok
 hi := fun t _ _ _ h => lk_all iL iL_ok t _ h
 hf := fun _ _ _ h => lk2_all fL fL_ok h
 hl := fun _ _ _ h => lk2_all lL lL_ok h
 hb := fun t _ _ h => lk_all bL bL_ok t _ h
theorem hmo : Tryz.prog.follows .mixedOrders = true := by kernel_rfl
theorem cb9 : Callable Tryz.prog 9 := ⟨_, Tryz.func9, by kernel_rfl, rfl⟩
theorem cb11 : Callable Tryz.prog 11 := ⟨_, Tryz.func11, by kernel_rfl, rfl⟩
theorem cb12 : Callable Tryz.prog 12 := ⟨_, Tryz.func12, by kernel_rfl, rfl⟩
theorem cb13 : Callable Tryz.prog 13 := ⟨_, Tryz.func13, by kernel_rfl, rfl⟩
theorem cb14 : Callable Tryz.prog 14 := ⟨_, Tryz.func14, by kernel_rfl, rfl⟩
theorem cb15 : Callable Tryz.prog 15 := ⟨_, Tryz.func15, by kernel_rfl, rfl⟩
theorem cb16 : Callable Tryz.prog 16 := ⟨_, Tryz.func16, by kernel_rfl, rfl⟩
theorem cb21 : Callable Tryz.prog 21 := ⟨_, Tryz.func21, by kernel_rfl, rfl⟩
theorem cb23 : Callable Tryz.prog 23 := ⟨_, Tryz.func23, by kernel_rfl, rfl⟩
theorem cb24 : Callable Tryz.prog 24 := ⟨_, Tryz.func24, by kernel_rfl, rfl⟩
theorem cb27 : Callable Tryz.prog 27 := ⟨_, Tryz.func27, by kernel_rfl, rfl⟩
theorem cb28 : Callable Tryz.prog 28 := ⟨_, Tryz.func28, by kernel_rfl, rfl⟩
theorem cb29 : Callable Tryz.prog 29 := ⟨_, Tryz.func29, by kernel_rfl, rfl⟩
theorem cb30 : Callable Tryz.prog 30 := ⟨_, Tryz.func30, by kernel_rfl, rfl⟩
theorem cb33 : Callable Tryz.prog 33 := ⟨_, Tryz.func33, by kernel_rfl, rfl⟩
theorem cb34 : Callable Tryz.prog 34 := ⟨_, Tryz.func34, by kernel_rfl, rfl⟩
theorem cb36 : Callable Tryz.prog 36 := ⟨_, Tryz.func36, by kernel_rfl, rfl⟩
theorem cb38 : Callable Tryz.prog 38 := ⟨_, Tryz.func38, by kernel_rfl, rfl⟩
theorem cb40 : Callable Tryz.prog 40 := ⟨_, Tryz.func40, by kernel_rfl, rfl⟩
theorem cb41 : Callable Tryz.prog 41 := ⟨_, Tryz.func41, by kernel_rfl, rfl⟩
theorem cb42 : Callable Tryz.prog 42 := ⟨_, Tryz.func42, by kernel_rfl, rfl⟩
theorem cb43 : Callable Tryz.prog 43 := ⟨_, Tryz.func43, by kernel_rfl, rfl⟩
theorem cb44 : Callable Tryz.prog 44 := ⟨_, Tryz.func44, by kernel_rfl, rfl⟩
theorem cb45 : Callable Tryz.prog 45 := ⟨_, Tryz.func45, by kernel_rfl, rfl⟩
theorem cb46 : Callable Tryz.prog 46 := ⟨_, Tryz.func46, by kernel_rfl, rfl⟩
theorem cb47 : Callable Tryz.prog 47 := ⟨_, Tryz.func47, by kernel_rfl, rfl⟩
theorem cb48 : Callable Tryz.prog 48 := ⟨_, Tryz.func48, by kernel_rfl, rfl⟩
theorem cb49 : Callable Tryz.prog 49 := ⟨_, Tryz.func49, by kernel_rfl, rfl⟩
theorem cb50 : Callable Tryz.prog 50 := ⟨_, Tryz.func50, by kernel_rfl, rfl⟩
theorem cb51 : Callable Tryz.prog 51 := ⟨_, Tryz.func51, by kernel_rfl, rfl⟩
theorem cb52 : Callable Tryz.prog 52 := ⟨_, Tryz.func52, by kernel_rfl, rfl⟩
theorem cb53 : Callable Tryz.prog 53 := ⟨_, Tryz.func53, by kernel_rfl, rfl⟩
theorem cb54 : Callable Tryz.prog 54 := ⟨_, Tryz.func54, by kernel_rfl, rfl⟩
theorem cb55 : Callable Tryz.prog 55 := ⟨_, Tryz.func55, by kernel_rfl, rfl⟩
theorem cb57 : Callable Tryz.prog 57 := ⟨_, Tryz.func57, by kernel_rfl, rfl⟩
theorem cb58 : Callable Tryz.prog 58 := ⟨_, Tryz.func58, by kernel_rfl, rfl⟩
theorem cb59 : Callable Tryz.prog 59 := ⟨_, Tryz.func59, by kernel_rfl, rfl⟩
theorem cb60 : Callable Tryz.prog 60 := ⟨_, Tryz.func60, by kernel_rfl, rfl⟩
theorem cb61 : Callable Tryz.prog 61 := ⟨_, Tryz.func61, by kernel_rfl, rfl⟩
theorem cb62 : Callable Tryz.prog 62 := ⟨_, Tryz.func62, by kernel_rfl, rfl⟩
theorem cb63 : Callable Tryz.prog 63 := ⟨_, Tryz.func63, by kernel_rfl, rfl⟩
theorem cb64 : Callable Tryz.prog 64 := ⟨_, Tryz.func64, by kernel_rfl, rfl⟩
theorem cb65 : Callable Tryz.prog 65 := ⟨_, Tryz.func65, by kernel_rfl, rfl⟩
theorem cb67 : Callable Tryz.prog 67 := ⟨_, Tryz.func67, by kernel_rfl, rfl⟩
theorem cb68 : Callable Tryz.prog 68 := ⟨_, Tryz.func68, by kernel_rfl, rfl⟩
theorem cb69 : Callable Tryz.prog 69 := ⟨_, Tryz.func69, by kernel_rfl, rfl⟩
theorem cb70 : Callable Tryz.prog 70 := ⟨_, Tryz.func70, by kernel_rfl, rfl⟩
theorem cb71 : Callable Tryz.prog 71 := ⟨_, Tryz.func71, by kernel_rfl, rfl⟩
theorem cb72 : Callable Tryz.prog 72 := ⟨_, Tryz.func72, by kernel_rfl, rfl⟩
theorem cb73 : Callable Tryz.prog 73 := ⟨_, Tryz.func73, by kernel_rfl, rfl⟩
theorem cb74 : Callable Tryz.prog 74 := ⟨_, Tryz.func74, by kernel_rfl, rfl⟩
theorem cb75 : Callable Tryz.prog 75 := ⟨_, Tryz.func75, by kernel_rfl, rfl⟩
theorem cb76 : Callable Tryz.prog 76 := ⟨_, Tryz.func76, by kernel_rfl, rfl⟩
theorem cb77 : Callable Tryz.prog 77 := ⟨_, Tryz.func77, by kernel_rfl, rfl⟩
theorem cb78 : Callable Tryz.prog 78 := ⟨_, Tryz.func78, by kernel_rfl, rfl⟩
theorem cb79 : Callable Tryz.prog 79 := ⟨_, Tryz.func79, by kernel_rfl, rfl⟩
theorem cb80 : Callable Tryz.prog 80 := ⟨_, Tryz.func80, by kernel_rfl, rfl⟩
theorem cb81 : Callable Tryz.prog 81 := ⟨_, Tryz.func81, by kernel_rfl, rfl⟩
theorem cb82 : Callable Tryz.prog 82 := ⟨_, Tryz.func82, by kernel_rfl, rfl⟩
theorem cb83 : Callable Tryz.prog 83 := ⟨_, Tryz.func83, by kernel_rfl, rfl⟩
theorem cb84 : Callable Tryz.prog 84 := ⟨_, Tryz.func84, by kernel_rfl, rfl⟩
theorem cb85 : Callable Tryz.prog 85 := ⟨_, Tryz.func85, by kernel_rfl, rfl⟩
theorem cb86 : Callable Tryz.prog 86 := ⟨_, Tryz.func86, by kernel_rfl, rfl⟩
theorem cb87 : Callable Tryz.prog 87 := ⟨_, Tryz.func87, by kernel_rfl, rfl⟩
theorem cb88 : Callable Tryz.prog 88 := ⟨_, Tryz.func88, by kernel_rfl, rfl⟩
theorem cb89 : Callable Tryz.prog 89 := ⟨_, Tryz.func89, by kernel_rfl, rfl⟩
theorem cb90 : Callable Tryz.prog 90 := ⟨_, Tryz.func90, by kernel_rfl, rfl⟩
theorem cb91 : Callable Tryz.prog 91 := ⟨_, Tryz.func91, by kernel_rfl, rfl⟩
theorem cb92 : Callable Tryz.prog 92 := ⟨_, Tryz.func92, by kernel_rfl, rfl⟩
theorem cb93 : Callable Tryz.prog 93 := ⟨_, Tryz.func93, by kernel_rfl, rfl⟩
theorem cb94 : Callable Tryz.prog 94 := ⟨_, Tryz.func94, by kernel_rfl, rfl⟩
theorem cb95 : Callable Tryz.prog 95 := ⟨_, Tryz.func95, by kernel_rfl, rfl⟩
theorem cb96 : Callable Tryz.prog 96 := ⟨_, Tryz.func96, by kernel_rfl, rfl⟩
theorem cb97 : Callable Tryz.prog 97 := ⟨_, Tryz.func97, by kernel_rfl, rfl⟩
theorem cb98 : Callable Tryz.prog 98 := ⟨_, Tryz.func98, by kernel_rfl, rfl⟩
theorem cb99 : Callable Tryz.prog 99 := ⟨_, Tryz.func99, by kernel_rfl, rfl⟩
theorem cb100 : Callable Tryz.prog 100 := ⟨_, Tryz.func100, by kernel_rfl, rfl⟩
theorem cb101 : Callable Tryz.prog 101 := ⟨_, Tryz.func101, by kernel_rfl, rfl⟩
theorem cb102 : Callable Tryz.prog 102 := ⟨_, Tryz.func102, by kernel_rfl, rfl⟩
theorem cb103 : Callable Tryz.prog 103 := ⟨_, Tryz.func103, by kernel_rfl, rfl⟩
theorem cb104 : Callable Tryz.prog 104 := ⟨_, Tryz.func104, by kernel_rfl, rfl⟩
theorem cb105 : Callable Tryz.prog 105 := ⟨_, Tryz.func105, by kernel_rfl, rfl⟩
theorem cb106 : Callable Tryz.prog 106 := ⟨_, Tryz.func106, by kernel_rfl, rfl⟩
theorem cb107 : Callable Tryz.prog 107 := ⟨_, Tryz.func107, by kernel_rfl, rfl⟩
theorem cb108 : Callable Tryz.prog 108 := ⟨_, Tryz.func108, by kernel_rfl, rfl⟩
theorem cb109 : Callable Tryz.prog 109 := ⟨_, Tryz.func109, by kernel_rfl, rfl⟩
theorem cb110 : Callable Tryz.prog 110 := ⟨_, Tryz.func110, by kernel_rfl, rfl⟩
theorem cb111 : Callable Tryz.prog 111 := ⟨_, Tryz.func111, by kernel_rfl, rfl⟩
theorem cb113 : Callable Tryz.prog 113 := ⟨_, Tryz.func113, by kernel_rfl, rfl⟩
theorem cb114 : Callable Tryz.prog 114 := ⟨_, Tryz.func114, by kernel_rfl, rfl⟩
theorem cb115 : Callable Tryz.prog 115 := ⟨_, Tryz.func115, by kernel_rfl, rfl⟩
theorem cb116 : Callable Tryz.prog 116 := ⟨_, Tryz.func116, by kernel_rfl, rfl⟩
theorem cb117 : Callable Tryz.prog 117 := ⟨_, Tryz.func117, by kernel_rfl, rfl⟩
theorem cb118 : Callable Tryz.prog 118 := ⟨_, Tryz.func118, by kernel_rfl, rfl⟩
theorem cb119 : Callable Tryz.prog 119 := ⟨_, Tryz.func119, by kernel_rfl, rfl⟩
theorem cb120 : Callable Tryz.prog 120 := ⟨_, Tryz.func120, by kernel_rfl, rfl⟩
theorem cb121 : Callable Tryz.prog 121 := ⟨_, Tryz.func121, by kernel_rfl, rfl⟩
theorem cb122 : Callable Tryz.prog 122 := ⟨_, Tryz.func122, by kernel_rfl, rfl⟩
theorem cb123 : Callable Tryz.prog 123 := ⟨_, Tryz.func123, by kernel_rfl, rfl⟩
theorem cb124 : Callable Tryz.prog 124 := ⟨_, Tryz.func124, by kernel_rfl, rfl⟩
theorem cb125 : Callable Tryz.prog 125 := ⟨_, Tryz.func125, by kernel_rfl, rfl⟩
theorem cb126 : Callable Tryz.prog 126 := ⟨_, Tryz.func126, by kernel_rfl, rfl⟩
theorem cb127 : Callable Tryz.prog 127 := ⟨_, Tryz.func127, by kernel_rfl, rfl⟩
theorem cb128 : Callable Tryz.prog 128 := ⟨_, Tryz.func128, by kernel_rfl, rfl⟩
theorem cb129 : Callable Tryz.prog 129 := ⟨_, Tryz.func129, by kernel_rfl, rfl⟩
theorem cb130 : Callable Tryz.prog 130 := ⟨_, Tryz.func130, by kernel_rfl, rfl⟩
theorem cb131 : Callable Tryz.prog 131 := ⟨_, Tryz.func131, by kernel_rfl, rfl⟩
theorem cb132 : Callable Tryz.prog 132 := ⟨_, Tryz.func132, by kernel_rfl, rfl⟩
theorem cb133 : Callable Tryz.prog 133 := ⟨_, Tryz.func133, by kernel_rfl, rfl⟩
theorem cb134 : Callable Tryz.prog 134 := ⟨_, Tryz.func134, by kernel_rfl, rfl⟩
theorem cb135 : Callable Tryz.prog 135 := ⟨_, Tryz.func135, by kernel_rfl, rfl⟩
theorem cb136 : Callable Tryz.prog 136 := ⟨_, Tryz.func136, by kernel_rfl, rfl⟩
theorem cb137 : Callable Tryz.prog 137 := ⟨_, Tryz.func137, by kernel_rfl, rfl⟩
theorem cb138 : Callable Tryz.prog 138 := ⟨_, Tryz.func138, by kernel_rfl, rfl⟩
theorem cb139 : Callable Tryz.prog 139 := ⟨_, Tryz.func139, by kernel_rfl, rfl⟩
theorem cb140 : Callable Tryz.prog 140 := ⟨_, Tryz.func140, by kernel_rfl, rfl⟩
theorem cb141 : Callable Tryz.prog 141 := ⟨_, Tryz.func141, by kernel_rfl, rfl⟩
theorem cb142 : Callable Tryz.prog 142 := ⟨_, Tryz.func142, by kernel_rfl, rfl⟩
theorem cb143 : Callable Tryz.prog 143 := ⟨_, Tryz.func143, by kernel_rfl, rfl⟩
theorem cb144 : Callable Tryz.prog 144 := ⟨_, Tryz.func144, by kernel_rfl, rfl⟩
theorem cb145 : Callable Tryz.prog 145 := ⟨_, Tryz.func145, by kernel_rfl, rfl⟩
theorem cb147 : Callable Tryz.prog 147 := ⟨_, Tryz.func147, by kernel_rfl, rfl⟩
theorem cb148 : Callable Tryz.prog 148 := ⟨_, Tryz.func148, by kernel_rfl, rfl⟩
theorem cb149 : Callable Tryz.prog 149 := ⟨_, Tryz.func149, by kernel_rfl, rfl⟩
theorem cb150 : Callable Tryz.prog 150 := ⟨_, Tryz.func150, by kernel_rfl, rfl⟩
theorem cb151 : Callable Tryz.prog 151 := ⟨_, Tryz.func151, by kernel_rfl, rfl⟩
theorem cb152 : Callable Tryz.prog 152 := ⟨_, Tryz.func152, by kernel_rfl, rfl⟩
theorem cb153 : Callable Tryz.prog 153 := ⟨_, Tryz.func153, by kernel_rfl, rfl⟩
theorem cb154 : Callable Tryz.prog 154 := ⟨_, Tryz.func154, by kernel_rfl, rfl⟩
theorem cb155 : Callable Tryz.prog 155 := ⟨_, Tryz.func155, by kernel_rfl, rfl⟩
theorem cb156 : Callable Tryz.prog 156 := ⟨_, Tryz.func156, by kernel_rfl, rfl⟩
theorem cb157 : Callable Tryz.prog 157 := ⟨_, Tryz.func157, by kernel_rfl, rfl⟩
theorem cb158 : Callable Tryz.prog 158 := ⟨_, Tryz.func158, by kernel_rfl, rfl⟩
theorem cb159 : Callable Tryz.prog 159 := ⟨_, Tryz.func159, by kernel_rfl, rfl⟩
theorem cb160 : Callable Tryz.prog 160 := ⟨_, Tryz.func160, by kernel_rfl, rfl⟩
theorem cb161 : Callable Tryz.prog 161 := ⟨_, Tryz.func161, by kernel_rfl, rfl⟩
theorem cb162 : Callable Tryz.prog 162 := ⟨_, Tryz.func162, by kernel_rfl, rfl⟩
theorem cb163 : Callable Tryz.prog 163 := ⟨_, Tryz.func163, by kernel_rfl, rfl⟩
theorem cb164 : Callable Tryz.prog 164 := ⟨_, Tryz.func164, by kernel_rfl, rfl⟩
theorem cb165 : Callable Tryz.prog 165 := ⟨_, Tryz.func165, by kernel_rfl, rfl⟩
theorem cb166 : Callable Tryz.prog 166 := ⟨_, Tryz.func166, by kernel_rfl, rfl⟩
theorem cb167 : Callable Tryz.prog 167 := ⟨_, Tryz.func167, by kernel_rfl, rfl⟩
theorem cb168 : Callable Tryz.prog 168 := ⟨_, Tryz.func168, by kernel_rfl, rfl⟩
theorem cb169 : Callable Tryz.prog 169 := ⟨_, Tryz.func169, by kernel_rfl, rfl⟩
theorem cb170 : Callable Tryz.prog 170 := ⟨_, Tryz.func170, by kernel_rfl, rfl⟩
theorem cb171 : Callable Tryz.prog 171 := ⟨_, Tryz.func171, by kernel_rfl, rfl⟩
theorem cb172 : Callable Tryz.prog 172 := ⟨_, Tryz.func172, by kernel_rfl, rfl⟩
theorem cb173 : Callable Tryz.prog 173 := ⟨_, Tryz.func173, by kernel_rfl, rfl⟩
theorem cb174 : Callable Tryz.prog 174 := ⟨_, Tryz.func174, by kernel_rfl, rfl⟩
theorem cb175 : Callable Tryz.prog 175 := ⟨_, Tryz.func175, by kernel_rfl, rfl⟩
theorem cb177 : Callable Tryz.prog 177 := ⟨_, Tryz.func177, by kernel_rfl, rfl⟩
theorem cb178 : Callable Tryz.prog 178 := ⟨_, Tryz.func178, by kernel_rfl, rfl⟩
theorem cb179 : Callable Tryz.prog 179 := ⟨_, Tryz.func179, by kernel_rfl, rfl⟩
theorem cb191 : Callable Tryz.prog 191 := ⟨_, Tryz.func191, by kernel_rfl, rfl⟩
theorem cb192 : Callable Tryz.prog 192 := ⟨_, Tryz.func192, by kernel_rfl, rfl⟩
theorem cb193 : Callable Tryz.prog 193 := ⟨_, Tryz.func193, by kernel_rfl, rfl⟩
theorem cb194 : Callable Tryz.prog 194 := ⟨_, Tryz.func194, by kernel_rfl, rfl⟩
section
variable {ro : Option Nat} {n : Nat} {ds : List Deferred} {Q : PT} {w : World}
theorem dT {h h' : Hd} {k k' : List It} {l l' : Fr} (e : drive U.tb n 600 h k l [] = (h', k', l', [])) (t : T Tryz.prog ro n ds Q l' w h' k') : T Tryz.prog ro n ds Q l w h k := dr U 600 e trivial t
theorem dS {h h' : Hd} {k k' : List It} {l l' : Fr} {ps : List Prop} (e : drive U.tb n 600 h k l [] = (h', k', l', ps)) (t : T Tryz.prog ro n ds Q l' w h' k') (hp : AllP ps := by first | exact True.intro | (simp only [AllP, InR, List.nil_append, List.cons_append, and_true]; omega)) : T Tryz.prog ro n ds Q l w h k := dr U 600 e hp t
theorem dqS {l l' : Fr} {arr : Array Oper} {C : World → Prop} {last : Nat} {K : Act → World → Prop} {f f' : Nat} {listed listed' : Array Bool} {ps' : List Prop} (is : List Nat) (mem : List (Nat × Value))
  (e : driveQ U.tb n Tryz.prog C mem arr is f listed l [] = some (f', listed', l', ps')) (hl : listed'.getD last false = false) (hC : C w) (t : TA Tryz.prog ro n ds arr C last K f' listed' l' w)
  (hok : (regOk arr last && closedB arr listed) = true := by kernel_rfl) (hp : AllP ps' := by simp only [AllP, InR, List.nil_append, List.cons_append]; (repeat' apply And.intro); all_goals first | exact True.intro | omega | (simp only [List.length_cons, List.length_nil]; omega) | (intro w_ hw_; refine ldC U rfl hw_ ?_; first | assumption | (simp [add_plain]; assumption)) | (intro w_ hw_; refine run_load_cell U rfl ?_; first | exact hw_ | exact hw_.1 | exact hw_.2 | exact hw_.2.1 | exact hw_.2.2 | exact hw_.2.2.1 | exact hw_.2.2.2 | (simp [add_plain]; first | exact hw_.1 | exact hw_.2.1 | exact hw_.2.2))) : TA Tryz.prog ro n ds arr C last K f listed l w := dq U is mem hok e hl hC hp t
end
end Go.Proofs.YtejlpdbiacmfcaaGreatDoor
