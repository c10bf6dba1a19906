/- Parts Tab Money Ua Ub Ha Hb. -/
import Derived.Test.YtnpkdoggfnlapaaGreatDoorG03
import Derived.Test.YtnpkdoggfnlapaaGreatDoorG04
import Derived.Test.YtnpkdoggfnlapaaGreatDoorG05
import Derived.Test.YtnpkdoggfnlapaaGreatDoorG09
import Derived.Test.YtnpkdoggfnlapaaGreatDoorRows
set_option linter.unusedSimpArgs false
set_option linter.unusedVariables false
namespace Go.Proofs.YtnpkdoggfnlapaaGreatDoor
open Go.Sx
def Tryz.tab : List (Nat × TyD) := [
  (2, { size := 1, bytes := 8, agg := false, zero := [.int .i64 0], desc := .int .i64 }),
  (3, { size := 1, bytes := 8, agg := false, zero := [.int .i64 0], desc := .int .i64 }),
  (4, { size := 1, bytes := 1, agg := false, zero := [.bool false], desc := .bool }),
  (5, { size := 1, bytes := 1, agg := false, zero := [.int .u8 0], desc := .int .u8 }),
  (9, { size := 1, bytes := 16, agg := false, zero := [.string ByteArray.empty], desc := .str }),
  (12, { size := 1, bytes := 8, agg := false, zero := [.int .u64 0], desc := .int .u64 }),
  (21, { size := 1, bytes := 4, agg := false, zero := [.int .i32 0], desc := .int .i32 }),
  (25, { size := 1, bytes := 2, agg := false, zero := [.int .u16 0], desc := .int .u16 }),
  (84, { size := 1, bytes := 8, agg := false, zero := [.int .u64 0], desc := .int .u64 }),
  (225, { size := 1, bytes := 4, agg := false, zero := [.int .u32 0], desc := .int .u32 }),
  (229, { size := 1, bytes := 8, agg := false, zero := [.int .u64 0], desc := .int .u64 }),
  (22, { size := 1, bytes := 24, agg := false, zero := [.slice none 0 0], desc := .slice 25 }),
  (23, { size := 2, bytes := 48, agg := true, zero := [.slice none 0 0, .slice none 0 0], desc := .struct [(22, 0), (22, 1)] }),
  (24, { size := 2, bytes := 48, agg := true, zero := [.slice none 0 0, .slice none 0 0], desc := .struct [(22, 0), (22, 1)] }),
  (27, { size := 1, bytes := 8, agg := false, zero := [.map none], desc := .map 29 4 }),
  (28, { size := 8, bytes := 8, agg := true, zero := List.replicate 8 (.int .u8 0), desc := .array 8 5 }),
  (29, { size := 8, bytes := 8, agg := true, zero := List.replicate 8 (.int .u8 0), desc := .array 8 5 }),
  (30, { size := 10, bytes := 24, agg := true, zero := List.replicate 8 (.int .u8 0) ++ [.int .i64 0, .int .i64 0], desc := .struct [(29, 0), (3, 8), (3, 9)] }),
  (31, { size := 10, bytes := 24, agg := true, zero := List.replicate 8 (.int .u8 0) ++ [.int .i64 0, .int .i64 0], desc := .struct [(29, 0), (3, 8), (3, 9)] }),
  (35, { size := 1, bytes := 24, agg := false, zero := [.slice none 0 0], desc := .slice 223 }),
  (36, { size := 1, bytes := 24, agg := false, zero := [.slice none 0 0], desc := .slice 59 }),
  (37, { size := 1, bytes := 24, agg := false, zero := [.slice none 0 0], desc := .slice 150 }),
  (38, { size := 1, bytes := 24, agg := false, zero := [.slice none 0 0], desc := .slice 29 }),
  (39, { size := 4, bytes := 48, agg := true, zero := [.int .i64 0, .int .i64 0, .int .i64 0] ++ [.slice none 0 0], desc := .struct [(3, 0), (3, 1), (3, 2), (38, 3)] }),
  (40, { size := 4, bytes := 48, agg := true, zero := [.int .i64 0, .int .i64 0, .int .i64 0] ++ [.slice none 0 0], desc := .struct [(3, 0), (3, 1), (3, 2), (38, 3)] }),
  (41, { size := 1, bytes := 24, agg := false, zero := [.slice none 0 0], desc := .slice 192 }),
  (42, { size := 21, bytes := 88, agg := true, zero := [.int .i64 0, .int .i64 0, .int .i64 0] ++ List.replicate 16 (.int .u8 0) ++ [.slice none 0 0, .slice none 0 0], desc := .struct [(3, 0), (3, 1), (3, 2), (29, 3), (29, 11), (36, 19), (41, 20)] }),
  (43, { size := 21, bytes := 88, agg := true, zero := [.int .i64 0, .int .i64 0, .int .i64 0] ++ List.replicate 16 (.int .u8 0) ++ [.slice none 0 0, .slice none 0 0], desc := .struct [(3, 0), (3, 1), (3, 2), (29, 3), (29, 11), (36, 19), (41, 20)] }),
  (44, { size := 128, bytes := 128, agg := true, zero := List.replicate 128 (.int .u8 0), desc := .array 16 29 }),
  (45, { size := 140, bytes := 168, agg := true, zero := [.int .i64 0, .int .i64 0] ++ List.replicate 8 (.int .u8 0) ++ [.int .i64 0, .int .i64 0] ++ List.replicate 128 (.int .u8 0), desc := .struct [(3, 0), (3, 1), (31, 2), (44, 12)] }),
  (46, { size := 140, bytes := 168, agg := true, zero := [.int .i64 0, .int .i64 0] ++ List.replicate 8 (.int .u8 0) ++ [.int .i64 0, .int .i64 0] ++ List.replicate 128 (.int .u8 0), desc := .struct [(3, 0), (3, 1), (31, 2), (44, 12)] }),
  (47, { size := 170, bytes := 392, agg := true, zero := [.int .i64 0, .int .i64 0] ++ [.slice none 0 0, .slice none 0 0, .slice none 0 0] ++ [.int .i64 0, .int .i64 0, .int .i64 0] ++ [.slice none 0 0] ++ [.int .i64 0, .int .i64 0, .int .i64 0] ++ List.replicate 16 (.int .u8 0) ++ [.slice none 0 0, .slice none 0 0] ++ [.int .i64 0, .int .i64 0] ++ List.replicate 8 (.int .u8 0) ++ [.int .i64 0, .int .i64 0] ++ List.replicate 128 (.int .u8 0), desc := .struct [(3, 0), (3, 1), (35, 2), (36, 3), (37, 4), (40, 5), (43, 9), (46, 30)] }),
  (48, { size := 170, bytes := 392, agg := true, zero := [.int .i64 0, .int .i64 0] ++ [.slice none 0 0, .slice none 0 0, .slice none 0 0] ++ [.int .i64 0, .int .i64 0, .int .i64 0] ++ [.slice none 0 0] ++ [.int .i64 0, .int .i64 0, .int .i64 0] ++ List.replicate 16 (.int .u8 0) ++ [.slice none 0 0, .slice none 0 0] ++ [.int .i64 0, .int .i64 0] ++ List.replicate 8 (.int .u8 0) ++ [.int .i64 0, .int .i64 0] ++ List.replicate 128 (.int .u8 0), desc := .struct [(3, 0), (3, 1), (35, 2), (36, 3), (37, 4), (40, 5), (43, 9), (46, 30)] }),
  (50, { size := 1, bytes := 8, agg := false, zero := [.pointer none], desc := .ptr }),
  (51, { size := 1, bytes := 8, agg := false, zero := [.pointer none], desc := .ptr }),
  (54, { size := 1, bytes := 8, agg := false, zero := [.pointer none], desc := .ptr }),
  (56, { size := 1, bytes := 8, agg := false, zero := [.int .i64 0], desc := .int .i64 }),
  (58, { size := 9, bytes := 16, agg := true, zero := List.replicate 8 (.int .u8 0) ++ [.int .i64 0], desc := .struct [(29, 0), (3, 8)] }),
  (59, { size := 9, bytes := 16, agg := true, zero := List.replicate 8 (.int .u8 0) ++ [.int .i64 0], desc := .struct [(29, 0), (3, 8)] }),
  (60, { size := 11, bytes := 32, agg := true, zero := List.replicate 8 (.int .u8 0) ++ [.int .i64 0, .int .i64 0] ++ [.bool false], desc := .struct [(59, 0), (3, 9), (4, 10)] }),
  (61, { size := 11, bytes := 32, agg := true, zero := List.replicate 8 (.int .u8 0) ++ [.int .i64 0, .int .i64 0] ++ [.bool false], desc := .struct [(59, 0), (3, 9), (4, 10)] }),
  (64, { size := 9, bytes := 16, agg := true, zero := List.replicate 8 (.int .u8 0) ++ [.int .i64 0], desc := .struct [(29, 0), (3, 8)] }),
  (65, { size := 9, bytes := 16, agg := true, zero := List.replicate 8 (.int .u8 0) ++ [.int .i64 0], desc := .struct [(29, 0), (3, 8)] }),
  (66, { size := 1, bytes := 24, agg := false, zero := [.slice none 0 0], desc := .slice 3 }),
  (67, { size := 42, bytes := 232, agg := true, zero := [.int .i64 0, .int .i64 0, .int .i64 0] ++ [.slice none 0 0] ++ List.replicate 5 (.int .i64 0) ++ [.bool false] ++ [.int .i64 0] ++ List.replicate 8 (.int .u8 0) ++ [.bool false] ++ [.int .i64 0, .int .i64 0, .int .i64 0] ++ List.replicate 16 (.int .u8 0) ++ [.slice none 0 0, .slice none 0 0, .slice none 0 0], desc := .struct [(40, 0), (3, 4), (3, 5), (3, 6), (3, 7), (3, 8), (4, 9), (3, 10), (29, 11), (4, 19), (43, 20), (66, 41)] }),
  (68, { size := 42, bytes := 232, agg := true, zero := [.int .i64 0, .int .i64 0, .int .i64 0] ++ [.slice none 0 0] ++ List.replicate 5 (.int .i64 0) ++ [.bool false] ++ [.int .i64 0] ++ List.replicate 8 (.int .u8 0) ++ [.bool false] ++ [.int .i64 0, .int .i64 0, .int .i64 0] ++ List.replicate 16 (.int .u8 0) ++ [.slice none 0 0, .slice none 0 0, .slice none 0 0], desc := .struct [(40, 0), (3, 4), (3, 5), (3, 6), (3, 7), (3, 8), (4, 9), (3, 10), (29, 11), (4, 19), (43, 20), (66, 41)] }),
  (73, { size := 1, bytes := 24, agg := false, zero := [.slice none 0 0], desc := .slice 5 }),
  (74, { size := 1, bytes := 8, agg := false, zero := [.pointer none], desc := .ptr }),
  (75, { size := 1, bytes := 24, agg := false, zero := [.slice none 0 0], desc := .slice 65 }),
  (76, { size := 1, bytes := 24, agg := false, zero := [.slice none 0 0], desc := .slice 162 }),
  (77, { size := 2, bytes := 48, agg := true, zero := [.slice none 0 0, .slice none 0 0], desc := .struct [(75, 0), (76, 1)] }),
  (78, { size := 2, bytes := 48, agg := true, zero := [.slice none 0 0, .slice none 0 0], desc := .struct [(75, 0), (76, 1)] }),
  (79, { size := 1, bytes := 24, agg := false, zero := [.slice none 0 0], desc := .slice 4 }),
  (82, { size := 2, bytes := 4, agg := true, zero := [.int .u16 0, .int .u16 0], desc := .array 2 25 }),
  (86, { size := 4, bytes := 32, agg := true, zero := List.replicate 4 (.int .i64 0), desc := .array 4 3 }),
  (91, { size := 1, bytes := 24, agg := false, zero := [.slice none 0 0], desc := .slice 95 }),
  (94, { size := 6, bytes := 80, agg := true, zero := [.int .i64 0, .int .i64 0, .int .i64 0] ++ [.slice none 0 0, .slice none 0 0] ++ [.int .u8 0], desc := .struct [(3, 0), (3, 1), (3, 2), (66, 3), (73, 4), (5, 5)] }),
  (95, { size := 6, bytes := 80, agg := true, zero := [.int .i64 0, .int .i64 0, .int .i64 0] ++ [.slice none 0 0, .slice none 0 0] ++ [.int .u8 0], desc := .struct [(3, 0), (3, 1), (3, 2), (66, 3), (73, 4), (5, 5)] }),
  (104, { size := 2, bytes := 2, agg := true, zero := [.int .u8 0, .int .u8 0], desc := .array 2 5 }),
  (106, { size := 1, bytes := 24, agg := false, zero := [.slice none 0 0], desc := .slice 109 }),
  (107, { size := 1, bytes := 24, agg := true, zero := [.slice none 0 0], desc := .struct [(106, 0)] }),
  (108, { size := 1, bytes := 24, agg := true, zero := [.slice none 0 0], desc := .struct [(106, 0)] }),
  (109, { size := 42, bytes := 232, agg := true, zero := [.int .i64 0, .int .i64 0, .int .i64 0] ++ [.slice none 0 0] ++ List.replicate 5 (.int .i64 0) ++ [.bool false] ++ [.int .i64 0] ++ List.replicate 8 (.int .u8 0) ++ [.bool false] ++ [.int .i64 0, .int .i64 0, .int .i64 0] ++ List.replicate 16 (.int .u8 0) ++ [.slice none 0 0, .slice none 0 0, .slice none 0 0], desc := .struct [(40, 0), (3, 4), (3, 5), (3, 6), (3, 7), (3, 8), (4, 9), (3, 10), (29, 11), (4, 19), (43, 20), (66, 41)] }),
  (115, { size := 3, bytes := 6, agg := true, zero := [.int .u16 0, .int .u16 0, .int .u16 0], desc := .array 3 25 }),
  (123, { size := 1, bytes := 8, agg := false, zero := [.pointer none], desc := .ptr }),
  (128, { size := 1, bytes := 8, agg := false, zero := [.map none], desc := .map 65 61 }),
  (129, { size := 1, bytes := 24, agg := false, zero := [.slice none 0 0], desc := .slice 236 }),
  (130, { size := 3, bytes := 40, agg := true, zero := [.map none] ++ [.slice none 0 0] ++ [.int .i64 0], desc := .struct [(128, 0), (129, 1), (3, 2)] }),
  (131, { size := 3, bytes := 40, agg := true, zero := [.map none] ++ [.slice none 0 0] ++ [.int .i64 0], desc := .struct [(128, 0), (129, 1), (3, 2)] }),
  (137, { size := 1, bytes := 24, agg := false, zero := [.slice none 0 0], desc := .slice 68 }),
  (138, { size := 1, bytes := 24, agg := true, zero := [.slice none 0 0], desc := .struct [(137, 0)] }),
  (139, { size := 1, bytes := 24, agg := true, zero := [.slice none 0 0], desc := .struct [(137, 0)] }),
  (149, { size := 11, bytes := 32, agg := true, zero := [.int .i64 0, .int .i64 0] ++ List.replicate 8 (.int .u8 0) ++ [.int .i64 0], desc := .struct [(3, 0), (3, 1), (29, 2), (3, 10)] }),
  (150, { size := 11, bytes := 32, agg := true, zero := [.int .i64 0, .int .i64 0] ++ List.replicate 8 (.int .u8 0) ++ [.int .i64 0], desc := .struct [(3, 0), (3, 1), (29, 2), (3, 10)] }),
  (162, { size := 11, bytes := 32, agg := true, zero := List.replicate 8 (.int .u8 0) ++ [.int .i64 0, .int .i64 0] ++ [.bool false], desc := .struct [(59, 0), (3, 9), (4, 10)] }),
  (173, { size := 1, bytes := 24, agg := false, zero := [.slice none 0 0], desc := .slice 73 }),
  (174, { size := 32, bytes := 32, agg := true, zero := List.replicate 32 (.int .u8 0), desc := .array 32 5 }),
  (176, { size := 2, bytes := 48, agg := true, zero := [.slice none 0 0, .slice none 0 0], desc := .struct [(66, 0), (38, 1)] }),
  (177, { size := 2, bytes := 48, agg := true, zero := [.slice none 0 0, .slice none 0 0], desc := .struct [(66, 0), (38, 1)] }),
  (188, { size := 24, bytes := 24, agg := true, zero := List.replicate 24 (.int .u8 0), desc := .array 3 29 }),
  (189, { size := 281, bytes := 288, agg := true, zero := [.int .i64 0] ++ List.replicate 280 (.int .u8 0), desc := .struct [(3, 0), (44, 1), (44, 129), (188, 257)] }),
  (190, { size := 281, bytes := 288, agg := true, zero := [.int .i64 0] ++ List.replicate 280 (.int .u8 0), desc := .struct [(3, 0), (44, 1), (44, 129), (188, 257)] }),
  (191, { size := 282, bytes := 296, agg := true, zero := [.int .i64 0, .int .i64 0] ++ List.replicate 280 (.int .u8 0), desc := .struct [(3, 0), (190, 1)] }),
  (192, { size := 282, bytes := 296, agg := true, zero := [.int .i64 0, .int .i64 0] ++ List.replicate 280 (.int .u8 0), desc := .struct [(3, 0), (190, 1)] }),
  (202, { size := 1, bytes := 8, agg := false, zero := [.pointer none], desc := .ptr }),
  (222, { size := 298, bytes := 312, agg := true, zero := List.replicate 8 (.int .u8 0) ++ [.int .i64 0] ++ List.replicate 8 (.int .u8 0) ++ [.int .i64 0] ++ List.replicate 280 (.int .u8 0), desc := .struct [(65, 0), (29, 9), (190, 17)] }),
  (223, { size := 298, bytes := 312, agg := true, zero := List.replicate 8 (.int .u8 0) ++ [.int .i64 0] ++ List.replicate 8 (.int .u8 0) ++ [.int .i64 0] ++ List.replicate 280 (.int .u8 0), desc := .struct [(65, 0), (29, 9), (190, 17)] }),
  (226, { size := 8, bytes := 32, agg := true, zero := List.replicate 8 (.int .u32 0), desc := .array 8 225 }),
  (227, { size := 64, bytes := 256, agg := true, zero := List.replicate 64 (.int .u32 0), desc := .array 64 225 }),
  (235, { size := 21, bytes := 56, agg := true, zero := List.replicate 8 (.int .u8 0) ++ [.int .i64 0] ++ List.replicate 8 (.int .u8 0) ++ [.int .i64 0, .int .i64 0] ++ [.bool false, .bool false], desc := .struct [(65, 0), (61, 9), (4, 20)] }),
  (236, { size := 21, bytes := 56, agg := true, zero := List.replicate 8 (.int .u8 0) ++ [.int .i64 0] ++ List.replicate 8 (.int .u8 0) ++ [.int .i64 0, .int .i64 0] ++ [.bool false, .bool false], desc := .struct [(65, 0), (61, 9), (4, 20)] }),
  (256, { size := 1, bytes := 8, agg := false, zero := [.pointer none], desc := .ptr }),
  (257, { size := 2, bytes := 32, agg := true, zero := [.slice none 0 0] ++ [.int .i64 0], desc := .struct [(73, 0), (56, 1)] }),
  (258, { size := 2, bytes := 32, agg := true, zero := [.slice none 0 0] ++ [.int .i64 0], desc := .struct [(73, 0), (56, 1)] }),
  (259, { size := 2, bytes := 32, agg := true, zero := [.slice none 0 0] ++ [.int .i64 0], desc := .struct [(258, 0)] }),
  (260, { size := 2, bytes := 32, agg := true, zero := [.slice none 0 0] ++ [.int .i64 0], desc := .struct [(258, 0)] }),
  (283, { size := 8, bytes := 32, agg := true, zero := List.replicate 8 (.int .u32 0), desc := .array 8 225 }),
  (286, { size := 1, bytes := 8, agg := false, zero := [.pointer none], desc := .ptr }),
  (293, { size := 1, bytes := 8, agg := false, zero := [.int .i64 0], desc := .int .i64 }),
  (301, { size := 1, bytes := 8, agg := false, zero := [.pointer none], desc := .ptr }),
  (304, { size := 1, bytes := 24, agg := false, zero := [.slice none 0 0], desc := .slice 225 }),
  (306, { size := 16, bytes := 16, agg := true, zero := List.replicate 16 (.int .u8 0), desc := .array 2 29 }),
  (307, { size := 256, bytes := 256, agg := true, zero := List.replicate 256 (.int .u8 0), desc := .array 16 306 }),
  (310, { size := 1, bytes := 8, agg := false, zero := [.int .u64 0], desc := .int .u64 }),
  (314, { size := 1, bytes := 8, agg := false, zero := [.pointer none], desc := .ptr }),
  (316, { size := 1, bytes := 8, agg := false, zero := [.pointer none], desc := .ptr }),
  (327, { size := 1, bytes := 8, agg := false, zero := [.pointer none], desc := .ptr })]
abbrev Tryz.T : TyTab := tlook Tryz.tab
theorem Tryz.T_ok : TabOK Tryz.prog Tryz.T := tab_ok (by kernel_rfl)
theorem Tryz.mixed : Tryz.prog.follows .mixedOrders = true := by kernel_rfl
end Go.Proofs.YtnpkdoggfnlapaaGreatDoor
namespace Go.Proofs.YtnpkdoggfnlapaaGreatDoor
set_option maxRecDepth 100000
open Go.Sx
def mayB (n : Int) : Bool := decide (0 ≤ n) && decide (n ≤ 1125899906842624)
theorem may_spec (n : Int) (M : Mem) (d : Nat) : CallSpec Tryz.prog 119 [.one (.raw (.int .i64 n))] M d { v := XV.bool (mayB n) } [] := by
  refine spec_pure Tryz.mixed Tryz.T_ok Tryz.func119 rfl _ _ rfl rfl (fun C _ => ?_) M d
  (refine wBegin ?_; ((conv => arg 5; whnf); repeat (refine xS ?_; conv => arg 5; whnf)))
  refine wC (fun h1 => ?_) (fun h1 => ?_)
  all_goals
    (refine wGo ?_; ((conv => arg 5; whnf); repeat (refine xS ?_; conv => arg 5; whnf)))
    refine Ends.plain (.inr rfl) rfl ?_
    simp [mayB, h1]
def bothB (a b n : Int) : Bool := mayB a && mayB b && mayB n
def bothV (a b n : Int) : List CV := [.one (.raw (.int .i64 (if bothB a b n = true then n else 0))), .one (.raw (.bool (bothB a b n)))]
theorem both_spec (a b n : Int) (M : Mem) (d : Nat) : CallSpec Tryz.prog 191 [.one (.raw (.int .i64 a)), .one (.raw (.int .i64 b)), .one (.raw (.int .i64 n))] M d { v := .tup (bothV a b n) } [] := by
  refine spec_pure Tryz.mixed Tryz.T_ok Tryz.func191 rfl _ _ rfl rfl (fun C _ => ?_) M d
  (refine wBegin ?_; ((conv => arg 5; whnf); repeat (refine xS ?_; conv => arg 5; whnf)))
  (apply wP; exact (call_op rfl (entersB_of Tryz.func119 (by kernel_rfl)) rfl (may_spec _ _ _)); ((conv => arg 5; whnf); repeat (refine xS ?_; conv => arg 5; whnf)))
  refine wC (fun h1 => ?_) (fun h1 => ?_)
  · (refine wGo ?_; ((conv => arg 5; whnf); repeat (refine xS ?_; conv => arg 5; whnf)))
    refine Ends.plain (.inr rfl) rfl ?_
    simp only [Bool.not_eq_true'] at h1
    simp [bothV, bothB, h1]
  · (refine wGo ?_; ((conv => arg 5; whnf); repeat (refine xS ?_; conv => arg 5; whnf)))
    (apply wP; exact (call_op rfl (entersB_of Tryz.func119 (by kernel_rfl)) rfl (may_spec _ _ _)); ((conv => arg 5; whnf); repeat (refine xS ?_; conv => arg 5; whnf)))
    simp only [Bool.not_eq_false'] at h1
    refine wC (fun h2 => ?_) (fun h2 => ?_)
    · (refine wGo ?_; ((conv => arg 5; whnf); repeat (refine xS ?_; conv => arg 5; whnf)))
      refine Ends.plain (.inr rfl) rfl ?_
      simp only [Bool.not_eq_true'] at h2
      simp [bothV, bothB, h2]
    · simp only [Bool.not_eq_false'] at h2
      (refine wGo ?_; ((conv => arg 5; whnf); repeat (refine xS ?_; conv => arg 5; whnf)))
      (apply wP; exact (call_op rfl (entersB_of Tryz.func119 (by kernel_rfl)) rfl (may_spec _ _ _)); ((conv => arg 5; whnf); repeat (refine xS ?_; conv => arg 5; whnf)))
      refine wC (fun h3 => ?_) (fun h3 => ?_)
      · (refine wGo ?_; ((conv => arg 5; whnf); repeat (refine xS ?_; conv => arg 5; whnf)))
        refine Ends.plain (.inr rfl) rfl ?_
        simp only [Bool.not_eq_true'] at h3
        simp [bothV, bothB, h3]
      · simp only [Bool.not_eq_false'] at h3
        (refine wGo ?_; ((conv => arg 5; whnf); repeat (refine xS ?_; conv => arg 5; whnf)))
        refine Ends.plain (.inr rfl) rfl ?_
        simp [bothV, bothB, h1, h2, h3]
theorem add_spec (a b : Int) (M : Mem) (d : Nat) : CallSpec Tryz.prog 154 [.one (.raw (.int .i64 a)), .one (.raw (.int .i64 b))] M d { v := .tup (bothV a b (IntKind.i64.wrap (a + b))) } [] := by
  refine spec_pure Tryz.mixed Tryz.T_ok Tryz.func154 rfl _ _ rfl rfl (fun C _ => ?_) M d
  (refine wBegin ?_; ((conv => arg 5; whnf); repeat (refine xS ?_; conv => arg 5; whnf)))
  (apply wP; exact (call_op rfl (entersB_of Tryz.func191 (by kernel_rfl)) rfl (both_spec _ _ _ _ _)); ((conv => arg 5; whnf); repeat (refine xS ?_; conv => arg 5; whnf)))
  exact Ends.plain (.inr rfl) rfl rfl
end Go.Proofs.YtnpkdoggfnlapaaGreatDoor
namespace Go.Proofs.YtnpkdoggfnlapaaGreatDoor
set_option maxRecDepth 100000
open Go.Sx
def u8 (x : UInt8) : Value := .int .u8 (x.toNat : Int)
def i64 (x : Int64) : Value := .int .i64 x.toInt
theorem u8_wf (x : UInt8) : (Lit.int .u8 (x.toNat : Int)).wf = true := by
  have := x.toNat_lt
  have e1 : IntKind.u8.min = 0 := rfl
  have e2 : IntKind.u8.max = 255 := rfl
  simp [Lit.wf, e1, e2]
  omega
theorem i64_wf (x : Int64) : (Lit.int .i64 x.toInt).wf = true := by
  have h1 := x.le_toInt
  have h2 := x.toInt_lt
  have e1 : IntKind.i64.min = -9223372036854775808 := rfl
  have e2 : IntKind.i64.max = 9223372036854775807 := rfl
  simp [Lit.wf, e1, e2]
  omega
structure H8 where
  (b0 b1 b2 b3 b4 b5 b6 b7 : UInt8)
  deriving DecidableEq, Inhabited
def H8.cells (h : H8) : List Value := [u8 h.b0, u8 h.b1, u8 h.b2, u8 h.b3, u8 h.b4, u8 h.b5, u8 h.b6, u8 h.b7]
structure Pt where
  tx : H8
  no : Int64
  deriving DecidableEq, Inhabited
def Pt.cells (p : Pt) : List Value := [u8 p.tx.b0, u8 p.tx.b1, u8 p.tx.b2, u8 p.tx.b3, u8 p.tx.b4, u8 p.tx.b5, u8 p.tx.b6, u8 p.tx.b7, i64 p.no]
def Pt.v (p : Pt) : Value := .agg p.cells.toArray
structure Coin where
  to : H8
  amt : Int64
  height : Int64
  base : Bool
  deriving DecidableEq, Inhabited
def Coin.cells (c : Coin) : List Value := [u8 c.to.b0, u8 c.to.b1, u8 c.to.b2, u8 c.to.b3, u8 c.to.b4, u8 c.to.b5, u8 c.to.b6, u8 c.to.b7, i64 c.amt, i64 c.height, .bool c.base]
def Coin.v (c : Coin) : Value := .agg c.cells.toArray
def coin0 : Coin := ⟨⟨0, 0, 0, 0, 0, 0, 0, 0⟩, 0, 0, false⟩
structure Stp where
  p : Pt
  c : Coin
  added : Bool
  deriving DecidableEq, Inhabited
def Stp.cells (s : Stp) : List Value := [u8 s.p.tx.b0, u8 s.p.tx.b1, u8 s.p.tx.b2, u8 s.p.tx.b3, u8 s.p.tx.b4, u8 s.p.tx.b5, u8 s.p.tx.b6, u8 s.p.tx.b7, i64 s.p.no,
  u8 s.c.to.b0, u8 s.c.to.b1, u8 s.c.to.b2, u8 s.c.to.b3, u8 s.c.to.b4, u8 s.c.to.b5, u8 s.c.to.b6, u8 s.c.to.b7, i64 s.c.amt, i64 s.c.height, .bool s.c.base, .bool s.added]
theorem u8_inj {a b : UInt8} (h : u8 a = u8 b) : a = b := by
  simp only [u8, Value.int.injEq, true_and] at h
  exact UInt8.toNat_inj.1 (by omega)
theorem i64_inj {a b : Int64} (h : i64 a = i64 b) : a = b := by
  simp only [i64, Value.int.injEq, true_and] at h
  exact Int64.toInt_inj.1 h
theorem Pt.inj (a b : Pt) (h : a.v = b.v) : a = b := by
  have h : a.cells = b.cells := by
    have := congrArg (fun v => v.cells.toList) h
    simpa [Pt.v, Value.cells] using this
  obtain ⟨⟨_, _, _, _, _, _, _, _⟩, _⟩ := a
  obtain ⟨⟨_, _, _, _, _, _, _, _⟩, _⟩ := b
  simp only [Pt.cells, List.cons.injEq] at h
  obtain ⟨h0, h1, h2, h3, h4, h5, h6, h7, h8, _⟩ := h
  rw [u8_inj h0, u8_inj h1, u8_inj h2, u8_inj h3, u8_inj h4, u8_inj h5, u8_inj h6, u8_inj h7, i64_inj h8]
theorem pt_row : (65 : TypeId) < Tryz.prog.types.size := of_decide_eq_true (by kernel_rfl)
theorem pt_deep : Tryz.prog.keyTypeAt 3 65 = true := by kernel_rfl
theorem laid : laidOutB Tryz.prog = true := by kernel_rfl
theorem pt_law : WideMaps.KeyLaw Tryz.prog 65 := deep_law_laid laid (m := 3) (by omega) pt_row pt_deep (by rw [Tryz.underlying65])
theorem pt_key (p : Pt) : ∃ l, keyOf Tryz.prog 65 p.v = some l := by
  have hf : p.v.formed Tryz.prog 65 = true := by kernel_rfl
  have hk : Tryz.prog.keyType 65 = true := by kernel_rfl
  have hl : ∀ m, ∃ ls, Tryz.prog.keyLits (m + 3) 65 p.cells = some ls := by
    intro m
    have c0 : Tryz.prog.cellsOf 65 = 9 := by kernel_rfl
    have c1 : Tryz.prog.cellsOf 29 = 8 := by kernel_rfl
    have c2 : Tryz.prog.cellsOf 5 = 1 := by kernel_rfl
    have c3 : Tryz.prog.cellsOf 3 = 1 := by kernel_rfl
    have w0 := u8_wf p.tx.b0
    have w1 := u8_wf p.tx.b1
    have w2 := u8_wf p.tx.b2
    have w3 := u8_wf p.tx.b3
    have w4 := u8_wf p.tx.b4
    have w5 := u8_wf p.tx.b5
    have w6 := u8_wf p.tx.b6
    have w7 := u8_wf p.tx.b7
    have w8 := i64_wf p.no
    simp [Program.keyLits, Tryz.underlying65, Tryz.underlying29, Tryz.underlying5, Tryz.underlying3, c0, c1, c2, c3, Pt.cells, u8, i64, List.range, List.range.loop, w0, w1, w2, w3, w4, w5, w6, w7, w8]
  have hs : Tryz.prog.types.size + 1 = (Tryz.prog.types.size - 2) + 3 := by kernel_rfl
  obtain ⟨ls, h⟩ := hl (Tryz.prog.types.size - 2)
  refine ⟨.string (keyBytes ls), ?_⟩
  unfold keyOf
  rw [Tryz.underlying65]
  simp only [hf, hk, Bool.and_self, if_true]
  rw [hs]
  have e : p.v.cells.toList = p.cells := by simp [Pt.v, Value.cells]
  rw [e, h]
  rfl
theorem ptK : KeyL Tryz.prog 65 Pt.v := KeyL.of (Maps.Keyed.of_law pt_law) Pt.inj pt_key
end Go.Proofs.YtnpkdoggfnlapaaGreatDoor
namespace Go.Proofs.YtnpkdoggfnlapaaGreatDoor
set_option maxRecDepth 100000
open Go.Sx
structure USet where
  coins : List (Pt × Coin)
  steps : List Stp
  total : Int
def USet.mem (S : USet) : Mem := [(0, .cells 131 [.map 1, .slc 2 21 0 S.steps.length, .raw (.int .i64 S.total)]), (1, .abs (MapP Pt.v Coin.v S.coins)), (2, .vec 236 21 S.steps.length fun i => (S.steps.getD i default).cells)]
def usetP (S : USet) : AbsP := packP S.mem True
theorem USet.opens {P : Program} {C : Ctx} {cd : Code} {slots : List (Option XV)} {mem : Mem} {nx : Nat} {Q : Exit → St → Prop} (S : USet) (c : Nat) (hc : mem.get c = some (.abs (usetP S)))
    (h : Tri P C cd ⟨slots, (c, .cells 131 [.map (nx + 1), .slc (nx + 2) 21 0 S.steps.length, .raw (.int .i64 S.total)]) :: (nx + 1, .abs (MapP Pt.v Coin.v S.coins)) :: (nx + 2, .vec 236 21 S.steps.length fun i => (S.steps.getD i default).cells) :: mem.del c, nx + 3⟩ Q) :
    Tri P C cd ⟨slots, mem, nx⟩ Q :=
  Tri.opens (M := S.mem) (m := 3) (inv := True) (c := c) hc rfl fun _ => h
theorem USet.shuts {C : Ctx} {slots : List (Option XV)} {mem : Mem} {nx : Nat} (S : USet) (c : Nat) {i1 i2 : Nat} {m n : Nat} {total : Int} {f : Nat → List Value}
    (k0 : mem.get c = some (.cells 131 [.map i1, .slc i2 21 0 m, .raw (.int .i64 total)])) (k1 : mem.get i1 = some (.abs (MapP Pt.v Coin.v S.coins))) (k2 : mem.get i2 = some (.vec 236 21 n f))
    (hids : (Nat.beq c i1 || Nat.beq c i2 || Nat.beq i1 i2) = false) (hm : m = S.steps.length) (ht : total = S.total) (hle : S.steps.length ≤ n) (hf : ∀ i, i < S.steps.length → f i = (S.steps.getD i default).cells) :
    Ent C ⟨slots, mem, nx⟩ ⟨slots, (c, .abs (usetP S)) :: mem.dels [c, i1, i2], nx⟩ := by
  subst hm ht
  exact Ent.shut3 (S := ⟨slots, mem, nx⟩) (M := S.mem) (inv := True) hids trivial rfl rfl rfl rfl k0 k1 k2 rfl ⟨rfl, rfl⟩ rfl ⟨rfl, rfl, hle, hf⟩
theorem USet.ends {C : Ctx} {T : TyTab} {rs : List ResultVar} {X X' : XV} {e : Exit} {slots : List (Option XV)} {mem : Mem} {nx : Nat} {S0 : USet} (S : USet) {i1 i2 : Nat} {m n : Nat} {total : Int} {f : Nat → List Value} (he : e = .normal ∨ e = .ret)
    (k0 : mem.get 0 = some (.cells 131 [.map i1, .slc i2 21 0 m, .raw (.int .i64 total)])) (k1 : mem.get i1 = some (.abs (MapP Pt.v Coin.v S.coins))) (k2 : mem.get i2 = some (.vec 236 21 n f))
    (hids : (Nat.beq 0 i1 || Nat.beq 0 i2 || Nat.beq i1 i2) = false)
    (hr : resX T ⟨slots, (0, .abs (usetP S)) :: mem.dels [0, i1, i2], nx⟩ rs = some X') (hX : X' = X) (hS : S = S0) (hm : m = S.steps.length) (ht : total = S.total) (hle : S.steps.length ≤ n) (hf : ∀ i, i < S.steps.length → f i = (S.steps.getD i default).cells) :
    Sx.Ends C T rs 1 1 ⟨X, [(0, .abs (usetP S0))], none⟩ e ⟨slots, mem, nx⟩ := by
  subst hX hS
  refine ⟨he, _, USet.shuts S 0 k0 k1 k2 hids hm ht hle hf, hr, fun i ch h => ?_, fun i ch h => by cases h⟩
  simp only [Mem.get, nbeq] at h
  by_cases hk : 0 = i
  · subst hk
    simp only [decide_true, cond_true, Option.some.injEq] at h
    exact ⟨by omega, by rw [← h]; rfl⟩
  · simp [hk] at h
abbrev Pt.cv (p : Pt) : CV := .agg (p.cells.map .raw)
abbrev Coin.cv (p : Coin) : CV := .agg (p.cells.map .raw)
def USet.put (S : USet) (p : Pt) (c : Coin) : USet := { S with coins := mput S.coins p c, total := IntKind.i64.wrap (S.total + c.amt.toInt) }
theorem coin_map : Tryz.prog.underlying 128 = some (.map 65 61) := Tryz.underlying128
set_option maxRecDepth 100000 in
theorem put_spec (S : USet) (p : Pt) (c : Coin) {M : Mem} {c0 d : Nat} (hM : M.get c0 = some (.abs (usetP S))) (hd : Nat.beq d c0 = false) : CallSpec Tryz.prog 155 [.one (.ptr c0 0 0 0), p.cv, c.cv] M d { v := .tup [], upd := [(c0, .abs (usetP (S.put p c)))], wr := [c0] } [c0] := by
  refine spec_obj Tryz.T_ok Tryz.func155 rfl [p.cv, c.cv] (.tup []) rfl rfl hM hd (fun C _ => ?_)
  refine USet.opens S 0 rfl ?_
  refine Tri.of Tryz.mixed Tryz.T_ok ?_
  (refine wBegin ?_; ((conv => arg 5; whnf); repeat (refine xS ?_; conv => arg 5; whnf)))
  (refine wP _ _ (update_op ptK coin_map rfl rfl p c rfl rfl rfl) ?_; ((conv => arg 5; whnf); repeat (refine xS ?_; conv => arg 5; whnf)))
  exact USet.ends (S.put p c) (.inl rfl) rfl rfl rfl rfl rfl rfl rfl rfl rfl (Nat.le_refl _) (fun _ _ => rfl)
def USet.take (S : USet) (p : Pt) (c : Coin) : USet := { S with coins := mdel S.coins p, total := IntKind.i64.wrap (S.total - c.amt.toInt) }
theorem coin_zero : ∀ w : World, (zeroValue 61).run Tryz.prog w = .ok (Coin.v coin0) w := fun w => by kernel_rfl
def USet.get (S : USet) (p : Pt) : Coin := (mget S.coins p).getD coin0
def USet.has (S : USet) (p : Pt) : Bool := (mget S.coins p).isSome
set_option maxRecDepth 100000 in
theorem get_spec (S : USet) (p : Pt) {M : Mem} {c0 d : Nat} (hM : M.get c0 = some (.abs (usetP S))) (hd : Nat.beq d c0 = false) : CallSpec Tryz.prog 21 [.one (.ptr c0 0 0 0), p.cv] M d { v := .tup [(S.get p).cv, .one (.raw (.bool (S.has p)))], upd := [(c0, .abs (usetP S))], wr := [c0] } [c0] := by
  refine spec_obj Tryz.T_ok Tryz.func21 rfl [p.cv] (.tup [(S.get p).cv, .one (.raw (.bool (S.has p)))]) rfl rfl hM hd (fun C _ => ?_)
  refine USet.opens S 0 rfl ?_
  refine Tri.of Tryz.mixed Tryz.T_ok ?_
  (refine wBegin ?_; ((conv => arg 5; whnf); repeat (refine xS ?_; conv => arg 5; whnf)))
  (refine wP _ _ (lookup_op (ok := true) ptK coin_map (z0 := coin0) coin_zero rfl rfl p rfl rfl) ?_; ((conv => arg 5; whnf); repeat (refine xS ?_; conv => arg 5; whnf)))
  exact USet.ends S (.inr rfl) rfl rfl rfl rfl rfl rfl rfl rfl rfl (Nat.le_refl _) (fun _ _ => rfl)
set_option maxRecDepth 100000 in
theorem total_spec (S : USet) {M : Mem} {c0 d : Nat} (hM : M.get c0 = some (.abs (usetP S))) (hd : Nat.beq d c0 = false) : CallSpec Tryz.prog 23 [.one (.ptr c0 0 0 0)] M d { v := XV.int .i64 S.total, upd := [(c0, .abs (usetP S))], wr := [c0] } [c0] := by
  refine spec_obj Tryz.T_ok Tryz.func23 rfl [] (XV.int .i64 S.total) rfl rfl hM hd (fun C _ => ?_)
  refine USet.opens S 0 rfl ?_
  refine Tri.of Tryz.mixed Tryz.T_ok ?_
  (refine wBegin ?_; ((conv => arg 5; whnf); repeat (refine xS ?_; conv => arg 5; whnf)))
  exact USet.ends S (.inr rfl) rfl rfl rfl rfl rfl rfl rfl rfl rfl (Nat.le_refl _) (fun _ _ => rfl)
def USet.empty : USet := ⟨[], [], 0⟩
theorem USet.ends_new {C : Ctx} {T : TyTab} {rs : List ResultVar} {X : XV} {e : Exit} {slots : List (Option XV)} {mem : Mem} {nx n0 : Nat} (l : List (Pt × Coin)) (total : Int) (i0 i1 : Nat) (he : e = .normal ∨ e = .ret) (hids : (Nat.beq i0 i1 || Nat.beq i0 nx || Nat.beq i1 nx) = false) (hn : n0 ≤ i0)
    (k0 : mem.get i0 = some (.cells 131 [.map i1, .raw (.slice none 0 0), .raw (.int .i64 total)])) (k1 : mem.get i1 = some (.abs (MapP Pt.v Coin.v l)))
    (hr : resX T ((St.nilc ⟨slots, mem, nx⟩ i0 131 [.map i1, .raw (.slice none 0 0), .raw (.int .i64 total)] 1 236 21).shut i0 [i0, i1, nx] (USet.mem ⟨l, [], total⟩) True) rs = some X) :
    Sx.Ends C T rs 0 n0 ⟨X, [], some (i0, .abs (usetP ⟨l, [], total⟩))⟩ e ⟨slots, mem, nx⟩ := by
  have hids' := hids
  simp only [Bool.or_eq_false_iff] at hids'
  obtain ⟨⟨h1, h2⟩, h3⟩ := hids'
  have h0 : ∀ a : Nat, Nat.beq a a = true := fun a => by rw [nbeq]; simp
  refine ⟨he, _, (Ent.nilc (S := ⟨slots, mem, nx⟩) k0 rfl 236 21).trans (Ent.shut3 (M := USet.mem ⟨l, [], total⟩) (b0 := .cells 131 [.map i1, .slc nx 21 0 0, .raw (.int .i64 total)]) (b1 := .abs (MapP Pt.v Coin.v l)) (b2 := .vec 236 21 0 fun _ => []) hids trivial rfl rfl rfl rfl ?_ ?_ ?_ rfl ⟨rfl, rfl⟩ rfl ⟨rfl, rfl, Nat.le_refl _, fun i hi => by simp at hi⟩), hr, fun i ch h => by simp [Mem.get] at h, fun i ch h => ?_⟩
  · simp [St.nilc, Mem.get]
  · have h3' : nx ≠ i1 := fun e => by rw [e, h0] at h3; cases h3
    have h1' : i1 ≠ i0 := fun e => by rw [e, h0] at h1; cases h1
    have : Nat.beq nx i1 = false := by rw [nbeq]; simpa using h3'
    simp only [St.nilc, Mem.get, h1, this, cond_false, Mem.get_del, if_neg h1', k1]
  · simp only [St.nilc, Mem.get, h2, h0, cond_false, cond_true]
  · cases h
    exact ⟨hn, by simp only [St.shut, Mem.get, h0, cond_true]; rfl⟩
theorem new_spec {M : Mem} {d : Nat} : CallSpec Tryz.prog 19 [] M d { v := XV.sv (.ptr d 0 0 0), upd := [(d, .abs (usetP USet.empty))] } [] := by
  refine spec_new Tryz.T_ok Tryz.func19 rfl [] rfl 3 (fun C _ => ?_)
  refine Tri.of Tryz.mixed Tryz.T_ok ?_
  (refine wBegin ?_; ((conv => arg 5; whnf); repeat (refine xS ?_; conv => arg 5; whnf)))
  (refine wP _ _ (makeMap_op Pt.v Coin.v rfl) ?_; ((conv => arg 5; whnf); repeat (refine xS ?_; conv => arg 5; whnf)))
  exact USet.ends_new [] 0 3 1 (.inr rfl) rfl (by decide) rfl rfl rfl
theorem snoc_steps (l : List Stp) (s : Stp) (i : Nat) (hi : i < l.length + 1) : snocF (fun i => (l.getD i default).cells) l.length s.cells i = ((l ++ [s]).getD i default).cells := by
  have e : Nat.blt i l.length = decide (i < l.length) := by
    by_cases h : i < l.length
    · rw [decide_eq_true h]; simpa using h
    · rw [decide_eq_false h]
      cases hb : Nat.blt i l.length with
      | false => rfl
      | true => exact absurd (by simpa using hb) h
  simp only [snocF, e]
  by_cases h : i < l.length
  · simp [h, List.getD_eq_getElem?_getD, List.getElem?_append_left h]
  · have h' : i = l.length := by omega
    simp [h', List.getD_eq_getElem?_getD]
def USet.okB (S : USet) (p : Pt) (c : Coin) : Bool := !(decide (p.no.toInt < 0)) && !(decide (p.no.toInt > 255)) && !(decide (c.amt.toInt < 1)) && !(S.has p) && bothB S.total c.amt.toInt (IntKind.i64.wrap (S.total + c.amt.toInt))
def USet.add1 (S : USet) (p : Pt) (c : Coin) : USet := { S.put p c with steps := S.steps ++ [⟨p, c, true⟩] }
def USet.add (S : USet) (p : Pt) (c : Coin) : USet := if S.okB p c = true then S.add1 p c else S
set_option maxRecDepth 100000 in
theorem uadd_spec (S : USet) (p : Pt) (c : Coin) (hlen : S.steps.length < 1000000) {M : Mem} {c0 d : Nat} (hM : M.get c0 = some (.abs (usetP S))) (hd : Nat.beq d c0 = false) : CallSpec Tryz.prog 99 [.one (.ptr c0 0 0 0), p.cv, c.cv] M d { v := XV.bool (S.okB p c), upd := [(c0, .abs (usetP (S.add p c)))], wr := [c0] } [c0] := by
  refine spec_obj Tryz.T_ok Tryz.func99 rfl [p.cv, c.cv] (XV.bool (S.okB p c)) rfl rfl hM hd (fun C _ => ?_)
  refine USet.opens S 0 rfl ?_
  (refine Tri.cut 5 Tryz.mixed Tryz.T_ok ?_; ((conv => arg 5; whnf); repeat (refine xS ?_; conv => arg 5; whnf)))
  refine wC (fun h1 => ?_) (fun h1 => ?_)
  · (refine wGo ?_; ((conv => arg 5; whnf); repeat (refine xS ?_; conv => arg 5; whnf)))
    refine wD <| cutR (USet.ends S (.inr rfl) rfl rfl rfl rfl rfl ?_ ?_ rfl rfl (Nat.le_refl _) (fun _ _ => rfl))
    · simp [USet.okB, h1]
    · simp [USet.add, USet.okB, h1]
  (refine wGo ?_; ((conv => arg 5; whnf); repeat (refine xS ?_; conv => arg 5; whnf)))
  refine wC (fun h2 => ?_) (fun h2 => ?_)
  · (refine wGo ?_; ((conv => arg 5; whnf); repeat (refine xS ?_; conv => arg 5; whnf)))
    refine wD <| cutR (USet.ends S (.inr rfl) rfl rfl rfl rfl rfl ?_ ?_ rfl rfl (Nat.le_refl _) (fun _ _ => rfl))
    · simp [USet.okB, h2]
    · simp [USet.add, USet.okB, h2]
  (refine wGo ?_; ((conv => arg 5; whnf); repeat (refine xS ?_; conv => arg 5; whnf)))
  refine wC (fun h3 => ?_) (fun h3 => ?_)
  · (refine wGo ?_; ((conv => arg 5; whnf); repeat (refine xS ?_; conv => arg 5; whnf)))
    refine wD <| cutR (USet.ends S (.inr rfl) rfl rfl rfl rfl rfl ?_ ?_ rfl rfl (Nat.le_refl _) (fun _ _ => rfl))
    · simp [USet.okB, h3]
    · simp [USet.add, USet.okB, h3]
  (refine wGo ?_; ((conv => arg 5; whnf); repeat (refine xS ?_; conv => arg 5; whnf)))
  (refine wP _ _ (lookup_op (ok := true) ptK coin_map (z0 := coin0) coin_zero rfl rfl p rfl rfl) ?_; ((conv => arg 5; whnf); repeat (refine xS ?_; conv => arg 5; whnf)))
  (apply wP; exact (call_op rfl (entersB_of Tryz.func154 (by kernel_rfl)) rfl (add_spec _ _ _ _)); ((conv => arg 5; whnf); repeat (refine xS ?_; conv => arg 5; whnf)))
  refine wC (fun h4 => ?_) (fun h4 => ?_)
  · (refine wGo ?_; ((conv => arg 5; whnf); repeat (refine xS ?_; conv => arg 5; whnf)))
    refine wD <| cutR (USet.ends S (.inr rfl) rfl rfl rfl rfl rfl ?_ ?_ rfl rfl (Nat.le_refl _) (fun _ _ => rfl))
    · simp [USet.okB, USet.has, h4]
    · simp [USet.add, USet.okB, USet.has, h4]
  (refine wGo ?_; ((conv => arg 5; whnf); repeat (refine xS ?_; conv => arg 5; whnf)))
  refine wC (fun h5 => ?_) (fun h5 => ?_)
  · (refine wGo ?_; ((conv => arg 5; whnf); repeat (refine xS ?_; conv => arg 5; whnf)))
    simp only [Bool.not_eq_true'] at h5
    refine wD <| cutR (USet.ends S (.inr rfl) rfl rfl rfl rfl rfl ?_ ?_ rfl rfl (Nat.le_refl _) (fun _ _ => rfl))
    · simp [USet.okB, h5]
    · simp [USet.add, USet.okB, h5]
  (refine wGo ?_; ((conv => arg 5; whnf); repeat (refine xS ?_; conv => arg 5; whnf)))
  simp only [Bool.not_eq_false'] at h5
  have hok : S.okB p c = true := by simp [USet.okB, USet.has, h1, h2, h3, h4, h5]
  refine wD <| cutG (Tri.ent (USet.shuts S 0 rfl rfl rfl rfl rfl rfl (Nat.le_refl _) (fun _ _ => rfl)) ?_)
  (refine Tri.cut 1 Tryz.mixed Tryz.T_ok ?_; ((conv => arg 5; whnf); repeat (refine xS ?_; conv => arg 5; whnf)))
  (apply wP; exact (call_op rfl (entersB_of Tryz.func155 (by kernel_rfl)) rfl (put_spec S p c rfl rfl)); ((conv => arg 5; whnf); repeat (refine xS ?_; conv => arg 5; whnf)))
  have hA : (S.put p c).steps.length + 1 ≤ maxLen := by
    show S.steps.length + 1 ≤ maxLen
    simp only [maxLen]; omega
  have hB : ((S.put p c).steps.length + 1) * 56 ≤ 140737488355328 := by
    show (S.steps.length + 1) * 56 ≤ 140737488355328
    omega
  refine wD <| cutG (USet.opens (S.put p c) 0 rfl ?_)
  refine Tri.of Tryz.mixed Tryz.T_ok ?_
  (refine wBegin ?_; ((conv => arg 5; whnf); repeat (refine xS ?_; conv => arg 5; whnf)))
  (refine wP _ _ (append1_op Tryz.T_ok rfl rfl rfl rfl (Stp.cells ⟨p, c, true⟩) rfl rfl rfl (Nat.le_refl _) rfl rfl rfl rfl rfl hA hB) ?_; ((conv => arg 5; whnf); repeat (refine xS ?_; conv => arg 5; whnf)))
  refine USet.ends (S.add1 p c) (.inr rfl) rfl rfl rfl rfl rfl ?_ ?_ ?_ rfl ?_ ?_
  · rw [hok]
  · rw [USet.add, if_pos hok]
  · simp [USet.add1, USet.put]
  · simp [USet.add1, USet.put]
  · intro i hi
    exact snoc_steps S.steps ⟨p, c, true⟩ i (by simpa [USet.add1] using hi)
end Go.Proofs.YtnpkdoggfnlapaaGreatDoor
namespace Go.Proofs.YtnpkdoggfnlapaaGreatDoor
set_option maxRecDepth 100000
open Go.Sx
def u32 (x : Int) : Value := .int .u32 x
theorem bitI_u64_nonneg (op : BinOp) (a b : Int) : 0 ≤ bitI op .u64 a b := by
  unfold bitI
  split <;> (rw [IntKind.wrap_u64]; omega)
def rotS (k : Int) : Int := bitI .and .u64 (IntKind.u64.wrap k) 31
def rotL (x k : Int) : Int := bitI .or .u32 (shlI .u32 x (rotS k)) (shrI .u32 x (IntKind.u64.wrap (32 - rotS k)))
theorem rotl_spec (x k : Int) (M : Mem) (d : Nat) : CallSpec Tryz.prog 245 [.one (.raw (.int .u32 x)), .one (.raw (.int .i64 k))] M d { v := XV.int .u32 (rotL x k) } [] := by
  refine spec_pure Tryz.mixed Tryz.T_ok Tryz.func245 rfl _ _ rfl rfl (fun C _ => ?_) M d
  (refine wBegin ?_; ((conv => arg 5; whnf); repeat (refine xS ?_; conv => arg 5; whnf)))
  refine wN (bitI_u64_nonneg _ _ _) ?_
  (refine wGo ?_; ((conv => arg 5; whnf); repeat (refine xS ?_; conv => arg 5; whnf)))
  refine wN (by rw [IntKind.wrap_u64]; omega) ?_
  (refine wGo ?_; ((conv => arg 5; whnf); repeat (refine xS ?_; conv => arg 5; whnf)))
  exact Ends.plain (.inr rfl) rfl rfl
def rotR (x n : Int) : Int := rotL x (IntKind.i64.wrap (0 - n))
theorem right_spec (x n : Int) (M : Mem) (d : Nat) : CallSpec Tryz.prog 232 [.one (.raw (.int .u32 x)), .one (.raw (.int .i64 n))] M d { v := XV.int .u32 (rotR x n) } [] := by
  refine spec_pure Tryz.mixed Tryz.T_ok Tryz.func232 rfl _ _ rfl rfl (fun C _ => ?_) M d
  (refine wBegin ?_; ((conv => arg 5; whnf); repeat (refine xS ?_; conv => arg 5; whnf)))
  (apply wP; exact (call_op rfl (entersB_of Tryz.func245 (by kernel_rfl)) rfl (rotl_spec _ _ _ _)); ((conv => arg 5; whnf); repeat (refine xS ?_; conv => arg 5; whnf)))
  exact Ends.plain (.inr rfl) rfl rfl
def turn (x n : Int) : Int := bitI .or .u32 (shrI .u32 x n) (shlI .u32 x (IntKind.u64.wrap (32 - n)))
theorem turned_spec (x n : Int) (hn : 0 ≤ n) (M : Mem) (d : Nat) : CallSpec Tryz.prog 151 [.one (.raw (.int .u32 x)), .one (.raw (.int .u64 n))] M d { v := XV.int .u32 (turn x n) } [] := by
  refine spec_pure Tryz.mixed Tryz.T_ok Tryz.func151 rfl _ _ rfl rfl (fun C _ => ?_) M d
  (refine wBegin ?_; ((conv => arg 5; whnf); repeat (refine xS ?_; conv => arg 5; whnf)))
  refine wN hn ?_
  (refine wGo ?_; ((conv => arg 5; whnf); repeat (refine xS ?_; conv => arg 5; whnf)))
  refine wN (by rw [IntKind.wrap_u64]; omega) ?_
  (refine wGo ?_; ((conv => arg 5; whnf); repeat (refine xS ?_; conv => arg 5; whnf)))
  exact Ends.plain (.inr rfl) rfl rfl
theorem bitI_or_comm (k : IntKind) (a b : Int) : bitI .or k a b = bitI .or k b a := by simp only [bitI, BitVec.or_comm]
theorem turn_eq (x : Int) {n : Int} (h : rotS (IntKind.i64.wrap (0 - n)) = IntKind.u64.wrap (32 - n)) (h2 : IntKind.u64.wrap (32 - rotS (IntKind.i64.wrap (0 - n))) = n) : turn x n = rotR x n := by
  unfold rotR rotL turn
  rw [h2, h]
  exact bitI_or_comm _ _ _
theorem turn2 (x : Int) : turn x 2 = rotR x 2 := turn_eq x (by decide) (by decide)
theorem turn6 (x : Int) : turn x 6 = rotR x 6 := turn_eq x (by decide) (by decide)
theorem turn7 (x : Int) : turn x 7 = rotR x 7 := turn_eq x (by decide) (by decide)
theorem turn11 (x : Int) : turn x 11 = rotR x 11 := turn_eq x (by decide) (by decide)
theorem turn13 (x : Int) : turn x 13 = rotR x 13 := turn_eq x (by decide) (by decide)
theorem turn17 (x : Int) : turn x 17 = rotR x 17 := turn_eq x (by decide) (by decide)
theorem turn18 (x : Int) : turn x 18 = rotR x 18 := turn_eq x (by decide) (by decide)
theorem turn19 (x : Int) : turn x 19 = rotR x 19 := turn_eq x (by decide) (by decide)
theorem turn22 (x : Int) : turn x 22 = rotR x 22 := turn_eq x (by decide) (by decide)
theorem turn25 (x : Int) : turn x 25 = rotR x 25 := turn_eq x (by decide) (by decide)
def w32 (a b : Int) : Int := IntKind.u32.wrap (a + b)
def sg0 (x : Int) : Int := bitI .xor .u32 (bitI .xor .u32 (rotR x 7) (rotR x 18)) (shrI .u32 x 3)
def sg1 (x : Int) : Int := bitI .xor .u32 (bitI .xor .u32 (rotR x 17) (rotR x 19)) (shrI .u32 x 10)
def push (w : Int) (x : UInt8) : Int := bitI .or .u32 (shlI .u32 w 8) (IntKind.u32.wrap (x.toNat : Int))
def word (b : Nat → UInt8) (i : Nat) : Int := push (push (push (push 0 (b (4 * i))) (b (4 * i + 1))) (b (4 * i + 2))) (b (4 * i + 3))
def mix (w : Nat → Int) (n : Nat) : Int := w32 (w32 (w32 (w (n - 16)) (w (n - 7))) (sg0 (w (n - 15)))) (sg1 (w (n - 2)))
def sched (b : Nat → UInt8) : Nat → Nat → Int
  | 0 => fun _ => 0
  | n + 1 => fun k => if k = n then (if n < 16 then word b n else mix (sched b n) n) else sched b n k
theorem sched_step (b : Nat → UInt8) (n k : Nat) : sched b (n + 1) k = if k = n then (if n < 16 then word b n else mix (sched b n) n) else sched b n k := rfl
theorem sched_fresh (b : Nat → UInt8) : ∀ n k, n ≤ k → sched b n k = 0
  | 0, k, _ => rfl
  | n + 1, k, h => by rw [sched_step, if_neg (by omega)]; exact sched_fresh b n k (by omega)
theorem bv_of (x : BitVec 32) : BitVec.ofInt 32 (x.toNat : Int) = x := by
  apply BitVec.eq_of_toInt_eq
  rw [BitVec.toInt_ofInt, BitVec.toInt_eq_toNat_bmod]
theorem or_bv (x y : BitVec 32) : bitI .or .u32 (x.toNat : Int) (y.toNat : Int) = ((x ||| y).toNat : Int) := by
  show IntKind.u32.wrap (((BitVec.ofInt 32 (x.toNat : Int) ||| BitVec.ofInt 32 (y.toNat : Int)).toNat : Int)) = _
  rw [bv_of, bv_of, IntKind.wrap_u32]
  have := (x ||| y).isLt
  exact Int.emod_eq_of_lt (by omega) (by omega)
theorem shl_bv (x : BitVec 32) (n : Nat) (hn : n < 32) : shlI .u32 (x.toNat : Int) (n : Int) = ((x <<< n).toNat : Int) := by
  show IntKind.u32.wrap ((x.toNat : Int) * 2 ^ (min ((n : Int).toNat) 32)) = _
  have e : min ((n : Int).toNat) 32 = n := by omega
  rw [e, IntKind.wrap_u32, BitVec.toNat_shiftLeft, Nat.shiftLeft_eq, Int.natCast_emod, Int.natCast_mul, Int.natCast_pow]
  rfl
def b32 (x : UInt8) : BitVec 32 := BitVec.ofNat 32 x.toNat
theorem b32_int (x : UInt8) : IntKind.u32.wrap (x.toNat : Int) = ((b32 x).toNat : Int) := by
  have := x.toNat_lt
  rw [IntKind.wrap_u32, b32, BitVec.toNat_ofNat]
  omega
def word4 (b : Nat → UInt8) (i : Nat) : Int :=
  bitI .or .u32 (bitI .or .u32 (bitI .or .u32 (shlI .u32 (IntKind.u32.wrap ((b (4 * i)).toNat : Int)) 24) (shlI .u32 (IntKind.u32.wrap ((b (4 * i + 1)).toNat : Int)) 16)) (shlI .u32 (IntKind.u32.wrap ((b (4 * i + 2)).toNat : Int)) 8)) (IntKind.u32.wrap ((b (4 * i + 3)).toNat : Int))
theorem word4_eq (b : Nat → UInt8) (i : Nat) : word4 b i = word b i := by
  have h8 : ∀ x : BitVec 32, shlI .u32 (x.toNat : Int) 8 = ((x <<< 8).toNat : Int) := fun x => shl_bv x 8 (by decide)
  have h16 : ∀ x : BitVec 32, shlI .u32 (x.toNat : Int) 16 = ((x <<< 16).toNat : Int) := fun x => shl_bv x 16 (by decide)
  have h24 : ∀ x : BitVec 32, shlI .u32 (x.toNat : Int) 24 = ((x <<< 24).toNat : Int) := fun x => shl_bv x 24 (by decide)
  have h0 : (0 : Int) = ((0 : BitVec 32).toNat : Int) := rfl
  simp only [word4, word, push, b32_int]
  rw [h0]
  simp only [h8, h16, h24, or_bv]
  congr 2
  generalize b32 (b (4 * i)) = p
  generalize b32 (b (4 * i + 1)) = q
  generalize b32 (b (4 * i + 2)) = r
  generalize b32 (b (4 * i + 3)) = s
  apply BitVec.eq_of_getLsbD_eq
  intro j hj
  simp only [BitVec.getLsbD_or, BitVec.getLsbD_shiftLeft]
  by_cases c8 : j < 8
  · simp [c8, show j < 16 by omega, show j < 24 by omega]
  · by_cases c16 : j < 16
    · simp [c8, c16, show j < 24 by omega, hj, show j - 8 < 8 by omega, show j - 8 < 32 by omega]
    · by_cases c24 : j < 24
      · simp [c8, c16, c24, hj, show ¬ j - 8 < 8 by omega, show j - 16 < 8 by omega, show j - 8 < 32 by omega, show j - 8 - 8 = j - 16 by omega]
      · simp [c8, c16, c24, hj, show ¬ j - 8 < 8 by omega, show ¬ j - 16 < 8 by omega, show j - 8 < 32 by omega, show j - 16 < 32 by omega, show j - 8 - 8 = j - 16 by omega, show j - 16 - 8 = j - 24 by omega, Bool.or_assoc]
theorem w32_comm (a b : Int) : w32 a b = w32 b a := by unfold w32; rw [Int.add_comm]
theorem w32_assoc (a b c : Int) : w32 (w32 a b) c = w32 a (w32 b c) := by
  unfold w32
  simp only [IntKind.wrap_u32]
  omega
theorem mix_ref (a b c d : Int) : w32 (w32 (w32 a c) b) d = w32 (w32 (w32 a b) c) d := by
  rw [w32_assoc a c b, w32_comm c b, ← w32_assoc]
end Go.Proofs.YtnpkdoggfnlapaaGreatDoor
namespace Go.Proofs.YtnpkdoggfnlapaaGreatDoor
set_option maxRecDepth 100000
open Go.Sx
def bytesF (b : Nat → UInt8) : Nat → List Value := fun i => [u8 (b i)]
def wordsF (w : Nat → Int) : Nat → List Value := fun i => [u32 (w i)]
theorem updW (w : Nat → Int) (i k : Nat) (x : Int) : updF (wordsF w) i 0 [.int .u32 x] k = wordsF (fun k => if k = i then x else w k) k := by
  by_cases h : k = i
  · subst h; rw [updF_whole (by rfl)]; simp [wordsF, u32]
  · rw [updF_ne h]; simp [wordsF, h]
theorem updB (w : Nat → UInt8) (i k : Nat) (x : UInt8) : updF (bytesF w) i 0 [u8 x] k = bytesF (fun k => if k = i then x else w k) k := by
  by_cases h : k = i
  · subst h; rw [updF_whole (by rfl)]; simp [bytesF]
  · rw [updF_ne h]; simp [bytesF, h]
def partW (b : Nat → UInt8) (i : Nat) : Nat → Int
  | 0 => 0
  | j + 1 => push (partW b i j) (b (4 * i + j))
def inW (b : Nat → UInt8) (i j : Nat) : Nat → Int := fun k => if k = i then partW b i j else sched b i k
def spreadSt (b : Nat → UInt8) (i : Nat) : St := ⟨[some (XV.sv (.slc 0 1 0 64)), none, some (XV.sv (.ptr 1 0 0 0)), some (XV.sv (.ptr 2 0 0 0)), none, none, none, none, none, some (XV.int .i64 i)] ++ List.replicate 65 none,
  [(0, .ro 1 64 (bytesF b)), (1, .cells 227 ((List.replicate 64 (u32 0)).map .raw)), (2, .vec 227 1 64 (wordsF (sched b i)))], 3⟩
def spreadSt2 (b : Nat → UInt8) (i j : Nat) : St := ⟨[some (XV.sv (.slc 0 1 0 64)), none, some (XV.sv (.ptr 1 0 0 0)), some (XV.sv (.ptr 2 0 0 0)), some (XV.int .i64 i), none, none, none, none, some (XV.int .i64 i), none, none, none, none, none, none, none, none, none, none, some (XV.sv (.slc 0 1 (4 * i) 4)), some (XV.int .i64 (4 : Nat)), some (XV.int .i64 j)] ++ List.replicate 52 none,
  [(0, .ro 1 64 (bytesF b)), (1, .cells 227 ((List.replicate 64 (u32 0)).map .raw)), (2, .vec 227 1 64 (wordsF (inW b i j)))], 3⟩
def spreadA (b : Nat → UInt8) : List AD := [.row 1 64 (bytesF b)]
set_option maxHeartbeats 2000000 in
theorem spread_can (b : Nat → UInt8) : Reads Tryz.prog 231 (spreadA b) [] (.cv (.agg ((tabF (wordsF (sched b 64)) 0 64).map .raw))) := by
  refine Reads.of Tryz.T_ok Tryz.func231 rfl _ _ _ rfl (aggs_ok _ _) (fun C hC => ?_)
  have hC : C.n0 = 1 := hC
  (refine Tri.cut 2 Tryz.mixed Tryz.T_ok ?_; ((conv => arg 5; whnf); repeat (refine xS ?_; conv => arg 5; whnf)))
  refine wD <| cutG <| Tri.ent (Ent.arr0 (c := 2) 1 64 (u32 0) (f := wordsF (sched b 0)) rfl rfl rfl (by decide) rfl (by rw [hC]; decide) (fun _ _ => rfl)) ?_
  refine Tri.seq ?_
  (refine Tri.cut 1 Tryz.mixed Tryz.T_ok ?_; ((conv => arg 5; whnf); repeat (refine xS ?_; conv => arg 5; whnf)))
  refine wD <| cutG <| Tri.block ?_
  refine Tri.loop (α := { i : Nat // i ≤ 64 }) (fun i => spreadSt b i.1) (fun i => 64 - i.1) ⟨0, Nat.zero_le _⟩ ?_ ?_
  · exact Ent.ren [0, 1, 2] (by decide) rfl (fun i hi => by replace hi := Nat.lt_of_lt_of_eq hi hC; revert i; decide) (Nat.le_trans (Nat.le_of_eq hC) (by decide)) rfl (by repeat' (first | exact trivial | exact rfl | refine ⟨?_, ?_⟩ | fail)) (by repeat' (first | exact trivial | exact ⟨_, rfl, rfl, rfl, Nat.le_refl _, fun _ _ => rfl⟩ | exact ⟨_, rfl, rfl, rfl, fun _ _ => rfl⟩ | exact ⟨_, rfl, rfl, rfl⟩ | exact ⟨_, rfl, rfl⟩ | refine ⟨?_, ?_⟩ | fail))
  rintro ⟨i, hi⟩
  dsimp only
  (refine Tri.cut 2 Tryz.mixed Tryz.T_ok ?_; ((conv => arg 5; whnf); repeat (refine xS ?_; conv => arg 5; whnf)))
  refine wC (fun h1 => ?_) (fun h1 => ?_)
  · (refine wGo ?_; ((conv => arg 5; whnf); repeat (refine xS ?_; conv => arg 5; whnf)))
    have h1' : i < 64 := (by (try simp only [ww] at *); omega)
    refine wD <| cutG <| Tri.seq <| Tri.block ?_
    (refine Tri.cut 1 Tryz.mixed Tryz.T_ok ?_; ((conv => arg 5; whnf); repeat (refine xS ?_; conv => arg 5; whnf)))
    refine wD <| cutG <| Tri.seq ?_
    (refine Tri.cut 1 Tryz.mixed Tryz.T_ok ?_; ((conv => arg 5; whnf); repeat (refine xS ?_; conv => arg 5; whnf)))
    refine wD <| cutG <| Tri.cond (b := decide ((i : Int) < 16)) rfl (fun h2 => ?_) (fun h2 => ?_)
    · have h2' : i < 16 := (by (try simp only [ww] at *); omega)
      refine Tri.seq ?_
      have e4 : IntKind.i64.wrap (4 * (i : Int)) = ((4 * i : Nat) : Int) := (by (try simp only [ww] at *); omega)
      have e5 : IntKind.i64.wrap (((4 * i : Nat) : Int) + 4) = ((4 * i + 4 : Nat) : Int) := (by (try simp only [ww] at *); omega)
      (refine Tri.cut 1 Tryz.mixed Tryz.T_ok ?_; ((conv => arg 5; whnf); repeat (refine xS ?_; conv => arg 5; whnf)))
      simp only [e4, e5]
      (refine wN ?_ ?_; exact (by (try simp only [ww] at *); omega); refine wGo ?_; ((conv => arg 5; whnf); repeat (refine xS ?_; conv => arg 5; whnf)))
      refine wD <| cutG <| Tri.block ?_
      refine Tri.loop (α := { j : Nat // j ≤ 4 }) (fun j => spreadSt2 b i j.1) (fun j => 4 - j.1) ⟨0, Nat.zero_le _⟩ ?_ ?_
      · have hl : (((4 * i + 4 : Nat) : Int).toNat - ((4 * i : Nat) : Int).toNat) = 4 := by omega
        have hlo : 0 + ((4 * i : Nat) : Int).toNat = 4 * i := by omega
        rw [hl, hlo]
        ((try dsimp only); refine Ent.renC [0, 1, 2] hC ?_ ?_ <;> repeat' (first | exact trivial | exact rfl | exact ⟨_, rfl, rfl, rfl, Nat.le_refl _, fun _ _ => rfl⟩ | exact ⟨_, rfl, rfl, rfl, fun _ _ => rfl⟩ | exact ⟨_, rfl, rfl, rfl⟩ | exact ⟨_, rfl, rfl⟩ | refine ⟨_, rfl, rfl, rfl, by omega, fun k hk => ?_⟩ | refine ⟨?_, ?_⟩ | fail))
        simp only [wordsF, inW]
        split
        · rename_i e; rw [e, sched_fresh b i i (Nat.le_refl _)]; rfl
        · rfl
      rintro ⟨j, hj⟩
      dsimp only
      (refine Tri.cut 2 Tryz.mixed Tryz.T_ok ?_; ((conv => arg 5; whnf); repeat (refine xS ?_; conv => arg 5; whnf)))
      refine wC (fun h3 => ?_) (fun h3 => ?_)
      · (refine wGo ?_; ((conv => arg 5; whnf); repeat (refine xS ?_; conv => arg 5; whnf)))
        have h3' : j < 4 := (by (try simp only [ww] at *); omega)
        refine wD <| cutG <| Tri.seq <| Tri.block <| Tri.of Tryz.mixed Tryz.T_ok ?_
        (refine wBegin ?_; ((conv => arg 5; whnf); repeat (refine xS ?_; conv => arg 5; whnf)))
        (repeat (refine wN ?_ ?_; exact (by (try simp only [ww] at *); omega); refine wGo ?_; ((conv => arg 5; whnf); repeat (refine xS ?_; conv => arg 5; whnf))))
        refine wD <| blockN <| cutG <| Tri.of Tryz.mixed Tryz.T_ok ?_
        (refine wBegin ?_; ((conv => arg 5; whnf); repeat (refine xS ?_; conv => arg 5; whnf)))
        have hw : IntKind.i64.wrap ((j : Int) + 1) = ((j + 1 : Nat) : Int) := (by (try simp only [ww] at *); omega)
        refine wD <| loopN ⟨⟨j + 1, h3'⟩, by dsimp only; omega, ?_⟩
        rw [hw]
        ((try dsimp only); refine Ent.renC [0, 1, 2] hC ?_ ?_ <;> repeat' (first | exact trivial | exact rfl | exact ⟨_, rfl, rfl, rfl, Nat.le_refl _, fun _ _ => rfl⟩ | exact ⟨_, rfl, rfl, rfl, fun _ _ => rfl⟩ | exact ⟨_, rfl, rfl, rfl⟩ | exact ⟨_, rfl, rfl⟩ | refine ⟨_, rfl, rfl, rfl, by omega, fun k hk => ?_⟩ | refine ⟨?_, ?_⟩ | fail))
        simp only [Int.toNat_natCast]
        rw [updW]
        simp only [wordsF, inW]
        split
        · rename_i e; subst e; simp [partW, push, inW]
        · rfl
      · (refine wGo ?_; ((conv => arg 5; whnf); repeat (refine xS ?_; conv => arg 5; whnf)))
        have h3' : j = 4 := (by (try simp only [ww] at *); omega)
        subst h3'
        refine wD <| cutE <| loopX <| blockX <| cutG <| Tri.of Tryz.mixed Tryz.T_ok ?_
        (refine wBegin ?_; ((conv => arg 5; whnf); repeat (refine xS ?_; conv => arg 5; whnf)))
        refine wD <| cutE <| blockX <| cutG <| Tri.of Tryz.mixed Tryz.T_ok ?_
        (refine wBegin ?_; ((conv => arg 5; whnf); repeat (refine xS ?_; conv => arg 5; whnf)))
        have hw : IntKind.i64.wrap ((i : Int) + 1) = ((i + 1 : Nat) : Int) := (by (try simp only [ww] at *); omega)
        refine wD <| loopN ⟨⟨i + 1, h1'⟩, by dsimp only; omega, ?_⟩
        rw [hw]
        ((try dsimp only); refine Ent.renC [0, 1, 2] hC ?_ ?_ <;> repeat' (first | exact trivial | exact rfl | exact ⟨_, rfl, rfl, rfl, Nat.le_refl _, fun _ _ => rfl⟩ | exact ⟨_, rfl, rfl, rfl, fun _ _ => rfl⟩ | exact ⟨_, rfl, rfl, rfl⟩ | exact ⟨_, rfl, rfl⟩ | refine ⟨_, rfl, rfl, rfl, by omega, fun k hk => ?_⟩ | refine ⟨?_, ?_⟩ | fail))
        simp only [wordsF, inW, sched_step]
        split
        · rfl
        · rfl
    · have h2' : 16 ≤ i := (by (try simp only [ww] at *); omega)
      refine Tri.skip (cutG ?_)
      refine Tri.of Tryz.mixed Tryz.T_ok ?_
      (refine wBegin ?_; ((conv => arg 5; whnf); repeat (refine xS ?_; conv => arg 5; whnf)))
      (repeat (refine wN ?_ ?_; exact (by (try simp only [ww] at *); omega); refine wGo ?_; ((conv => arg 5; whnf); repeat (refine xS ?_; conv => arg 5; whnf))))
      have e15 : IntKind.i64.wrap ((i : Int) - 15) = ((i - 15 : Nat) : Int) := (by (try simp only [ww] at *); omega)
      have e16 : IntKind.i64.wrap ((i : Int) - 16) = ((i - 16 : Nat) : Int) := (by (try simp only [ww] at *); omega)
      have e7 : IntKind.i64.wrap ((i : Int) - 7) = ((i - 7 : Nat) : Int) := (by (try simp only [ww] at *); omega)
      have e2 : IntKind.i64.wrap ((i : Int) - 2) = ((i - 2 : Nat) : Int) := (by (try simp only [ww] at *); omega)
      (apply wP; exact (call_op rfl (entersB_of Tryz.func232 (by kernel_rfl)) rfl (right_spec _ _ _ _)); ((conv => arg 5; whnf); repeat (refine xS ?_; conv => arg 5; whnf)))
      (apply wP; exact (call_op rfl (entersB_of Tryz.func232 (by kernel_rfl)) rfl (right_spec _ _ _ _)); ((conv => arg 5; whnf); repeat (refine xS ?_; conv => arg 5; whnf)))
      (apply wP; exact (call_op rfl (entersB_of Tryz.func232 (by kernel_rfl)) rfl (right_spec _ _ _ _)); ((conv => arg 5; whnf); repeat (refine xS ?_; conv => arg 5; whnf)))
      (apply wP; exact (call_op rfl (entersB_of Tryz.func232 (by kernel_rfl)) rfl (right_spec _ _ _ _)); ((conv => arg 5; whnf); repeat (refine xS ?_; conv => arg 5; whnf)))
      (repeat (refine wN ?_ ?_; exact (by (try simp only [ww] at *); omega); refine wGo ?_; ((conv => arg 5; whnf); repeat (refine xS ?_; conv => arg 5; whnf))))
      simp only [e15, e16, e7, e2, Int.toNat_natCast]
      refine wD <| blockN <| cutG <| Tri.of Tryz.mixed Tryz.T_ok ?_
      (refine wBegin ?_; ((conv => arg 5; whnf); repeat (refine xS ?_; conv => arg 5; whnf)))
      have hw : IntKind.i64.wrap ((i : Int) + 1) = ((i + 1 : Nat) : Int) := (by (try simp only [ww] at *); omega)
      refine wD <| loopN ⟨⟨i + 1, h1'⟩, by dsimp only; omega, ?_⟩
      rw [hw]
      ((try dsimp only); refine Ent.renC [0, 1, 2] hC ?_ ?_ <;> repeat' (first | exact trivial | exact rfl | exact ⟨_, rfl, rfl, rfl, Nat.le_refl _, fun _ _ => rfl⟩ | exact ⟨_, rfl, rfl, rfl, fun _ _ => rfl⟩ | exact ⟨_, rfl, rfl, rfl⟩ | exact ⟨_, rfl, rfl⟩ | refine ⟨_, rfl, rfl, rfl, by omega, fun k hk => ?_⟩ | refine ⟨?_, ?_⟩ | fail))
      rw [updW]
      simp only [wordsF, sched_step]
      split
      · rw [if_neg (by omega)]; rfl
      · rfl
  · (refine wGo ?_; ((conv => arg 5; whnf); repeat (refine xS ?_; conv => arg 5; whnf)))
    have h1' : i = 64 := (by (try simp only [ww] at *); omega)
    subst h1'
    refine wD <| cutE <| loopX <| blockX <| cutG <| Tri.of Tryz.mixed Tryz.T_ok ?_
    (refine wBegin ?_; ((conv => arg 5; whnf); repeat (refine xS ?_; conv => arg 5; whnf)))
    (repeat (refine wN ?_ ?_; exact (by (try simp only [ww] at *); omega); refine wGo ?_; ((conv => arg 5; whnf); repeat (refine xS ?_; conv => arg 5; whnf))))
    exact wD (Ends.plain (.inr rfl) rfl rfl)
end Go.Proofs.YtnpkdoggfnlapaaGreatDoor
