/- The table of types of this seat, written by gentab.py out of the translation; the kernel holds it against the program. -/
import Derived.Test.YtfdmlpdhngmbiaaSxL
import Derived.Test.YtfdmlpdhngmbiaaRows
namespace Go.Proofs.Ytfdmlpdhngmbiaa
open Go.Sx

def Try.tab : List (Nat × TyD) := [
  (2, { size := 1, bytes := 8, agg := false, zero := [.int .i64 0], desc := .int .i64 }),
  (3, { size := 1, bytes := 8, agg := false, zero := [.int .i64 0], desc := .int .i64 }),
  (4, { size := 1, bytes := 1, agg := false, zero := [.bool false], desc := .bool }),
  (5, { size := 1, bytes := 1, agg := false, zero := [.int .u8 0], desc := .int .u8 }),
  (9, { size := 1, bytes := 16, agg := false, zero := [.string ByteArray.empty], desc := .str }),
  (12, { size := 1, bytes := 8, agg := false, zero := [.int .u64 0], desc := .int .u64 }),
  (21, { size := 1, bytes := 4, agg := false, zero := [.int .i32 0], desc := .int .i32 }),
  (95, { size := 1, bytes := 8, agg := false, zero := [.int .u64 0], desc := .int .u64 }),
  (105, { size := 1, bytes := 4, agg := false, zero := [.int .u32 0], desc := .int .u32 }),
  (107, { size := 1, bytes := 8, agg := false, zero := [.int .u64 0], desc := .int .u64 }),
  (22, { size := 1, bytes := 24, agg := false, zero := [.slice none 0 0], desc := .slice 42 }),
  (23, { size := 1, bytes := 24, agg := false, zero := [.slice none 0 0], desc := .slice 5 }),
  (25, { size := 1, bytes := 8, agg := false, zero := [.pointer none], desc := .ptr }),
  (26, { size := 1, bytes := 8, agg := false, zero := [.pointer none], desc := .ptr }),
  (29, { size := 1, bytes := 8, agg := true, zero := [.int .i64 0], desc := .struct [(3, 0)] }),
  (30, { size := 1, bytes := 8, agg := true, zero := [.int .i64 0], desc := .struct [(3, 0)] }),
  (32, { size := 1, bytes := 24, agg := false, zero := [.slice none 0 0], desc := .slice 30 }),
  (33, { size := 8, bytes := 8, agg := true, zero := List.replicate 8 (.int .u8 0), desc := .array 8 5 }),
  (34, { size := 8, bytes := 8, agg := true, zero := List.replicate 8 (.int .u8 0), desc := .array 8 5 }),
  (35, { size := 9, bytes := 16, agg := true, zero := List.replicate 8 (.int .u8 0) ++ [.int .i64 0], desc := .struct [(34, 0), (3, 8)] }),
  (36, { size := 9, bytes := 16, agg := true, zero := List.replicate 8 (.int .u8 0) ++ [.int .i64 0], desc := .struct [(34, 0), (3, 8)] }),
  (37, { size := 9, bytes := 16, agg := true, zero := List.replicate 8 (.int .u8 0) ++ [.int .i64 0], desc := .struct [(34, 0), (3, 8)] }),
  (38, { size := 9, bytes := 16, agg := true, zero := List.replicate 8 (.int .u8 0) ++ [.int .i64 0], desc := .struct [(34, 0), (3, 8)] }),
  (39, { size := 11, bytes := 32, agg := true, zero := List.replicate 8 (.int .u8 0) ++ [.int .i64 0, .int .i64 0] ++ [.bool false], desc := .struct [(38, 0), (3, 9), (4, 10)] }),
  (40, { size := 11, bytes := 32, agg := true, zero := List.replicate 8 (.int .u8 0) ++ [.int .i64 0, .int .i64 0] ++ [.bool false], desc := .struct [(38, 0), (3, 9), (4, 10)] }),
  (41, { size := 22, bytes := 64, agg := true, zero := [.int .i64 0, .int .i64 0] ++ List.replicate 8 (.int .u8 0) ++ [.int .i64 0] ++ List.replicate 8 (.int .u8 0) ++ [.int .i64 0, .int .i64 0] ++ [.bool false], desc := .struct [(3, 0), (3, 1), (36, 2), (40, 11)] }),
  (42, { size := 22, bytes := 64, agg := true, zero := [.int .i64 0, .int .i64 0] ++ List.replicate 8 (.int .u8 0) ++ [.int .i64 0] ++ List.replicate 8 (.int .u8 0) ++ [.int .i64 0, .int .i64 0] ++ [.bool false], desc := .struct [(3, 0), (3, 1), (36, 2), (40, 11)] }),
  (44, { size := 11, bytes := 32, agg := true, zero := List.replicate 8 (.int .u8 0) ++ [.int .i64 0, .int .i64 0] ++ [.bool false], desc := .struct [(38, 0), (3, 9), (4, 10)] }),
  (52, { size := 1, bytes := 24, agg := false, zero := [.slice none 0 0], desc := .slice 36 }),
  (53, { size := 1, bytes := 24, agg := false, zero := [.slice none 0 0], desc := .slice 40 }),
  (54, { size := 2, bytes := 48, agg := true, zero := [.slice none 0 0, .slice none 0 0], desc := .struct [(52, 0), (53, 1)] }),
  (55, { size := 2, bytes := 48, agg := true, zero := [.slice none 0 0, .slice none 0 0], desc := .struct [(52, 0), (53, 1)] }),
  (56, { size := 1, bytes := 24, agg := false, zero := [.slice none 0 0], desc := .slice 3 }),
  (58, { size := 1, bytes := 24, agg := false, zero := [.slice none 0 0], desc := .slice 26 }),
  (67, { size := 1, bytes := 8, agg := false, zero := [.map none], desc := .map 36 44 }),
  (68, { size := 1, bytes := 24, agg := false, zero := [.slice none 0 0], desc := .slice 75 }),
  (69, { size := 3, bytes := 40, agg := true, zero := [.map none] ++ [.slice none 0 0] ++ [.int .i64 0], desc := .struct [(67, 0), (68, 1), (3, 2)] }),
  (70, { size := 3, bytes := 40, agg := true, zero := [.map none] ++ [.slice none 0 0] ++ [.int .i64 0], desc := .struct [(67, 0), (68, 1), (3, 2)] }),
  (74, { size := 21, bytes := 56, agg := true, zero := List.replicate 8 (.int .u8 0) ++ [.int .i64 0] ++ List.replicate 8 (.int .u8 0) ++ [.int .i64 0, .int .i64 0] ++ [.bool false, .bool false], desc := .struct [(36, 0), (44, 9), (4, 20)] }),
  (75, { size := 21, bytes := 56, agg := true, zero := List.replicate 8 (.int .u8 0) ++ [.int .i64 0] ++ List.replicate 8 (.int .u8 0) ++ [.int .i64 0, .int .i64 0] ++ [.bool false, .bool false], desc := .struct [(36, 0), (44, 9), (4, 20)] }),
  (98, { size := 1, bytes := 8, agg := false, zero := [.int .i64 0], desc := .int .i64 }),
  (108, { size := 1, bytes := 8, agg := false, zero := [.int .u64 0], desc := .int .u64 }),
  (112, { size := 1, bytes := 8, agg := false, zero := [.pointer none], desc := .ptr }),
  (114, { size := 1, bytes := 8, agg := false, zero := [.pointer none], desc := .ptr }),
  (126, { size := 1, bytes := 8, agg := false, zero := [.pointer none], desc := .ptr })]
abbrev Try.T : TyTab := tlook Try.tab
theorem Try.T_ok : TabOK Try.prog Try.T := tab_ok (by kernel_rfl)
theorem Try.mixed : Try.prog.follows .mixedOrders = true := by kernel_rfl
end Go.Proofs.Ytfdmlpdhngmbiaa
