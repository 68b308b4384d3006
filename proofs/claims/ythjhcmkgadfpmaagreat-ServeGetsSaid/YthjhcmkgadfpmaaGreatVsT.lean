/-
  The table of the types of this seat's program.
-/
import Derived.Test.YthjhcmkgadfpmaaGreatVsQ
import Derived.Test.YthjhcmkgadfpmaaGreatProg
namespace Go.Proofs.YthjhcmkgadfpmaaGreat
open Go Go.RowKit
set_option maxRecDepth 100000
def T : Tab := ⟨[
  ⟨0, 0, .other, []⟩,
  ⟨1, 8, .func, [.nilFunc]⟩,
  ⟨1, 8, .int .i64, [.int .i64 0]⟩,
  ⟨1, 8, .int .i64, [.int .i64 0]⟩,
  ⟨1, 1, .bool, [.bool false]⟩,
  ⟨1, 1, .int .u8, [.int .u8 0]⟩,
  ⟨0, 0, .other, []⟩,
  ⟨0, 0, .other, []⟩,
  ⟨0, 0, .other, []⟩,
  ⟨1, 16, .str, [.string ByteArray.empty]⟩,
  ⟨0, 0, .other, []⟩,
  ⟨0, 0, .other, []⟩,
  ⟨1, 8, .int .u64, [.int .u64 0]⟩,
  ⟨0, 0, .other, []⟩,
  ⟨0, 0, .other, []⟩,
  ⟨0, 0, .other, []⟩,
  ⟨0, 0, .other, []⟩,
  ⟨0, 0, .other, []⟩,
  ⟨0, 0, .other, []⟩,
  ⟨0, 0, .other, []⟩,
  ⟨0, 0, .other, []⟩,
  ⟨1, 4, .int .i32, [.int .i32 0]⟩,
  ⟨1, 24, .slice 3, [.slice none 0 0]⟩,
  ⟨16, 128, .arr 16 3, [.int .i64 0, .int .i64 0, .int .i64 0, .int .i64 0, .int .i64 0, .int .i64 0, .int .i64 0, .int .i64 0, .int .i64 0, .int .i64 0, .int .i64 0, .int .i64 0, .int .i64 0, .int .i64 0, .int .i64 0, .int .i64 0]⟩,
  ⟨20, 192, .struct [(0, 3), (1, 22), (2, 22), (3, 3), (4, 23)], [.int .i64 0, .slice none 0 0, .slice none 0 0, .int .i64 0, .int .i64 0, .int .i64 0, .int .i64 0, .int .i64 0, .int .i64 0, .int .i64 0, .int .i64 0, .int .i64 0, .int .i64 0, .int .i64 0, .int .i64 0, .int .i64 0, .int .i64 0, .int .i64 0, .int .i64 0, .int .i64 0]⟩,
  ⟨20, 192, .struct [(0, 3), (1, 22), (2, 22), (3, 3), (4, 23)], [.int .i64 0, .slice none 0 0, .slice none 0 0, .int .i64 0, .int .i64 0, .int .i64 0, .int .i64 0, .int .i64 0, .int .i64 0, .int .i64 0, .int .i64 0, .int .i64 0, .int .i64 0, .int .i64 0, .int .i64 0, .int .i64 0, .int .i64 0, .int .i64 0, .int .i64 0, .int .i64 0]⟩,
  ⟨1, 24, .slice 106, [.slice none 0 0]⟩,
  ⟨3, 40, .struct [(0, 3), (1, 3), (2, 26)], [.int .i64 0, .int .i64 0, .slice none 0 0]⟩,
  ⟨3, 40, .struct [(0, 3), (1, 3), (2, 26)], [.int .i64 0, .int .i64 0, .slice none 0 0]⟩,
  ⟨1, 24, .slice 56, [.slice none 0 0]⟩,
  ⟨2, 16, .struct [(0, 5), (1, 3)], [.int .u8 0, .int .i64 0]⟩,
  ⟨2, 16, .struct [(0, 5), (1, 3)], [.int .u8 0, .int .i64 0]⟩,
  ⟨1, 8, .int .i64, [.int .i64 0]⟩,
  ⟨6, 40, .struct [(0, 3), (1, 3), (2, 3), (3, 4), (4, 4), (5, 32)], [.int .i64 0, .int .i64 0, .int .i64 0, .bool false, .bool false, .int .i64 0]⟩,
  ⟨6, 40, .struct [(0, 3), (1, 3), (2, 3), (3, 4), (4, 4), (5, 32)], [.int .i64 0, .int .i64 0, .int .i64 0, .bool false, .bool false, .int .i64 0]⟩,
  ⟨4, 40, .struct [(0, 9), (1, 3), (2, 3), (3, 4)], [.string ByteArray.empty, .int .i64 0, .int .i64 0, .bool false]⟩,
  ⟨4, 40, .struct [(0, 9), (1, 3), (2, 3), (3, 4)], [.string ByteArray.empty, .int .i64 0, .int .i64 0, .bool false]⟩,
  ⟨15, 128, .struct [(0, 5), (1, 5), (2, 34), (8, 36), (12, 3), (13, 22), (14, 32)], [.int .u8 0, .int .u8 0, .int .i64 0, .int .i64 0, .int .i64 0, .bool false, .bool false, .int .i64 0, .string ByteArray.empty, .int .i64 0, .int .i64 0, .bool false, .int .i64 0, .slice none 0 0, .int .i64 0]⟩,
  ⟨15, 128, .struct [(0, 5), (1, 5), (2, 34), (8, 36), (12, 3), (13, 22), (14, 32)], [.int .u8 0, .int .u8 0, .int .i64 0, .int .i64 0, .int .i64 0, .bool false, .bool false, .int .i64 0, .string ByteArray.empty, .int .i64 0, .int .i64 0, .bool false, .int .i64 0, .slice none 0 0, .int .i64 0]⟩,
  ⟨1, 24, .slice 36, [.slice none 0 0]⟩,
  ⟨76, 720, .struct [(0, 25), (20, 3), (21, 28), (24, 29), (25, 31), (27, 38), (42, 38), (57, 38), (72, 3), (73, 9), (74, 39), (75, 3)], [.int .i64 0, .slice none 0 0, .slice none 0 0, .int .i64 0, .int .i64 0, .int .i64 0, .int .i64 0, .int .i64 0, .int .i64 0, .int .i64 0, .int .i64 0, .int .i64 0, .int .i64 0, .int .i64 0, .int .i64 0, .int .i64 0, .int .i64 0, .int .i64 0, .int .i64 0, .int .i64 0, .int .i64 0, .int .i64 0, .int .i64 0, .slice none 0 0, .slice none 0 0, .int .u8 0, .int .i64 0, .int .u8 0, .int .u8 0, .int .i64 0, .int .i64 0, .int .i64 0, .bool false, .bool false, .int .i64 0, .string ByteArray.empty, .int .i64 0, .int .i64 0, .bool false, .int .i64 0, .slice none 0 0, .int .i64 0, .int .u8 0, .int .u8 0, .int .i64 0, .int .i64 0, .int .i64 0, .bool false, .bool false, .int .i64 0, .string ByteArray.empty, .int .i64 0, .int .i64 0, .bool false, .int .i64 0, .slice none 0 0, .int .i64 0, .int .u8 0, .int .u8 0, .int .i64 0, .int .i64 0, .int .i64 0, .bool false, .bool false, .int .i64 0, .string ByteArray.empty, .int .i64 0, .int .i64 0, .bool false, .int .i64 0, .slice none 0 0, .int .i64 0, .int .i64 0, .string ByteArray.empty, .slice none 0 0, .int .i64 0]⟩,
  ⟨76, 720, .struct [(0, 25), (20, 3), (21, 28), (24, 29), (25, 31), (27, 38), (42, 38), (57, 38), (72, 3), (73, 9), (74, 39), (75, 3)], [.int .i64 0, .slice none 0 0, .slice none 0 0, .int .i64 0, .int .i64 0, .int .i64 0, .int .i64 0, .int .i64 0, .int .i64 0, .int .i64 0, .int .i64 0, .int .i64 0, .int .i64 0, .int .i64 0, .int .i64 0, .int .i64 0, .int .i64 0, .int .i64 0, .int .i64 0, .int .i64 0, .int .i64 0, .int .i64 0, .int .i64 0, .slice none 0 0, .slice none 0 0, .int .u8 0, .int .i64 0, .int .u8 0, .int .u8 0, .int .i64 0, .int .i64 0, .int .i64 0, .bool false, .bool false, .int .i64 0, .string ByteArray.empty, .int .i64 0, .int .i64 0, .bool false, .int .i64 0, .slice none 0 0, .int .i64 0, .int .u8 0, .int .u8 0, .int .i64 0, .int .i64 0, .int .i64 0, .bool false, .bool false, .int .i64 0, .string ByteArray.empty, .int .i64 0, .int .i64 0, .bool false, .int .i64 0, .slice none 0 0, .int .i64 0, .int .u8 0, .int .u8 0, .int .i64 0, .int .i64 0, .int .i64 0, .bool false, .bool false, .int .i64 0, .string ByteArray.empty, .int .i64 0, .int .i64 0, .bool false, .int .i64 0, .slice none 0 0, .int .i64 0, .int .i64 0, .string ByteArray.empty, .slice none 0 0, .int .i64 0]⟩,
  ⟨15, 136, .struct [(0, 5), (1, 3), (2, 3), (3, 3), (4, 3), (5, 4), (6, 4), (7, 3), (8, 3), (9, 22), (10, 36), (14, 32)], [.int .u8 0, .int .i64 0, .int .i64 0, .int .i64 0, .int .i64 0, .bool false, .bool false, .int .i64 0, .int .i64 0, .slice none 0 0, .string ByteArray.empty, .int .i64 0, .int .i64 0, .bool false, .int .i64 0]⟩,
  ⟨15, 136, .struct [(0, 5), (1, 3), (2, 3), (3, 3), (4, 3), (5, 4), (6, 4), (7, 3), (8, 3), (9, 22), (10, 36), (14, 32)], [.int .u8 0, .int .i64 0, .int .i64 0, .int .i64 0, .int .i64 0, .bool false, .bool false, .int .i64 0, .int .i64 0, .slice none 0 0, .string ByteArray.empty, .int .i64 0, .int .i64 0, .bool false, .int .i64 0]⟩,
  ⟨1, 8, .func, [.nilFunc]⟩,
  ⟨1, 8, .func, [.nilFunc]⟩,
  ⟨1, 8, .func, [.nilFunc]⟩,
  ⟨0, 0, .other, []⟩,
  ⟨1, 8, .func, [.nilFunc]⟩,
  ⟨1, 8, .func, [.nilFunc]⟩,
  ⟨1, 8, .func, [.nilFunc]⟩,
  ⟨1, 8, .func, [.nilFunc]⟩,
  ⟨1, 8, .func, [.nilFunc]⟩,
  ⟨1, 8, .func, [.nilFunc]⟩,
  ⟨1, 8, .func, [.nilFunc]⟩,
  ⟨17, 152, .struct [(0, 3), (1, 3), (2, 43)], [.int .i64 0, .int .i64 0, .int .u8 0, .int .i64 0, .int .i64 0, .int .i64 0, .int .i64 0, .bool false, .bool false, .int .i64 0, .int .i64 0, .slice none 0 0, .string ByteArray.empty, .int .i64 0, .int .i64 0, .bool false, .int .i64 0]⟩,
  ⟨17, 152, .struct [(0, 3), (1, 3), (2, 43)], [.int .i64 0, .int .i64 0, .int .u8 0, .int .i64 0, .int .i64 0, .int .i64 0, .int .i64 0, .bool false, .bool false, .int .i64 0, .int .i64 0, .slice none 0 0, .string ByteArray.empty, .int .i64 0, .int .i64 0, .bool false, .int .i64 0]⟩,
  ⟨1, 8, .func, [.nilFunc]⟩,
  ⟨0, 0, .other, []⟩,
  ⟨1, 8, .func, [.nilFunc]⟩,
  ⟨0, 0, .other, []⟩,
  ⟨1, 8, .func, [.nilFunc]⟩,
  ⟨0, 0, .other, []⟩,
  ⟨1, 8, .func, [.nilFunc]⟩,
  ⟨1, 24, .slice 43, [.slice none 0 0]⟩,
  ⟨1, 8, .func, [.nilFunc]⟩,
  ⟨1, 8, .func, [.nilFunc]⟩,
  ⟨1, 8, .func, [.nilFunc]⟩,
  ⟨1, 8, .func, [.nilFunc]⟩,
  ⟨1, 8, .func, [.nilFunc]⟩,
  ⟨1, 8, .func, [.nilFunc]⟩,
  ⟨1, 8, .func, [.nilFunc]⟩,
  ⟨0, 0, .other, []⟩,
  ⟨1, 8, .func, [.nilFunc]⟩,
  ⟨1, 8, .func, [.nilFunc]⟩,
  ⟨0, 0, .other, []⟩,
  ⟨1, 8, .map 5 74, [.map none]⟩,
  ⟨1, 8, .func, [.nilFunc]⟩,
  ⟨1, 8, .ptr 41, [.pointer none]⟩,
  ⟨1, 8, .func, [.nilFunc]⟩,
  ⟨1, 8, .func, [.nilFunc]⟩,
  ⟨1, 8, .func, [.nilFunc]⟩,
  ⟨1, 8, .func, [.nilFunc]⟩,
  ⟨1, 8, .func, [.nilFunc]⟩,
  ⟨1, 8, .func, [.nilFunc]⟩,
  ⟨1, 8, .func, [.nilFunc]⟩,
  ⟨1, 8, .func, [.nilFunc]⟩,
  ⟨1, 8, .func, [.nilFunc]⟩,
  ⟨1, 8, .func, [.nilFunc]⟩,
  ⟨1, 8, .func, [.nilFunc]⟩,
  ⟨1, 8, .func, [.nilFunc]⟩,
  ⟨1, 8, .func, [.nilFunc]⟩,
  ⟨1, 8, .func, [.nilFunc]⟩,
  ⟨1, 8, .func, [.nilFunc]⟩,
  ⟨1, 8, .func, [.nilFunc]⟩,
  ⟨1, 8, .func, [.nilFunc]⟩,
  ⟨1, 8, .func, [.nilFunc]⟩,
  ⟨1, 8, .func, [.nilFunc]⟩,
  ⟨1, 8, .func, [.nilFunc]⟩,
  ⟨1, 8, .func, [.nilFunc]⟩,
  ⟨1, 8, .func, [.nilFunc]⟩,
  ⟨1, 8, .func, [.nilFunc]⟩,
  ⟨1, 8, .func, [.nilFunc]⟩,
  ⟨1, 8, .func, [.nilFunc]⟩,
  ⟨1, 8, .func, [.nilFunc]⟩,
  ⟨20, 176, .struct [(0, 3), (1, 43), (16, 5), (17, 3), (18, 3), (19, 3)], [.int .i64 0, .int .u8 0, .int .i64 0, .int .i64 0, .int .i64 0, .int .i64 0, .bool false, .bool false, .int .i64 0, .int .i64 0, .slice none 0 0, .string ByteArray.empty, .int .i64 0, .int .i64 0, .bool false, .int .i64 0, .int .u8 0, .int .i64 0, .int .i64 0, .int .i64 0]⟩,
  ⟨20, 176, .struct [(0, 3), (1, 43), (16, 5), (17, 3), (18, 3), (19, 3)], [.int .i64 0, .int .u8 0, .int .i64 0, .int .i64 0, .int .i64 0, .int .i64 0, .bool false, .bool false, .int .i64 0, .int .i64 0, .slice none 0 0, .string ByteArray.empty, .int .i64 0, .int .i64 0, .bool false, .int .i64 0, .int .u8 0, .int .i64 0, .int .i64 0, .int .i64 0]⟩,
  ⟨0, 0, .other, []⟩,
  ⟨1, 8, .func, [.nilFunc]⟩,
  ⟨0, 0, .other, []⟩,
  ⟨1, 8, .func, [.nilFunc]⟩,
  ⟨1, 8, .func, [.nilFunc]⟩,
  ⟨1, 8, .func, [.nilFunc]⟩,
  ⟨1, 8, .func, [.nilFunc]⟩,
  ⟨0, 0, .other, []⟩,
  ⟨1, 8, .func, [.nilFunc]⟩,
  ⟨1, 8, .func, [.nilFunc]⟩,
  ⟨1, 8, .func, [.nilFunc]⟩,
  ⟨1, 24, .slice 46, [.slice none 0 0]⟩,
  ⟨1, 8, .func, [.nilFunc]⟩,
  ⟨1, 8, .func, [.nilFunc]⟩,
  ⟨1, 8, .func, [.nilFunc]⟩,
  ⟨1, 8, .func, [.nilFunc]⟩,
  ⟨1, 8, .func, [.nilFunc]⟩,
  ⟨1, 8, .func, [.nilFunc]⟩,
  ⟨1, 8, .func, [.nilFunc]⟩,
  ⟨1, 8, .func, [.nilFunc]⟩,
  ⟨1, 8, .func, [.nilFunc]⟩,
  ⟨1, 8, .func, [.nilFunc]⟩,
  ⟨1, 8, .func, [.nilFunc]⟩,
  ⟨1, 8, .func, [.nilFunc]⟩,
  ⟨1, 8, .func, [.nilFunc]⟩,
  ⟨1, 8, .func, [.nilFunc]⟩,
  ⟨1, 8, .func, [.nilFunc]⟩,
  ⟨1, 8, .func, [.nilFunc]⟩,
  ⟨1, 8, .func, [.nilFunc]⟩,
  ⟨1, 8, .func, [.nilFunc]⟩,
  ⟨1, 8, .func, [.nilFunc]⟩,
  ⟨1, 8, .func, [.nilFunc]⟩,
  ⟨1, 8, .ptr 106, [.pointer none]⟩,
  ⟨1, 8, .func, [.nilFunc]⟩,
  ⟨1, 8, .func, [.nilFunc]⟩,
  ⟨1, 8, .func, [.nilFunc]⟩,
  ⟨1, 8, .func, [.nilFunc]⟩,
  ⟨1, 8, .ptr 25, [.pointer none]⟩,
  ⟨1, 8, .func, [.nilFunc]⟩,
  ⟨1, 8, .func, [.nilFunc]⟩,
  ⟨1, 8, .func, [.nilFunc]⟩,
  ⟨1, 8, .func, [.nilFunc]⟩,
  ⟨1, 8, .func, [.nilFunc]⟩,
  ⟨1, 8, .func, [.nilFunc]⟩,
  ⟨0, 0, .other, []⟩,
  ⟨1, 8, .func, [.nilFunc]⟩,
  ⟨1, 8, .func, [.nilFunc]⟩,
  ⟨1, 8, .func, [.nilFunc]⟩,
  ⟨1, 8, .func, [.nilFunc]⟩,
  ⟨1, 8, .func, [.nilFunc]⟩,
  ⟨1, 8, .func, [.nilFunc]⟩,
  ⟨1, 8, .func, [.nilFunc]⟩,
  ⟨1, 8, .func, [.nilFunc]⟩,
  ⟨1, 8, .func, [.nilFunc]⟩,
  ⟨1, 8, .func, [.nilFunc]⟩,
  ⟨1, 8, .func, [.nilFunc]⟩,
  ⟨1, 8, .func, [.nilFunc]⟩,
  ⟨1, 8, .func, [.nilFunc]⟩,
  ⟨1, 8, .func, [.nilFunc]⟩,
  ⟨3, 24, .struct [(0, 3), (1, 3), (2, 4)], [.int .i64 0, .int .i64 0, .bool false]⟩,
  ⟨3, 24, .struct [(0, 3), (1, 3), (2, 4)], [.int .i64 0, .int .i64 0, .bool false]⟩,
  ⟨1, 8, .func, [.nilFunc]⟩,
  ⟨1, 8, .func, [.nilFunc]⟩,
  ⟨1, 8, .func, [.nilFunc]⟩,
  ⟨1, 8, .func, [.nilFunc]⟩,
  ⟨0, 0, .other, []⟩,
  ⟨0, 0, .other, []⟩,
  ⟨0, 0, .other, []⟩,
  ⟨0, 0, .other, []⟩,
  ⟨0, 0, .other, []⟩,
  ⟨1, 8, .func, [.nilFunc]⟩,
  ⟨1, 4, .int .u32, [.int .u32 0]⟩,
  ⟨0, 0, .other, []⟩,
  ⟨0, 0, .other, []⟩,
  ⟨1, 8, .func, [.nilFunc]⟩,
  ⟨1, 8, .ptr 5, [.pointer none]⟩,
  ⟨0, 0, .other, []⟩,
  ⟨0, 0, .other, []⟩,
  ⟨0, 0, .other, []⟩,
  ⟨0, 0, .other, []⟩,
  ⟨0, 0, .other, []⟩
  ], []⟩
theorem trow1 : RowOK T Tryz.prog 1 ⟨1, 8, .func, [.nilFunc]⟩ := ⟨Tryz.t1, _, _, Tryz.type1, rfl, rfl, rfl, rfl, rfl, rfl, fun h => Bool.noConfusion h, Tryz.underlying1, rfl, ⟨_, _, _, rfl⟩⟩
theorem trow2 : RowOK T Tryz.prog 2 ⟨1, 8, .int .i64, [.int .i64 0]⟩ := ⟨Tryz.t2, _, _, Tryz.type2, rfl, rfl, rfl, rfl, rfl, rfl, fun h => Bool.noConfusion h, Tryz.underlying2, rfl, rfl⟩
theorem trow3 : RowOK T Tryz.prog 3 ⟨1, 8, .int .i64, [.int .i64 0]⟩ := ⟨Tryz.t3, _, _, Tryz.type3, rfl, rfl, rfl, rfl, rfl, rfl, fun h => Bool.noConfusion h, Tryz.underlying3, rfl, rfl⟩
theorem trow4 : RowOK T Tryz.prog 4 ⟨1, 1, .bool, [.bool false]⟩ := ⟨Tryz.t4, _, _, Tryz.type4, rfl, rfl, rfl, rfl, rfl, rfl, fun h => Bool.noConfusion h, Tryz.underlying4, rfl, rfl⟩
theorem trow5 : RowOK T Tryz.prog 5 ⟨1, 1, .int .u8, [.int .u8 0]⟩ := ⟨Tryz.t5, _, _, Tryz.type5, rfl, rfl, rfl, rfl, rfl, rfl, fun h => Bool.noConfusion h, Tryz.underlying5, rfl, rfl⟩
theorem trow9 : RowOK T Tryz.prog 9 ⟨1, 16, .str, [.string ByteArray.empty]⟩ := ⟨Tryz.t9, _, _, Tryz.type9, rfl, rfl, rfl, rfl, rfl, rfl, fun h => Bool.noConfusion h, Tryz.underlying9, rfl, rfl⟩
theorem trow12 : RowOK T Tryz.prog 12 ⟨1, 8, .int .u64, [.int .u64 0]⟩ := ⟨Tryz.t12, _, _, Tryz.type12, rfl, rfl, rfl, rfl, rfl, rfl, fun h => Bool.noConfusion h, Tryz.underlying12, rfl, rfl⟩
theorem trow21 : RowOK T Tryz.prog 21 ⟨1, 4, .int .i32, [.int .i32 0]⟩ := ⟨Tryz.t21, _, _, Tryz.type21, rfl, rfl, rfl, rfl, rfl, rfl, fun h => Bool.noConfusion h, Tryz.underlying21, rfl, rfl⟩
theorem trow22 : RowOK T Tryz.prog 22 ⟨1, 24, .slice 3, [.slice none 0 0]⟩ := ⟨Tryz.t22, _, _, Tryz.type22, rfl, rfl, rfl, rfl, rfl, rfl, fun h => Bool.noConfusion h, Tryz.underlying22, rfl, ⟨rfl, by decide⟩⟩
theorem trow23 : RowOK T Tryz.prog 23 ⟨16, 128, .arr 16 3, [.int .i64 0, .int .i64 0, .int .i64 0, .int .i64 0, .int .i64 0, .int .i64 0, .int .i64 0, .int .i64 0, .int .i64 0, .int .i64 0, .int .i64 0, .int .i64 0, .int .i64 0, .int .i64 0, .int .i64 0, .int .i64 0]⟩ := ⟨Tryz.t23, _, _, Tryz.type23, rfl, rfl, rfl, rfl, rfl, rfl, fun _ => ⟨_, rfl⟩, Tryz.underlying23, rfl, ⟨rfl, by decide, by kernel_rfl⟩⟩
theorem trow24 : RowOK T Tryz.prog 24 ⟨20, 192, .struct [(0, 3), (1, 22), (2, 22), (3, 3), (4, 23)], [.int .i64 0, .slice none 0 0, .slice none 0 0, .int .i64 0, .int .i64 0, .int .i64 0, .int .i64 0, .int .i64 0, .int .i64 0, .int .i64 0, .int .i64 0, .int .i64 0, .int .i64 0, .int .i64 0, .int .i64 0, .int .i64 0, .int .i64 0, .int .i64 0, .int .i64 0, .int .i64 0]⟩ := ⟨Tryz.t24, _, _, Tryz.type24, rfl, rfl, rfl, rfl, rfl, rfl, fun _ => ⟨_, rfl⟩, Tryz.underlying24, rfl, ⟨⟨_, rfl, rfl, by kernel_rfl⟩, by decide, by kernel_rfl, by kernel_rfl⟩⟩
theorem trow25 : RowOK T Tryz.prog 25 ⟨20, 192, .struct [(0, 3), (1, 22), (2, 22), (3, 3), (4, 23)], [.int .i64 0, .slice none 0 0, .slice none 0 0, .int .i64 0, .int .i64 0, .int .i64 0, .int .i64 0, .int .i64 0, .int .i64 0, .int .i64 0, .int .i64 0, .int .i64 0, .int .i64 0, .int .i64 0, .int .i64 0, .int .i64 0, .int .i64 0, .int .i64 0, .int .i64 0, .int .i64 0]⟩ := ⟨Tryz.t25, _, _, Tryz.type25, rfl, rfl, rfl, rfl, rfl, rfl, fun _ => ⟨_, rfl⟩, Tryz.underlying25, rfl, ⟨⟨_, rfl, rfl, by kernel_rfl⟩, by decide, by kernel_rfl, by kernel_rfl⟩⟩
theorem trow26 : RowOK T Tryz.prog 26 ⟨1, 24, .slice 106, [.slice none 0 0]⟩ := ⟨Tryz.t26, _, _, Tryz.type26, rfl, rfl, rfl, rfl, rfl, rfl, fun h => Bool.noConfusion h, Tryz.underlying26, rfl, ⟨rfl, by decide⟩⟩
theorem trow27 : RowOK T Tryz.prog 27 ⟨3, 40, .struct [(0, 3), (1, 3), (2, 26)], [.int .i64 0, .int .i64 0, .slice none 0 0]⟩ := ⟨Tryz.t27, _, _, Tryz.type27, rfl, rfl, rfl, rfl, rfl, rfl, fun _ => ⟨_, rfl⟩, Tryz.underlying27, rfl, ⟨⟨_, rfl, rfl, by kernel_rfl⟩, by decide, by kernel_rfl, by kernel_rfl⟩⟩
theorem trow28 : RowOK T Tryz.prog 28 ⟨3, 40, .struct [(0, 3), (1, 3), (2, 26)], [.int .i64 0, .int .i64 0, .slice none 0 0]⟩ := ⟨Tryz.t28, _, _, Tryz.type28, rfl, rfl, rfl, rfl, rfl, rfl, fun _ => ⟨_, rfl⟩, Tryz.underlying28, rfl, ⟨⟨_, rfl, rfl, by kernel_rfl⟩, by decide, by kernel_rfl, by kernel_rfl⟩⟩
theorem trow29 : RowOK T Tryz.prog 29 ⟨1, 24, .slice 56, [.slice none 0 0]⟩ := ⟨Tryz.t29, _, _, Tryz.type29, rfl, rfl, rfl, rfl, rfl, rfl, fun h => Bool.noConfusion h, Tryz.underlying29, rfl, ⟨rfl, by decide⟩⟩
theorem trow30 : RowOK T Tryz.prog 30 ⟨2, 16, .struct [(0, 5), (1, 3)], [.int .u8 0, .int .i64 0]⟩ := ⟨Tryz.t30, _, _, Tryz.type30, rfl, rfl, rfl, rfl, rfl, rfl, fun _ => ⟨_, rfl⟩, Tryz.underlying30, rfl, ⟨⟨_, rfl, rfl, by kernel_rfl⟩, by decide, by kernel_rfl, by kernel_rfl⟩⟩
theorem trow31 : RowOK T Tryz.prog 31 ⟨2, 16, .struct [(0, 5), (1, 3)], [.int .u8 0, .int .i64 0]⟩ := ⟨Tryz.t31, _, _, Tryz.type31, rfl, rfl, rfl, rfl, rfl, rfl, fun _ => ⟨_, rfl⟩, Tryz.underlying31, rfl, ⟨⟨_, rfl, rfl, by kernel_rfl⟩, by decide, by kernel_rfl, by kernel_rfl⟩⟩
theorem trow32 : RowOK T Tryz.prog 32 ⟨1, 8, .int .i64, [.int .i64 0]⟩ := ⟨Tryz.t32, _, _, Tryz.type32, rfl, rfl, rfl, rfl, rfl, rfl, fun h => Bool.noConfusion h, Tryz.underlying32, rfl, rfl⟩
theorem trow33 : RowOK T Tryz.prog 33 ⟨6, 40, .struct [(0, 3), (1, 3), (2, 3), (3, 4), (4, 4), (5, 32)], [.int .i64 0, .int .i64 0, .int .i64 0, .bool false, .bool false, .int .i64 0]⟩ := ⟨Tryz.t33, _, _, Tryz.type33, rfl, rfl, rfl, rfl, rfl, rfl, fun _ => ⟨_, rfl⟩, Tryz.underlying33, rfl, ⟨⟨_, rfl, rfl, by kernel_rfl⟩, by decide, by kernel_rfl, by kernel_rfl⟩⟩
theorem trow34 : RowOK T Tryz.prog 34 ⟨6, 40, .struct [(0, 3), (1, 3), (2, 3), (3, 4), (4, 4), (5, 32)], [.int .i64 0, .int .i64 0, .int .i64 0, .bool false, .bool false, .int .i64 0]⟩ := ⟨Tryz.t34, _, _, Tryz.type34, rfl, rfl, rfl, rfl, rfl, rfl, fun _ => ⟨_, rfl⟩, Tryz.underlying34, rfl, ⟨⟨_, rfl, rfl, by kernel_rfl⟩, by decide, by kernel_rfl, by kernel_rfl⟩⟩
theorem trow35 : RowOK T Tryz.prog 35 ⟨4, 40, .struct [(0, 9), (1, 3), (2, 3), (3, 4)], [.string ByteArray.empty, .int .i64 0, .int .i64 0, .bool false]⟩ := ⟨Tryz.t35, _, _, Tryz.type35, rfl, rfl, rfl, rfl, rfl, rfl, fun _ => ⟨_, rfl⟩, Tryz.underlying35, rfl, ⟨⟨_, rfl, rfl, by kernel_rfl⟩, by decide, by kernel_rfl, by kernel_rfl⟩⟩
theorem trow36 : RowOK T Tryz.prog 36 ⟨4, 40, .struct [(0, 9), (1, 3), (2, 3), (3, 4)], [.string ByteArray.empty, .int .i64 0, .int .i64 0, .bool false]⟩ := ⟨Tryz.t36, _, _, Tryz.type36, rfl, rfl, rfl, rfl, rfl, rfl, fun _ => ⟨_, rfl⟩, Tryz.underlying36, rfl, ⟨⟨_, rfl, rfl, by kernel_rfl⟩, by decide, by kernel_rfl, by kernel_rfl⟩⟩
theorem trow37 : RowOK T Tryz.prog 37 ⟨15, 128, .struct [(0, 5), (1, 5), (2, 34), (8, 36), (12, 3), (13, 22), (14, 32)], [.int .u8 0, .int .u8 0, .int .i64 0, .int .i64 0, .int .i64 0, .bool false, .bool false, .int .i64 0, .string ByteArray.empty, .int .i64 0, .int .i64 0, .bool false, .int .i64 0, .slice none 0 0, .int .i64 0]⟩ := ⟨Tryz.t37, _, _, Tryz.type37, rfl, rfl, rfl, rfl, rfl, rfl, fun _ => ⟨_, rfl⟩, Tryz.underlying37, rfl, ⟨⟨_, rfl, rfl, by kernel_rfl⟩, by decide, by kernel_rfl, by kernel_rfl⟩⟩
theorem trow38 : RowOK T Tryz.prog 38 ⟨15, 128, .struct [(0, 5), (1, 5), (2, 34), (8, 36), (12, 3), (13, 22), (14, 32)], [.int .u8 0, .int .u8 0, .int .i64 0, .int .i64 0, .int .i64 0, .bool false, .bool false, .int .i64 0, .string ByteArray.empty, .int .i64 0, .int .i64 0, .bool false, .int .i64 0, .slice none 0 0, .int .i64 0]⟩ := ⟨Tryz.t38, _, _, Tryz.type38, rfl, rfl, rfl, rfl, rfl, rfl, fun _ => ⟨_, rfl⟩, Tryz.underlying38, rfl, ⟨⟨_, rfl, rfl, by kernel_rfl⟩, by decide, by kernel_rfl, by kernel_rfl⟩⟩
theorem trow39 : RowOK T Tryz.prog 39 ⟨1, 24, .slice 36, [.slice none 0 0]⟩ := ⟨Tryz.t39, _, _, Tryz.type39, rfl, rfl, rfl, rfl, rfl, rfl, fun h => Bool.noConfusion h, Tryz.underlying39, rfl, ⟨rfl, by decide⟩⟩
theorem trow40 : RowOK T Tryz.prog 40 ⟨76, 720, .struct [(0, 25), (20, 3), (21, 28), (24, 29), (25, 31), (27, 38), (42, 38), (57, 38), (72, 3), (73, 9), (74, 39), (75, 3)], [.int .i64 0, .slice none 0 0, .slice none 0 0, .int .i64 0, .int .i64 0, .int .i64 0, .int .i64 0, .int .i64 0, .int .i64 0, .int .i64 0, .int .i64 0, .int .i64 0, .int .i64 0, .int .i64 0, .int .i64 0, .int .i64 0, .int .i64 0, .int .i64 0, .int .i64 0, .int .i64 0, .int .i64 0, .int .i64 0, .int .i64 0, .slice none 0 0, .slice none 0 0, .int .u8 0, .int .i64 0, .int .u8 0, .int .u8 0, .int .i64 0, .int .i64 0, .int .i64 0, .bool false, .bool false, .int .i64 0, .string ByteArray.empty, .int .i64 0, .int .i64 0, .bool false, .int .i64 0, .slice none 0 0, .int .i64 0, .int .u8 0, .int .u8 0, .int .i64 0, .int .i64 0, .int .i64 0, .bool false, .bool false, .int .i64 0, .string ByteArray.empty, .int .i64 0, .int .i64 0, .bool false, .int .i64 0, .slice none 0 0, .int .i64 0, .int .u8 0, .int .u8 0, .int .i64 0, .int .i64 0, .int .i64 0, .bool false, .bool false, .int .i64 0, .string ByteArray.empty, .int .i64 0, .int .i64 0, .bool false, .int .i64 0, .slice none 0 0, .int .i64 0, .int .i64 0, .string ByteArray.empty, .slice none 0 0, .int .i64 0]⟩ := ⟨Tryz.t40, _, _, Tryz.type40, rfl, rfl, rfl, rfl, rfl, rfl, fun _ => ⟨_, rfl⟩, Tryz.underlying40, rfl, ⟨⟨_, rfl, rfl, by kernel_rfl⟩, by decide, by kernel_rfl, by kernel_rfl⟩⟩
theorem trow41 : RowOK T Tryz.prog 41 ⟨76, 720, .struct [(0, 25), (20, 3), (21, 28), (24, 29), (25, 31), (27, 38), (42, 38), (57, 38), (72, 3), (73, 9), (74, 39), (75, 3)], [.int .i64 0, .slice none 0 0, .slice none 0 0, .int .i64 0, .int .i64 0, .int .i64 0, .int .i64 0, .int .i64 0, .int .i64 0, .int .i64 0, .int .i64 0, .int .i64 0, .int .i64 0, .int .i64 0, .int .i64 0, .int .i64 0, .int .i64 0, .int .i64 0, .int .i64 0, .int .i64 0, .int .i64 0, .int .i64 0, .int .i64 0, .slice none 0 0, .slice none 0 0, .int .u8 0, .int .i64 0, .int .u8 0, .int .u8 0, .int .i64 0, .int .i64 0, .int .i64 0, .bool false, .bool false, .int .i64 0, .string ByteArray.empty, .int .i64 0, .int .i64 0, .bool false, .int .i64 0, .slice none 0 0, .int .i64 0, .int .u8 0, .int .u8 0, .int .i64 0, .int .i64 0, .int .i64 0, .bool false, .bool false, .int .i64 0, .string ByteArray.empty, .int .i64 0, .int .i64 0, .bool false, .int .i64 0, .slice none 0 0, .int .i64 0, .int .u8 0, .int .u8 0, .int .i64 0, .int .i64 0, .int .i64 0, .bool false, .bool false, .int .i64 0, .string ByteArray.empty, .int .i64 0, .int .i64 0, .bool false, .int .i64 0, .slice none 0 0, .int .i64 0, .int .i64 0, .string ByteArray.empty, .slice none 0 0, .int .i64 0]⟩ := ⟨Tryz.t41, _, _, Tryz.type41, rfl, rfl, rfl, rfl, rfl, rfl, fun _ => ⟨_, rfl⟩, Tryz.underlying41, rfl, ⟨⟨_, rfl, rfl, by kernel_rfl⟩, by decide, by kernel_rfl, by kernel_rfl⟩⟩
theorem trow42 : RowOK T Tryz.prog 42 ⟨15, 136, .struct [(0, 5), (1, 3), (2, 3), (3, 3), (4, 3), (5, 4), (6, 4), (7, 3), (8, 3), (9, 22), (10, 36), (14, 32)], [.int .u8 0, .int .i64 0, .int .i64 0, .int .i64 0, .int .i64 0, .bool false, .bool false, .int .i64 0, .int .i64 0, .slice none 0 0, .string ByteArray.empty, .int .i64 0, .int .i64 0, .bool false, .int .i64 0]⟩ := ⟨Tryz.t42, _, _, Tryz.type42, rfl, rfl, rfl, rfl, rfl, rfl, fun _ => ⟨_, rfl⟩, Tryz.underlying42, rfl, ⟨⟨_, rfl, rfl, by kernel_rfl⟩, by decide, by kernel_rfl, by kernel_rfl⟩⟩
theorem trow43 : RowOK T Tryz.prog 43 ⟨15, 136, .struct [(0, 5), (1, 3), (2, 3), (3, 3), (4, 3), (5, 4), (6, 4), (7, 3), (8, 3), (9, 22), (10, 36), (14, 32)], [.int .u8 0, .int .i64 0, .int .i64 0, .int .i64 0, .int .i64 0, .bool false, .bool false, .int .i64 0, .int .i64 0, .slice none 0 0, .string ByteArray.empty, .int .i64 0, .int .i64 0, .bool false, .int .i64 0]⟩ := ⟨Tryz.t43, _, _, Tryz.type43, rfl, rfl, rfl, rfl, rfl, rfl, fun _ => ⟨_, rfl⟩, Tryz.underlying43, rfl, ⟨⟨_, rfl, rfl, by kernel_rfl⟩, by decide, by kernel_rfl, by kernel_rfl⟩⟩
theorem trow44 : RowOK T Tryz.prog 44 ⟨1, 8, .func, [.nilFunc]⟩ := ⟨Tryz.t44, _, _, Tryz.type44, rfl, rfl, rfl, rfl, rfl, rfl, fun h => Bool.noConfusion h, Tryz.underlying44, rfl, ⟨_, _, _, rfl⟩⟩
theorem trow45 : RowOK T Tryz.prog 45 ⟨1, 8, .func, [.nilFunc]⟩ := ⟨Tryz.t45, _, _, Tryz.type45, rfl, rfl, rfl, rfl, rfl, rfl, fun h => Bool.noConfusion h, Tryz.underlying45, rfl, ⟨_, _, _, rfl⟩⟩
theorem trow46 : RowOK T Tryz.prog 46 ⟨1, 8, .func, [.nilFunc]⟩ := ⟨Tryz.t46, _, _, Tryz.type46, rfl, rfl, rfl, rfl, rfl, rfl, fun h => Bool.noConfusion h, Tryz.underlying46, rfl, ⟨_, _, _, rfl⟩⟩
theorem trow48 : RowOK T Tryz.prog 48 ⟨1, 8, .func, [.nilFunc]⟩ := ⟨Tryz.t48, _, _, Tryz.type48, rfl, rfl, rfl, rfl, rfl, rfl, fun h => Bool.noConfusion h, Tryz.underlying48, rfl, ⟨_, _, _, rfl⟩⟩
theorem trow49 : RowOK T Tryz.prog 49 ⟨1, 8, .func, [.nilFunc]⟩ := ⟨Tryz.t49, _, _, Tryz.type49, rfl, rfl, rfl, rfl, rfl, rfl, fun h => Bool.noConfusion h, Tryz.underlying49, rfl, ⟨_, _, _, rfl⟩⟩
theorem trow50 : RowOK T Tryz.prog 50 ⟨1, 8, .func, [.nilFunc]⟩ := ⟨Tryz.t50, _, _, Tryz.type50, rfl, rfl, rfl, rfl, rfl, rfl, fun h => Bool.noConfusion h, Tryz.underlying50, rfl, ⟨_, _, _, rfl⟩⟩
theorem trow51 : RowOK T Tryz.prog 51 ⟨1, 8, .func, [.nilFunc]⟩ := ⟨Tryz.t51, _, _, Tryz.type51, rfl, rfl, rfl, rfl, rfl, rfl, fun h => Bool.noConfusion h, Tryz.underlying51, rfl, ⟨_, _, _, rfl⟩⟩
theorem trow52 : RowOK T Tryz.prog 52 ⟨1, 8, .func, [.nilFunc]⟩ := ⟨Tryz.t52, _, _, Tryz.type52, rfl, rfl, rfl, rfl, rfl, rfl, fun h => Bool.noConfusion h, Tryz.underlying52, rfl, ⟨_, _, _, rfl⟩⟩
theorem trow53 : RowOK T Tryz.prog 53 ⟨1, 8, .func, [.nilFunc]⟩ := ⟨Tryz.t53, _, _, Tryz.type53, rfl, rfl, rfl, rfl, rfl, rfl, fun h => Bool.noConfusion h, Tryz.underlying53, rfl, ⟨_, _, _, rfl⟩⟩
theorem trow54 : RowOK T Tryz.prog 54 ⟨1, 8, .func, [.nilFunc]⟩ := ⟨Tryz.t54, _, _, Tryz.type54, rfl, rfl, rfl, rfl, rfl, rfl, fun h => Bool.noConfusion h, Tryz.underlying54, rfl, ⟨_, _, _, rfl⟩⟩
theorem trow55 : RowOK T Tryz.prog 55 ⟨17, 152, .struct [(0, 3), (1, 3), (2, 43)], [.int .i64 0, .int .i64 0, .int .u8 0, .int .i64 0, .int .i64 0, .int .i64 0, .int .i64 0, .bool false, .bool false, .int .i64 0, .int .i64 0, .slice none 0 0, .string ByteArray.empty, .int .i64 0, .int .i64 0, .bool false, .int .i64 0]⟩ := ⟨Tryz.t55, _, _, Tryz.type55, rfl, rfl, rfl, rfl, rfl, rfl, fun _ => ⟨_, rfl⟩, Tryz.underlying55, rfl, ⟨⟨_, rfl, rfl, by kernel_rfl⟩, by decide, by kernel_rfl, by kernel_rfl⟩⟩
theorem trow56 : RowOK T Tryz.prog 56 ⟨17, 152, .struct [(0, 3), (1, 3), (2, 43)], [.int .i64 0, .int .i64 0, .int .u8 0, .int .i64 0, .int .i64 0, .int .i64 0, .int .i64 0, .bool false, .bool false, .int .i64 0, .int .i64 0, .slice none 0 0, .string ByteArray.empty, .int .i64 0, .int .i64 0, .bool false, .int .i64 0]⟩ := ⟨Tryz.t56, _, _, Tryz.type56, rfl, rfl, rfl, rfl, rfl, rfl, fun _ => ⟨_, rfl⟩, Tryz.underlying56, rfl, ⟨⟨_, rfl, rfl, by kernel_rfl⟩, by decide, by kernel_rfl, by kernel_rfl⟩⟩
theorem trow57 : RowOK T Tryz.prog 57 ⟨1, 8, .func, [.nilFunc]⟩ := ⟨Tryz.t57, _, _, Tryz.type57, rfl, rfl, rfl, rfl, rfl, rfl, fun h => Bool.noConfusion h, Tryz.underlying57, rfl, ⟨_, _, _, rfl⟩⟩
theorem trow59 : RowOK T Tryz.prog 59 ⟨1, 8, .func, [.nilFunc]⟩ := ⟨Tryz.t59, _, _, Tryz.type59, rfl, rfl, rfl, rfl, rfl, rfl, fun h => Bool.noConfusion h, Tryz.underlying59, rfl, ⟨_, _, _, rfl⟩⟩
theorem trow61 : RowOK T Tryz.prog 61 ⟨1, 8, .func, [.nilFunc]⟩ := ⟨Tryz.t61, _, _, Tryz.type61, rfl, rfl, rfl, rfl, rfl, rfl, fun h => Bool.noConfusion h, Tryz.underlying61, rfl, ⟨_, _, _, rfl⟩⟩
theorem trow63 : RowOK T Tryz.prog 63 ⟨1, 8, .func, [.nilFunc]⟩ := ⟨Tryz.t63, _, _, Tryz.type63, rfl, rfl, rfl, rfl, rfl, rfl, fun h => Bool.noConfusion h, Tryz.underlying63, rfl, ⟨_, _, _, rfl⟩⟩
theorem trow64 : RowOK T Tryz.prog 64 ⟨1, 24, .slice 43, [.slice none 0 0]⟩ := ⟨Tryz.t64, _, _, Tryz.type64, rfl, rfl, rfl, rfl, rfl, rfl, fun h => Bool.noConfusion h, Tryz.underlying64, rfl, ⟨rfl, by decide⟩⟩
theorem trow65 : RowOK T Tryz.prog 65 ⟨1, 8, .func, [.nilFunc]⟩ := ⟨Tryz.t65, _, _, Tryz.type65, rfl, rfl, rfl, rfl, rfl, rfl, fun h => Bool.noConfusion h, Tryz.underlying65, rfl, ⟨_, _, _, rfl⟩⟩
theorem trow66 : RowOK T Tryz.prog 66 ⟨1, 8, .func, [.nilFunc]⟩ := ⟨Tryz.t66, _, _, Tryz.type66, rfl, rfl, rfl, rfl, rfl, rfl, fun h => Bool.noConfusion h, Tryz.underlying66, rfl, ⟨_, _, _, rfl⟩⟩
theorem trow67 : RowOK T Tryz.prog 67 ⟨1, 8, .func, [.nilFunc]⟩ := ⟨Tryz.t67, _, _, Tryz.type67, rfl, rfl, rfl, rfl, rfl, rfl, fun h => Bool.noConfusion h, Tryz.underlying67, rfl, ⟨_, _, _, rfl⟩⟩
theorem trow68 : RowOK T Tryz.prog 68 ⟨1, 8, .func, [.nilFunc]⟩ := ⟨Tryz.t68, _, _, Tryz.type68, rfl, rfl, rfl, rfl, rfl, rfl, fun h => Bool.noConfusion h, Tryz.underlying68, rfl, ⟨_, _, _, rfl⟩⟩
theorem trow69 : RowOK T Tryz.prog 69 ⟨1, 8, .func, [.nilFunc]⟩ := ⟨Tryz.t69, _, _, Tryz.type69, rfl, rfl, rfl, rfl, rfl, rfl, fun h => Bool.noConfusion h, Tryz.underlying69, rfl, ⟨_, _, _, rfl⟩⟩
theorem trow70 : RowOK T Tryz.prog 70 ⟨1, 8, .func, [.nilFunc]⟩ := ⟨Tryz.t70, _, _, Tryz.type70, rfl, rfl, rfl, rfl, rfl, rfl, fun h => Bool.noConfusion h, Tryz.underlying70, rfl, ⟨_, _, _, rfl⟩⟩
theorem trow71 : RowOK T Tryz.prog 71 ⟨1, 8, .func, [.nilFunc]⟩ := ⟨Tryz.t71, _, _, Tryz.type71, rfl, rfl, rfl, rfl, rfl, rfl, fun h => Bool.noConfusion h, Tryz.underlying71, rfl, ⟨_, _, _, rfl⟩⟩
theorem trow73 : RowOK T Tryz.prog 73 ⟨1, 8, .func, [.nilFunc]⟩ := ⟨Tryz.t73, _, _, Tryz.type73, rfl, rfl, rfl, rfl, rfl, rfl, fun h => Bool.noConfusion h, Tryz.underlying73, rfl, ⟨_, _, _, rfl⟩⟩
theorem trow74 : RowOK T Tryz.prog 74 ⟨1, 8, .func, [.nilFunc]⟩ := ⟨Tryz.t74, _, _, Tryz.type74, rfl, rfl, rfl, rfl, rfl, rfl, fun h => Bool.noConfusion h, Tryz.underlying74, rfl, ⟨_, _, _, rfl⟩⟩
theorem trow76 : RowOK T Tryz.prog 76 ⟨1, 8, .map 5 74, [.map none]⟩ := ⟨Tryz.t76, _, _, Tryz.type76, rfl, rfl, rfl, rfl, rfl, rfl, fun h => Bool.noConfusion h, Tryz.underlying76, rfl, rfl⟩
theorem trow77 : RowOK T Tryz.prog 77 ⟨1, 8, .func, [.nilFunc]⟩ := ⟨Tryz.t77, _, _, Tryz.type77, rfl, rfl, rfl, rfl, rfl, rfl, fun h => Bool.noConfusion h, Tryz.underlying77, rfl, ⟨_, _, _, rfl⟩⟩
theorem trow78 : RowOK T Tryz.prog 78 ⟨1, 8, .ptr 41, [.pointer none]⟩ := ⟨Tryz.t78, _, _, Tryz.type78, rfl, rfl, rfl, rfl, rfl, rfl, fun h => Bool.noConfusion h, Tryz.underlying78, rfl, rfl⟩
theorem trow79 : RowOK T Tryz.prog 79 ⟨1, 8, .func, [.nilFunc]⟩ := ⟨Tryz.t79, _, _, Tryz.type79, rfl, rfl, rfl, rfl, rfl, rfl, fun h => Bool.noConfusion h, Tryz.underlying79, rfl, ⟨_, _, _, rfl⟩⟩
theorem trow80 : RowOK T Tryz.prog 80 ⟨1, 8, .func, [.nilFunc]⟩ := ⟨Tryz.t80, _, _, Tryz.type80, rfl, rfl, rfl, rfl, rfl, rfl, fun h => Bool.noConfusion h, Tryz.underlying80, rfl, ⟨_, _, _, rfl⟩⟩
theorem trow81 : RowOK T Tryz.prog 81 ⟨1, 8, .func, [.nilFunc]⟩ := ⟨Tryz.t81, _, _, Tryz.type81, rfl, rfl, rfl, rfl, rfl, rfl, fun h => Bool.noConfusion h, Tryz.underlying81, rfl, ⟨_, _, _, rfl⟩⟩
theorem trow82 : RowOK T Tryz.prog 82 ⟨1, 8, .func, [.nilFunc]⟩ := ⟨Tryz.t82, _, _, Tryz.type82, rfl, rfl, rfl, rfl, rfl, rfl, fun h => Bool.noConfusion h, Tryz.underlying82, rfl, ⟨_, _, _, rfl⟩⟩
theorem trow83 : RowOK T Tryz.prog 83 ⟨1, 8, .func, [.nilFunc]⟩ := ⟨Tryz.t83, _, _, Tryz.type83, rfl, rfl, rfl, rfl, rfl, rfl, fun h => Bool.noConfusion h, Tryz.underlying83, rfl, ⟨_, _, _, rfl⟩⟩
theorem trow84 : RowOK T Tryz.prog 84 ⟨1, 8, .func, [.nilFunc]⟩ := ⟨Tryz.t84, _, _, Tryz.type84, rfl, rfl, rfl, rfl, rfl, rfl, fun h => Bool.noConfusion h, Tryz.underlying84, rfl, ⟨_, _, _, rfl⟩⟩
theorem trow85 : RowOK T Tryz.prog 85 ⟨1, 8, .func, [.nilFunc]⟩ := ⟨Tryz.t85, _, _, Tryz.type85, rfl, rfl, rfl, rfl, rfl, rfl, fun h => Bool.noConfusion h, Tryz.underlying85, rfl, ⟨_, _, _, rfl⟩⟩
theorem trow86 : RowOK T Tryz.prog 86 ⟨1, 8, .func, [.nilFunc]⟩ := ⟨Tryz.t86, _, _, Tryz.type86, rfl, rfl, rfl, rfl, rfl, rfl, fun h => Bool.noConfusion h, Tryz.underlying86, rfl, ⟨_, _, _, rfl⟩⟩
theorem trow87 : RowOK T Tryz.prog 87 ⟨1, 8, .func, [.nilFunc]⟩ := ⟨Tryz.t87, _, _, Tryz.type87, rfl, rfl, rfl, rfl, rfl, rfl, fun h => Bool.noConfusion h, Tryz.underlying87, rfl, ⟨_, _, _, rfl⟩⟩
theorem trow88 : RowOK T Tryz.prog 88 ⟨1, 8, .func, [.nilFunc]⟩ := ⟨Tryz.t88, _, _, Tryz.type88, rfl, rfl, rfl, rfl, rfl, rfl, fun h => Bool.noConfusion h, Tryz.underlying88, rfl, ⟨_, _, _, rfl⟩⟩
theorem trow89 : RowOK T Tryz.prog 89 ⟨1, 8, .func, [.nilFunc]⟩ := ⟨Tryz.t89, _, _, Tryz.type89, rfl, rfl, rfl, rfl, rfl, rfl, fun h => Bool.noConfusion h, Tryz.underlying89, rfl, ⟨_, _, _, rfl⟩⟩
theorem trow90 : RowOK T Tryz.prog 90 ⟨1, 8, .func, [.nilFunc]⟩ := ⟨Tryz.t90, _, _, Tryz.type90, rfl, rfl, rfl, rfl, rfl, rfl, fun h => Bool.noConfusion h, Tryz.underlying90, rfl, ⟨_, _, _, rfl⟩⟩
theorem trow91 : RowOK T Tryz.prog 91 ⟨1, 8, .func, [.nilFunc]⟩ := ⟨Tryz.t91, _, _, Tryz.type91, rfl, rfl, rfl, rfl, rfl, rfl, fun h => Bool.noConfusion h, Tryz.underlying91, rfl, ⟨_, _, _, rfl⟩⟩
theorem trow92 : RowOK T Tryz.prog 92 ⟨1, 8, .func, [.nilFunc]⟩ := ⟨Tryz.t92, _, _, Tryz.type92, rfl, rfl, rfl, rfl, rfl, rfl, fun h => Bool.noConfusion h, Tryz.underlying92, rfl, ⟨_, _, _, rfl⟩⟩
theorem trow93 : RowOK T Tryz.prog 93 ⟨1, 8, .func, [.nilFunc]⟩ := ⟨Tryz.t93, _, _, Tryz.type93, rfl, rfl, rfl, rfl, rfl, rfl, fun h => Bool.noConfusion h, Tryz.underlying93, rfl, ⟨_, _, _, rfl⟩⟩
theorem trow94 : RowOK T Tryz.prog 94 ⟨1, 8, .func, [.nilFunc]⟩ := ⟨Tryz.t94, _, _, Tryz.type94, rfl, rfl, rfl, rfl, rfl, rfl, fun h => Bool.noConfusion h, Tryz.underlying94, rfl, ⟨_, _, _, rfl⟩⟩
theorem trow95 : RowOK T Tryz.prog 95 ⟨1, 8, .func, [.nilFunc]⟩ := ⟨Tryz.t95, _, _, Tryz.type95, rfl, rfl, rfl, rfl, rfl, rfl, fun h => Bool.noConfusion h, Tryz.underlying95, rfl, ⟨_, _, _, rfl⟩⟩
theorem trow96 : RowOK T Tryz.prog 96 ⟨1, 8, .func, [.nilFunc]⟩ := ⟨Tryz.t96, _, _, Tryz.type96, rfl, rfl, rfl, rfl, rfl, rfl, fun h => Bool.noConfusion h, Tryz.underlying96, rfl, ⟨_, _, _, rfl⟩⟩
theorem trow97 : RowOK T Tryz.prog 97 ⟨1, 8, .func, [.nilFunc]⟩ := ⟨Tryz.t97, _, _, Tryz.type97, rfl, rfl, rfl, rfl, rfl, rfl, fun h => Bool.noConfusion h, Tryz.underlying97, rfl, ⟨_, _, _, rfl⟩⟩
theorem trow98 : RowOK T Tryz.prog 98 ⟨1, 8, .func, [.nilFunc]⟩ := ⟨Tryz.t98, _, _, Tryz.type98, rfl, rfl, rfl, rfl, rfl, rfl, fun h => Bool.noConfusion h, Tryz.underlying98, rfl, ⟨_, _, _, rfl⟩⟩
theorem trow99 : RowOK T Tryz.prog 99 ⟨1, 8, .func, [.nilFunc]⟩ := ⟨Tryz.t99, _, _, Tryz.type99, rfl, rfl, rfl, rfl, rfl, rfl, fun h => Bool.noConfusion h, Tryz.underlying99, rfl, ⟨_, _, _, rfl⟩⟩
theorem trow100 : RowOK T Tryz.prog 100 ⟨1, 8, .func, [.nilFunc]⟩ := ⟨Tryz.t100, _, _, Tryz.type100, rfl, rfl, rfl, rfl, rfl, rfl, fun h => Bool.noConfusion h, Tryz.underlying100, rfl, ⟨_, _, _, rfl⟩⟩
theorem trow101 : RowOK T Tryz.prog 101 ⟨1, 8, .func, [.nilFunc]⟩ := ⟨Tryz.t101, _, _, Tryz.type101, rfl, rfl, rfl, rfl, rfl, rfl, fun h => Bool.noConfusion h, Tryz.underlying101, rfl, ⟨_, _, _, rfl⟩⟩
theorem trow102 : RowOK T Tryz.prog 102 ⟨1, 8, .func, [.nilFunc]⟩ := ⟨Tryz.t102, _, _, Tryz.type102, rfl, rfl, rfl, rfl, rfl, rfl, fun h => Bool.noConfusion h, Tryz.underlying102, rfl, ⟨_, _, _, rfl⟩⟩
theorem trow103 : RowOK T Tryz.prog 103 ⟨1, 8, .func, [.nilFunc]⟩ := ⟨Tryz.t103, _, _, Tryz.type103, rfl, rfl, rfl, rfl, rfl, rfl, fun h => Bool.noConfusion h, Tryz.underlying103, rfl, ⟨_, _, _, rfl⟩⟩
theorem trow104 : RowOK T Tryz.prog 104 ⟨1, 8, .func, [.nilFunc]⟩ := ⟨Tryz.t104, _, _, Tryz.type104, rfl, rfl, rfl, rfl, rfl, rfl, fun h => Bool.noConfusion h, Tryz.underlying104, rfl, ⟨_, _, _, rfl⟩⟩
theorem trow105 : RowOK T Tryz.prog 105 ⟨20, 176, .struct [(0, 3), (1, 43), (16, 5), (17, 3), (18, 3), (19, 3)], [.int .i64 0, .int .u8 0, .int .i64 0, .int .i64 0, .int .i64 0, .int .i64 0, .bool false, .bool false, .int .i64 0, .int .i64 0, .slice none 0 0, .string ByteArray.empty, .int .i64 0, .int .i64 0, .bool false, .int .i64 0, .int .u8 0, .int .i64 0, .int .i64 0, .int .i64 0]⟩ := ⟨Tryz.t105, _, _, Tryz.type105, rfl, rfl, rfl, rfl, rfl, rfl, fun _ => ⟨_, rfl⟩, Tryz.underlying105, rfl, ⟨⟨_, rfl, rfl, by kernel_rfl⟩, by decide, by kernel_rfl, by kernel_rfl⟩⟩
theorem trow106 : RowOK T Tryz.prog 106 ⟨20, 176, .struct [(0, 3), (1, 43), (16, 5), (17, 3), (18, 3), (19, 3)], [.int .i64 0, .int .u8 0, .int .i64 0, .int .i64 0, .int .i64 0, .int .i64 0, .bool false, .bool false, .int .i64 0, .int .i64 0, .slice none 0 0, .string ByteArray.empty, .int .i64 0, .int .i64 0, .bool false, .int .i64 0, .int .u8 0, .int .i64 0, .int .i64 0, .int .i64 0]⟩ := ⟨Tryz.t106, _, _, Tryz.type106, rfl, rfl, rfl, rfl, rfl, rfl, fun _ => ⟨_, rfl⟩, Tryz.underlying106, rfl, ⟨⟨_, rfl, rfl, by kernel_rfl⟩, by decide, by kernel_rfl, by kernel_rfl⟩⟩
theorem trow108 : RowOK T Tryz.prog 108 ⟨1, 8, .func, [.nilFunc]⟩ := ⟨Tryz.t108, _, _, Tryz.type108, rfl, rfl, rfl, rfl, rfl, rfl, fun h => Bool.noConfusion h, Tryz.underlying108, rfl, ⟨_, _, _, rfl⟩⟩
theorem trow110 : RowOK T Tryz.prog 110 ⟨1, 8, .func, [.nilFunc]⟩ := ⟨Tryz.t110, _, _, Tryz.type110, rfl, rfl, rfl, rfl, rfl, rfl, fun h => Bool.noConfusion h, Tryz.underlying110, rfl, ⟨_, _, _, rfl⟩⟩
theorem trow111 : RowOK T Tryz.prog 111 ⟨1, 8, .func, [.nilFunc]⟩ := ⟨Tryz.t111, _, _, Tryz.type111, rfl, rfl, rfl, rfl, rfl, rfl, fun h => Bool.noConfusion h, Tryz.underlying111, rfl, ⟨_, _, _, rfl⟩⟩
theorem trow112 : RowOK T Tryz.prog 112 ⟨1, 8, .func, [.nilFunc]⟩ := ⟨Tryz.t112, _, _, Tryz.type112, rfl, rfl, rfl, rfl, rfl, rfl, fun h => Bool.noConfusion h, Tryz.underlying112, rfl, ⟨_, _, _, rfl⟩⟩
theorem trow113 : RowOK T Tryz.prog 113 ⟨1, 8, .func, [.nilFunc]⟩ := ⟨Tryz.t113, _, _, Tryz.type113, rfl, rfl, rfl, rfl, rfl, rfl, fun h => Bool.noConfusion h, Tryz.underlying113, rfl, ⟨_, _, _, rfl⟩⟩
theorem trow115 : RowOK T Tryz.prog 115 ⟨1, 8, .func, [.nilFunc]⟩ := ⟨Tryz.t115, _, _, Tryz.type115, rfl, rfl, rfl, rfl, rfl, rfl, fun h => Bool.noConfusion h, Tryz.underlying115, rfl, ⟨_, _, _, rfl⟩⟩
theorem trow116 : RowOK T Tryz.prog 116 ⟨1, 8, .func, [.nilFunc]⟩ := ⟨Tryz.t116, _, _, Tryz.type116, rfl, rfl, rfl, rfl, rfl, rfl, fun h => Bool.noConfusion h, Tryz.underlying116, rfl, ⟨_, _, _, rfl⟩⟩
theorem trow117 : RowOK T Tryz.prog 117 ⟨1, 8, .func, [.nilFunc]⟩ := ⟨Tryz.t117, _, _, Tryz.type117, rfl, rfl, rfl, rfl, rfl, rfl, fun h => Bool.noConfusion h, Tryz.underlying117, rfl, ⟨_, _, _, rfl⟩⟩
theorem trow118 : RowOK T Tryz.prog 118 ⟨1, 24, .slice 46, [.slice none 0 0]⟩ := ⟨Tryz.t118, _, _, Tryz.type118, rfl, rfl, rfl, rfl, rfl, rfl, fun h => Bool.noConfusion h, Tryz.underlying118, rfl, ⟨rfl, by decide⟩⟩
theorem trow119 : RowOK T Tryz.prog 119 ⟨1, 8, .func, [.nilFunc]⟩ := ⟨Tryz.t119, _, _, Tryz.type119, rfl, rfl, rfl, rfl, rfl, rfl, fun h => Bool.noConfusion h, Tryz.underlying119, rfl, ⟨_, _, _, rfl⟩⟩
theorem trow120 : RowOK T Tryz.prog 120 ⟨1, 8, .func, [.nilFunc]⟩ := ⟨Tryz.t120, _, _, Tryz.type120, rfl, rfl, rfl, rfl, rfl, rfl, fun h => Bool.noConfusion h, Tryz.underlying120, rfl, ⟨_, _, _, rfl⟩⟩
theorem trow121 : RowOK T Tryz.prog 121 ⟨1, 8, .func, [.nilFunc]⟩ := ⟨Tryz.t121, _, _, Tryz.type121, rfl, rfl, rfl, rfl, rfl, rfl, fun h => Bool.noConfusion h, Tryz.underlying121, rfl, ⟨_, _, _, rfl⟩⟩
theorem trow122 : RowOK T Tryz.prog 122 ⟨1, 8, .func, [.nilFunc]⟩ := ⟨Tryz.t122, _, _, Tryz.type122, rfl, rfl, rfl, rfl, rfl, rfl, fun h => Bool.noConfusion h, Tryz.underlying122, rfl, ⟨_, _, _, rfl⟩⟩
theorem trow123 : RowOK T Tryz.prog 123 ⟨1, 8, .func, [.nilFunc]⟩ := ⟨Tryz.t123, _, _, Tryz.type123, rfl, rfl, rfl, rfl, rfl, rfl, fun h => Bool.noConfusion h, Tryz.underlying123, rfl, ⟨_, _, _, rfl⟩⟩
theorem trow124 : RowOK T Tryz.prog 124 ⟨1, 8, .func, [.nilFunc]⟩ := ⟨Tryz.t124, _, _, Tryz.type124, rfl, rfl, rfl, rfl, rfl, rfl, fun h => Bool.noConfusion h, Tryz.underlying124, rfl, ⟨_, _, _, rfl⟩⟩
theorem trow125 : RowOK T Tryz.prog 125 ⟨1, 8, .func, [.nilFunc]⟩ := ⟨Tryz.t125, _, _, Tryz.type125, rfl, rfl, rfl, rfl, rfl, rfl, fun h => Bool.noConfusion h, Tryz.underlying125, rfl, ⟨_, _, _, rfl⟩⟩
theorem trow126 : RowOK T Tryz.prog 126 ⟨1, 8, .func, [.nilFunc]⟩ := ⟨Tryz.t126, _, _, Tryz.type126, rfl, rfl, rfl, rfl, rfl, rfl, fun h => Bool.noConfusion h, Tryz.underlying126, rfl, ⟨_, _, _, rfl⟩⟩
theorem trow127 : RowOK T Tryz.prog 127 ⟨1, 8, .func, [.nilFunc]⟩ := ⟨Tryz.t127, _, _, Tryz.type127, rfl, rfl, rfl, rfl, rfl, rfl, fun h => Bool.noConfusion h, Tryz.underlying127, rfl, ⟨_, _, _, rfl⟩⟩
theorem trow128 : RowOK T Tryz.prog 128 ⟨1, 8, .func, [.nilFunc]⟩ := ⟨Tryz.t128, _, _, Tryz.type128, rfl, rfl, rfl, rfl, rfl, rfl, fun h => Bool.noConfusion h, Tryz.underlying128, rfl, ⟨_, _, _, rfl⟩⟩
theorem trow129 : RowOK T Tryz.prog 129 ⟨1, 8, .func, [.nilFunc]⟩ := ⟨Tryz.t129, _, _, Tryz.type129, rfl, rfl, rfl, rfl, rfl, rfl, fun h => Bool.noConfusion h, Tryz.underlying129, rfl, ⟨_, _, _, rfl⟩⟩
theorem trow130 : RowOK T Tryz.prog 130 ⟨1, 8, .func, [.nilFunc]⟩ := ⟨Tryz.t130, _, _, Tryz.type130, rfl, rfl, rfl, rfl, rfl, rfl, fun h => Bool.noConfusion h, Tryz.underlying130, rfl, ⟨_, _, _, rfl⟩⟩
theorem trow131 : RowOK T Tryz.prog 131 ⟨1, 8, .func, [.nilFunc]⟩ := ⟨Tryz.t131, _, _, Tryz.type131, rfl, rfl, rfl, rfl, rfl, rfl, fun h => Bool.noConfusion h, Tryz.underlying131, rfl, ⟨_, _, _, rfl⟩⟩
theorem trow132 : RowOK T Tryz.prog 132 ⟨1, 8, .func, [.nilFunc]⟩ := ⟨Tryz.t132, _, _, Tryz.type132, rfl, rfl, rfl, rfl, rfl, rfl, fun h => Bool.noConfusion h, Tryz.underlying132, rfl, ⟨_, _, _, rfl⟩⟩
theorem trow133 : RowOK T Tryz.prog 133 ⟨1, 8, .func, [.nilFunc]⟩ := ⟨Tryz.t133, _, _, Tryz.type133, rfl, rfl, rfl, rfl, rfl, rfl, fun h => Bool.noConfusion h, Tryz.underlying133, rfl, ⟨_, _, _, rfl⟩⟩
theorem trow134 : RowOK T Tryz.prog 134 ⟨1, 8, .func, [.nilFunc]⟩ := ⟨Tryz.t134, _, _, Tryz.type134, rfl, rfl, rfl, rfl, rfl, rfl, fun h => Bool.noConfusion h, Tryz.underlying134, rfl, ⟨_, _, _, rfl⟩⟩
theorem trow135 : RowOK T Tryz.prog 135 ⟨1, 8, .func, [.nilFunc]⟩ := ⟨Tryz.t135, _, _, Tryz.type135, rfl, rfl, rfl, rfl, rfl, rfl, fun h => Bool.noConfusion h, Tryz.underlying135, rfl, ⟨_, _, _, rfl⟩⟩
theorem trow136 : RowOK T Tryz.prog 136 ⟨1, 8, .func, [.nilFunc]⟩ := ⟨Tryz.t136, _, _, Tryz.type136, rfl, rfl, rfl, rfl, rfl, rfl, fun h => Bool.noConfusion h, Tryz.underlying136, rfl, ⟨_, _, _, rfl⟩⟩
theorem trow137 : RowOK T Tryz.prog 137 ⟨1, 8, .func, [.nilFunc]⟩ := ⟨Tryz.t137, _, _, Tryz.type137, rfl, rfl, rfl, rfl, rfl, rfl, fun h => Bool.noConfusion h, Tryz.underlying137, rfl, ⟨_, _, _, rfl⟩⟩
theorem trow138 : RowOK T Tryz.prog 138 ⟨1, 8, .func, [.nilFunc]⟩ := ⟨Tryz.t138, _, _, Tryz.type138, rfl, rfl, rfl, rfl, rfl, rfl, fun h => Bool.noConfusion h, Tryz.underlying138, rfl, ⟨_, _, _, rfl⟩⟩
theorem trow139 : RowOK T Tryz.prog 139 ⟨1, 8, .ptr 106, [.pointer none]⟩ := ⟨Tryz.t139, _, _, Tryz.type139, rfl, rfl, rfl, rfl, rfl, rfl, fun h => Bool.noConfusion h, Tryz.underlying139, rfl, rfl⟩
theorem trow140 : RowOK T Tryz.prog 140 ⟨1, 8, .func, [.nilFunc]⟩ := ⟨Tryz.t140, _, _, Tryz.type140, rfl, rfl, rfl, rfl, rfl, rfl, fun h => Bool.noConfusion h, Tryz.underlying140, rfl, ⟨_, _, _, rfl⟩⟩
theorem trow141 : RowOK T Tryz.prog 141 ⟨1, 8, .func, [.nilFunc]⟩ := ⟨Tryz.t141, _, _, Tryz.type141, rfl, rfl, rfl, rfl, rfl, rfl, fun h => Bool.noConfusion h, Tryz.underlying141, rfl, ⟨_, _, _, rfl⟩⟩
theorem trow142 : RowOK T Tryz.prog 142 ⟨1, 8, .func, [.nilFunc]⟩ := ⟨Tryz.t142, _, _, Tryz.type142, rfl, rfl, rfl, rfl, rfl, rfl, fun h => Bool.noConfusion h, Tryz.underlying142, rfl, ⟨_, _, _, rfl⟩⟩
theorem trow143 : RowOK T Tryz.prog 143 ⟨1, 8, .func, [.nilFunc]⟩ := ⟨Tryz.t143, _, _, Tryz.type143, rfl, rfl, rfl, rfl, rfl, rfl, fun h => Bool.noConfusion h, Tryz.underlying143, rfl, ⟨_, _, _, rfl⟩⟩
theorem trow144 : RowOK T Tryz.prog 144 ⟨1, 8, .ptr 25, [.pointer none]⟩ := ⟨Tryz.t144, _, _, Tryz.type144, rfl, rfl, rfl, rfl, rfl, rfl, fun h => Bool.noConfusion h, Tryz.underlying144, rfl, rfl⟩
theorem trow145 : RowOK T Tryz.prog 145 ⟨1, 8, .func, [.nilFunc]⟩ := ⟨Tryz.t145, _, _, Tryz.type145, rfl, rfl, rfl, rfl, rfl, rfl, fun h => Bool.noConfusion h, Tryz.underlying145, rfl, ⟨_, _, _, rfl⟩⟩
theorem trow146 : RowOK T Tryz.prog 146 ⟨1, 8, .func, [.nilFunc]⟩ := ⟨Tryz.t146, _, _, Tryz.type146, rfl, rfl, rfl, rfl, rfl, rfl, fun h => Bool.noConfusion h, Tryz.underlying146, rfl, ⟨_, _, _, rfl⟩⟩
theorem trow147 : RowOK T Tryz.prog 147 ⟨1, 8, .func, [.nilFunc]⟩ := ⟨Tryz.t147, _, _, Tryz.type147, rfl, rfl, rfl, rfl, rfl, rfl, fun h => Bool.noConfusion h, Tryz.underlying147, rfl, ⟨_, _, _, rfl⟩⟩
theorem trow148 : RowOK T Tryz.prog 148 ⟨1, 8, .func, [.nilFunc]⟩ := ⟨Tryz.t148, _, _, Tryz.type148, rfl, rfl, rfl, rfl, rfl, rfl, fun h => Bool.noConfusion h, Tryz.underlying148, rfl, ⟨_, _, _, rfl⟩⟩
theorem trow149 : RowOK T Tryz.prog 149 ⟨1, 8, .func, [.nilFunc]⟩ := ⟨Tryz.t149, _, _, Tryz.type149, rfl, rfl, rfl, rfl, rfl, rfl, fun h => Bool.noConfusion h, Tryz.underlying149, rfl, ⟨_, _, _, rfl⟩⟩
theorem trow150 : RowOK T Tryz.prog 150 ⟨1, 8, .func, [.nilFunc]⟩ := ⟨Tryz.t150, _, _, Tryz.type150, rfl, rfl, rfl, rfl, rfl, rfl, fun h => Bool.noConfusion h, Tryz.underlying150, rfl, ⟨_, _, _, rfl⟩⟩
theorem trow152 : RowOK T Tryz.prog 152 ⟨1, 8, .func, [.nilFunc]⟩ := ⟨Tryz.t152, _, _, Tryz.type152, rfl, rfl, rfl, rfl, rfl, rfl, fun h => Bool.noConfusion h, Tryz.underlying152, rfl, ⟨_, _, _, rfl⟩⟩
theorem trow153 : RowOK T Tryz.prog 153 ⟨1, 8, .func, [.nilFunc]⟩ := ⟨Tryz.t153, _, _, Tryz.type153, rfl, rfl, rfl, rfl, rfl, rfl, fun h => Bool.noConfusion h, Tryz.underlying153, rfl, ⟨_, _, _, rfl⟩⟩
theorem trow154 : RowOK T Tryz.prog 154 ⟨1, 8, .func, [.nilFunc]⟩ := ⟨Tryz.t154, _, _, Tryz.type154, rfl, rfl, rfl, rfl, rfl, rfl, fun h => Bool.noConfusion h, Tryz.underlying154, rfl, ⟨_, _, _, rfl⟩⟩
theorem trow155 : RowOK T Tryz.prog 155 ⟨1, 8, .func, [.nilFunc]⟩ := ⟨Tryz.t155, _, _, Tryz.type155, rfl, rfl, rfl, rfl, rfl, rfl, fun h => Bool.noConfusion h, Tryz.underlying155, rfl, ⟨_, _, _, rfl⟩⟩
theorem trow156 : RowOK T Tryz.prog 156 ⟨1, 8, .func, [.nilFunc]⟩ := ⟨Tryz.t156, _, _, Tryz.type156, rfl, rfl, rfl, rfl, rfl, rfl, fun h => Bool.noConfusion h, Tryz.underlying156, rfl, ⟨_, _, _, rfl⟩⟩
theorem trow157 : RowOK T Tryz.prog 157 ⟨1, 8, .func, [.nilFunc]⟩ := ⟨Tryz.t157, _, _, Tryz.type157, rfl, rfl, rfl, rfl, rfl, rfl, fun h => Bool.noConfusion h, Tryz.underlying157, rfl, ⟨_, _, _, rfl⟩⟩
theorem trow158 : RowOK T Tryz.prog 158 ⟨1, 8, .func, [.nilFunc]⟩ := ⟨Tryz.t158, _, _, Tryz.type158, rfl, rfl, rfl, rfl, rfl, rfl, fun h => Bool.noConfusion h, Tryz.underlying158, rfl, ⟨_, _, _, rfl⟩⟩
theorem trow159 : RowOK T Tryz.prog 159 ⟨1, 8, .func, [.nilFunc]⟩ := ⟨Tryz.t159, _, _, Tryz.type159, rfl, rfl, rfl, rfl, rfl, rfl, fun h => Bool.noConfusion h, Tryz.underlying159, rfl, ⟨_, _, _, rfl⟩⟩
theorem trow160 : RowOK T Tryz.prog 160 ⟨1, 8, .func, [.nilFunc]⟩ := ⟨Tryz.t160, _, _, Tryz.type160, rfl, rfl, rfl, rfl, rfl, rfl, fun h => Bool.noConfusion h, Tryz.underlying160, rfl, ⟨_, _, _, rfl⟩⟩
theorem trow161 : RowOK T Tryz.prog 161 ⟨1, 8, .func, [.nilFunc]⟩ := ⟨Tryz.t161, _, _, Tryz.type161, rfl, rfl, rfl, rfl, rfl, rfl, fun h => Bool.noConfusion h, Tryz.underlying161, rfl, ⟨_, _, _, rfl⟩⟩
theorem trow162 : RowOK T Tryz.prog 162 ⟨1, 8, .func, [.nilFunc]⟩ := ⟨Tryz.t162, _, _, Tryz.type162, rfl, rfl, rfl, rfl, rfl, rfl, fun h => Bool.noConfusion h, Tryz.underlying162, rfl, ⟨_, _, _, rfl⟩⟩
theorem trow163 : RowOK T Tryz.prog 163 ⟨1, 8, .func, [.nilFunc]⟩ := ⟨Tryz.t163, _, _, Tryz.type163, rfl, rfl, rfl, rfl, rfl, rfl, fun h => Bool.noConfusion h, Tryz.underlying163, rfl, ⟨_, _, _, rfl⟩⟩
theorem trow164 : RowOK T Tryz.prog 164 ⟨1, 8, .func, [.nilFunc]⟩ := ⟨Tryz.t164, _, _, Tryz.type164, rfl, rfl, rfl, rfl, rfl, rfl, fun h => Bool.noConfusion h, Tryz.underlying164, rfl, ⟨_, _, _, rfl⟩⟩
theorem trow165 : RowOK T Tryz.prog 165 ⟨1, 8, .func, [.nilFunc]⟩ := ⟨Tryz.t165, _, _, Tryz.type165, rfl, rfl, rfl, rfl, rfl, rfl, fun h => Bool.noConfusion h, Tryz.underlying165, rfl, ⟨_, _, _, rfl⟩⟩
theorem trow166 : RowOK T Tryz.prog 166 ⟨3, 24, .struct [(0, 3), (1, 3), (2, 4)], [.int .i64 0, .int .i64 0, .bool false]⟩ := ⟨Tryz.t166, _, _, Tryz.type166, rfl, rfl, rfl, rfl, rfl, rfl, fun _ => ⟨_, rfl⟩, Tryz.underlying166, rfl, ⟨⟨_, rfl, rfl, by kernel_rfl⟩, by decide, by kernel_rfl, by kernel_rfl⟩⟩
theorem trow167 : RowOK T Tryz.prog 167 ⟨3, 24, .struct [(0, 3), (1, 3), (2, 4)], [.int .i64 0, .int .i64 0, .bool false]⟩ := ⟨Tryz.t167, _, _, Tryz.type167, rfl, rfl, rfl, rfl, rfl, rfl, fun _ => ⟨_, rfl⟩, Tryz.underlying167, rfl, ⟨⟨_, rfl, rfl, by kernel_rfl⟩, by decide, by kernel_rfl, by kernel_rfl⟩⟩
theorem trow168 : RowOK T Tryz.prog 168 ⟨1, 8, .func, [.nilFunc]⟩ := ⟨Tryz.t168, _, _, Tryz.type168, rfl, rfl, rfl, rfl, rfl, rfl, fun h => Bool.noConfusion h, Tryz.underlying168, rfl, ⟨_, _, _, rfl⟩⟩
theorem trow169 : RowOK T Tryz.prog 169 ⟨1, 8, .func, [.nilFunc]⟩ := ⟨Tryz.t169, _, _, Tryz.type169, rfl, rfl, rfl, rfl, rfl, rfl, fun h => Bool.noConfusion h, Tryz.underlying169, rfl, ⟨_, _, _, rfl⟩⟩
theorem trow170 : RowOK T Tryz.prog 170 ⟨1, 8, .func, [.nilFunc]⟩ := ⟨Tryz.t170, _, _, Tryz.type170, rfl, rfl, rfl, rfl, rfl, rfl, fun h => Bool.noConfusion h, Tryz.underlying170, rfl, ⟨_, _, _, rfl⟩⟩
theorem trow171 : RowOK T Tryz.prog 171 ⟨1, 8, .func, [.nilFunc]⟩ := ⟨Tryz.t171, _, _, Tryz.type171, rfl, rfl, rfl, rfl, rfl, rfl, fun h => Bool.noConfusion h, Tryz.underlying171, rfl, ⟨_, _, _, rfl⟩⟩
theorem trow177 : RowOK T Tryz.prog 177 ⟨1, 8, .func, [.nilFunc]⟩ := ⟨Tryz.t177, _, _, Tryz.type177, rfl, rfl, rfl, rfl, rfl, rfl, fun h => Bool.noConfusion h, Tryz.underlying177, rfl, ⟨_, _, _, rfl⟩⟩
theorem trow178 : RowOK T Tryz.prog 178 ⟨1, 4, .int .u32, [.int .u32 0]⟩ := ⟨Tryz.t178, _, _, Tryz.type178, rfl, rfl, rfl, rfl, rfl, rfl, fun h => Bool.noConfusion h, Tryz.underlying178, rfl, rfl⟩
theorem trow181 : RowOK T Tryz.prog 181 ⟨1, 8, .func, [.nilFunc]⟩ := ⟨Tryz.t181, _, _, Tryz.type181, rfl, rfl, rfl, rfl, rfl, rfl, fun h => Bool.noConfusion h, Tryz.underlying181, rfl, ⟨_, _, _, rfl⟩⟩
theorem trow182 : RowOK T Tryz.prog 182 ⟨1, 8, .ptr 5, [.pointer none]⟩ := ⟨Tryz.t182, _, _, Tryz.type182, rfl, rfl, rfl, rfl, rfl, rfl, fun h => Bool.noConfusion h, Tryz.underlying182, rfl, rfl⟩
theorem tok : TOK T Tryz.prog := TOK.of (by
  show RowsOK T Tryz.prog 0 _
  exact 
    ⟨fun h => absurd rfl h, ⟨fun _ => trow1, ⟨fun _ => trow2, ⟨fun _ => trow3, ⟨fun _ => trow4, ⟨fun _ => trow5, ⟨fun h => absurd rfl h, ⟨fun h => absurd rfl h, ⟨fun h => absurd rfl h, ⟨fun _ => trow9, ⟨fun h => absurd rfl h, ⟨fun h => absurd rfl h, ⟨fun _ => trow12, ⟨fun h => absurd rfl h, ⟨fun h => absurd rfl h, ⟨fun h => absurd rfl h, ⟨fun h => absurd rfl h, ⟨fun h => absurd rfl h, ⟨fun h => absurd rfl h, ⟨fun h => absurd rfl h, ⟨fun h => absurd rfl h, ⟨fun _ => trow21, ⟨fun _ => trow22, ⟨fun _ => trow23, ⟨fun _ => trow24, ⟨fun _ => trow25, ⟨fun _ => trow26, ⟨fun _ => trow27, ⟨fun _ => trow28, ⟨fun _ => trow29, ⟨fun _ => trow30, ⟨fun _ => trow31, ⟨fun _ => trow32, ⟨fun _ => trow33, ⟨fun _ => trow34, ⟨fun _ => trow35, ⟨fun _ => trow36, ⟨fun _ => trow37, ⟨fun _ => trow38, ⟨fun _ => trow39, ⟨fun _ => trow40, ⟨fun _ => trow41, ⟨fun _ => trow42, ⟨fun _ => trow43, ⟨fun _ => trow44, ⟨fun _ => trow45, ⟨fun _ => trow46, ⟨fun h => absurd rfl h, ⟨fun _ => trow48, ⟨fun _ => trow49, ⟨fun _ => trow50, ⟨fun _ => trow51, ⟨fun _ => trow52, ⟨fun _ => trow53, ⟨fun _ => trow54, ⟨fun _ => trow55, ⟨fun _ => trow56, ⟨fun _ => trow57, ⟨fun h => absurd rfl h, ⟨fun _ => trow59, ⟨fun h => absurd rfl h, ⟨fun _ => trow61, ⟨fun h => absurd rfl h, ⟨fun _ => trow63, ⟨fun _ => trow64, ⟨fun _ => trow65, ⟨fun _ => trow66, ⟨fun _ => trow67, ⟨fun _ => trow68, ⟨fun _ => trow69, ⟨fun _ => trow70, ⟨fun _ => trow71, ⟨fun h => absurd rfl h, ⟨fun _ => trow73, ⟨fun _ => trow74, ⟨fun h => absurd rfl h, ⟨fun _ => trow76, ⟨fun _ => trow77, ⟨fun _ => trow78, ⟨fun _ => trow79, ⟨fun _ => trow80, ⟨fun _ => trow81, ⟨fun _ => trow82, ⟨fun _ => trow83, ⟨fun _ => trow84, ⟨fun _ => trow85, ⟨fun _ => trow86, ⟨fun _ => trow87, ⟨fun _ => trow88, ⟨fun _ => trow89, ⟨fun _ => trow90, ⟨fun _ => trow91, ⟨fun _ => trow92, ⟨fun _ => trow93, ⟨fun _ => trow94, ⟨fun _ => trow95, ⟨fun _ => trow96, ⟨fun _ => trow97, ⟨fun _ => trow98, ⟨fun _ => trow99, ⟨fun _ => trow100, ⟨fun _ => trow101, ⟨fun _ => trow102, ⟨fun _ => trow103, ⟨fun _ => trow104, ⟨fun _ => trow105, ⟨fun _ => trow106, ⟨fun h => absurd rfl h, ⟨fun _ => trow108, ⟨fun h => absurd rfl h, ⟨fun _ => trow110, ⟨fun _ => trow111, ⟨fun _ => trow112, ⟨fun _ => trow113, ⟨fun h => absurd rfl h, ⟨fun _ => trow115, ⟨fun _ => trow116, ⟨fun _ => trow117, ⟨fun _ => trow118, ⟨fun _ => trow119, ⟨fun _ => trow120, ⟨fun _ => trow121, ⟨fun _ => trow122, ⟨fun _ => trow123, ⟨fun _ => trow124, ⟨fun _ => trow125, ⟨fun _ => trow126, ⟨fun _ => trow127, ⟨fun _ => trow128, ⟨fun _ => trow129, ⟨fun _ => trow130, ⟨fun _ => trow131, ⟨fun _ => trow132, ⟨fun _ => trow133, ⟨fun _ => trow134, ⟨fun _ => trow135, ⟨fun _ => trow136, ⟨fun _ => trow137, ⟨fun _ => trow138, ⟨fun _ => trow139, ⟨fun _ => trow140, ⟨fun _ => trow141, ⟨fun _ => trow142, ⟨fun _ => trow143, ⟨fun _ => trow144, ⟨fun _ => trow145, ⟨fun _ => trow146, ⟨fun _ => trow147, ⟨fun _ => trow148, ⟨fun _ => trow149, ⟨fun _ => trow150, ⟨fun h => absurd rfl h, ⟨fun _ => trow152, ⟨fun _ => trow153, ⟨fun _ => trow154, ⟨fun _ => trow155, ⟨fun _ => trow156, ⟨fun _ => trow157, ⟨fun _ => trow158, ⟨fun _ => trow159, ⟨fun _ => trow160, ⟨fun _ => trow161, ⟨fun _ => trow162, ⟨fun _ => trow163, ⟨fun _ => trow164, ⟨fun _ => trow165, ⟨fun _ => trow166, ⟨fun _ => trow167, ⟨fun _ => trow168, ⟨fun _ => trow169, ⟨fun _ => trow170, ⟨fun _ => trow171, ⟨fun h => absurd rfl h, ⟨fun h => absurd rfl h, ⟨fun h => absurd rfl h, ⟨fun h => absurd rfl h, ⟨fun h => absurd rfl h, ⟨fun _ => trow177, ⟨fun _ => trow178, ⟨fun h => absurd rfl h, ⟨fun h => absurd rfl h, ⟨fun _ => trow181, ⟨fun _ => trow182, ⟨fun h => absurd rfl h, ⟨fun h => absurd rfl h, ⟨fun h => absurd rfl h, ⟨fun h => absurd rfl h, ⟨fun h => absurd rfl h, trivial⟩⟩⟩⟩⟩⟩⟩⟩⟩⟩⟩⟩⟩⟩⟩⟩⟩⟩⟩⟩⟩⟩⟩⟩⟩⟩⟩⟩⟩⟩⟩⟩⟩⟩⟩⟩⟩⟩⟩⟩⟩⟩⟩⟩⟩⟩⟩⟩⟩⟩⟩⟩⟩⟩⟩⟩⟩⟩⟩⟩⟩⟩⟩⟩⟩⟩⟩⟩⟩⟩⟩⟩⟩⟩⟩⟩⟩⟩⟩⟩⟩⟩⟩⟩⟩⟩⟩⟩⟩⟩⟩⟩⟩⟩⟩⟩⟩⟩⟩⟩⟩⟩⟩⟩⟩⟩⟩⟩⟩⟩⟩⟩⟩⟩⟩⟩⟩⟩⟩⟩⟩⟩⟩⟩⟩⟩⟩⟩⟩⟩⟩⟩⟩⟩⟩⟩⟩⟩⟩⟩⟩⟩⟩⟩⟩⟩⟩⟩⟩⟩⟩⟩⟩⟩⟩⟩⟩⟩⟩⟩⟩⟩⟩⟩⟩⟩⟩⟩⟩⟩⟩⟩⟩⟩⟩⟩⟩⟩⟩⟩⟩⟩⟩⟩⟩⟩⟩⟩) (by decide)
theorem Tglob : T.glob = [] := rfl
end Go.Proofs.YthjhcmkgadfpmaaGreat
