/-
  The table of the types of this seat's program.
-/
import Derived.Test.YtlcbbjcehaahlaaGreatVsQ
import Derived.Test.YtlcbbjcehaahlaaGreatProg
namespace Go.Proofs.YtlcbbjcehaahlaaGreat
open Go Go.RowKit
set_option maxRecDepth 100000

def T : Tab := ⟨[
  ⟨0, 0, .other, []⟩,
  ⟨1, 8, .func, [.nilFunc]⟩,
  ⟨1, 8, .int .i64, [.int .i64 0]⟩,
  ⟨1, 8, .int .i64, [.int .i64 0]⟩,
  ⟨1, 1, .bool, [.bool false]⟩,
  ⟨1, 1, .int .u8, [.int .u8 0]⟩,
  ⟨0, 0, .other, []⟩,
  ⟨0, 0, .other, []⟩,
  ⟨0, 0, .other, []⟩,
  ⟨1, 16, .str, [.string ByteArray.empty]⟩,
  ⟨0, 0, .other, []⟩,
  ⟨0, 0, .other, []⟩,
  ⟨1, 8, .int .u64, [.int .u64 0]⟩,
  ⟨0, 0, .other, []⟩,
  ⟨0, 0, .other, []⟩,
  ⟨0, 0, .other, []⟩,
  ⟨0, 0, .other, []⟩,
  ⟨0, 0, .other, []⟩,
  ⟨0, 0, .other, []⟩,
  ⟨0, 0, .other, []⟩,
  ⟨0, 0, .other, []⟩,
  ⟨1, 4, .int .i32, [.int .i32 0]⟩,
  ⟨1, 24, .slice 3, [.slice none 0 0]⟩,
  ⟨16, 128, .arr 16 3, [.int .i64 0, .int .i64 0, .int .i64 0, .int .i64 0, .int .i64 0, .int .i64 0, .int .i64 0, .int .i64 0, .int .i64 0, .int .i64 0, .int .i64 0, .int .i64 0, .int .i64 0, .int .i64 0, .int .i64 0, .int .i64 0]⟩,
  ⟨20, 192, .struct [(0, 3), (1, 22), (2, 22), (3, 3), (4, 23)], [.int .i64 0, .slice none 0 0, .slice none 0 0, .int .i64 0, .int .i64 0, .int .i64 0, .int .i64 0, .int .i64 0, .int .i64 0, .int .i64 0, .int .i64 0, .int .i64 0, .int .i64 0, .int .i64 0, .int .i64 0, .int .i64 0, .int .i64 0, .int .i64 0, .int .i64 0, .int .i64 0]⟩,
  ⟨20, 192, .struct [(0, 3), (1, 22), (2, 22), (3, 3), (4, 23)], [.int .i64 0, .slice none 0 0, .slice none 0 0, .int .i64 0, .int .i64 0, .int .i64 0, .int .i64 0, .int .i64 0, .int .i64 0, .int .i64 0, .int .i64 0, .int .i64 0, .int .i64 0, .int .i64 0, .int .i64 0, .int .i64 0, .int .i64 0, .int .i64 0, .int .i64 0, .int .i64 0]⟩,
  ⟨4, 40, .struct [(0, 9), (1, 3), (2, 3), (3, 4)], [.string ByteArray.empty, .int .i64 0, .int .i64 0, .bool false]⟩,
  ⟨4, 40, .struct [(0, 9), (1, 3), (2, 3), (3, 4)], [.string ByteArray.empty, .int .i64 0, .int .i64 0, .bool false]⟩,
  ⟨1, 24, .slice 44, [.slice none 0 0]⟩,
  ⟨1, 8, .func, [.nilFunc]⟩,
  ⟨1, 8, .func, [.nilFunc]⟩,
  ⟨1, 8, .int .i64, [.int .i64 0]⟩,
  ⟨6, 40, .struct [(0, 3), (1, 3), (2, 3), (3, 4), (4, 4), (5, 31)], [.int .i64 0, .int .i64 0, .int .i64 0, .bool false, .bool false, .int .i64 0]⟩,
  ⟨6, 40, .struct [(0, 3), (1, 3), (2, 3), (3, 4), (4, 4), (5, 31)], [.int .i64 0, .int .i64 0, .int .i64 0, .bool false, .bool false, .int .i64 0]⟩,
  ⟨15, 128, .struct [(0, 5), (1, 5), (2, 33), (8, 27), (12, 3), (13, 22), (14, 31)], [.int .u8 0, .int .u8 0, .int .i64 0, .int .i64 0, .int .i64 0, .bool false, .bool false, .int .i64 0, .string ByteArray.empty, .int .i64 0, .int .i64 0, .bool false, .int .i64 0, .slice none 0 0, .int .i64 0]⟩,
  ⟨15, 128, .struct [(0, 5), (1, 5), (2, 33), (8, 27), (12, 3), (13, 22), (14, 31)], [.int .u8 0, .int .u8 0, .int .i64 0, .int .i64 0, .int .i64 0, .bool false, .bool false, .int .i64 0, .string ByteArray.empty, .int .i64 0, .int .i64 0, .bool false, .int .i64 0, .slice none 0 0, .int .i64 0]⟩,
  ⟨1, 24, .slice 40, [.slice none 0 0]⟩,
  ⟨0, 0, .other, []⟩,
  ⟨1, 8, .func, [.nilFunc]⟩,
  ⟨15, 136, .struct [(0, 5), (1, 3), (2, 3), (3, 3), (4, 3), (5, 4), (6, 4), (7, 3), (8, 3), (9, 22), (10, 27), (14, 31)], [.int .u8 0, .int .i64 0, .int .i64 0, .int .i64 0, .int .i64 0, .bool false, .bool false, .int .i64 0, .int .i64 0, .slice none 0 0, .string ByteArray.empty, .int .i64 0, .int .i64 0, .bool false, .int .i64 0]⟩,
  ⟨15, 136, .struct [(0, 5), (1, 3), (2, 3), (3, 3), (4, 3), (5, 4), (6, 4), (7, 3), (8, 3), (9, 22), (10, 27), (14, 31)], [.int .u8 0, .int .i64 0, .int .i64 0, .int .i64 0, .int .i64 0, .bool false, .bool false, .int .i64 0, .int .i64 0, .slice none 0 0, .string ByteArray.empty, .int .i64 0, .int .i64 0, .bool false, .int .i64 0]⟩,
  ⟨0, 0, .other, []⟩,
  ⟨1, 8, .func, [.nilFunc]⟩,
  ⟨5, 48, .struct [(0, 4), (1, 4), (2, 3), (3, 22), (4, 4)], [.bool false, .bool false, .int .i64 0, .slice none 0 0, .bool false]⟩,
  ⟨5, 48, .struct [(0, 4), (1, 4), (2, 3), (3, 22), (4, 4)], [.bool false, .bool false, .int .i64 0, .slice none 0 0, .bool false]⟩,
  ⟨1, 8, .func, [.nilFunc]⟩,
  ⟨1, 8, .func, [.nilFunc]⟩,
  ⟨1, 8, .func, [.nilFunc]⟩,
  ⟨1, 8, .func, [.nilFunc]⟩,
  ⟨1, 8, .func, [.nilFunc]⟩,
  ⟨1, 8, .func, [.nilFunc]⟩,
  ⟨1, 8, .func, [.nilFunc]⟩,
  ⟨1, 8, .func, [.nilFunc]⟩,
  ⟨1, 8, .func, [.nilFunc]⟩,
  ⟨1, 8, .int .u64, [.int .u64 0]⟩,
  ⟨1, 8, .func, [.nilFunc]⟩,
  ⟨1, 8, .func, [.nilFunc]⟩,
  ⟨1, 8, .func, [.nilFunc]⟩,
  ⟨1, 8, .func, [.nilFunc]⟩,
  ⟨1, 8, .func, [.nilFunc]⟩,
  ⟨1, 8, .func, [.nilFunc]⟩,
  ⟨0, 0, .other, []⟩,
  ⟨1, 8, .func, [.nilFunc]⟩,
  ⟨37, 352, .struct [(0, 25), (20, 35), (35, 36), (36, 4)], [.int .i64 0, .slice none 0 0, .slice none 0 0, .int .i64 0, .int .i64 0, .int .i64 0, .int .i64 0, .int .i64 0, .int .i64 0, .int .i64 0, .int .i64 0, .int .i64 0, .int .i64 0, .int .i64 0, .int .i64 0, .int .i64 0, .int .i64 0, .int .i64 0, .int .i64 0, .int .i64 0, .int .u8 0, .int .u8 0, .int .i64 0, .int .i64 0, .int .i64 0, .bool false, .bool false, .int .i64 0, .string ByteArray.empty, .int .i64 0, .int .i64 0, .bool false, .int .i64 0, .slice none 0 0, .int .i64 0, .slice none 0 0, .bool false]⟩,
  ⟨37, 352, .struct [(0, 25), (20, 35), (35, 36), (36, 4)], [.int .i64 0, .slice none 0 0, .slice none 0 0, .int .i64 0, .int .i64 0, .int .i64 0, .int .i64 0, .int .i64 0, .int .i64 0, .int .i64 0, .int .i64 0, .int .i64 0, .int .i64 0, .int .i64 0, .int .i64 0, .int .i64 0, .int .i64 0, .int .i64 0, .int .i64 0, .int .i64 0, .int .u8 0, .int .u8 0, .int .i64 0, .int .i64 0, .int .i64 0, .bool false, .bool false, .int .i64 0, .string ByteArray.empty, .int .i64 0, .int .i64 0, .bool false, .int .i64 0, .slice none 0 0, .int .i64 0, .slice none 0 0, .bool false]⟩,
  ⟨1, 8, .func, [.nilFunc]⟩,
  ⟨1, 8, .func, [.nilFunc]⟩,
  ⟨0, 0, .other, []⟩,
  ⟨1, 8, .map 5 66, [.map none]⟩,
  ⟨1, 8, .func, [.nilFunc]⟩,
  ⟨1, 8, .func, [.nilFunc]⟩,
  ⟨0, 0, .other, []⟩,
  ⟨1, 8, .map 5 70, [.map none]⟩,
  ⟨1, 8, .func, [.nilFunc]⟩,
  ⟨1, 8, .func, [.nilFunc]⟩,
  ⟨1, 8, .func, [.nilFunc]⟩,
  ⟨1, 8, .func, [.nilFunc]⟩,
  ⟨1, 8, .func, [.nilFunc]⟩,
  ⟨1, 8, .func, [.nilFunc]⟩,
  ⟨0, 0, .other, []⟩,
  ⟨1, 8, .func, [.nilFunc]⟩,
  ⟨1, 8, .func, [.nilFunc]⟩,
  ⟨1, 8, .func, [.nilFunc]⟩,
  ⟨1, 8, .func, [.nilFunc]⟩,
  ⟨0, 0, .other, []⟩,
  ⟨1, 8, .func, [.nilFunc]⟩,
  ⟨1, 8, .func, [.nilFunc]⟩,
  ⟨1, 8, .func, [.nilFunc]⟩,
  ⟨1, 8, .func, [.nilFunc]⟩,
  ⟨1, 8, .func, [.nilFunc]⟩,
  ⟨0, 0, .other, []⟩,
  ⟨1, 8, .func, [.nilFunc]⟩,
  ⟨1, 8, .func, [.nilFunc]⟩,
  ⟨1, 8, .ptr 64, [.pointer none]⟩,
  ⟨1, 8, .ptr 35, [.pointer none]⟩,
  ⟨1, 8, .func, [.nilFunc]⟩,
  ⟨1, 8, .func, [.nilFunc]⟩,
  ⟨1, 8, .func, [.nilFunc]⟩,
  ⟨1, 8, .func, [.nilFunc]⟩,
  ⟨1, 8, .func, [.nilFunc]⟩,
  ⟨1, 8, .func, [.nilFunc]⟩,
  ⟨1, 8, .func, [.nilFunc]⟩,
  ⟨1, 8, .func, [.nilFunc]⟩,
  ⟨1, 8, .func, [.nilFunc]⟩,
  ⟨1, 8, .func, [.nilFunc]⟩,
  ⟨1, 8, .func, [.nilFunc]⟩,
  ⟨1, 8, .func, [.nilFunc]⟩,
  ⟨1, 8, .func, [.nilFunc]⟩,
  ⟨1, 8, .func, [.nilFunc]⟩,
  ⟨1, 8, .func, [.nilFunc]⟩,
  ⟨1, 8, .func, [.nilFunc]⟩,
  ⟨1, 8, .func, [.nilFunc]⟩,
  ⟨1, 8, .func, [.nilFunc]⟩,
  ⟨0, 0, .other, []⟩,
  ⟨1, 8, .func, [.nilFunc]⟩,
  ⟨1, 8, .func, [.nilFunc]⟩,
  ⟨1, 8, .func, [.nilFunc]⟩,
  ⟨1, 8, .func, [.nilFunc]⟩,
  ⟨1, 8, .func, [.nilFunc]⟩,
  ⟨1, 8, .func, [.nilFunc]⟩,
  ⟨1, 8, .func, [.nilFunc]⟩,
  ⟨1, 8, .func, [.nilFunc]⟩,
  ⟨1, 8, .func, [.nilFunc]⟩,
  ⟨1, 8, .func, [.nilFunc]⟩,
  ⟨1, 8, .func, [.nilFunc]⟩,
  ⟨1, 8, .func, [.nilFunc]⟩,
  ⟨1, 8, .func, [.nilFunc]⟩,
  ⟨1, 8, .func, [.nilFunc]⟩,
  ⟨1, 8, .func, [.nilFunc]⟩,
  ⟨1, 8, .func, [.nilFunc]⟩,
  ⟨1, 8, .func, [.nilFunc]⟩,
  ⟨1, 8, .func, [.nilFunc]⟩,
  ⟨0, 0, .other, []⟩,
  ⟨0, 0, .other, []⟩,
  ⟨0, 0, .other, []⟩,
  ⟨0, 0, .other, []⟩,
  ⟨0, 0, .other, []⟩,
  ⟨1, 8, .func, [.nilFunc]⟩,
  ⟨1, 4, .int .u32, [.int .u32 0]⟩,
  ⟨0, 0, .other, []⟩,
  ⟨0, 0, .other, []⟩,
  ⟨1, 8, .func, [.nilFunc]⟩,
  ⟨1, 8, .ptr 5, [.pointer none]⟩,
  ⟨0, 0, .other, []⟩,
  ⟨0, 0, .other, []⟩,
  ⟨0, 0, .other, []⟩,
  ⟨0, 0, .other, []⟩,
  ⟨0, 0, .other, []⟩
  ], []⟩

theorem trow1 : RowOK T Tryz.prog 1 ⟨1, 8, .func, [.nilFunc]⟩ := ⟨Tryz.t1, _, _, Tryz.type1, rfl, rfl, rfl, rfl, rfl, rfl, fun h => Bool.noConfusion h, Tryz.underlying1, rfl, ⟨_, _, _, rfl⟩⟩
theorem trow2 : RowOK T Tryz.prog 2 ⟨1, 8, .int .i64, [.int .i64 0]⟩ := ⟨Tryz.t2, _, _, Tryz.type2, rfl, rfl, rfl, rfl, rfl, rfl, fun h => Bool.noConfusion h, Tryz.underlying2, rfl, rfl⟩
theorem trow3 : RowOK T Tryz.prog 3 ⟨1, 8, .int .i64, [.int .i64 0]⟩ := ⟨Tryz.t3, _, _, Tryz.type3, rfl, rfl, rfl, rfl, rfl, rfl, fun h => Bool.noConfusion h, Tryz.underlying3, rfl, rfl⟩
theorem trow4 : RowOK T Tryz.prog 4 ⟨1, 1, .bool, [.bool false]⟩ := ⟨Tryz.t4, _, _, Tryz.type4, rfl, rfl, rfl, rfl, rfl, rfl, fun h => Bool.noConfusion h, Tryz.underlying4, rfl, rfl⟩
theorem trow5 : RowOK T Tryz.prog 5 ⟨1, 1, .int .u8, [.int .u8 0]⟩ := ⟨Tryz.t5, _, _, Tryz.type5, rfl, rfl, rfl, rfl, rfl, rfl, fun h => Bool.noConfusion h, Tryz.underlying5, rfl, rfl⟩
theorem trow9 : RowOK T Tryz.prog 9 ⟨1, 16, .str, [.string ByteArray.empty]⟩ := ⟨Tryz.t9, _, _, Tryz.type9, rfl, rfl, rfl, rfl, rfl, rfl, fun h => Bool.noConfusion h, Tryz.underlying9, rfl, rfl⟩
theorem trow12 : RowOK T Tryz.prog 12 ⟨1, 8, .int .u64, [.int .u64 0]⟩ := ⟨Tryz.t12, _, _, Tryz.type12, rfl, rfl, rfl, rfl, rfl, rfl, fun h => Bool.noConfusion h, Tryz.underlying12, rfl, rfl⟩
theorem trow21 : RowOK T Tryz.prog 21 ⟨1, 4, .int .i32, [.int .i32 0]⟩ := ⟨Tryz.t21, _, _, Tryz.type21, rfl, rfl, rfl, rfl, rfl, rfl, fun h => Bool.noConfusion h, Tryz.underlying21, rfl, rfl⟩
theorem trow22 : RowOK T Tryz.prog 22 ⟨1, 24, .slice 3, [.slice none 0 0]⟩ := ⟨Tryz.t22, _, _, Tryz.type22, rfl, rfl, rfl, rfl, rfl, rfl, fun h => Bool.noConfusion h, Tryz.underlying22, rfl, ⟨rfl, by decide⟩⟩
theorem trow23 : RowOK T Tryz.prog 23 ⟨16, 128, .arr 16 3, [.int .i64 0, .int .i64 0, .int .i64 0, .int .i64 0, .int .i64 0, .int .i64 0, .int .i64 0, .int .i64 0, .int .i64 0, .int .i64 0, .int .i64 0, .int .i64 0, .int .i64 0, .int .i64 0, .int .i64 0, .int .i64 0]⟩ := ⟨Tryz.t23, _, _, Tryz.type23, rfl, rfl, rfl, rfl, rfl, rfl, fun _ => ⟨_, rfl⟩, Tryz.underlying23, rfl, ⟨rfl, by decide, by kernel_rfl⟩⟩
theorem trow24 : RowOK T Tryz.prog 24 ⟨20, 192, .struct [(0, 3), (1, 22), (2, 22), (3, 3), (4, 23)], [.int .i64 0, .slice none 0 0, .slice none 0 0, .int .i64 0, .int .i64 0, .int .i64 0, .int .i64 0, .int .i64 0, .int .i64 0, .int .i64 0, .int .i64 0, .int .i64 0, .int .i64 0, .int .i64 0, .int .i64 0, .int .i64 0, .int .i64 0, .int .i64 0, .int .i64 0, .int .i64 0]⟩ := ⟨Tryz.t24, _, _, Tryz.type24, rfl, rfl, rfl, rfl, rfl, rfl, fun _ => ⟨_, rfl⟩, Tryz.underlying24, rfl, ⟨⟨_, rfl, rfl, by kernel_rfl⟩, by decide, by kernel_rfl, by kernel_rfl⟩⟩
theorem trow25 : RowOK T Tryz.prog 25 ⟨20, 192, .struct [(0, 3), (1, 22), (2, 22), (3, 3), (4, 23)], [.int .i64 0, .slice none 0 0, .slice none 0 0, .int .i64 0, .int .i64 0, .int .i64 0, .int .i64 0, .int .i64 0, .int .i64 0, .int .i64 0, .int .i64 0, .int .i64 0, .int .i64 0, .int .i64 0, .int .i64 0, .int .i64 0, .int .i64 0, .int .i64 0, .int .i64 0, .int .i64 0]⟩ := ⟨Tryz.t25, _, _, Tryz.type25, rfl, rfl, rfl, rfl, rfl, rfl, fun _ => ⟨_, rfl⟩, Tryz.underlying25, rfl, ⟨⟨_, rfl, rfl, by kernel_rfl⟩, by decide, by kernel_rfl, by kernel_rfl⟩⟩
theorem trow26 : RowOK T Tryz.prog 26 ⟨4, 40, .struct [(0, 9), (1, 3), (2, 3), (3, 4)], [.string ByteArray.empty, .int .i64 0, .int .i64 0, .bool false]⟩ := ⟨Tryz.t26, _, _, Tryz.type26, rfl, rfl, rfl, rfl, rfl, rfl, fun _ => ⟨_, rfl⟩, Tryz.underlying26, rfl, ⟨⟨_, rfl, rfl, by kernel_rfl⟩, by decide, by kernel_rfl, by kernel_rfl⟩⟩
theorem trow27 : RowOK T Tryz.prog 27 ⟨4, 40, .struct [(0, 9), (1, 3), (2, 3), (3, 4)], [.string ByteArray.empty, .int .i64 0, .int .i64 0, .bool false]⟩ := ⟨Tryz.t27, _, _, Tryz.type27, rfl, rfl, rfl, rfl, rfl, rfl, fun _ => ⟨_, rfl⟩, Tryz.underlying27, rfl, ⟨⟨_, rfl, rfl, by kernel_rfl⟩, by decide, by kernel_rfl, by kernel_rfl⟩⟩
theorem trow28 : RowOK T Tryz.prog 28 ⟨1, 24, .slice 44, [.slice none 0 0]⟩ := ⟨Tryz.t28, _, _, Tryz.type28, rfl, rfl, rfl, rfl, rfl, rfl, fun h => Bool.noConfusion h, Tryz.underlying28, rfl, ⟨rfl, by decide⟩⟩
theorem trow29 : RowOK T Tryz.prog 29 ⟨1, 8, .func, [.nilFunc]⟩ := ⟨Tryz.t29, _, _, Tryz.type29, rfl, rfl, rfl, rfl, rfl, rfl, fun h => Bool.noConfusion h, Tryz.underlying29, rfl, ⟨_, _, _, rfl⟩⟩
theorem trow30 : RowOK T Tryz.prog 30 ⟨1, 8, .func, [.nilFunc]⟩ := ⟨Tryz.t30, _, _, Tryz.type30, rfl, rfl, rfl, rfl, rfl, rfl, fun h => Bool.noConfusion h, Tryz.underlying30, rfl, ⟨_, _, _, rfl⟩⟩
theorem trow31 : RowOK T Tryz.prog 31 ⟨1, 8, .int .i64, [.int .i64 0]⟩ := ⟨Tryz.t31, _, _, Tryz.type31, rfl, rfl, rfl, rfl, rfl, rfl, fun h => Bool.noConfusion h, Tryz.underlying31, rfl, rfl⟩
theorem trow32 : RowOK T Tryz.prog 32 ⟨6, 40, .struct [(0, 3), (1, 3), (2, 3), (3, 4), (4, 4), (5, 31)], [.int .i64 0, .int .i64 0, .int .i64 0, .bool false, .bool false, .int .i64 0]⟩ := ⟨Tryz.t32, _, _, Tryz.type32, rfl, rfl, rfl, rfl, rfl, rfl, fun _ => ⟨_, rfl⟩, Tryz.underlying32, rfl, ⟨⟨_, rfl, rfl, by kernel_rfl⟩, by decide, by kernel_rfl, by kernel_rfl⟩⟩
theorem trow33 : RowOK T Tryz.prog 33 ⟨6, 40, .struct [(0, 3), (1, 3), (2, 3), (3, 4), (4, 4), (5, 31)], [.int .i64 0, .int .i64 0, .int .i64 0, .bool false, .bool false, .int .i64 0]⟩ := ⟨Tryz.t33, _, _, Tryz.type33, rfl, rfl, rfl, rfl, rfl, rfl, fun _ => ⟨_, rfl⟩, Tryz.underlying33, rfl, ⟨⟨_, rfl, rfl, by kernel_rfl⟩, by decide, by kernel_rfl, by kernel_rfl⟩⟩
theorem trow34 : RowOK T Tryz.prog 34 ⟨15, 128, .struct [(0, 5), (1, 5), (2, 33), (8, 27), (12, 3), (13, 22), (14, 31)], [.int .u8 0, .int .u8 0, .int .i64 0, .int .i64 0, .int .i64 0, .bool false, .bool false, .int .i64 0, .string ByteArray.empty, .int .i64 0, .int .i64 0, .bool false, .int .i64 0, .slice none 0 0, .int .i64 0]⟩ := ⟨Tryz.t34, _, _, Tryz.type34, rfl, rfl, rfl, rfl, rfl, rfl, fun _ => ⟨_, rfl⟩, Tryz.underlying34, rfl, ⟨⟨_, rfl, rfl, by kernel_rfl⟩, by decide, by kernel_rfl, by kernel_rfl⟩⟩
theorem trow35 : RowOK T Tryz.prog 35 ⟨15, 128, .struct [(0, 5), (1, 5), (2, 33), (8, 27), (12, 3), (13, 22), (14, 31)], [.int .u8 0, .int .u8 0, .int .i64 0, .int .i64 0, .int .i64 0, .bool false, .bool false, .int .i64 0, .string ByteArray.empty, .int .i64 0, .int .i64 0, .bool false, .int .i64 0, .slice none 0 0, .int .i64 0]⟩ := ⟨Tryz.t35, _, _, Tryz.type35, rfl, rfl, rfl, rfl, rfl, rfl, fun _ => ⟨_, rfl⟩, Tryz.underlying35, rfl, ⟨⟨_, rfl, rfl, by kernel_rfl⟩, by decide, by kernel_rfl, by kernel_rfl⟩⟩
theorem trow36 : RowOK T Tryz.prog 36 ⟨1, 24, .slice 40, [.slice none 0 0]⟩ := ⟨Tryz.t36, _, _, Tryz.type36, rfl, rfl, rfl, rfl, rfl, rfl, fun h => Bool.noConfusion h, Tryz.underlying36, rfl, ⟨rfl, by decide⟩⟩
theorem trow38 : RowOK T Tryz.prog 38 ⟨1, 8, .func, [.nilFunc]⟩ := ⟨Tryz.t38, _, _, Tryz.type38, rfl, rfl, rfl, rfl, rfl, rfl, fun h => Bool.noConfusion h, Tryz.underlying38, rfl, ⟨_, _, _, rfl⟩⟩
theorem trow39 : RowOK T Tryz.prog 39 ⟨15, 136, .struct [(0, 5), (1, 3), (2, 3), (3, 3), (4, 3), (5, 4), (6, 4), (7, 3), (8, 3), (9, 22), (10, 27), (14, 31)], [.int .u8 0, .int .i64 0, .int .i64 0, .int .i64 0, .int .i64 0, .bool false, .bool false, .int .i64 0, .int .i64 0, .slice none 0 0, .string ByteArray.empty, .int .i64 0, .int .i64 0, .bool false, .int .i64 0]⟩ := ⟨Tryz.t39, _, _, Tryz.type39, rfl, rfl, rfl, rfl, rfl, rfl, fun _ => ⟨_, rfl⟩, Tryz.underlying39, rfl, ⟨⟨_, rfl, rfl, by kernel_rfl⟩, by decide, by kernel_rfl, by kernel_rfl⟩⟩
theorem trow40 : RowOK T Tryz.prog 40 ⟨15, 136, .struct [(0, 5), (1, 3), (2, 3), (3, 3), (4, 3), (5, 4), (6, 4), (7, 3), (8, 3), (9, 22), (10, 27), (14, 31)], [.int .u8 0, .int .i64 0, .int .i64 0, .int .i64 0, .int .i64 0, .bool false, .bool false, .int .i64 0, .int .i64 0, .slice none 0 0, .string ByteArray.empty, .int .i64 0, .int .i64 0, .bool false, .int .i64 0]⟩ := ⟨Tryz.t40, _, _, Tryz.type40, rfl, rfl, rfl, rfl, rfl, rfl, fun _ => ⟨_, rfl⟩, Tryz.underlying40, rfl, ⟨⟨_, rfl, rfl, by kernel_rfl⟩, by decide, by kernel_rfl, by kernel_rfl⟩⟩
theorem trow42 : RowOK T Tryz.prog 42 ⟨1, 8, .func, [.nilFunc]⟩ := ⟨Tryz.t42, _, _, Tryz.type42, rfl, rfl, rfl, rfl, rfl, rfl, fun h => Bool.noConfusion h, Tryz.underlying42, rfl, ⟨_, _, _, rfl⟩⟩
theorem trow43 : RowOK T Tryz.prog 43 ⟨5, 48, .struct [(0, 4), (1, 4), (2, 3), (3, 22), (4, 4)], [.bool false, .bool false, .int .i64 0, .slice none 0 0, .bool false]⟩ := ⟨Tryz.t43, _, _, Tryz.type43, rfl, rfl, rfl, rfl, rfl, rfl, fun _ => ⟨_, rfl⟩, Tryz.underlying43, rfl, ⟨⟨_, rfl, rfl, by kernel_rfl⟩, by decide, by kernel_rfl, by kernel_rfl⟩⟩
theorem trow44 : RowOK T Tryz.prog 44 ⟨5, 48, .struct [(0, 4), (1, 4), (2, 3), (3, 22), (4, 4)], [.bool false, .bool false, .int .i64 0, .slice none 0 0, .bool false]⟩ := ⟨Tryz.t44, _, _, Tryz.type44, rfl, rfl, rfl, rfl, rfl, rfl, fun _ => ⟨_, rfl⟩, Tryz.underlying44, rfl, ⟨⟨_, rfl, rfl, by kernel_rfl⟩, by decide, by kernel_rfl, by kernel_rfl⟩⟩
theorem trow45 : RowOK T Tryz.prog 45 ⟨1, 8, .func, [.nilFunc]⟩ := ⟨Tryz.t45, _, _, Tryz.type45, rfl, rfl, rfl, rfl, rfl, rfl, fun h => Bool.noConfusion h, Tryz.underlying45, rfl, ⟨_, _, _, rfl⟩⟩
theorem trow46 : RowOK T Tryz.prog 46 ⟨1, 8, .func, [.nilFunc]⟩ := ⟨Tryz.t46, _, _, Tryz.type46, rfl, rfl, rfl, rfl, rfl, rfl, fun h => Bool.noConfusion h, Tryz.underlying46, rfl, ⟨_, _, _, rfl⟩⟩
theorem trow47 : RowOK T Tryz.prog 47 ⟨1, 8, .func, [.nilFunc]⟩ := ⟨Tryz.t47, _, _, Tryz.type47, rfl, rfl, rfl, rfl, rfl, rfl, fun h => Bool.noConfusion h, Tryz.underlying47, rfl, ⟨_, _, _, rfl⟩⟩
theorem trow48 : RowOK T Tryz.prog 48 ⟨1, 8, .func, [.nilFunc]⟩ := ⟨Tryz.t48, _, _, Tryz.type48, rfl, rfl, rfl, rfl, rfl, rfl, fun h => Bool.noConfusion h, Tryz.underlying48, rfl, ⟨_, _, _, rfl⟩⟩
theorem trow49 : RowOK T Tryz.prog 49 ⟨1, 8, .func, [.nilFunc]⟩ := ⟨Tryz.t49, _, _, Tryz.type49, rfl, rfl, rfl, rfl, rfl, rfl, fun h => Bool.noConfusion h, Tryz.underlying49, rfl, ⟨_, _, _, rfl⟩⟩
theorem trow50 : RowOK T Tryz.prog 50 ⟨1, 8, .func, [.nilFunc]⟩ := ⟨Tryz.t50, _, _, Tryz.type50, rfl, rfl, rfl, rfl, rfl, rfl, fun h => Bool.noConfusion h, Tryz.underlying50, rfl, ⟨_, _, _, rfl⟩⟩
theorem trow51 : RowOK T Tryz.prog 51 ⟨1, 8, .func, [.nilFunc]⟩ := ⟨Tryz.t51, _, _, Tryz.type51, rfl, rfl, rfl, rfl, rfl, rfl, fun h => Bool.noConfusion h, Tryz.underlying51, rfl, ⟨_, _, _, rfl⟩⟩
theorem trow52 : RowOK T Tryz.prog 52 ⟨1, 8, .func, [.nilFunc]⟩ := ⟨Tryz.t52, _, _, Tryz.type52, rfl, rfl, rfl, rfl, rfl, rfl, fun h => Bool.noConfusion h, Tryz.underlying52, rfl, ⟨_, _, _, rfl⟩⟩
theorem trow53 : RowOK T Tryz.prog 53 ⟨1, 8, .func, [.nilFunc]⟩ := ⟨Tryz.t53, _, _, Tryz.type53, rfl, rfl, rfl, rfl, rfl, rfl, fun h => Bool.noConfusion h, Tryz.underlying53, rfl, ⟨_, _, _, rfl⟩⟩
theorem trow54 : RowOK T Tryz.prog 54 ⟨1, 8, .int .u64, [.int .u64 0]⟩ := ⟨Tryz.t54, _, _, Tryz.type54, rfl, rfl, rfl, rfl, rfl, rfl, fun h => Bool.noConfusion h, Tryz.underlying54, rfl, rfl⟩
theorem trow55 : RowOK T Tryz.prog 55 ⟨1, 8, .func, [.nilFunc]⟩ := ⟨Tryz.t55, _, _, Tryz.type55, rfl, rfl, rfl, rfl, rfl, rfl, fun h => Bool.noConfusion h, Tryz.underlying55, rfl, ⟨_, _, _, rfl⟩⟩
theorem trow56 : RowOK T Tryz.prog 56 ⟨1, 8, .func, [.nilFunc]⟩ := ⟨Tryz.t56, _, _, Tryz.type56, rfl, rfl, rfl, rfl, rfl, rfl, fun h => Bool.noConfusion h, Tryz.underlying56, rfl, ⟨_, _, _, rfl⟩⟩
theorem trow57 : RowOK T Tryz.prog 57 ⟨1, 8, .func, [.nilFunc]⟩ := ⟨Tryz.t57, _, _, Tryz.type57, rfl, rfl, rfl, rfl, rfl, rfl, fun h => Bool.noConfusion h, Tryz.underlying57, rfl, ⟨_, _, _, rfl⟩⟩
theorem trow58 : RowOK T Tryz.prog 58 ⟨1, 8, .func, [.nilFunc]⟩ := ⟨Tryz.t58, _, _, Tryz.type58, rfl, rfl, rfl, rfl, rfl, rfl, fun h => Bool.noConfusion h, Tryz.underlying58, rfl, ⟨_, _, _, rfl⟩⟩
theorem trow59 : RowOK T Tryz.prog 59 ⟨1, 8, .func, [.nilFunc]⟩ := ⟨Tryz.t59, _, _, Tryz.type59, rfl, rfl, rfl, rfl, rfl, rfl, fun h => Bool.noConfusion h, Tryz.underlying59, rfl, ⟨_, _, _, rfl⟩⟩
theorem trow60 : RowOK T Tryz.prog 60 ⟨1, 8, .func, [.nilFunc]⟩ := ⟨Tryz.t60, _, _, Tryz.type60, rfl, rfl, rfl, rfl, rfl, rfl, fun h => Bool.noConfusion h, Tryz.underlying60, rfl, ⟨_, _, _, rfl⟩⟩
theorem trow62 : RowOK T Tryz.prog 62 ⟨1, 8, .func, [.nilFunc]⟩ := ⟨Tryz.t62, _, _, Tryz.type62, rfl, rfl, rfl, rfl, rfl, rfl, fun h => Bool.noConfusion h, Tryz.underlying62, rfl, ⟨_, _, _, rfl⟩⟩
theorem trow63 : RowOK T Tryz.prog 63 ⟨37, 352, .struct [(0, 25), (20, 35), (35, 36), (36, 4)], [.int .i64 0, .slice none 0 0, .slice none 0 0, .int .i64 0, .int .i64 0, .int .i64 0, .int .i64 0, .int .i64 0, .int .i64 0, .int .i64 0, .int .i64 0, .int .i64 0, .int .i64 0, .int .i64 0, .int .i64 0, .int .i64 0, .int .i64 0, .int .i64 0, .int .i64 0, .int .i64 0, .int .u8 0, .int .u8 0, .int .i64 0, .int .i64 0, .int .i64 0, .bool false, .bool false, .int .i64 0, .string ByteArray.empty, .int .i64 0, .int .i64 0, .bool false, .int .i64 0, .slice none 0 0, .int .i64 0, .slice none 0 0, .bool false]⟩ := ⟨Tryz.t63, _, _, Tryz.type63, rfl, rfl, rfl, rfl, rfl, rfl, fun _ => ⟨_, rfl⟩, Tryz.underlying63, rfl, ⟨⟨_, rfl, rfl, by kernel_rfl⟩, by decide, by kernel_rfl, by kernel_rfl⟩⟩
theorem trow64 : RowOK T Tryz.prog 64 ⟨37, 352, .struct [(0, 25), (20, 35), (35, 36), (36, 4)], [.int .i64 0, .slice none 0 0, .slice none 0 0, .int .i64 0, .int .i64 0, .int .i64 0, .int .i64 0, .int .i64 0, .int .i64 0, .int .i64 0, .int .i64 0, .int .i64 0, .int .i64 0, .int .i64 0, .int .i64 0, .int .i64 0, .int .i64 0, .int .i64 0, .int .i64 0, .int .i64 0, .int .u8 0, .int .u8 0, .int .i64 0, .int .i64 0, .int .i64 0, .bool false, .bool false, .int .i64 0, .string ByteArray.empty, .int .i64 0, .int .i64 0, .bool false, .int .i64 0, .slice none 0 0, .int .i64 0, .slice none 0 0, .bool false]⟩ := ⟨Tryz.t64, _, _, Tryz.type64, rfl, rfl, rfl, rfl, rfl, rfl, fun _ => ⟨_, rfl⟩, Tryz.underlying64, rfl, ⟨⟨_, rfl, rfl, by kernel_rfl⟩, by decide, by kernel_rfl, by kernel_rfl⟩⟩
theorem trow65 : RowOK T Tryz.prog 65 ⟨1, 8, .func, [.nilFunc]⟩ := ⟨Tryz.t65, _, _, Tryz.type65, rfl, rfl, rfl, rfl, rfl, rfl, fun h => Bool.noConfusion h, Tryz.underlying65, rfl, ⟨_, _, _, rfl⟩⟩
theorem trow66 : RowOK T Tryz.prog 66 ⟨1, 8, .func, [.nilFunc]⟩ := ⟨Tryz.t66, _, _, Tryz.type66, rfl, rfl, rfl, rfl, rfl, rfl, fun h => Bool.noConfusion h, Tryz.underlying66, rfl, ⟨_, _, _, rfl⟩⟩
theorem trow68 : RowOK T Tryz.prog 68 ⟨1, 8, .map 5 66, [.map none]⟩ := ⟨Tryz.t68, _, _, Tryz.type68, rfl, rfl, rfl, rfl, rfl, rfl, fun h => Bool.noConfusion h, Tryz.underlying68, rfl, rfl⟩
theorem trow69 : RowOK T Tryz.prog 69 ⟨1, 8, .func, [.nilFunc]⟩ := ⟨Tryz.t69, _, _, Tryz.type69, rfl, rfl, rfl, rfl, rfl, rfl, fun h => Bool.noConfusion h, Tryz.underlying69, rfl, ⟨_, _, _, rfl⟩⟩
theorem trow70 : RowOK T Tryz.prog 70 ⟨1, 8, .func, [.nilFunc]⟩ := ⟨Tryz.t70, _, _, Tryz.type70, rfl, rfl, rfl, rfl, rfl, rfl, fun h => Bool.noConfusion h, Tryz.underlying70, rfl, ⟨_, _, _, rfl⟩⟩
theorem trow72 : RowOK T Tryz.prog 72 ⟨1, 8, .map 5 70, [.map none]⟩ := ⟨Tryz.t72, _, _, Tryz.type72, rfl, rfl, rfl, rfl, rfl, rfl, fun h => Bool.noConfusion h, Tryz.underlying72, rfl, rfl⟩
theorem trow73 : RowOK T Tryz.prog 73 ⟨1, 8, .func, [.nilFunc]⟩ := ⟨Tryz.t73, _, _, Tryz.type73, rfl, rfl, rfl, rfl, rfl, rfl, fun h => Bool.noConfusion h, Tryz.underlying73, rfl, ⟨_, _, _, rfl⟩⟩
theorem trow74 : RowOK T Tryz.prog 74 ⟨1, 8, .func, [.nilFunc]⟩ := ⟨Tryz.t74, _, _, Tryz.type74, rfl, rfl, rfl, rfl, rfl, rfl, fun h => Bool.noConfusion h, Tryz.underlying74, rfl, ⟨_, _, _, rfl⟩⟩
theorem trow75 : RowOK T Tryz.prog 75 ⟨1, 8, .func, [.nilFunc]⟩ := ⟨Tryz.t75, _, _, Tryz.type75, rfl, rfl, rfl, rfl, rfl, rfl, fun h => Bool.noConfusion h, Tryz.underlying75, rfl, ⟨_, _, _, rfl⟩⟩
theorem trow76 : RowOK T Tryz.prog 76 ⟨1, 8, .func, [.nilFunc]⟩ := ⟨Tryz.t76, _, _, Tryz.type76, rfl, rfl, rfl, rfl, rfl, rfl, fun h => Bool.noConfusion h, Tryz.underlying76, rfl, ⟨_, _, _, rfl⟩⟩
theorem trow77 : RowOK T Tryz.prog 77 ⟨1, 8, .func, [.nilFunc]⟩ := ⟨Tryz.t77, _, _, Tryz.type77, rfl, rfl, rfl, rfl, rfl, rfl, fun h => Bool.noConfusion h, Tryz.underlying77, rfl, ⟨_, _, _, rfl⟩⟩
theorem trow78 : RowOK T Tryz.prog 78 ⟨1, 8, .func, [.nilFunc]⟩ := ⟨Tryz.t78, _, _, Tryz.type78, rfl, rfl, rfl, rfl, rfl, rfl, fun h => Bool.noConfusion h, Tryz.underlying78, rfl, ⟨_, _, _, rfl⟩⟩
theorem trow80 : RowOK T Tryz.prog 80 ⟨1, 8, .func, [.nilFunc]⟩ := ⟨Tryz.t80, _, _, Tryz.type80, rfl, rfl, rfl, rfl, rfl, rfl, fun h => Bool.noConfusion h, Tryz.underlying80, rfl, ⟨_, _, _, rfl⟩⟩
theorem trow81 : RowOK T Tryz.prog 81 ⟨1, 8, .func, [.nilFunc]⟩ := ⟨Tryz.t81, _, _, Tryz.type81, rfl, rfl, rfl, rfl, rfl, rfl, fun h => Bool.noConfusion h, Tryz.underlying81, rfl, ⟨_, _, _, rfl⟩⟩
theorem trow82 : RowOK T Tryz.prog 82 ⟨1, 8, .func, [.nilFunc]⟩ := ⟨Tryz.t82, _, _, Tryz.type82, rfl, rfl, rfl, rfl, rfl, rfl, fun h => Bool.noConfusion h, Tryz.underlying82, rfl, ⟨_, _, _, rfl⟩⟩
theorem trow83 : RowOK T Tryz.prog 83 ⟨1, 8, .func, [.nilFunc]⟩ := ⟨Tryz.t83, _, _, Tryz.type83, rfl, rfl, rfl, rfl, rfl, rfl, fun h => Bool.noConfusion h, Tryz.underlying83, rfl, ⟨_, _, _, rfl⟩⟩
theorem trow85 : RowOK T Tryz.prog 85 ⟨1, 8, .func, [.nilFunc]⟩ := ⟨Tryz.t85, _, _, Tryz.type85, rfl, rfl, rfl, rfl, rfl, rfl, fun h => Bool.noConfusion h, Tryz.underlying85, rfl, ⟨_, _, _, rfl⟩⟩
theorem trow86 : RowOK T Tryz.prog 86 ⟨1, 8, .func, [.nilFunc]⟩ := ⟨Tryz.t86, _, _, Tryz.type86, rfl, rfl, rfl, rfl, rfl, rfl, fun h => Bool.noConfusion h, Tryz.underlying86, rfl, ⟨_, _, _, rfl⟩⟩
theorem trow87 : RowOK T Tryz.prog 87 ⟨1, 8, .func, [.nilFunc]⟩ := ⟨Tryz.t87, _, _, Tryz.type87, rfl, rfl, rfl, rfl, rfl, rfl, fun h => Bool.noConfusion h, Tryz.underlying87, rfl, ⟨_, _, _, rfl⟩⟩
theorem trow88 : RowOK T Tryz.prog 88 ⟨1, 8, .func, [.nilFunc]⟩ := ⟨Tryz.t88, _, _, Tryz.type88, rfl, rfl, rfl, rfl, rfl, rfl, fun h => Bool.noConfusion h, Tryz.underlying88, rfl, ⟨_, _, _, rfl⟩⟩
theorem trow89 : RowOK T Tryz.prog 89 ⟨1, 8, .func, [.nilFunc]⟩ := ⟨Tryz.t89, _, _, Tryz.type89, rfl, rfl, rfl, rfl, rfl, rfl, fun h => Bool.noConfusion h, Tryz.underlying89, rfl, ⟨_, _, _, rfl⟩⟩
theorem trow91 : RowOK T Tryz.prog 91 ⟨1, 8, .func, [.nilFunc]⟩ := ⟨Tryz.t91, _, _, Tryz.type91, rfl, rfl, rfl, rfl, rfl, rfl, fun h => Bool.noConfusion h, Tryz.underlying91, rfl, ⟨_, _, _, rfl⟩⟩
theorem trow92 : RowOK T Tryz.prog 92 ⟨1, 8, .func, [.nilFunc]⟩ := ⟨Tryz.t92, _, _, Tryz.type92, rfl, rfl, rfl, rfl, rfl, rfl, fun h => Bool.noConfusion h, Tryz.underlying92, rfl, ⟨_, _, _, rfl⟩⟩
theorem trow93 : RowOK T Tryz.prog 93 ⟨1, 8, .ptr 64, [.pointer none]⟩ := ⟨Tryz.t93, _, _, Tryz.type93, rfl, rfl, rfl, rfl, rfl, rfl, fun h => Bool.noConfusion h, Tryz.underlying93, rfl, rfl⟩
theorem trow94 : RowOK T Tryz.prog 94 ⟨1, 8, .ptr 35, [.pointer none]⟩ := ⟨Tryz.t94, _, _, Tryz.type94, rfl, rfl, rfl, rfl, rfl, rfl, fun h => Bool.noConfusion h, Tryz.underlying94, rfl, rfl⟩
theorem trow95 : RowOK T Tryz.prog 95 ⟨1, 8, .func, [.nilFunc]⟩ := ⟨Tryz.t95, _, _, Tryz.type95, rfl, rfl, rfl, rfl, rfl, rfl, fun h => Bool.noConfusion h, Tryz.underlying95, rfl, ⟨_, _, _, rfl⟩⟩
theorem trow96 : RowOK T Tryz.prog 96 ⟨1, 8, .func, [.nilFunc]⟩ := ⟨Tryz.t96, _, _, Tryz.type96, rfl, rfl, rfl, rfl, rfl, rfl, fun h => Bool.noConfusion h, Tryz.underlying96, rfl, ⟨_, _, _, rfl⟩⟩
theorem trow97 : RowOK T Tryz.prog 97 ⟨1, 8, .func, [.nilFunc]⟩ := ⟨Tryz.t97, _, _, Tryz.type97, rfl, rfl, rfl, rfl, rfl, rfl, fun h => Bool.noConfusion h, Tryz.underlying97, rfl, ⟨_, _, _, rfl⟩⟩
theorem trow98 : RowOK T Tryz.prog 98 ⟨1, 8, .func, [.nilFunc]⟩ := ⟨Tryz.t98, _, _, Tryz.type98, rfl, rfl, rfl, rfl, rfl, rfl, fun h => Bool.noConfusion h, Tryz.underlying98, rfl, ⟨_, _, _, rfl⟩⟩
theorem trow99 : RowOK T Tryz.prog 99 ⟨1, 8, .func, [.nilFunc]⟩ := ⟨Tryz.t99, _, _, Tryz.type99, rfl, rfl, rfl, rfl, rfl, rfl, fun h => Bool.noConfusion h, Tryz.underlying99, rfl, ⟨_, _, _, rfl⟩⟩
theorem trow100 : RowOK T Tryz.prog 100 ⟨1, 8, .func, [.nilFunc]⟩ := ⟨Tryz.t100, _, _, Tryz.type100, rfl, rfl, rfl, rfl, rfl, rfl, fun h => Bool.noConfusion h, Tryz.underlying100, rfl, ⟨_, _, _, rfl⟩⟩
theorem trow101 : RowOK T Tryz.prog 101 ⟨1, 8, .func, [.nilFunc]⟩ := ⟨Tryz.t101, _, _, Tryz.type101, rfl, rfl, rfl, rfl, rfl, rfl, fun h => Bool.noConfusion h, Tryz.underlying101, rfl, ⟨_, _, _, rfl⟩⟩
theorem trow102 : RowOK T Tryz.prog 102 ⟨1, 8, .func, [.nilFunc]⟩ := ⟨Tryz.t102, _, _, Tryz.type102, rfl, rfl, rfl, rfl, rfl, rfl, fun h => Bool.noConfusion h, Tryz.underlying102, rfl, ⟨_, _, _, rfl⟩⟩
theorem trow103 : RowOK T Tryz.prog 103 ⟨1, 8, .func, [.nilFunc]⟩ := ⟨Tryz.t103, _, _, Tryz.type103, rfl, rfl, rfl, rfl, rfl, rfl, fun h => Bool.noConfusion h, Tryz.underlying103, rfl, ⟨_, _, _, rfl⟩⟩
theorem trow104 : RowOK T Tryz.prog 104 ⟨1, 8, .func, [.nilFunc]⟩ := ⟨Tryz.t104, _, _, Tryz.type104, rfl, rfl, rfl, rfl, rfl, rfl, fun h => Bool.noConfusion h, Tryz.underlying104, rfl, ⟨_, _, _, rfl⟩⟩
theorem trow105 : RowOK T Tryz.prog 105 ⟨1, 8, .func, [.nilFunc]⟩ := ⟨Tryz.t105, _, _, Tryz.type105, rfl, rfl, rfl, rfl, rfl, rfl, fun h => Bool.noConfusion h, Tryz.underlying105, rfl, ⟨_, _, _, rfl⟩⟩
theorem trow106 : RowOK T Tryz.prog 106 ⟨1, 8, .func, [.nilFunc]⟩ := ⟨Tryz.t106, _, _, Tryz.type106, rfl, rfl, rfl, rfl, rfl, rfl, fun h => Bool.noConfusion h, Tryz.underlying106, rfl, ⟨_, _, _, rfl⟩⟩
theorem trow107 : RowOK T Tryz.prog 107 ⟨1, 8, .func, [.nilFunc]⟩ := ⟨Tryz.t107, _, _, Tryz.type107, rfl, rfl, rfl, rfl, rfl, rfl, fun h => Bool.noConfusion h, Tryz.underlying107, rfl, ⟨_, _, _, rfl⟩⟩
theorem trow108 : RowOK T Tryz.prog 108 ⟨1, 8, .func, [.nilFunc]⟩ := ⟨Tryz.t108, _, _, Tryz.type108, rfl, rfl, rfl, rfl, rfl, rfl, fun h => Bool.noConfusion h, Tryz.underlying108, rfl, ⟨_, _, _, rfl⟩⟩
theorem trow109 : RowOK T Tryz.prog 109 ⟨1, 8, .func, [.nilFunc]⟩ := ⟨Tryz.t109, _, _, Tryz.type109, rfl, rfl, rfl, rfl, rfl, rfl, fun h => Bool.noConfusion h, Tryz.underlying109, rfl, ⟨_, _, _, rfl⟩⟩
theorem trow110 : RowOK T Tryz.prog 110 ⟨1, 8, .func, [.nilFunc]⟩ := ⟨Tryz.t110, _, _, Tryz.type110, rfl, rfl, rfl, rfl, rfl, rfl, fun h => Bool.noConfusion h, Tryz.underlying110, rfl, ⟨_, _, _, rfl⟩⟩
theorem trow111 : RowOK T Tryz.prog 111 ⟨1, 8, .func, [.nilFunc]⟩ := ⟨Tryz.t111, _, _, Tryz.type111, rfl, rfl, rfl, rfl, rfl, rfl, fun h => Bool.noConfusion h, Tryz.underlying111, rfl, ⟨_, _, _, rfl⟩⟩
theorem trow112 : RowOK T Tryz.prog 112 ⟨1, 8, .func, [.nilFunc]⟩ := ⟨Tryz.t112, _, _, Tryz.type112, rfl, rfl, rfl, rfl, rfl, rfl, fun h => Bool.noConfusion h, Tryz.underlying112, rfl, ⟨_, _, _, rfl⟩⟩
theorem trow114 : RowOK T Tryz.prog 114 ⟨1, 8, .func, [.nilFunc]⟩ := ⟨Tryz.t114, _, _, Tryz.type114, rfl, rfl, rfl, rfl, rfl, rfl, fun h => Bool.noConfusion h, Tryz.underlying114, rfl, ⟨_, _, _, rfl⟩⟩
theorem trow115 : RowOK T Tryz.prog 115 ⟨1, 8, .func, [.nilFunc]⟩ := ⟨Tryz.t115, _, _, Tryz.type115, rfl, rfl, rfl, rfl, rfl, rfl, fun h => Bool.noConfusion h, Tryz.underlying115, rfl, ⟨_, _, _, rfl⟩⟩
theorem trow116 : RowOK T Tryz.prog 116 ⟨1, 8, .func, [.nilFunc]⟩ := ⟨Tryz.t116, _, _, Tryz.type116, rfl, rfl, rfl, rfl, rfl, rfl, fun h => Bool.noConfusion h, Tryz.underlying116, rfl, ⟨_, _, _, rfl⟩⟩
theorem trow117 : RowOK T Tryz.prog 117 ⟨1, 8, .func, [.nilFunc]⟩ := ⟨Tryz.t117, _, _, Tryz.type117, rfl, rfl, rfl, rfl, rfl, rfl, fun h => Bool.noConfusion h, Tryz.underlying117, rfl, ⟨_, _, _, rfl⟩⟩
theorem trow118 : RowOK T Tryz.prog 118 ⟨1, 8, .func, [.nilFunc]⟩ := ⟨Tryz.t118, _, _, Tryz.type118, rfl, rfl, rfl, rfl, rfl, rfl, fun h => Bool.noConfusion h, Tryz.underlying118, rfl, ⟨_, _, _, rfl⟩⟩
theorem trow119 : RowOK T Tryz.prog 119 ⟨1, 8, .func, [.nilFunc]⟩ := ⟨Tryz.t119, _, _, Tryz.type119, rfl, rfl, rfl, rfl, rfl, rfl, fun h => Bool.noConfusion h, Tryz.underlying119, rfl, ⟨_, _, _, rfl⟩⟩
theorem trow120 : RowOK T Tryz.prog 120 ⟨1, 8, .func, [.nilFunc]⟩ := ⟨Tryz.t120, _, _, Tryz.type120, rfl, rfl, rfl, rfl, rfl, rfl, fun h => Bool.noConfusion h, Tryz.underlying120, rfl, ⟨_, _, _, rfl⟩⟩
theorem trow121 : RowOK T Tryz.prog 121 ⟨1, 8, .func, [.nilFunc]⟩ := ⟨Tryz.t121, _, _, Tryz.type121, rfl, rfl, rfl, rfl, rfl, rfl, fun h => Bool.noConfusion h, Tryz.underlying121, rfl, ⟨_, _, _, rfl⟩⟩
theorem trow122 : RowOK T Tryz.prog 122 ⟨1, 8, .func, [.nilFunc]⟩ := ⟨Tryz.t122, _, _, Tryz.type122, rfl, rfl, rfl, rfl, rfl, rfl, fun h => Bool.noConfusion h, Tryz.underlying122, rfl, ⟨_, _, _, rfl⟩⟩
theorem trow123 : RowOK T Tryz.prog 123 ⟨1, 8, .func, [.nilFunc]⟩ := ⟨Tryz.t123, _, _, Tryz.type123, rfl, rfl, rfl, rfl, rfl, rfl, fun h => Bool.noConfusion h, Tryz.underlying123, rfl, ⟨_, _, _, rfl⟩⟩
theorem trow124 : RowOK T Tryz.prog 124 ⟨1, 8, .func, [.nilFunc]⟩ := ⟨Tryz.t124, _, _, Tryz.type124, rfl, rfl, rfl, rfl, rfl, rfl, fun h => Bool.noConfusion h, Tryz.underlying124, rfl, ⟨_, _, _, rfl⟩⟩
theorem trow125 : RowOK T Tryz.prog 125 ⟨1, 8, .func, [.nilFunc]⟩ := ⟨Tryz.t125, _, _, Tryz.type125, rfl, rfl, rfl, rfl, rfl, rfl, fun h => Bool.noConfusion h, Tryz.underlying125, rfl, ⟨_, _, _, rfl⟩⟩
theorem trow126 : RowOK T Tryz.prog 126 ⟨1, 8, .func, [.nilFunc]⟩ := ⟨Tryz.t126, _, _, Tryz.type126, rfl, rfl, rfl, rfl, rfl, rfl, fun h => Bool.noConfusion h, Tryz.underlying126, rfl, ⟨_, _, _, rfl⟩⟩
theorem trow127 : RowOK T Tryz.prog 127 ⟨1, 8, .func, [.nilFunc]⟩ := ⟨Tryz.t127, _, _, Tryz.type127, rfl, rfl, rfl, rfl, rfl, rfl, fun h => Bool.noConfusion h, Tryz.underlying127, rfl, ⟨_, _, _, rfl⟩⟩
theorem trow128 : RowOK T Tryz.prog 128 ⟨1, 8, .func, [.nilFunc]⟩ := ⟨Tryz.t128, _, _, Tryz.type128, rfl, rfl, rfl, rfl, rfl, rfl, fun h => Bool.noConfusion h, Tryz.underlying128, rfl, ⟨_, _, _, rfl⟩⟩
theorem trow129 : RowOK T Tryz.prog 129 ⟨1, 8, .func, [.nilFunc]⟩ := ⟨Tryz.t129, _, _, Tryz.type129, rfl, rfl, rfl, rfl, rfl, rfl, fun h => Bool.noConfusion h, Tryz.underlying129, rfl, ⟨_, _, _, rfl⟩⟩
theorem trow130 : RowOK T Tryz.prog 130 ⟨1, 8, .func, [.nilFunc]⟩ := ⟨Tryz.t130, _, _, Tryz.type130, rfl, rfl, rfl, rfl, rfl, rfl, fun h => Bool.noConfusion h, Tryz.underlying130, rfl, ⟨_, _, _, rfl⟩⟩
theorem trow131 : RowOK T Tryz.prog 131 ⟨1, 8, .func, [.nilFunc]⟩ := ⟨Tryz.t131, _, _, Tryz.type131, rfl, rfl, rfl, rfl, rfl, rfl, fun h => Bool.noConfusion h, Tryz.underlying131, rfl, ⟨_, _, _, rfl⟩⟩
theorem trow137 : RowOK T Tryz.prog 137 ⟨1, 8, .func, [.nilFunc]⟩ := ⟨Tryz.t137, _, _, Tryz.type137, rfl, rfl, rfl, rfl, rfl, rfl, fun h => Bool.noConfusion h, Tryz.underlying137, rfl, ⟨_, _, _, rfl⟩⟩
theorem trow138 : RowOK T Tryz.prog 138 ⟨1, 4, .int .u32, [.int .u32 0]⟩ := ⟨Tryz.t138, _, _, Tryz.type138, rfl, rfl, rfl, rfl, rfl, rfl, fun h => Bool.noConfusion h, Tryz.underlying138, rfl, rfl⟩
theorem trow141 : RowOK T Tryz.prog 141 ⟨1, 8, .func, [.nilFunc]⟩ := ⟨Tryz.t141, _, _, Tryz.type141, rfl, rfl, rfl, rfl, rfl, rfl, fun h => Bool.noConfusion h, Tryz.underlying141, rfl, ⟨_, _, _, rfl⟩⟩
theorem trow142 : RowOK T Tryz.prog 142 ⟨1, 8, .ptr 5, [.pointer none]⟩ := ⟨Tryz.t142, _, _, Tryz.type142, rfl, rfl, rfl, rfl, rfl, rfl, fun h => Bool.noConfusion h, Tryz.underlying142, rfl, rfl⟩

theorem tok : TOK T Tryz.prog := TOK.of (by
  show RowsOK T Tryz.prog 0 _
  exact 
    ⟨fun h => absurd rfl h, ⟨fun _ => trow1, ⟨fun _ => trow2, ⟨fun _ => trow3, ⟨fun _ => trow4, ⟨fun _ => trow5, ⟨fun h => absurd rfl h, ⟨fun h => absurd rfl h, ⟨fun h => absurd rfl h, ⟨fun _ => trow9, ⟨fun h => absurd rfl h, ⟨fun h => absurd rfl h, ⟨fun _ => trow12, ⟨fun h => absurd rfl h, ⟨fun h => absurd rfl h, ⟨fun h => absurd rfl h, ⟨fun h => absurd rfl h, ⟨fun h => absurd rfl h, ⟨fun h => absurd rfl h, ⟨fun h => absurd rfl h, ⟨fun h => absurd rfl h, ⟨fun _ => trow21, ⟨fun _ => trow22, ⟨fun _ => trow23, ⟨fun _ => trow24, ⟨fun _ => trow25, ⟨fun _ => trow26, ⟨fun _ => trow27, ⟨fun _ => trow28, ⟨fun _ => trow29, ⟨fun _ => trow30, ⟨fun _ => trow31, ⟨fun _ => trow32, ⟨fun _ => trow33, ⟨fun _ => trow34, ⟨fun _ => trow35, ⟨fun _ => trow36, ⟨fun h => absurd rfl h, ⟨fun _ => trow38, ⟨fun _ => trow39, ⟨fun _ => trow40, ⟨fun h => absurd rfl h, ⟨fun _ => trow42, ⟨fun _ => trow43, ⟨fun _ => trow44, ⟨fun _ => trow45, ⟨fun _ => trow46, ⟨fun _ => trow47, ⟨fun _ => trow48, ⟨fun _ => trow49, ⟨fun _ => trow50, ⟨fun _ => trow51, ⟨fun _ => trow52, ⟨fun _ => trow53, ⟨fun _ => trow54, ⟨fun _ => trow55, ⟨fun _ => trow56, ⟨fun _ => trow57, ⟨fun _ => trow58, ⟨fun _ => trow59, ⟨fun _ => trow60, ⟨fun h => absurd rfl h, ⟨fun _ => trow62, ⟨fun _ => trow63, ⟨fun _ => trow64, ⟨fun _ => trow65, ⟨fun _ => trow66, ⟨fun h => absurd rfl h, ⟨fun _ => trow68, ⟨fun _ => trow69, ⟨fun _ => trow70, ⟨fun h => absurd rfl h, ⟨fun _ => trow72, ⟨fun _ => trow73, ⟨fun _ => trow74, ⟨fun _ => trow75, ⟨fun _ => trow76, ⟨fun _ => trow77, ⟨fun _ => trow78, ⟨fun h => absurd rfl h, ⟨fun _ => trow80, ⟨fun _ => trow81, ⟨fun _ => trow82, ⟨fun _ => trow83, ⟨fun h => absurd rfl h, ⟨fun _ => trow85, ⟨fun _ => trow86, ⟨fun _ => trow87, ⟨fun _ => trow88, ⟨fun _ => trow89, ⟨fun h => absurd rfl h, ⟨fun _ => trow91, ⟨fun _ => trow92, ⟨fun _ => trow93, ⟨fun _ => trow94, ⟨fun _ => trow95, ⟨fun _ => trow96, ⟨fun _ => trow97, ⟨fun _ => trow98, ⟨fun _ => trow99, ⟨fun _ => trow100, ⟨fun _ => trow101, ⟨fun _ => trow102, ⟨fun _ => trow103, ⟨fun _ => trow104, ⟨fun _ => trow105, ⟨fun _ => trow106, ⟨fun _ => trow107, ⟨fun _ => trow108, ⟨fun _ => trow109, ⟨fun _ => trow110, ⟨fun _ => trow111, ⟨fun _ => trow112, ⟨fun h => absurd rfl h, ⟨fun _ => trow114, ⟨fun _ => trow115, ⟨fun _ => trow116, ⟨fun _ => trow117, ⟨fun _ => trow118, ⟨fun _ => trow119, ⟨fun _ => trow120, ⟨fun _ => trow121, ⟨fun _ => trow122, ⟨fun _ => trow123, ⟨fun _ => trow124, ⟨fun _ => trow125, ⟨fun _ => trow126, ⟨fun _ => trow127, ⟨fun _ => trow128, ⟨fun _ => trow129, ⟨fun _ => trow130, ⟨fun _ => trow131, ⟨fun h => absurd rfl h, ⟨fun h => absurd rfl h, ⟨fun h => absurd rfl h, ⟨fun h => absurd rfl h, ⟨fun h => absurd rfl h, ⟨fun _ => trow137, ⟨fun _ => trow138, ⟨fun h => absurd rfl h, ⟨fun h => absurd rfl h, ⟨fun _ => trow141, ⟨fun _ => trow142, ⟨fun h => absurd rfl h, ⟨fun h => absurd rfl h, ⟨fun h => absurd rfl h, ⟨fun h => absurd rfl h, ⟨fun h => absurd rfl h, trivial⟩⟩⟩⟩⟩⟩⟩⟩⟩⟩⟩⟩⟩⟩⟩⟩⟩⟩⟩⟩⟩⟩⟩⟩⟩⟩⟩⟩⟩⟩⟩⟩⟩⟩⟩⟩⟩⟩⟩⟩⟩⟩⟩⟩⟩⟩⟩⟩⟩⟩⟩⟩⟩⟩⟩⟩⟩⟩⟩⟩⟩⟩⟩⟩⟩⟩⟩⟩⟩⟩⟩⟩⟩⟩⟩⟩⟩⟩⟩⟩⟩⟩⟩⟩⟩⟩⟩⟩⟩⟩⟩⟩⟩⟩⟩⟩⟩⟩⟩⟩⟩⟩⟩⟩⟩⟩⟩⟩⟩⟩⟩⟩⟩⟩⟩⟩⟩⟩⟩⟩⟩⟩⟩⟩⟩⟩⟩⟩⟩⟩⟩⟩⟩⟩⟩⟩⟩⟩⟩⟩⟩⟩⟩⟩⟩⟩⟩⟩) (by decide)
theorem Tat1 : T.at 1 = ⟨1, 8, .func, [.nilFunc]⟩ := rfl
theorem Tat2 : T.at 2 = ⟨1, 8, .int .i64, [.int .i64 0]⟩ := rfl
theorem Tat3 : T.at 3 = ⟨1, 8, .int .i64, [.int .i64 0]⟩ := rfl
theorem Tat4 : T.at 4 = ⟨1, 1, .bool, [.bool false]⟩ := rfl
theorem Tat5 : T.at 5 = ⟨1, 1, .int .u8, [.int .u8 0]⟩ := rfl
theorem Tat9 : T.at 9 = ⟨1, 16, .str, [.string ByteArray.empty]⟩ := rfl
theorem Tat12 : T.at 12 = ⟨1, 8, .int .u64, [.int .u64 0]⟩ := rfl
theorem Tat21 : T.at 21 = ⟨1, 4, .int .i32, [.int .i32 0]⟩ := rfl
theorem Tat22 : T.at 22 = ⟨1, 24, .slice 3, [.slice none 0 0]⟩ := rfl
theorem Tat23 : T.at 23 = ⟨16, 128, .arr 16 3, [.int .i64 0, .int .i64 0, .int .i64 0, .int .i64 0, .int .i64 0, .int .i64 0, .int .i64 0, .int .i64 0, .int .i64 0, .int .i64 0, .int .i64 0, .int .i64 0, .int .i64 0, .int .i64 0, .int .i64 0, .int .i64 0]⟩ := rfl
theorem Tat24 : T.at 24 = ⟨20, 192, .struct [(0, 3), (1, 22), (2, 22), (3, 3), (4, 23)], [.int .i64 0, .slice none 0 0, .slice none 0 0, .int .i64 0, .int .i64 0, .int .i64 0, .int .i64 0, .int .i64 0, .int .i64 0, .int .i64 0, .int .i64 0, .int .i64 0, .int .i64 0, .int .i64 0, .int .i64 0, .int .i64 0, .int .i64 0, .int .i64 0, .int .i64 0, .int .i64 0]⟩ := rfl
theorem Tat25 : T.at 25 = ⟨20, 192, .struct [(0, 3), (1, 22), (2, 22), (3, 3), (4, 23)], [.int .i64 0, .slice none 0 0, .slice none 0 0, .int .i64 0, .int .i64 0, .int .i64 0, .int .i64 0, .int .i64 0, .int .i64 0, .int .i64 0, .int .i64 0, .int .i64 0, .int .i64 0, .int .i64 0, .int .i64 0, .int .i64 0, .int .i64 0, .int .i64 0, .int .i64 0, .int .i64 0]⟩ := rfl
theorem Tat26 : T.at 26 = ⟨4, 40, .struct [(0, 9), (1, 3), (2, 3), (3, 4)], [.string ByteArray.empty, .int .i64 0, .int .i64 0, .bool false]⟩ := rfl
theorem Tat27 : T.at 27 = ⟨4, 40, .struct [(0, 9), (1, 3), (2, 3), (3, 4)], [.string ByteArray.empty, .int .i64 0, .int .i64 0, .bool false]⟩ := rfl
theorem Tat28 : T.at 28 = ⟨1, 24, .slice 44, [.slice none 0 0]⟩ := rfl
theorem Tat29 : T.at 29 = ⟨1, 8, .func, [.nilFunc]⟩ := rfl
theorem Tat30 : T.at 30 = ⟨1, 8, .func, [.nilFunc]⟩ := rfl
theorem Tat31 : T.at 31 = ⟨1, 8, .int .i64, [.int .i64 0]⟩ := rfl
theorem Tat32 : T.at 32 = ⟨6, 40, .struct [(0, 3), (1, 3), (2, 3), (3, 4), (4, 4), (5, 31)], [.int .i64 0, .int .i64 0, .int .i64 0, .bool false, .bool false, .int .i64 0]⟩ := rfl
theorem Tat33 : T.at 33 = ⟨6, 40, .struct [(0, 3), (1, 3), (2, 3), (3, 4), (4, 4), (5, 31)], [.int .i64 0, .int .i64 0, .int .i64 0, .bool false, .bool false, .int .i64 0]⟩ := rfl
theorem Tat34 : T.at 34 = ⟨15, 128, .struct [(0, 5), (1, 5), (2, 33), (8, 27), (12, 3), (13, 22), (14, 31)], [.int .u8 0, .int .u8 0, .int .i64 0, .int .i64 0, .int .i64 0, .bool false, .bool false, .int .i64 0, .string ByteArray.empty, .int .i64 0, .int .i64 0, .bool false, .int .i64 0, .slice none 0 0, .int .i64 0]⟩ := rfl
theorem Tat35 : T.at 35 = ⟨15, 128, .struct [(0, 5), (1, 5), (2, 33), (8, 27), (12, 3), (13, 22), (14, 31)], [.int .u8 0, .int .u8 0, .int .i64 0, .int .i64 0, .int .i64 0, .bool false, .bool false, .int .i64 0, .string ByteArray.empty, .int .i64 0, .int .i64 0, .bool false, .int .i64 0, .slice none 0 0, .int .i64 0]⟩ := rfl
theorem Tat36 : T.at 36 = ⟨1, 24, .slice 40, [.slice none 0 0]⟩ := rfl
theorem Tat38 : T.at 38 = ⟨1, 8, .func, [.nilFunc]⟩ := rfl
theorem Tat39 : T.at 39 = ⟨15, 136, .struct [(0, 5), (1, 3), (2, 3), (3, 3), (4, 3), (5, 4), (6, 4), (7, 3), (8, 3), (9, 22), (10, 27), (14, 31)], [.int .u8 0, .int .i64 0, .int .i64 0, .int .i64 0, .int .i64 0, .bool false, .bool false, .int .i64 0, .int .i64 0, .slice none 0 0, .string ByteArray.empty, .int .i64 0, .int .i64 0, .bool false, .int .i64 0]⟩ := rfl
theorem Tat40 : T.at 40 = ⟨15, 136, .struct [(0, 5), (1, 3), (2, 3), (3, 3), (4, 3), (5, 4), (6, 4), (7, 3), (8, 3), (9, 22), (10, 27), (14, 31)], [.int .u8 0, .int .i64 0, .int .i64 0, .int .i64 0, .int .i64 0, .bool false, .bool false, .int .i64 0, .int .i64 0, .slice none 0 0, .string ByteArray.empty, .int .i64 0, .int .i64 0, .bool false, .int .i64 0]⟩ := rfl
theorem Tat42 : T.at 42 = ⟨1, 8, .func, [.nilFunc]⟩ := rfl
theorem Tat43 : T.at 43 = ⟨5, 48, .struct [(0, 4), (1, 4), (2, 3), (3, 22), (4, 4)], [.bool false, .bool false, .int .i64 0, .slice none 0 0, .bool false]⟩ := rfl
theorem Tat44 : T.at 44 = ⟨5, 48, .struct [(0, 4), (1, 4), (2, 3), (3, 22), (4, 4)], [.bool false, .bool false, .int .i64 0, .slice none 0 0, .bool false]⟩ := rfl
theorem Tat45 : T.at 45 = ⟨1, 8, .func, [.nilFunc]⟩ := rfl
theorem Tat46 : T.at 46 = ⟨1, 8, .func, [.nilFunc]⟩ := rfl
theorem Tat47 : T.at 47 = ⟨1, 8, .func, [.nilFunc]⟩ := rfl
theorem Tat48 : T.at 48 = ⟨1, 8, .func, [.nilFunc]⟩ := rfl
theorem Tat49 : T.at 49 = ⟨1, 8, .func, [.nilFunc]⟩ := rfl
theorem Tat50 : T.at 50 = ⟨1, 8, .func, [.nilFunc]⟩ := rfl
theorem Tat51 : T.at 51 = ⟨1, 8, .func, [.nilFunc]⟩ := rfl
theorem Tat52 : T.at 52 = ⟨1, 8, .func, [.nilFunc]⟩ := rfl
theorem Tat53 : T.at 53 = ⟨1, 8, .func, [.nilFunc]⟩ := rfl
theorem Tat54 : T.at 54 = ⟨1, 8, .int .u64, [.int .u64 0]⟩ := rfl
theorem Tat55 : T.at 55 = ⟨1, 8, .func, [.nilFunc]⟩ := rfl
theorem Tat56 : T.at 56 = ⟨1, 8, .func, [.nilFunc]⟩ := rfl
theorem Tat57 : T.at 57 = ⟨1, 8, .func, [.nilFunc]⟩ := rfl
theorem Tat58 : T.at 58 = ⟨1, 8, .func, [.nilFunc]⟩ := rfl
theorem Tat59 : T.at 59 = ⟨1, 8, .func, [.nilFunc]⟩ := rfl
theorem Tat60 : T.at 60 = ⟨1, 8, .func, [.nilFunc]⟩ := rfl
theorem Tat62 : T.at 62 = ⟨1, 8, .func, [.nilFunc]⟩ := rfl
theorem Tat63 : T.at 63 = ⟨37, 352, .struct [(0, 25), (20, 35), (35, 36), (36, 4)], [.int .i64 0, .slice none 0 0, .slice none 0 0, .int .i64 0, .int .i64 0, .int .i64 0, .int .i64 0, .int .i64 0, .int .i64 0, .int .i64 0, .int .i64 0, .int .i64 0, .int .i64 0, .int .i64 0, .int .i64 0, .int .i64 0, .int .i64 0, .int .i64 0, .int .i64 0, .int .i64 0, .int .u8 0, .int .u8 0, .int .i64 0, .int .i64 0, .int .i64 0, .bool false, .bool false, .int .i64 0, .string ByteArray.empty, .int .i64 0, .int .i64 0, .bool false, .int .i64 0, .slice none 0 0, .int .i64 0, .slice none 0 0, .bool false]⟩ := rfl
theorem Tat64 : T.at 64 = ⟨37, 352, .struct [(0, 25), (20, 35), (35, 36), (36, 4)], [.int .i64 0, .slice none 0 0, .slice none 0 0, .int .i64 0, .int .i64 0, .int .i64 0, .int .i64 0, .int .i64 0, .int .i64 0, .int .i64 0, .int .i64 0, .int .i64 0, .int .i64 0, .int .i64 0, .int .i64 0, .int .i64 0, .int .i64 0, .int .i64 0, .int .i64 0, .int .i64 0, .int .u8 0, .int .u8 0, .int .i64 0, .int .i64 0, .int .i64 0, .bool false, .bool false, .int .i64 0, .string ByteArray.empty, .int .i64 0, .int .i64 0, .bool false, .int .i64 0, .slice none 0 0, .int .i64 0, .slice none 0 0, .bool false]⟩ := rfl
theorem Tat65 : T.at 65 = ⟨1, 8, .func, [.nilFunc]⟩ := rfl
theorem Tat66 : T.at 66 = ⟨1, 8, .func, [.nilFunc]⟩ := rfl
theorem Tat68 : T.at 68 = ⟨1, 8, .map 5 66, [.map none]⟩ := rfl
theorem Tat69 : T.at 69 = ⟨1, 8, .func, [.nilFunc]⟩ := rfl
theorem Tat70 : T.at 70 = ⟨1, 8, .func, [.nilFunc]⟩ := rfl
theorem Tat72 : T.at 72 = ⟨1, 8, .map 5 70, [.map none]⟩ := rfl
theorem Tat73 : T.at 73 = ⟨1, 8, .func, [.nilFunc]⟩ := rfl
theorem Tat74 : T.at 74 = ⟨1, 8, .func, [.nilFunc]⟩ := rfl
theorem Tat75 : T.at 75 = ⟨1, 8, .func, [.nilFunc]⟩ := rfl
theorem Tat76 : T.at 76 = ⟨1, 8, .func, [.nilFunc]⟩ := rfl
theorem Tat77 : T.at 77 = ⟨1, 8, .func, [.nilFunc]⟩ := rfl
theorem Tat78 : T.at 78 = ⟨1, 8, .func, [.nilFunc]⟩ := rfl
theorem Tat80 : T.at 80 = ⟨1, 8, .func, [.nilFunc]⟩ := rfl
theorem Tat81 : T.at 81 = ⟨1, 8, .func, [.nilFunc]⟩ := rfl
theorem Tat82 : T.at 82 = ⟨1, 8, .func, [.nilFunc]⟩ := rfl
theorem Tat83 : T.at 83 = ⟨1, 8, .func, [.nilFunc]⟩ := rfl
theorem Tat85 : T.at 85 = ⟨1, 8, .func, [.nilFunc]⟩ := rfl
theorem Tat86 : T.at 86 = ⟨1, 8, .func, [.nilFunc]⟩ := rfl
theorem Tat87 : T.at 87 = ⟨1, 8, .func, [.nilFunc]⟩ := rfl
theorem Tat88 : T.at 88 = ⟨1, 8, .func, [.nilFunc]⟩ := rfl
theorem Tat89 : T.at 89 = ⟨1, 8, .func, [.nilFunc]⟩ := rfl
theorem Tat91 : T.at 91 = ⟨1, 8, .func, [.nilFunc]⟩ := rfl
theorem Tat92 : T.at 92 = ⟨1, 8, .func, [.nilFunc]⟩ := rfl
theorem Tat93 : T.at 93 = ⟨1, 8, .ptr 64, [.pointer none]⟩ := rfl
theorem Tat94 : T.at 94 = ⟨1, 8, .ptr 35, [.pointer none]⟩ := rfl
theorem Tat95 : T.at 95 = ⟨1, 8, .func, [.nilFunc]⟩ := rfl
theorem Tat96 : T.at 96 = ⟨1, 8, .func, [.nilFunc]⟩ := rfl
theorem Tat97 : T.at 97 = ⟨1, 8, .func, [.nilFunc]⟩ := rfl
theorem Tat98 : T.at 98 = ⟨1, 8, .func, [.nilFunc]⟩ := rfl
theorem Tat99 : T.at 99 = ⟨1, 8, .func, [.nilFunc]⟩ := rfl
theorem Tat100 : T.at 100 = ⟨1, 8, .func, [.nilFunc]⟩ := rfl
theorem Tat101 : T.at 101 = ⟨1, 8, .func, [.nilFunc]⟩ := rfl
theorem Tat102 : T.at 102 = ⟨1, 8, .func, [.nilFunc]⟩ := rfl
theorem Tat103 : T.at 103 = ⟨1, 8, .func, [.nilFunc]⟩ := rfl
theorem Tat104 : T.at 104 = ⟨1, 8, .func, [.nilFunc]⟩ := rfl
theorem Tat105 : T.at 105 = ⟨1, 8, .func, [.nilFunc]⟩ := rfl
theorem Tat106 : T.at 106 = ⟨1, 8, .func, [.nilFunc]⟩ := rfl
theorem Tat107 : T.at 107 = ⟨1, 8, .func, [.nilFunc]⟩ := rfl
theorem Tat108 : T.at 108 = ⟨1, 8, .func, [.nilFunc]⟩ := rfl
theorem Tat109 : T.at 109 = ⟨1, 8, .func, [.nilFunc]⟩ := rfl
theorem Tat110 : T.at 110 = ⟨1, 8, .func, [.nilFunc]⟩ := rfl
theorem Tat111 : T.at 111 = ⟨1, 8, .func, [.nilFunc]⟩ := rfl
theorem Tat112 : T.at 112 = ⟨1, 8, .func, [.nilFunc]⟩ := rfl
theorem Tat114 : T.at 114 = ⟨1, 8, .func, [.nilFunc]⟩ := rfl
theorem Tat115 : T.at 115 = ⟨1, 8, .func, [.nilFunc]⟩ := rfl
theorem Tat116 : T.at 116 = ⟨1, 8, .func, [.nilFunc]⟩ := rfl
theorem Tat117 : T.at 117 = ⟨1, 8, .func, [.nilFunc]⟩ := rfl
theorem Tat118 : T.at 118 = ⟨1, 8, .func, [.nilFunc]⟩ := rfl
theorem Tat119 : T.at 119 = ⟨1, 8, .func, [.nilFunc]⟩ := rfl
theorem Tat120 : T.at 120 = ⟨1, 8, .func, [.nilFunc]⟩ := rfl
theorem Tat121 : T.at 121 = ⟨1, 8, .func, [.nilFunc]⟩ := rfl
theorem Tat122 : T.at 122 = ⟨1, 8, .func, [.nilFunc]⟩ := rfl
theorem Tat123 : T.at 123 = ⟨1, 8, .func, [.nilFunc]⟩ := rfl
theorem Tat124 : T.at 124 = ⟨1, 8, .func, [.nilFunc]⟩ := rfl
theorem Tat125 : T.at 125 = ⟨1, 8, .func, [.nilFunc]⟩ := rfl
theorem Tat126 : T.at 126 = ⟨1, 8, .func, [.nilFunc]⟩ := rfl
theorem Tat127 : T.at 127 = ⟨1, 8, .func, [.nilFunc]⟩ := rfl
theorem Tat128 : T.at 128 = ⟨1, 8, .func, [.nilFunc]⟩ := rfl
theorem Tat129 : T.at 129 = ⟨1, 8, .func, [.nilFunc]⟩ := rfl
theorem Tat130 : T.at 130 = ⟨1, 8, .func, [.nilFunc]⟩ := rfl
theorem Tat131 : T.at 131 = ⟨1, 8, .func, [.nilFunc]⟩ := rfl
theorem Tat137 : T.at 137 = ⟨1, 8, .func, [.nilFunc]⟩ := rfl
theorem Tat138 : T.at 138 = ⟨1, 4, .int .u32, [.int .u32 0]⟩ := rfl
theorem Tat141 : T.at 141 = ⟨1, 8, .func, [.nilFunc]⟩ := rfl
theorem Tat142 : T.at 142 = ⟨1, 8, .ptr 5, [.pointer none]⟩ := rfl
theorem Tglob : T.glob = [] := rfl

end Go.Proofs.YtlcbbjcehaahlaaGreat
