/-
  The table of the types of this seat's program.
-/
import Derived.Test.YtlcbbjcehaahlaaVsQ
import Derived.Test.YtlcbbjcehaahlaaProg
namespace Go.Proofs.Ytlcbbjcehaahlaa
open Go Go.RowKit
set_option maxRecDepth 100000

def T : Tab := ⟨[
  ⟨0, 0, .other, []⟩,
  ⟨1, 8, .func, [.nilFunc]⟩,
  ⟨1, 8, .int .i64, [.int .i64 0]⟩,
  ⟨1, 8, .int .i64, [.int .i64 0]⟩,
  ⟨1, 1, .bool, [.bool false]⟩,
  ⟨1, 1, .int .u8, [.int .u8 0]⟩,
  ⟨0, 0, .other, []⟩,
  ⟨0, 0, .other, []⟩,
  ⟨0, 0, .other, []⟩,
  ⟨1, 16, .str, [.string ByteArray.empty]⟩,
  ⟨0, 0, .other, []⟩,
  ⟨0, 0, .other, []⟩,
  ⟨1, 8, .int .u64, [.int .u64 0]⟩,
  ⟨0, 0, .other, []⟩,
  ⟨0, 0, .other, []⟩,
  ⟨0, 0, .other, []⟩,
  ⟨0, 0, .other, []⟩,
  ⟨0, 0, .other, []⟩,
  ⟨0, 0, .other, []⟩,
  ⟨0, 0, .other, []⟩,
  ⟨0, 0, .other, []⟩,
  ⟨1, 4, .int .i32, [.int .i32 0]⟩,
  ⟨1, 24, .slice 3, [.slice none 0 0]⟩,
  ⟨16, 128, .arr 16 3, [.int .i64 0, .int .i64 0, .int .i64 0, .int .i64 0, .int .i64 0, .int .i64 0, .int .i64 0, .int .i64 0, .int .i64 0, .int .i64 0, .int .i64 0, .int .i64 0, .int .i64 0, .int .i64 0, .int .i64 0, .int .i64 0]⟩,
  ⟨20, 192, .struct [(0, 3), (1, 22), (2, 22), (3, 3), (4, 23)], [.int .i64 0, .slice none 0 0, .slice none 0 0, .int .i64 0, .int .i64 0, .int .i64 0, .int .i64 0, .int .i64 0, .int .i64 0, .int .i64 0, .int .i64 0, .int .i64 0, .int .i64 0, .int .i64 0, .int .i64 0, .int .i64 0, .int .i64 0, .int .i64 0, .int .i64 0, .int .i64 0]⟩,
  ⟨20, 192, .struct [(0, 3), (1, 22), (2, 22), (3, 3), (4, 23)], [.int .i64 0, .slice none 0 0, .slice none 0 0, .int .i64 0, .int .i64 0, .int .i64 0, .int .i64 0, .int .i64 0, .int .i64 0, .int .i64 0, .int .i64 0, .int .i64 0, .int .i64 0, .int .i64 0, .int .i64 0, .int .i64 0, .int .i64 0, .int .i64 0, .int .i64 0, .int .i64 0]⟩,
  ⟨4, 40, .struct [(0, 9), (1, 3), (2, 3), (3, 4)], [.string ByteArray.empty, .int .i64 0, .int .i64 0, .bool false]⟩,
  ⟨4, 40, .struct [(0, 9), (1, 3), (2, 3), (3, 4)], [.string ByteArray.empty, .int .i64 0, .int .i64 0, .bool false]⟩,
  ⟨1, 8, .func, [.nilFunc]⟩,
  ⟨1, 8, .func, [.nilFunc]⟩,
  ⟨1, 8, .int .i64, [.int .i64 0]⟩,
  ⟨6, 40, .struct [(0, 3), (1, 3), (2, 3), (3, 4), (4, 4), (5, 30)], [.int .i64 0, .int .i64 0, .int .i64 0, .bool false, .bool false, .int .i64 0]⟩,
  ⟨6, 40, .struct [(0, 3), (1, 3), (2, 3), (3, 4), (4, 4), (5, 30)], [.int .i64 0, .int .i64 0, .int .i64 0, .bool false, .bool false, .int .i64 0]⟩,
  ⟨15, 128, .struct [(0, 5), (1, 5), (2, 32), (8, 27), (12, 3), (13, 22), (14, 30)], [.int .u8 0, .int .u8 0, .int .i64 0, .int .i64 0, .int .i64 0, .bool false, .bool false, .int .i64 0, .string ByteArray.empty, .int .i64 0, .int .i64 0, .bool false, .int .i64 0, .slice none 0 0, .int .i64 0]⟩,
  ⟨15, 128, .struct [(0, 5), (1, 5), (2, 32), (8, 27), (12, 3), (13, 22), (14, 30)], [.int .u8 0, .int .u8 0, .int .i64 0, .int .i64 0, .int .i64 0, .bool false, .bool false, .int .i64 0, .string ByteArray.empty, .int .i64 0, .int .i64 0, .bool false, .int .i64 0, .slice none 0 0, .int .i64 0]⟩,
  ⟨1, 24, .slice 39, [.slice none 0 0]⟩,
  ⟨0, 0, .other, []⟩,
  ⟨1, 8, .func, [.nilFunc]⟩,
  ⟨15, 136, .struct [(0, 5), (1, 3), (2, 3), (3, 3), (4, 3), (5, 4), (6, 4), (7, 3), (8, 3), (9, 22), (10, 27), (14, 30)], [.int .u8 0, .int .i64 0, .int .i64 0, .int .i64 0, .int .i64 0, .bool false, .bool false, .int .i64 0, .int .i64 0, .slice none 0 0, .string ByteArray.empty, .int .i64 0, .int .i64 0, .bool false, .int .i64 0]⟩,
  ⟨15, 136, .struct [(0, 5), (1, 3), (2, 3), (3, 3), (4, 3), (5, 4), (6, 4), (7, 3), (8, 3), (9, 22), (10, 27), (14, 30)], [.int .u8 0, .int .i64 0, .int .i64 0, .int .i64 0, .int .i64 0, .bool false, .bool false, .int .i64 0, .int .i64 0, .slice none 0 0, .string ByteArray.empty, .int .i64 0, .int .i64 0, .bool false, .int .i64 0]⟩,
  ⟨1, 8, .func, [.nilFunc]⟩,
  ⟨1, 8, .func, [.nilFunc]⟩,
  ⟨1, 8, .func, [.nilFunc]⟩,
  ⟨1, 8, .func, [.nilFunc]⟩,
  ⟨1, 8, .func, [.nilFunc]⟩,
  ⟨1, 8, .func, [.nilFunc]⟩,
  ⟨1, 8, .func, [.nilFunc]⟩,
  ⟨1, 8, .func, [.nilFunc]⟩,
  ⟨1, 8, .func, [.nilFunc]⟩,
  ⟨1, 8, .func, [.nilFunc]⟩,
  ⟨0, 0, .other, []⟩,
  ⟨1, 8, .func, [.nilFunc]⟩,
  ⟨37, 352, .struct [(0, 25), (20, 34), (35, 35), (36, 4)], [.int .i64 0, .slice none 0 0, .slice none 0 0, .int .i64 0, .int .i64 0, .int .i64 0, .int .i64 0, .int .i64 0, .int .i64 0, .int .i64 0, .int .i64 0, .int .i64 0, .int .i64 0, .int .i64 0, .int .i64 0, .int .i64 0, .int .i64 0, .int .i64 0, .int .i64 0, .int .i64 0, .int .u8 0, .int .u8 0, .int .i64 0, .int .i64 0, .int .i64 0, .bool false, .bool false, .int .i64 0, .string ByteArray.empty, .int .i64 0, .int .i64 0, .bool false, .int .i64 0, .slice none 0 0, .int .i64 0, .slice none 0 0, .bool false]⟩,
  ⟨37, 352, .struct [(0, 25), (20, 34), (35, 35), (36, 4)], [.int .i64 0, .slice none 0 0, .slice none 0 0, .int .i64 0, .int .i64 0, .int .i64 0, .int .i64 0, .int .i64 0, .int .i64 0, .int .i64 0, .int .i64 0, .int .i64 0, .int .i64 0, .int .i64 0, .int .i64 0, .int .i64 0, .int .i64 0, .int .i64 0, .int .i64 0, .int .i64 0, .int .u8 0, .int .u8 0, .int .i64 0, .int .i64 0, .int .i64 0, .bool false, .bool false, .int .i64 0, .string ByteArray.empty, .int .i64 0, .int .i64 0, .bool false, .int .i64 0, .slice none 0 0, .int .i64 0, .slice none 0 0, .bool false]⟩,
  ⟨1, 8, .func, [.nilFunc]⟩,
  ⟨1, 8, .func, [.nilFunc]⟩,
  ⟨1, 8, .func, [.nilFunc]⟩,
  ⟨0, 0, .other, []⟩,
  ⟨1, 8, .func, [.nilFunc]⟩,
  ⟨1, 8, .func, [.nilFunc]⟩,
  ⟨1, 8, .func, [.nilFunc]⟩,
  ⟨1, 8, .func, [.nilFunc]⟩,
  ⟨0, 0, .other, []⟩,
  ⟨1, 8, .map 5 61, [.map none]⟩,
  ⟨1, 8, .func, [.nilFunc]⟩,
  ⟨1, 8, .func, [.nilFunc]⟩,
  ⟨0, 0, .other, []⟩,
  ⟨1, 8, .map 5 65, [.map none]⟩,
  ⟨1, 8, .func, [.nilFunc]⟩,
  ⟨1, 8, .func, [.nilFunc]⟩,
  ⟨1, 8, .func, [.nilFunc]⟩,
  ⟨0, 0, .other, []⟩,
  ⟨1, 8, .func, [.nilFunc]⟩,
  ⟨1, 8, .func, [.nilFunc]⟩,
  ⟨1, 8, .func, [.nilFunc]⟩,
  ⟨1, 8, .func, [.nilFunc]⟩,
  ⟨1, 8, .func, [.nilFunc]⟩,
  ⟨1, 8, .func, [.nilFunc]⟩,
  ⟨0, 0, .other, []⟩,
  ⟨1, 8, .func, [.nilFunc]⟩,
  ⟨1, 8, .func, [.nilFunc]⟩,
  ⟨1, 8, .ptr 53, [.pointer none]⟩,
  ⟨1, 8, .ptr 34, [.pointer none]⟩,
  ⟨0, 0, .other, []⟩,
  ⟨1, 8, .func, [.nilFunc]⟩,
  ⟨1, 8, .func, [.nilFunc]⟩,
  ⟨1, 8, .func, [.nilFunc]⟩,
  ⟨1, 8, .func, [.nilFunc]⟩,
  ⟨1, 8, .func, [.nilFunc]⟩,
  ⟨1, 8, .func, [.nilFunc]⟩,
  ⟨1, 8, .func, [.nilFunc]⟩,
  ⟨1, 8, .func, [.nilFunc]⟩,
  ⟨1, 8, .func, [.nilFunc]⟩,
  ⟨1, 8, .func, [.nilFunc]⟩,
  ⟨1, 8, .func, [.nilFunc]⟩,
  ⟨1, 8, .func, [.nilFunc]⟩,
  ⟨1, 8, .func, [.nilFunc]⟩,
  ⟨1, 8, .func, [.nilFunc]⟩,
  ⟨1, 8, .func, [.nilFunc]⟩,
  ⟨1, 8, .func, [.nilFunc]⟩,
  ⟨1, 8, .func, [.nilFunc]⟩,
  ⟨1, 8, .func, [.nilFunc]⟩,
  ⟨1, 8, .func, [.nilFunc]⟩,
  ⟨1, 8, .func, [.nilFunc]⟩,
  ⟨1, 8, .func, [.nilFunc]⟩,
  ⟨1, 8, .func, [.nilFunc]⟩,
  ⟨1, 8, .func, [.nilFunc]⟩,
  ⟨0, 0, .other, []⟩,
  ⟨1, 8, .func, [.nilFunc]⟩,
  ⟨1, 8, .func, [.nilFunc]⟩,
  ⟨1, 8, .func, [.nilFunc]⟩,
  ⟨1, 8, .func, [.nilFunc]⟩,
  ⟨1, 8, .func, [.nilFunc]⟩,
  ⟨1, 8, .func, [.nilFunc]⟩,
  ⟨1, 8, .func, [.nilFunc]⟩,
  ⟨1, 8, .func, [.nilFunc]⟩,
  ⟨1, 8, .func, [.nilFunc]⟩,
  ⟨1, 8, .func, [.nilFunc]⟩,
  ⟨1, 8, .func, [.nilFunc]⟩,
  ⟨1, 8, .func, [.nilFunc]⟩,
  ⟨1, 8, .func, [.nilFunc]⟩,
  ⟨1, 8, .func, [.nilFunc]⟩,
  ⟨1, 8, .func, [.nilFunc]⟩,
  ⟨1, 8, .func, [.nilFunc]⟩,
  ⟨0, 0, .other, []⟩,
  ⟨0, 0, .other, []⟩,
  ⟨0, 0, .other, []⟩,
  ⟨0, 0, .other, []⟩,
  ⟨0, 0, .other, []⟩,
  ⟨1, 8, .func, [.nilFunc]⟩,
  ⟨1, 4, .int .u32, [.int .u32 0]⟩,
  ⟨0, 0, .other, []⟩,
  ⟨0, 0, .other, []⟩,
  ⟨1, 8, .func, [.nilFunc]⟩,
  ⟨1, 8, .ptr 5, [.pointer none]⟩,
  ⟨0, 0, .other, []⟩,
  ⟨0, 0, .other, []⟩,
  ⟨0, 0, .other, []⟩,
  ⟨0, 0, .other, []⟩,
  ⟨0, 0, .other, []⟩
  ], []⟩

theorem trow1 : RowOK T Try.prog 1 ⟨1, 8, .func, [.nilFunc]⟩ := ⟨Try.t1, _, _, Try.type1, rfl, rfl, rfl, rfl, rfl, rfl, fun h => Bool.noConfusion h, Try.underlying1, rfl, ⟨_, _, _, rfl⟩⟩
theorem trow2 : RowOK T Try.prog 2 ⟨1, 8, .int .i64, [.int .i64 0]⟩ := ⟨Try.t2, _, _, Try.type2, rfl, rfl, rfl, rfl, rfl, rfl, fun h => Bool.noConfusion h, Try.underlying2, rfl, rfl⟩
theorem trow3 : RowOK T Try.prog 3 ⟨1, 8, .int .i64, [.int .i64 0]⟩ := ⟨Try.t3, _, _, Try.type3, rfl, rfl, rfl, rfl, rfl, rfl, fun h => Bool.noConfusion h, Try.underlying3, rfl, rfl⟩
theorem trow4 : RowOK T Try.prog 4 ⟨1, 1, .bool, [.bool false]⟩ := ⟨Try.t4, _, _, Try.type4, rfl, rfl, rfl, rfl, rfl, rfl, fun h => Bool.noConfusion h, Try.underlying4, rfl, rfl⟩
theorem trow5 : RowOK T Try.prog 5 ⟨1, 1, .int .u8, [.int .u8 0]⟩ := ⟨Try.t5, _, _, Try.type5, rfl, rfl, rfl, rfl, rfl, rfl, fun h => Bool.noConfusion h, Try.underlying5, rfl, rfl⟩
theorem trow9 : RowOK T Try.prog 9 ⟨1, 16, .str, [.string ByteArray.empty]⟩ := ⟨Try.t9, _, _, Try.type9, rfl, rfl, rfl, rfl, rfl, rfl, fun h => Bool.noConfusion h, Try.underlying9, rfl, rfl⟩
theorem trow12 : RowOK T Try.prog 12 ⟨1, 8, .int .u64, [.int .u64 0]⟩ := ⟨Try.t12, _, _, Try.type12, rfl, rfl, rfl, rfl, rfl, rfl, fun h => Bool.noConfusion h, Try.underlying12, rfl, rfl⟩
theorem trow21 : RowOK T Try.prog 21 ⟨1, 4, .int .i32, [.int .i32 0]⟩ := ⟨Try.t21, _, _, Try.type21, rfl, rfl, rfl, rfl, rfl, rfl, fun h => Bool.noConfusion h, Try.underlying21, rfl, rfl⟩
theorem trow22 : RowOK T Try.prog 22 ⟨1, 24, .slice 3, [.slice none 0 0]⟩ := ⟨Try.t22, _, _, Try.type22, rfl, rfl, rfl, rfl, rfl, rfl, fun h => Bool.noConfusion h, Try.underlying22, rfl, ⟨rfl, by decide⟩⟩
theorem trow23 : RowOK T Try.prog 23 ⟨16, 128, .arr 16 3, [.int .i64 0, .int .i64 0, .int .i64 0, .int .i64 0, .int .i64 0, .int .i64 0, .int .i64 0, .int .i64 0, .int .i64 0, .int .i64 0, .int .i64 0, .int .i64 0, .int .i64 0, .int .i64 0, .int .i64 0, .int .i64 0]⟩ := ⟨Try.t23, _, _, Try.type23, rfl, rfl, rfl, rfl, rfl, rfl, fun _ => ⟨_, rfl⟩, Try.underlying23, rfl, ⟨rfl, by decide, by kernel_rfl⟩⟩
theorem trow24 : RowOK T Try.prog 24 ⟨20, 192, .struct [(0, 3), (1, 22), (2, 22), (3, 3), (4, 23)], [.int .i64 0, .slice none 0 0, .slice none 0 0, .int .i64 0, .int .i64 0, .int .i64 0, .int .i64 0, .int .i64 0, .int .i64 0, .int .i64 0, .int .i64 0, .int .i64 0, .int .i64 0, .int .i64 0, .int .i64 0, .int .i64 0, .int .i64 0, .int .i64 0, .int .i64 0, .int .i64 0]⟩ := ⟨Try.t24, _, _, Try.type24, rfl, rfl, rfl, rfl, rfl, rfl, fun _ => ⟨_, rfl⟩, Try.underlying24, rfl, ⟨⟨_, rfl, rfl, by kernel_rfl⟩, by decide, by kernel_rfl, by kernel_rfl⟩⟩
theorem trow25 : RowOK T Try.prog 25 ⟨20, 192, .struct [(0, 3), (1, 22), (2, 22), (3, 3), (4, 23)], [.int .i64 0, .slice none 0 0, .slice none 0 0, .int .i64 0, .int .i64 0, .int .i64 0, .int .i64 0, .int .i64 0, .int .i64 0, .int .i64 0, .int .i64 0, .int .i64 0, .int .i64 0, .int .i64 0, .int .i64 0, .int .i64 0, .int .i64 0, .int .i64 0, .int .i64 0, .int .i64 0]⟩ := ⟨Try.t25, _, _, Try.type25, rfl, rfl, rfl, rfl, rfl, rfl, fun _ => ⟨_, rfl⟩, Try.underlying25, rfl, ⟨⟨_, rfl, rfl, by kernel_rfl⟩, by decide, by kernel_rfl, by kernel_rfl⟩⟩
theorem trow26 : RowOK T Try.prog 26 ⟨4, 40, .struct [(0, 9), (1, 3), (2, 3), (3, 4)], [.string ByteArray.empty, .int .i64 0, .int .i64 0, .bool false]⟩ := ⟨Try.t26, _, _, Try.type26, rfl, rfl, rfl, rfl, rfl, rfl, fun _ => ⟨_, rfl⟩, Try.underlying26, rfl, ⟨⟨_, rfl, rfl, by kernel_rfl⟩, by decide, by kernel_rfl, by kernel_rfl⟩⟩
theorem trow27 : RowOK T Try.prog 27 ⟨4, 40, .struct [(0, 9), (1, 3), (2, 3), (3, 4)], [.string ByteArray.empty, .int .i64 0, .int .i64 0, .bool false]⟩ := ⟨Try.t27, _, _, Try.type27, rfl, rfl, rfl, rfl, rfl, rfl, fun _ => ⟨_, rfl⟩, Try.underlying27, rfl, ⟨⟨_, rfl, rfl, by kernel_rfl⟩, by decide, by kernel_rfl, by kernel_rfl⟩⟩
theorem trow28 : RowOK T Try.prog 28 ⟨1, 8, .func, [.nilFunc]⟩ := ⟨Try.t28, _, _, Try.type28, rfl, rfl, rfl, rfl, rfl, rfl, fun h => Bool.noConfusion h, Try.underlying28, rfl, ⟨_, _, _, rfl⟩⟩
theorem trow29 : RowOK T Try.prog 29 ⟨1, 8, .func, [.nilFunc]⟩ := ⟨Try.t29, _, _, Try.type29, rfl, rfl, rfl, rfl, rfl, rfl, fun h => Bool.noConfusion h, Try.underlying29, rfl, ⟨_, _, _, rfl⟩⟩
theorem trow30 : RowOK T Try.prog 30 ⟨1, 8, .int .i64, [.int .i64 0]⟩ := ⟨Try.t30, _, _, Try.type30, rfl, rfl, rfl, rfl, rfl, rfl, fun h => Bool.noConfusion h, Try.underlying30, rfl, rfl⟩
theorem trow31 : RowOK T Try.prog 31 ⟨6, 40, .struct [(0, 3), (1, 3), (2, 3), (3, 4), (4, 4), (5, 30)], [.int .i64 0, .int .i64 0, .int .i64 0, .bool false, .bool false, .int .i64 0]⟩ := ⟨Try.t31, _, _, Try.type31, rfl, rfl, rfl, rfl, rfl, rfl, fun _ => ⟨_, rfl⟩, Try.underlying31, rfl, ⟨⟨_, rfl, rfl, by kernel_rfl⟩, by decide, by kernel_rfl, by kernel_rfl⟩⟩
theorem trow32 : RowOK T Try.prog 32 ⟨6, 40, .struct [(0, 3), (1, 3), (2, 3), (3, 4), (4, 4), (5, 30)], [.int .i64 0, .int .i64 0, .int .i64 0, .bool false, .bool false, .int .i64 0]⟩ := ⟨Try.t32, _, _, Try.type32, rfl, rfl, rfl, rfl, rfl, rfl, fun _ => ⟨_, rfl⟩, Try.underlying32, rfl, ⟨⟨_, rfl, rfl, by kernel_rfl⟩, by decide, by kernel_rfl, by kernel_rfl⟩⟩
theorem trow33 : RowOK T Try.prog 33 ⟨15, 128, .struct [(0, 5), (1, 5), (2, 32), (8, 27), (12, 3), (13, 22), (14, 30)], [.int .u8 0, .int .u8 0, .int .i64 0, .int .i64 0, .int .i64 0, .bool false, .bool false, .int .i64 0, .string ByteArray.empty, .int .i64 0, .int .i64 0, .bool false, .int .i64 0, .slice none 0 0, .int .i64 0]⟩ := ⟨Try.t33, _, _, Try.type33, rfl, rfl, rfl, rfl, rfl, rfl, fun _ => ⟨_, rfl⟩, Try.underlying33, rfl, ⟨⟨_, rfl, rfl, by kernel_rfl⟩, by decide, by kernel_rfl, by kernel_rfl⟩⟩
theorem trow34 : RowOK T Try.prog 34 ⟨15, 128, .struct [(0, 5), (1, 5), (2, 32), (8, 27), (12, 3), (13, 22), (14, 30)], [.int .u8 0, .int .u8 0, .int .i64 0, .int .i64 0, .int .i64 0, .bool false, .bool false, .int .i64 0, .string ByteArray.empty, .int .i64 0, .int .i64 0, .bool false, .int .i64 0, .slice none 0 0, .int .i64 0]⟩ := ⟨Try.t34, _, _, Try.type34, rfl, rfl, rfl, rfl, rfl, rfl, fun _ => ⟨_, rfl⟩, Try.underlying34, rfl, ⟨⟨_, rfl, rfl, by kernel_rfl⟩, by decide, by kernel_rfl, by kernel_rfl⟩⟩
theorem trow35 : RowOK T Try.prog 35 ⟨1, 24, .slice 39, [.slice none 0 0]⟩ := ⟨Try.t35, _, _, Try.type35, rfl, rfl, rfl, rfl, rfl, rfl, fun h => Bool.noConfusion h, Try.underlying35, rfl, ⟨rfl, by decide⟩⟩
theorem trow37 : RowOK T Try.prog 37 ⟨1, 8, .func, [.nilFunc]⟩ := ⟨Try.t37, _, _, Try.type37, rfl, rfl, rfl, rfl, rfl, rfl, fun h => Bool.noConfusion h, Try.underlying37, rfl, ⟨_, _, _, rfl⟩⟩
theorem trow38 : RowOK T Try.prog 38 ⟨15, 136, .struct [(0, 5), (1, 3), (2, 3), (3, 3), (4, 3), (5, 4), (6, 4), (7, 3), (8, 3), (9, 22), (10, 27), (14, 30)], [.int .u8 0, .int .i64 0, .int .i64 0, .int .i64 0, .int .i64 0, .bool false, .bool false, .int .i64 0, .int .i64 0, .slice none 0 0, .string ByteArray.empty, .int .i64 0, .int .i64 0, .bool false, .int .i64 0]⟩ := ⟨Try.t38, _, _, Try.type38, rfl, rfl, rfl, rfl, rfl, rfl, fun _ => ⟨_, rfl⟩, Try.underlying38, rfl, ⟨⟨_, rfl, rfl, by kernel_rfl⟩, by decide, by kernel_rfl, by kernel_rfl⟩⟩
theorem trow39 : RowOK T Try.prog 39 ⟨15, 136, .struct [(0, 5), (1, 3), (2, 3), (3, 3), (4, 3), (5, 4), (6, 4), (7, 3), (8, 3), (9, 22), (10, 27), (14, 30)], [.int .u8 0, .int .i64 0, .int .i64 0, .int .i64 0, .int .i64 0, .bool false, .bool false, .int .i64 0, .int .i64 0, .slice none 0 0, .string ByteArray.empty, .int .i64 0, .int .i64 0, .bool false, .int .i64 0]⟩ := ⟨Try.t39, _, _, Try.type39, rfl, rfl, rfl, rfl, rfl, rfl, fun _ => ⟨_, rfl⟩, Try.underlying39, rfl, ⟨⟨_, rfl, rfl, by kernel_rfl⟩, by decide, by kernel_rfl, by kernel_rfl⟩⟩
theorem trow40 : RowOK T Try.prog 40 ⟨1, 8, .func, [.nilFunc]⟩ := ⟨Try.t40, _, _, Try.type40, rfl, rfl, rfl, rfl, rfl, rfl, fun h => Bool.noConfusion h, Try.underlying40, rfl, ⟨_, _, _, rfl⟩⟩
theorem trow41 : RowOK T Try.prog 41 ⟨1, 8, .func, [.nilFunc]⟩ := ⟨Try.t41, _, _, Try.type41, rfl, rfl, rfl, rfl, rfl, rfl, fun h => Bool.noConfusion h, Try.underlying41, rfl, ⟨_, _, _, rfl⟩⟩
theorem trow42 : RowOK T Try.prog 42 ⟨1, 8, .func, [.nilFunc]⟩ := ⟨Try.t42, _, _, Try.type42, rfl, rfl, rfl, rfl, rfl, rfl, fun h => Bool.noConfusion h, Try.underlying42, rfl, ⟨_, _, _, rfl⟩⟩
theorem trow43 : RowOK T Try.prog 43 ⟨1, 8, .func, [.nilFunc]⟩ := ⟨Try.t43, _, _, Try.type43, rfl, rfl, rfl, rfl, rfl, rfl, fun h => Bool.noConfusion h, Try.underlying43, rfl, ⟨_, _, _, rfl⟩⟩
theorem trow44 : RowOK T Try.prog 44 ⟨1, 8, .func, [.nilFunc]⟩ := ⟨Try.t44, _, _, Try.type44, rfl, rfl, rfl, rfl, rfl, rfl, fun h => Bool.noConfusion h, Try.underlying44, rfl, ⟨_, _, _, rfl⟩⟩
theorem trow45 : RowOK T Try.prog 45 ⟨1, 8, .func, [.nilFunc]⟩ := ⟨Try.t45, _, _, Try.type45, rfl, rfl, rfl, rfl, rfl, rfl, fun h => Bool.noConfusion h, Try.underlying45, rfl, ⟨_, _, _, rfl⟩⟩
theorem trow46 : RowOK T Try.prog 46 ⟨1, 8, .func, [.nilFunc]⟩ := ⟨Try.t46, _, _, Try.type46, rfl, rfl, rfl, rfl, rfl, rfl, fun h => Bool.noConfusion h, Try.underlying46, rfl, ⟨_, _, _, rfl⟩⟩
theorem trow47 : RowOK T Try.prog 47 ⟨1, 8, .func, [.nilFunc]⟩ := ⟨Try.t47, _, _, Try.type47, rfl, rfl, rfl, rfl, rfl, rfl, fun h => Bool.noConfusion h, Try.underlying47, rfl, ⟨_, _, _, rfl⟩⟩
theorem trow48 : RowOK T Try.prog 48 ⟨1, 8, .func, [.nilFunc]⟩ := ⟨Try.t48, _, _, Try.type48, rfl, rfl, rfl, rfl, rfl, rfl, fun h => Bool.noConfusion h, Try.underlying48, rfl, ⟨_, _, _, rfl⟩⟩
theorem trow49 : RowOK T Try.prog 49 ⟨1, 8, .func, [.nilFunc]⟩ := ⟨Try.t49, _, _, Try.type49, rfl, rfl, rfl, rfl, rfl, rfl, fun h => Bool.noConfusion h, Try.underlying49, rfl, ⟨_, _, _, rfl⟩⟩
theorem trow51 : RowOK T Try.prog 51 ⟨1, 8, .func, [.nilFunc]⟩ := ⟨Try.t51, _, _, Try.type51, rfl, rfl, rfl, rfl, rfl, rfl, fun h => Bool.noConfusion h, Try.underlying51, rfl, ⟨_, _, _, rfl⟩⟩
theorem trow52 : RowOK T Try.prog 52 ⟨37, 352, .struct [(0, 25), (20, 34), (35, 35), (36, 4)], [.int .i64 0, .slice none 0 0, .slice none 0 0, .int .i64 0, .int .i64 0, .int .i64 0, .int .i64 0, .int .i64 0, .int .i64 0, .int .i64 0, .int .i64 0, .int .i64 0, .int .i64 0, .int .i64 0, .int .i64 0, .int .i64 0, .int .i64 0, .int .i64 0, .int .i64 0, .int .i64 0, .int .u8 0, .int .u8 0, .int .i64 0, .int .i64 0, .int .i64 0, .bool false, .bool false, .int .i64 0, .string ByteArray.empty, .int .i64 0, .int .i64 0, .bool false, .int .i64 0, .slice none 0 0, .int .i64 0, .slice none 0 0, .bool false]⟩ := ⟨Try.t52, _, _, Try.type52, rfl, rfl, rfl, rfl, rfl, rfl, fun _ => ⟨_, rfl⟩, Try.underlying52, rfl, ⟨⟨_, rfl, rfl, by kernel_rfl⟩, by decide, by kernel_rfl, by kernel_rfl⟩⟩
theorem trow53 : RowOK T Try.prog 53 ⟨37, 352, .struct [(0, 25), (20, 34), (35, 35), (36, 4)], [.int .i64 0, .slice none 0 0, .slice none 0 0, .int .i64 0, .int .i64 0, .int .i64 0, .int .i64 0, .int .i64 0, .int .i64 0, .int .i64 0, .int .i64 0, .int .i64 0, .int .i64 0, .int .i64 0, .int .i64 0, .int .i64 0, .int .i64 0, .int .i64 0, .int .i64 0, .int .i64 0, .int .u8 0, .int .u8 0, .int .i64 0, .int .i64 0, .int .i64 0, .bool false, .bool false, .int .i64 0, .string ByteArray.empty, .int .i64 0, .int .i64 0, .bool false, .int .i64 0, .slice none 0 0, .int .i64 0, .slice none 0 0, .bool false]⟩ := ⟨Try.t53, _, _, Try.type53, rfl, rfl, rfl, rfl, rfl, rfl, fun _ => ⟨_, rfl⟩, Try.underlying53, rfl, ⟨⟨_, rfl, rfl, by kernel_rfl⟩, by decide, by kernel_rfl, by kernel_rfl⟩⟩
theorem trow54 : RowOK T Try.prog 54 ⟨1, 8, .func, [.nilFunc]⟩ := ⟨Try.t54, _, _, Try.type54, rfl, rfl, rfl, rfl, rfl, rfl, fun h => Bool.noConfusion h, Try.underlying54, rfl, ⟨_, _, _, rfl⟩⟩
theorem trow55 : RowOK T Try.prog 55 ⟨1, 8, .func, [.nilFunc]⟩ := ⟨Try.t55, _, _, Try.type55, rfl, rfl, rfl, rfl, rfl, rfl, fun h => Bool.noConfusion h, Try.underlying55, rfl, ⟨_, _, _, rfl⟩⟩
theorem trow56 : RowOK T Try.prog 56 ⟨1, 8, .func, [.nilFunc]⟩ := ⟨Try.t56, _, _, Try.type56, rfl, rfl, rfl, rfl, rfl, rfl, fun h => Bool.noConfusion h, Try.underlying56, rfl, ⟨_, _, _, rfl⟩⟩
theorem trow58 : RowOK T Try.prog 58 ⟨1, 8, .func, [.nilFunc]⟩ := ⟨Try.t58, _, _, Try.type58, rfl, rfl, rfl, rfl, rfl, rfl, fun h => Bool.noConfusion h, Try.underlying58, rfl, ⟨_, _, _, rfl⟩⟩
theorem trow59 : RowOK T Try.prog 59 ⟨1, 8, .func, [.nilFunc]⟩ := ⟨Try.t59, _, _, Try.type59, rfl, rfl, rfl, rfl, rfl, rfl, fun h => Bool.noConfusion h, Try.underlying59, rfl, ⟨_, _, _, rfl⟩⟩
theorem trow60 : RowOK T Try.prog 60 ⟨1, 8, .func, [.nilFunc]⟩ := ⟨Try.t60, _, _, Try.type60, rfl, rfl, rfl, rfl, rfl, rfl, fun h => Bool.noConfusion h, Try.underlying60, rfl, ⟨_, _, _, rfl⟩⟩
theorem trow61 : RowOK T Try.prog 61 ⟨1, 8, .func, [.nilFunc]⟩ := ⟨Try.t61, _, _, Try.type61, rfl, rfl, rfl, rfl, rfl, rfl, fun h => Bool.noConfusion h, Try.underlying61, rfl, ⟨_, _, _, rfl⟩⟩
theorem trow63 : RowOK T Try.prog 63 ⟨1, 8, .map 5 61, [.map none]⟩ := ⟨Try.t63, _, _, Try.type63, rfl, rfl, rfl, rfl, rfl, rfl, fun h => Bool.noConfusion h, Try.underlying63, rfl, rfl⟩
theorem trow64 : RowOK T Try.prog 64 ⟨1, 8, .func, [.nilFunc]⟩ := ⟨Try.t64, _, _, Try.type64, rfl, rfl, rfl, rfl, rfl, rfl, fun h => Bool.noConfusion h, Try.underlying64, rfl, ⟨_, _, _, rfl⟩⟩
theorem trow65 : RowOK T Try.prog 65 ⟨1, 8, .func, [.nilFunc]⟩ := ⟨Try.t65, _, _, Try.type65, rfl, rfl, rfl, rfl, rfl, rfl, fun h => Bool.noConfusion h, Try.underlying65, rfl, ⟨_, _, _, rfl⟩⟩
theorem trow67 : RowOK T Try.prog 67 ⟨1, 8, .map 5 65, [.map none]⟩ := ⟨Try.t67, _, _, Try.type67, rfl, rfl, rfl, rfl, rfl, rfl, fun h => Bool.noConfusion h, Try.underlying67, rfl, rfl⟩
theorem trow68 : RowOK T Try.prog 68 ⟨1, 8, .func, [.nilFunc]⟩ := ⟨Try.t68, _, _, Try.type68, rfl, rfl, rfl, rfl, rfl, rfl, fun h => Bool.noConfusion h, Try.underlying68, rfl, ⟨_, _, _, rfl⟩⟩
theorem trow69 : RowOK T Try.prog 69 ⟨1, 8, .func, [.nilFunc]⟩ := ⟨Try.t69, _, _, Try.type69, rfl, rfl, rfl, rfl, rfl, rfl, fun h => Bool.noConfusion h, Try.underlying69, rfl, ⟨_, _, _, rfl⟩⟩
theorem trow70 : RowOK T Try.prog 70 ⟨1, 8, .func, [.nilFunc]⟩ := ⟨Try.t70, _, _, Try.type70, rfl, rfl, rfl, rfl, rfl, rfl, fun h => Bool.noConfusion h, Try.underlying70, rfl, ⟨_, _, _, rfl⟩⟩
theorem trow72 : RowOK T Try.prog 72 ⟨1, 8, .func, [.nilFunc]⟩ := ⟨Try.t72, _, _, Try.type72, rfl, rfl, rfl, rfl, rfl, rfl, fun h => Bool.noConfusion h, Try.underlying72, rfl, ⟨_, _, _, rfl⟩⟩
theorem trow73 : RowOK T Try.prog 73 ⟨1, 8, .func, [.nilFunc]⟩ := ⟨Try.t73, _, _, Try.type73, rfl, rfl, rfl, rfl, rfl, rfl, fun h => Bool.noConfusion h, Try.underlying73, rfl, ⟨_, _, _, rfl⟩⟩
theorem trow74 : RowOK T Try.prog 74 ⟨1, 8, .func, [.nilFunc]⟩ := ⟨Try.t74, _, _, Try.type74, rfl, rfl, rfl, rfl, rfl, rfl, fun h => Bool.noConfusion h, Try.underlying74, rfl, ⟨_, _, _, rfl⟩⟩
theorem trow75 : RowOK T Try.prog 75 ⟨1, 8, .func, [.nilFunc]⟩ := ⟨Try.t75, _, _, Try.type75, rfl, rfl, rfl, rfl, rfl, rfl, fun h => Bool.noConfusion h, Try.underlying75, rfl, ⟨_, _, _, rfl⟩⟩
theorem trow76 : RowOK T Try.prog 76 ⟨1, 8, .func, [.nilFunc]⟩ := ⟨Try.t76, _, _, Try.type76, rfl, rfl, rfl, rfl, rfl, rfl, fun h => Bool.noConfusion h, Try.underlying76, rfl, ⟨_, _, _, rfl⟩⟩
theorem trow77 : RowOK T Try.prog 77 ⟨1, 8, .func, [.nilFunc]⟩ := ⟨Try.t77, _, _, Try.type77, rfl, rfl, rfl, rfl, rfl, rfl, fun h => Bool.noConfusion h, Try.underlying77, rfl, ⟨_, _, _, rfl⟩⟩
theorem trow79 : RowOK T Try.prog 79 ⟨1, 8, .func, [.nilFunc]⟩ := ⟨Try.t79, _, _, Try.type79, rfl, rfl, rfl, rfl, rfl, rfl, fun h => Bool.noConfusion h, Try.underlying79, rfl, ⟨_, _, _, rfl⟩⟩
theorem trow80 : RowOK T Try.prog 80 ⟨1, 8, .func, [.nilFunc]⟩ := ⟨Try.t80, _, _, Try.type80, rfl, rfl, rfl, rfl, rfl, rfl, fun h => Bool.noConfusion h, Try.underlying80, rfl, ⟨_, _, _, rfl⟩⟩
theorem trow81 : RowOK T Try.prog 81 ⟨1, 8, .ptr 53, [.pointer none]⟩ := ⟨Try.t81, _, _, Try.type81, rfl, rfl, rfl, rfl, rfl, rfl, fun h => Bool.noConfusion h, Try.underlying81, rfl, rfl⟩
theorem trow82 : RowOK T Try.prog 82 ⟨1, 8, .ptr 34, [.pointer none]⟩ := ⟨Try.t82, _, _, Try.type82, rfl, rfl, rfl, rfl, rfl, rfl, fun h => Bool.noConfusion h, Try.underlying82, rfl, rfl⟩
theorem trow84 : RowOK T Try.prog 84 ⟨1, 8, .func, [.nilFunc]⟩ := ⟨Try.t84, _, _, Try.type84, rfl, rfl, rfl, rfl, rfl, rfl, fun h => Bool.noConfusion h, Try.underlying84, rfl, ⟨_, _, _, rfl⟩⟩
theorem trow85 : RowOK T Try.prog 85 ⟨1, 8, .func, [.nilFunc]⟩ := ⟨Try.t85, _, _, Try.type85, rfl, rfl, rfl, rfl, rfl, rfl, fun h => Bool.noConfusion h, Try.underlying85, rfl, ⟨_, _, _, rfl⟩⟩
theorem trow86 : RowOK T Try.prog 86 ⟨1, 8, .func, [.nilFunc]⟩ := ⟨Try.t86, _, _, Try.type86, rfl, rfl, rfl, rfl, rfl, rfl, fun h => Bool.noConfusion h, Try.underlying86, rfl, ⟨_, _, _, rfl⟩⟩
theorem trow87 : RowOK T Try.prog 87 ⟨1, 8, .func, [.nilFunc]⟩ := ⟨Try.t87, _, _, Try.type87, rfl, rfl, rfl, rfl, rfl, rfl, fun h => Bool.noConfusion h, Try.underlying87, rfl, ⟨_, _, _, rfl⟩⟩
theorem trow88 : RowOK T Try.prog 88 ⟨1, 8, .func, [.nilFunc]⟩ := ⟨Try.t88, _, _, Try.type88, rfl, rfl, rfl, rfl, rfl, rfl, fun h => Bool.noConfusion h, Try.underlying88, rfl, ⟨_, _, _, rfl⟩⟩
theorem trow89 : RowOK T Try.prog 89 ⟨1, 8, .func, [.nilFunc]⟩ := ⟨Try.t89, _, _, Try.type89, rfl, rfl, rfl, rfl, rfl, rfl, fun h => Bool.noConfusion h, Try.underlying89, rfl, ⟨_, _, _, rfl⟩⟩
theorem trow90 : RowOK T Try.prog 90 ⟨1, 8, .func, [.nilFunc]⟩ := ⟨Try.t90, _, _, Try.type90, rfl, rfl, rfl, rfl, rfl, rfl, fun h => Bool.noConfusion h, Try.underlying90, rfl, ⟨_, _, _, rfl⟩⟩
theorem trow91 : RowOK T Try.prog 91 ⟨1, 8, .func, [.nilFunc]⟩ := ⟨Try.t91, _, _, Try.type91, rfl, rfl, rfl, rfl, rfl, rfl, fun h => Bool.noConfusion h, Try.underlying91, rfl, ⟨_, _, _, rfl⟩⟩
theorem trow92 : RowOK T Try.prog 92 ⟨1, 8, .func, [.nilFunc]⟩ := ⟨Try.t92, _, _, Try.type92, rfl, rfl, rfl, rfl, rfl, rfl, fun h => Bool.noConfusion h, Try.underlying92, rfl, ⟨_, _, _, rfl⟩⟩
theorem trow93 : RowOK T Try.prog 93 ⟨1, 8, .func, [.nilFunc]⟩ := ⟨Try.t93, _, _, Try.type93, rfl, rfl, rfl, rfl, rfl, rfl, fun h => Bool.noConfusion h, Try.underlying93, rfl, ⟨_, _, _, rfl⟩⟩
theorem trow94 : RowOK T Try.prog 94 ⟨1, 8, .func, [.nilFunc]⟩ := ⟨Try.t94, _, _, Try.type94, rfl, rfl, rfl, rfl, rfl, rfl, fun h => Bool.noConfusion h, Try.underlying94, rfl, ⟨_, _, _, rfl⟩⟩
theorem trow95 : RowOK T Try.prog 95 ⟨1, 8, .func, [.nilFunc]⟩ := ⟨Try.t95, _, _, Try.type95, rfl, rfl, rfl, rfl, rfl, rfl, fun h => Bool.noConfusion h, Try.underlying95, rfl, ⟨_, _, _, rfl⟩⟩
theorem trow96 : RowOK T Try.prog 96 ⟨1, 8, .func, [.nilFunc]⟩ := ⟨Try.t96, _, _, Try.type96, rfl, rfl, rfl, rfl, rfl, rfl, fun h => Bool.noConfusion h, Try.underlying96, rfl, ⟨_, _, _, rfl⟩⟩
theorem trow97 : RowOK T Try.prog 97 ⟨1, 8, .func, [.nilFunc]⟩ := ⟨Try.t97, _, _, Try.type97, rfl, rfl, rfl, rfl, rfl, rfl, fun h => Bool.noConfusion h, Try.underlying97, rfl, ⟨_, _, _, rfl⟩⟩
theorem trow98 : RowOK T Try.prog 98 ⟨1, 8, .func, [.nilFunc]⟩ := ⟨Try.t98, _, _, Try.type98, rfl, rfl, rfl, rfl, rfl, rfl, fun h => Bool.noConfusion h, Try.underlying98, rfl, ⟨_, _, _, rfl⟩⟩
theorem trow99 : RowOK T Try.prog 99 ⟨1, 8, .func, [.nilFunc]⟩ := ⟨Try.t99, _, _, Try.type99, rfl, rfl, rfl, rfl, rfl, rfl, fun h => Bool.noConfusion h, Try.underlying99, rfl, ⟨_, _, _, rfl⟩⟩
theorem trow100 : RowOK T Try.prog 100 ⟨1, 8, .func, [.nilFunc]⟩ := ⟨Try.t100, _, _, Try.type100, rfl, rfl, rfl, rfl, rfl, rfl, fun h => Bool.noConfusion h, Try.underlying100, rfl, ⟨_, _, _, rfl⟩⟩
theorem trow101 : RowOK T Try.prog 101 ⟨1, 8, .func, [.nilFunc]⟩ := ⟨Try.t101, _, _, Try.type101, rfl, rfl, rfl, rfl, rfl, rfl, fun h => Bool.noConfusion h, Try.underlying101, rfl, ⟨_, _, _, rfl⟩⟩
theorem trow102 : RowOK T Try.prog 102 ⟨1, 8, .func, [.nilFunc]⟩ := ⟨Try.t102, _, _, Try.type102, rfl, rfl, rfl, rfl, rfl, rfl, fun h => Bool.noConfusion h, Try.underlying102, rfl, ⟨_, _, _, rfl⟩⟩
theorem trow103 : RowOK T Try.prog 103 ⟨1, 8, .func, [.nilFunc]⟩ := ⟨Try.t103, _, _, Try.type103, rfl, rfl, rfl, rfl, rfl, rfl, fun h => Bool.noConfusion h, Try.underlying103, rfl, ⟨_, _, _, rfl⟩⟩
theorem trow104 : RowOK T Try.prog 104 ⟨1, 8, .func, [.nilFunc]⟩ := ⟨Try.t104, _, _, Try.type104, rfl, rfl, rfl, rfl, rfl, rfl, fun h => Bool.noConfusion h, Try.underlying104, rfl, ⟨_, _, _, rfl⟩⟩
theorem trow105 : RowOK T Try.prog 105 ⟨1, 8, .func, [.nilFunc]⟩ := ⟨Try.t105, _, _, Try.type105, rfl, rfl, rfl, rfl, rfl, rfl, fun h => Bool.noConfusion h, Try.underlying105, rfl, ⟨_, _, _, rfl⟩⟩
theorem trow106 : RowOK T Try.prog 106 ⟨1, 8, .func, [.nilFunc]⟩ := ⟨Try.t106, _, _, Try.type106, rfl, rfl, rfl, rfl, rfl, rfl, fun h => Bool.noConfusion h, Try.underlying106, rfl, ⟨_, _, _, rfl⟩⟩
theorem trow108 : RowOK T Try.prog 108 ⟨1, 8, .func, [.nilFunc]⟩ := ⟨Try.t108, _, _, Try.type108, rfl, rfl, rfl, rfl, rfl, rfl, fun h => Bool.noConfusion h, Try.underlying108, rfl, ⟨_, _, _, rfl⟩⟩
theorem trow109 : RowOK T Try.prog 109 ⟨1, 8, .func, [.nilFunc]⟩ := ⟨Try.t109, _, _, Try.type109, rfl, rfl, rfl, rfl, rfl, rfl, fun h => Bool.noConfusion h, Try.underlying109, rfl, ⟨_, _, _, rfl⟩⟩
theorem trow110 : RowOK T Try.prog 110 ⟨1, 8, .func, [.nilFunc]⟩ := ⟨Try.t110, _, _, Try.type110, rfl, rfl, rfl, rfl, rfl, rfl, fun h => Bool.noConfusion h, Try.underlying110, rfl, ⟨_, _, _, rfl⟩⟩
theorem trow111 : RowOK T Try.prog 111 ⟨1, 8, .func, [.nilFunc]⟩ := ⟨Try.t111, _, _, Try.type111, rfl, rfl, rfl, rfl, rfl, rfl, fun h => Bool.noConfusion h, Try.underlying111, rfl, ⟨_, _, _, rfl⟩⟩
theorem trow112 : RowOK T Try.prog 112 ⟨1, 8, .func, [.nilFunc]⟩ := ⟨Try.t112, _, _, Try.type112, rfl, rfl, rfl, rfl, rfl, rfl, fun h => Bool.noConfusion h, Try.underlying112, rfl, ⟨_, _, _, rfl⟩⟩
theorem trow113 : RowOK T Try.prog 113 ⟨1, 8, .func, [.nilFunc]⟩ := ⟨Try.t113, _, _, Try.type113, rfl, rfl, rfl, rfl, rfl, rfl, fun h => Bool.noConfusion h, Try.underlying113, rfl, ⟨_, _, _, rfl⟩⟩
theorem trow114 : RowOK T Try.prog 114 ⟨1, 8, .func, [.nilFunc]⟩ := ⟨Try.t114, _, _, Try.type114, rfl, rfl, rfl, rfl, rfl, rfl, fun h => Bool.noConfusion h, Try.underlying114, rfl, ⟨_, _, _, rfl⟩⟩
theorem trow115 : RowOK T Try.prog 115 ⟨1, 8, .func, [.nilFunc]⟩ := ⟨Try.t115, _, _, Try.type115, rfl, rfl, rfl, rfl, rfl, rfl, fun h => Bool.noConfusion h, Try.underlying115, rfl, ⟨_, _, _, rfl⟩⟩
theorem trow116 : RowOK T Try.prog 116 ⟨1, 8, .func, [.nilFunc]⟩ := ⟨Try.t116, _, _, Try.type116, rfl, rfl, rfl, rfl, rfl, rfl, fun h => Bool.noConfusion h, Try.underlying116, rfl, ⟨_, _, _, rfl⟩⟩
theorem trow117 : RowOK T Try.prog 117 ⟨1, 8, .func, [.nilFunc]⟩ := ⟨Try.t117, _, _, Try.type117, rfl, rfl, rfl, rfl, rfl, rfl, fun h => Bool.noConfusion h, Try.underlying117, rfl, ⟨_, _, _, rfl⟩⟩
theorem trow118 : RowOK T Try.prog 118 ⟨1, 8, .func, [.nilFunc]⟩ := ⟨Try.t118, _, _, Try.type118, rfl, rfl, rfl, rfl, rfl, rfl, fun h => Bool.noConfusion h, Try.underlying118, rfl, ⟨_, _, _, rfl⟩⟩
theorem trow119 : RowOK T Try.prog 119 ⟨1, 8, .func, [.nilFunc]⟩ := ⟨Try.t119, _, _, Try.type119, rfl, rfl, rfl, rfl, rfl, rfl, fun h => Bool.noConfusion h, Try.underlying119, rfl, ⟨_, _, _, rfl⟩⟩
theorem trow120 : RowOK T Try.prog 120 ⟨1, 8, .func, [.nilFunc]⟩ := ⟨Try.t120, _, _, Try.type120, rfl, rfl, rfl, rfl, rfl, rfl, fun h => Bool.noConfusion h, Try.underlying120, rfl, ⟨_, _, _, rfl⟩⟩
theorem trow121 : RowOK T Try.prog 121 ⟨1, 8, .func, [.nilFunc]⟩ := ⟨Try.t121, _, _, Try.type121, rfl, rfl, rfl, rfl, rfl, rfl, fun h => Bool.noConfusion h, Try.underlying121, rfl, ⟨_, _, _, rfl⟩⟩
theorem trow122 : RowOK T Try.prog 122 ⟨1, 8, .func, [.nilFunc]⟩ := ⟨Try.t122, _, _, Try.type122, rfl, rfl, rfl, rfl, rfl, rfl, fun h => Bool.noConfusion h, Try.underlying122, rfl, ⟨_, _, _, rfl⟩⟩
theorem trow123 : RowOK T Try.prog 123 ⟨1, 8, .func, [.nilFunc]⟩ := ⟨Try.t123, _, _, Try.type123, rfl, rfl, rfl, rfl, rfl, rfl, fun h => Bool.noConfusion h, Try.underlying123, rfl, ⟨_, _, _, rfl⟩⟩
theorem trow129 : RowOK T Try.prog 129 ⟨1, 8, .func, [.nilFunc]⟩ := ⟨Try.t129, _, _, Try.type129, rfl, rfl, rfl, rfl, rfl, rfl, fun h => Bool.noConfusion h, Try.underlying129, rfl, ⟨_, _, _, rfl⟩⟩
theorem trow130 : RowOK T Try.prog 130 ⟨1, 4, .int .u32, [.int .u32 0]⟩ := ⟨Try.t130, _, _, Try.type130, rfl, rfl, rfl, rfl, rfl, rfl, fun h => Bool.noConfusion h, Try.underlying130, rfl, rfl⟩
theorem trow133 : RowOK T Try.prog 133 ⟨1, 8, .func, [.nilFunc]⟩ := ⟨Try.t133, _, _, Try.type133, rfl, rfl, rfl, rfl, rfl, rfl, fun h => Bool.noConfusion h, Try.underlying133, rfl, ⟨_, _, _, rfl⟩⟩
theorem trow134 : RowOK T Try.prog 134 ⟨1, 8, .ptr 5, [.pointer none]⟩ := ⟨Try.t134, _, _, Try.type134, rfl, rfl, rfl, rfl, rfl, rfl, fun h => Bool.noConfusion h, Try.underlying134, rfl, rfl⟩

theorem tok : TOK T Try.prog := TOK.of (by
  show RowsOK T Try.prog 0 _
  exact 
    ⟨fun h => absurd rfl h, ⟨fun _ => trow1, ⟨fun _ => trow2, ⟨fun _ => trow3, ⟨fun _ => trow4, ⟨fun _ => trow5, ⟨fun h => absurd rfl h, ⟨fun h => absurd rfl h, ⟨fun h => absurd rfl h, ⟨fun _ => trow9, ⟨fun h => absurd rfl h, ⟨fun h => absurd rfl h, ⟨fun _ => trow12, ⟨fun h => absurd rfl h, ⟨fun h => absurd rfl h, ⟨fun h => absurd rfl h, ⟨fun h => absurd rfl h, ⟨fun h => absurd rfl h, ⟨fun h => absurd rfl h, ⟨fun h => absurd rfl h, ⟨fun h => absurd rfl h, ⟨fun _ => trow21, ⟨fun _ => trow22, ⟨fun _ => trow23, ⟨fun _ => trow24, ⟨fun _ => trow25, ⟨fun _ => trow26, ⟨fun _ => trow27, ⟨fun _ => trow28, ⟨fun _ => trow29, ⟨fun _ => trow30, ⟨fun _ => trow31, ⟨fun _ => trow32, ⟨fun _ => trow33, ⟨fun _ => trow34, ⟨fun _ => trow35, ⟨fun h => absurd rfl h, ⟨fun _ => trow37, ⟨fun _ => trow38, ⟨fun _ => trow39, ⟨fun _ => trow40, ⟨fun _ => trow41, ⟨fun _ => trow42, ⟨fun _ => trow43, ⟨fun _ => trow44, ⟨fun _ => trow45, ⟨fun _ => trow46, ⟨fun _ => trow47, ⟨fun _ => trow48, ⟨fun _ => trow49, ⟨fun h => absurd rfl h, ⟨fun _ => trow51, ⟨fun _ => trow52, ⟨fun _ => trow53, ⟨fun _ => trow54, ⟨fun _ => trow55, ⟨fun _ => trow56, ⟨fun h => absurd rfl h, ⟨fun _ => trow58, ⟨fun _ => trow59, ⟨fun _ => trow60, ⟨fun _ => trow61, ⟨fun h => absurd rfl h, ⟨fun _ => trow63, ⟨fun _ => trow64, ⟨fun _ => trow65, ⟨fun h => absurd rfl h, ⟨fun _ => trow67, ⟨fun _ => trow68, ⟨fun _ => trow69, ⟨fun _ => trow70, ⟨fun h => absurd rfl h, ⟨fun _ => trow72, ⟨fun _ => trow73, ⟨fun _ => trow74, ⟨fun _ => trow75, ⟨fun _ => trow76, ⟨fun _ => trow77, ⟨fun h => absurd rfl h, ⟨fun _ => trow79, ⟨fun _ => trow80, ⟨fun _ => trow81, ⟨fun _ => trow82, ⟨fun h => absurd rfl h, ⟨fun _ => trow84, ⟨fun _ => trow85, ⟨fun _ => trow86, ⟨fun _ => trow87, ⟨fun _ => trow88, ⟨fun _ => trow89, ⟨fun _ => trow90, ⟨fun _ => trow91, ⟨fun _ => trow92, ⟨fun _ => trow93, ⟨fun _ => trow94, ⟨fun _ => trow95, ⟨fun _ => trow96, ⟨fun _ => trow97, ⟨fun _ => trow98, ⟨fun _ => trow99, ⟨fun _ => trow100, ⟨fun _ => trow101, ⟨fun _ => trow102, ⟨fun _ => trow103, ⟨fun _ => trow104, ⟨fun _ => trow105, ⟨fun _ => trow106, ⟨fun h => absurd rfl h, ⟨fun _ => trow108, ⟨fun _ => trow109, ⟨fun _ => trow110, ⟨fun _ => trow111, ⟨fun _ => trow112, ⟨fun _ => trow113, ⟨fun _ => trow114, ⟨fun _ => trow115, ⟨fun _ => trow116, ⟨fun _ => trow117, ⟨fun _ => trow118, ⟨fun _ => trow119, ⟨fun _ => trow120, ⟨fun _ => trow121, ⟨fun _ => trow122, ⟨fun _ => trow123, ⟨fun h => absurd rfl h, ⟨fun h => absurd rfl h, ⟨fun h => absurd rfl h, ⟨fun h => absurd rfl h, ⟨fun h => absurd rfl h, ⟨fun _ => trow129, ⟨fun _ => trow130, ⟨fun h => absurd rfl h, ⟨fun h => absurd rfl h, ⟨fun _ => trow133, ⟨fun _ => trow134, ⟨fun h => absurd rfl h, ⟨fun h => absurd rfl h, ⟨fun h => absurd rfl h, ⟨fun h => absurd rfl h, ⟨fun h => absurd rfl h, trivial⟩⟩⟩⟩⟩⟩⟩⟩⟩⟩⟩⟩⟩⟩⟩⟩⟩⟩⟩⟩⟩⟩⟩⟩⟩⟩⟩⟩⟩⟩⟩⟩⟩⟩⟩⟩⟩⟩⟩⟩⟩⟩⟩⟩⟩⟩⟩⟩⟩⟩⟩⟩⟩⟩⟩⟩⟩⟩⟩⟩⟩⟩⟩⟩⟩⟩⟩⟩⟩⟩⟩⟩⟩⟩⟩⟩⟩⟩⟩⟩⟩⟩⟩⟩⟩⟩⟩⟩⟩⟩⟩⟩⟩⟩⟩⟩⟩⟩⟩⟩⟩⟩⟩⟩⟩⟩⟩⟩⟩⟩⟩⟩⟩⟩⟩⟩⟩⟩⟩⟩⟩⟩⟩⟩⟩⟩⟩⟩⟩⟩⟩⟩⟩⟩⟩⟩⟩⟩⟩⟩) (by decide)
theorem Tat1 : T.at 1 = ⟨1, 8, .func, [.nilFunc]⟩ := rfl
theorem Tat2 : T.at 2 = ⟨1, 8, .int .i64, [.int .i64 0]⟩ := rfl
theorem Tat3 : T.at 3 = ⟨1, 8, .int .i64, [.int .i64 0]⟩ := rfl
theorem Tat4 : T.at 4 = ⟨1, 1, .bool, [.bool false]⟩ := rfl
theorem Tat5 : T.at 5 = ⟨1, 1, .int .u8, [.int .u8 0]⟩ := rfl
theorem Tat9 : T.at 9 = ⟨1, 16, .str, [.string ByteArray.empty]⟩ := rfl
theorem Tat12 : T.at 12 = ⟨1, 8, .int .u64, [.int .u64 0]⟩ := rfl
theorem Tat21 : T.at 21 = ⟨1, 4, .int .i32, [.int .i32 0]⟩ := rfl
theorem Tat22 : T.at 22 = ⟨1, 24, .slice 3, [.slice none 0 0]⟩ := rfl
theorem Tat23 : T.at 23 = ⟨16, 128, .arr 16 3, [.int .i64 0, .int .i64 0, .int .i64 0, .int .i64 0, .int .i64 0, .int .i64 0, .int .i64 0, .int .i64 0, .int .i64 0, .int .i64 0, .int .i64 0, .int .i64 0, .int .i64 0, .int .i64 0, .int .i64 0, .int .i64 0]⟩ := rfl
theorem Tat24 : T.at 24 = ⟨20, 192, .struct [(0, 3), (1, 22), (2, 22), (3, 3), (4, 23)], [.int .i64 0, .slice none 0 0, .slice none 0 0, .int .i64 0, .int .i64 0, .int .i64 0, .int .i64 0, .int .i64 0, .int .i64 0, .int .i64 0, .int .i64 0, .int .i64 0, .int .i64 0, .int .i64 0, .int .i64 0, .int .i64 0, .int .i64 0, .int .i64 0, .int .i64 0, .int .i64 0]⟩ := rfl
theorem Tat25 : T.at 25 = ⟨20, 192, .struct [(0, 3), (1, 22), (2, 22), (3, 3), (4, 23)], [.int .i64 0, .slice none 0 0, .slice none 0 0, .int .i64 0, .int .i64 0, .int .i64 0, .int .i64 0, .int .i64 0, .int .i64 0, .int .i64 0, .int .i64 0, .int .i64 0, .int .i64 0, .int .i64 0, .int .i64 0, .int .i64 0, .int .i64 0, .int .i64 0, .int .i64 0, .int .i64 0]⟩ := rfl
theorem Tat26 : T.at 26 = ⟨4, 40, .struct [(0, 9), (1, 3), (2, 3), (3, 4)], [.string ByteArray.empty, .int .i64 0, .int .i64 0, .bool false]⟩ := rfl
theorem Tat27 : T.at 27 = ⟨4, 40, .struct [(0, 9), (1, 3), (2, 3), (3, 4)], [.string ByteArray.empty, .int .i64 0, .int .i64 0, .bool false]⟩ := rfl
theorem Tat28 : T.at 28 = ⟨1, 8, .func, [.nilFunc]⟩ := rfl
theorem Tat29 : T.at 29 = ⟨1, 8, .func, [.nilFunc]⟩ := rfl
theorem Tat30 : T.at 30 = ⟨1, 8, .int .i64, [.int .i64 0]⟩ := rfl
theorem Tat31 : T.at 31 = ⟨6, 40, .struct [(0, 3), (1, 3), (2, 3), (3, 4), (4, 4), (5, 30)], [.int .i64 0, .int .i64 0, .int .i64 0, .bool false, .bool false, .int .i64 0]⟩ := rfl
theorem Tat32 : T.at 32 = ⟨6, 40, .struct [(0, 3), (1, 3), (2, 3), (3, 4), (4, 4), (5, 30)], [.int .i64 0, .int .i64 0, .int .i64 0, .bool false, .bool false, .int .i64 0]⟩ := rfl
theorem Tat33 : T.at 33 = ⟨15, 128, .struct [(0, 5), (1, 5), (2, 32), (8, 27), (12, 3), (13, 22), (14, 30)], [.int .u8 0, .int .u8 0, .int .i64 0, .int .i64 0, .int .i64 0, .bool false, .bool false, .int .i64 0, .string ByteArray.empty, .int .i64 0, .int .i64 0, .bool false, .int .i64 0, .slice none 0 0, .int .i64 0]⟩ := rfl
theorem Tat34 : T.at 34 = ⟨15, 128, .struct [(0, 5), (1, 5), (2, 32), (8, 27), (12, 3), (13, 22), (14, 30)], [.int .u8 0, .int .u8 0, .int .i64 0, .int .i64 0, .int .i64 0, .bool false, .bool false, .int .i64 0, .string ByteArray.empty, .int .i64 0, .int .i64 0, .bool false, .int .i64 0, .slice none 0 0, .int .i64 0]⟩ := rfl
theorem Tat35 : T.at 35 = ⟨1, 24, .slice 39, [.slice none 0 0]⟩ := rfl
theorem Tat37 : T.at 37 = ⟨1, 8, .func, [.nilFunc]⟩ := rfl
theorem Tat38 : T.at 38 = ⟨15, 136, .struct [(0, 5), (1, 3), (2, 3), (3, 3), (4, 3), (5, 4), (6, 4), (7, 3), (8, 3), (9, 22), (10, 27), (14, 30)], [.int .u8 0, .int .i64 0, .int .i64 0, .int .i64 0, .int .i64 0, .bool false, .bool false, .int .i64 0, .int .i64 0, .slice none 0 0, .string ByteArray.empty, .int .i64 0, .int .i64 0, .bool false, .int .i64 0]⟩ := rfl
theorem Tat39 : T.at 39 = ⟨15, 136, .struct [(0, 5), (1, 3), (2, 3), (3, 3), (4, 3), (5, 4), (6, 4), (7, 3), (8, 3), (9, 22), (10, 27), (14, 30)], [.int .u8 0, .int .i64 0, .int .i64 0, .int .i64 0, .int .i64 0, .bool false, .bool false, .int .i64 0, .int .i64 0, .slice none 0 0, .string ByteArray.empty, .int .i64 0, .int .i64 0, .bool false, .int .i64 0]⟩ := rfl
theorem Tat40 : T.at 40 = ⟨1, 8, .func, [.nilFunc]⟩ := rfl
theorem Tat41 : T.at 41 = ⟨1, 8, .func, [.nilFunc]⟩ := rfl
theorem Tat42 : T.at 42 = ⟨1, 8, .func, [.nilFunc]⟩ := rfl
theorem Tat43 : T.at 43 = ⟨1, 8, .func, [.nilFunc]⟩ := rfl
theorem Tat44 : T.at 44 = ⟨1, 8, .func, [.nilFunc]⟩ := rfl
theorem Tat45 : T.at 45 = ⟨1, 8, .func, [.nilFunc]⟩ := rfl
theorem Tat46 : T.at 46 = ⟨1, 8, .func, [.nilFunc]⟩ := rfl
theorem Tat47 : T.at 47 = ⟨1, 8, .func, [.nilFunc]⟩ := rfl
theorem Tat48 : T.at 48 = ⟨1, 8, .func, [.nilFunc]⟩ := rfl
theorem Tat49 : T.at 49 = ⟨1, 8, .func, [.nilFunc]⟩ := rfl
theorem Tat51 : T.at 51 = ⟨1, 8, .func, [.nilFunc]⟩ := rfl
theorem Tat52 : T.at 52 = ⟨37, 352, .struct [(0, 25), (20, 34), (35, 35), (36, 4)], [.int .i64 0, .slice none 0 0, .slice none 0 0, .int .i64 0, .int .i64 0, .int .i64 0, .int .i64 0, .int .i64 0, .int .i64 0, .int .i64 0, .int .i64 0, .int .i64 0, .int .i64 0, .int .i64 0, .int .i64 0, .int .i64 0, .int .i64 0, .int .i64 0, .int .i64 0, .int .i64 0, .int .u8 0, .int .u8 0, .int .i64 0, .int .i64 0, .int .i64 0, .bool false, .bool false, .int .i64 0, .string ByteArray.empty, .int .i64 0, .int .i64 0, .bool false, .int .i64 0, .slice none 0 0, .int .i64 0, .slice none 0 0, .bool false]⟩ := rfl
theorem Tat53 : T.at 53 = ⟨37, 352, .struct [(0, 25), (20, 34), (35, 35), (36, 4)], [.int .i64 0, .slice none 0 0, .slice none 0 0, .int .i64 0, .int .i64 0, .int .i64 0, .int .i64 0, .int .i64 0, .int .i64 0, .int .i64 0, .int .i64 0, .int .i64 0, .int .i64 0, .int .i64 0, .int .i64 0, .int .i64 0, .int .i64 0, .int .i64 0, .int .i64 0, .int .i64 0, .int .u8 0, .int .u8 0, .int .i64 0, .int .i64 0, .int .i64 0, .bool false, .bool false, .int .i64 0, .string ByteArray.empty, .int .i64 0, .int .i64 0, .bool false, .int .i64 0, .slice none 0 0, .int .i64 0, .slice none 0 0, .bool false]⟩ := rfl
theorem Tat54 : T.at 54 = ⟨1, 8, .func, [.nilFunc]⟩ := rfl
theorem Tat55 : T.at 55 = ⟨1, 8, .func, [.nilFunc]⟩ := rfl
theorem Tat56 : T.at 56 = ⟨1, 8, .func, [.nilFunc]⟩ := rfl
theorem Tat58 : T.at 58 = ⟨1, 8, .func, [.nilFunc]⟩ := rfl
theorem Tat59 : T.at 59 = ⟨1, 8, .func, [.nilFunc]⟩ := rfl
theorem Tat60 : T.at 60 = ⟨1, 8, .func, [.nilFunc]⟩ := rfl
theorem Tat61 : T.at 61 = ⟨1, 8, .func, [.nilFunc]⟩ := rfl
theorem Tat63 : T.at 63 = ⟨1, 8, .map 5 61, [.map none]⟩ := rfl
theorem Tat64 : T.at 64 = ⟨1, 8, .func, [.nilFunc]⟩ := rfl
theorem Tat65 : T.at 65 = ⟨1, 8, .func, [.nilFunc]⟩ := rfl
theorem Tat67 : T.at 67 = ⟨1, 8, .map 5 65, [.map none]⟩ := rfl
theorem Tat68 : T.at 68 = ⟨1, 8, .func, [.nilFunc]⟩ := rfl
theorem Tat69 : T.at 69 = ⟨1, 8, .func, [.nilFunc]⟩ := rfl
theorem Tat70 : T.at 70 = ⟨1, 8, .func, [.nilFunc]⟩ := rfl
theorem Tat72 : T.at 72 = ⟨1, 8, .func, [.nilFunc]⟩ := rfl
theorem Tat73 : T.at 73 = ⟨1, 8, .func, [.nilFunc]⟩ := rfl
theorem Tat74 : T.at 74 = ⟨1, 8, .func, [.nilFunc]⟩ := rfl
theorem Tat75 : T.at 75 = ⟨1, 8, .func, [.nilFunc]⟩ := rfl
theorem Tat76 : T.at 76 = ⟨1, 8, .func, [.nilFunc]⟩ := rfl
theorem Tat77 : T.at 77 = ⟨1, 8, .func, [.nilFunc]⟩ := rfl
theorem Tat79 : T.at 79 = ⟨1, 8, .func, [.nilFunc]⟩ := rfl
theorem Tat80 : T.at 80 = ⟨1, 8, .func, [.nilFunc]⟩ := rfl
theorem Tat81 : T.at 81 = ⟨1, 8, .ptr 53, [.pointer none]⟩ := rfl
theorem Tat82 : T.at 82 = ⟨1, 8, .ptr 34, [.pointer none]⟩ := rfl
theorem Tat84 : T.at 84 = ⟨1, 8, .func, [.nilFunc]⟩ := rfl
theorem Tat85 : T.at 85 = ⟨1, 8, .func, [.nilFunc]⟩ := rfl
theorem Tat86 : T.at 86 = ⟨1, 8, .func, [.nilFunc]⟩ := rfl
theorem Tat87 : T.at 87 = ⟨1, 8, .func, [.nilFunc]⟩ := rfl
theorem Tat88 : T.at 88 = ⟨1, 8, .func, [.nilFunc]⟩ := rfl
theorem Tat89 : T.at 89 = ⟨1, 8, .func, [.nilFunc]⟩ := rfl
theorem Tat90 : T.at 90 = ⟨1, 8, .func, [.nilFunc]⟩ := rfl
theorem Tat91 : T.at 91 = ⟨1, 8, .func, [.nilFunc]⟩ := rfl
theorem Tat92 : T.at 92 = ⟨1, 8, .func, [.nilFunc]⟩ := rfl
theorem Tat93 : T.at 93 = ⟨1, 8, .func, [.nilFunc]⟩ := rfl
theorem Tat94 : T.at 94 = ⟨1, 8, .func, [.nilFunc]⟩ := rfl
theorem Tat95 : T.at 95 = ⟨1, 8, .func, [.nilFunc]⟩ := rfl
theorem Tat96 : T.at 96 = ⟨1, 8, .func, [.nilFunc]⟩ := rfl
theorem Tat97 : T.at 97 = ⟨1, 8, .func, [.nilFunc]⟩ := rfl
theorem Tat98 : T.at 98 = ⟨1, 8, .func, [.nilFunc]⟩ := rfl
theorem Tat99 : T.at 99 = ⟨1, 8, .func, [.nilFunc]⟩ := rfl
theorem Tat100 : T.at 100 = ⟨1, 8, .func, [.nilFunc]⟩ := rfl
theorem Tat101 : T.at 101 = ⟨1, 8, .func, [.nilFunc]⟩ := rfl
theorem Tat102 : T.at 102 = ⟨1, 8, .func, [.nilFunc]⟩ := rfl
theorem Tat103 : T.at 103 = ⟨1, 8, .func, [.nilFunc]⟩ := rfl
theorem Tat104 : T.at 104 = ⟨1, 8, .func, [.nilFunc]⟩ := rfl
theorem Tat105 : T.at 105 = ⟨1, 8, .func, [.nilFunc]⟩ := rfl
theorem Tat106 : T.at 106 = ⟨1, 8, .func, [.nilFunc]⟩ := rfl
theorem Tat108 : T.at 108 = ⟨1, 8, .func, [.nilFunc]⟩ := rfl
theorem Tat109 : T.at 109 = ⟨1, 8, .func, [.nilFunc]⟩ := rfl
theorem Tat110 : T.at 110 = ⟨1, 8, .func, [.nilFunc]⟩ := rfl
theorem Tat111 : T.at 111 = ⟨1, 8, .func, [.nilFunc]⟩ := rfl
theorem Tat112 : T.at 112 = ⟨1, 8, .func, [.nilFunc]⟩ := rfl
theorem Tat113 : T.at 113 = ⟨1, 8, .func, [.nilFunc]⟩ := rfl
theorem Tat114 : T.at 114 = ⟨1, 8, .func, [.nilFunc]⟩ := rfl
theorem Tat115 : T.at 115 = ⟨1, 8, .func, [.nilFunc]⟩ := rfl
theorem Tat116 : T.at 116 = ⟨1, 8, .func, [.nilFunc]⟩ := rfl
theorem Tat117 : T.at 117 = ⟨1, 8, .func, [.nilFunc]⟩ := rfl
theorem Tat118 : T.at 118 = ⟨1, 8, .func, [.nilFunc]⟩ := rfl
theorem Tat119 : T.at 119 = ⟨1, 8, .func, [.nilFunc]⟩ := rfl
theorem Tat120 : T.at 120 = ⟨1, 8, .func, [.nilFunc]⟩ := rfl
theorem Tat121 : T.at 121 = ⟨1, 8, .func, [.nilFunc]⟩ := rfl
theorem Tat122 : T.at 122 = ⟨1, 8, .func, [.nilFunc]⟩ := rfl
theorem Tat123 : T.at 123 = ⟨1, 8, .func, [.nilFunc]⟩ := rfl
theorem Tat129 : T.at 129 = ⟨1, 8, .func, [.nilFunc]⟩ := rfl
theorem Tat130 : T.at 130 = ⟨1, 4, .int .u32, [.int .u32 0]⟩ := rfl
theorem Tat133 : T.at 133 = ⟨1, 8, .func, [.nilFunc]⟩ := rfl
theorem Tat134 : T.at 134 = ⟨1, 8, .ptr 5, [.pointer none]⟩ := rfl
theorem Tglob : T.glob = [] := rfl

end Go.Proofs.Ytlcbbjcehaahlaa
