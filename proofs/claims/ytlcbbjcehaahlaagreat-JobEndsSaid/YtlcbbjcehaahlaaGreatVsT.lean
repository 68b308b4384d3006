/-
  The table of the types of this seat's program.
-/
import Derived.Test.YtlcbbjcehaahlaaGreatVsQ
import Derived.Test.YtlcbbjcehaahlaaGreatProg
namespace Go.Proofs.YtlcbbjcehaahlaaGreat
open Go Go.RowKit
set_option maxRecDepth 100000
def T : Tab := ⟨[
  ⟨0, 0, .other, []⟩,
  ⟨1, 8, .func, [.nilFunc]⟩,
  ⟨1, 8, .int .i64, [.int .i64 0]⟩,
  ⟨1, 8, .int .i64, [.int .i64 0]⟩,
  ⟨1, 1, .bool, [.bool false]⟩,
  ⟨1, 1, .int .u8, [.int .u8 0]⟩,
  ⟨0, 0, .other, []⟩,
  ⟨0, 0, .other, []⟩,
  ⟨0, 0, .other, []⟩,
  ⟨1, 16, .str, [.string ByteArray.empty]⟩,
  ⟨0, 0, .other, []⟩,
  ⟨0, 0, .other, []⟩,
  ⟨0, 0, .other, []⟩,
  ⟨0, 0, .other, []⟩,
  ⟨0, 0, .other, []⟩,
  ⟨0, 0, .other, []⟩,
  ⟨0, 0, .other, []⟩,
  ⟨0, 0, .other, []⟩,
  ⟨0, 0, .other, []⟩,
  ⟨0, 0, .other, []⟩,
  ⟨0, 0, .other, []⟩,
  ⟨0, 0, .other, []⟩,
  ⟨1, 24, .slice 3, [.slice none 0 0]⟩,
  ⟨16, 128, .arr 16 3, [.int .i64 0, .int .i64 0, .int .i64 0, .int .i64 0, .int .i64 0, .int .i64 0, .int .i64 0, .int .i64 0, .int .i64 0, .int .i64 0, .int .i64 0, .int .i64 0, .int .i64 0, .int .i64 0, .int .i64 0, .int .i64 0]⟩,
  ⟨0, 0, .other, []⟩,
  ⟨20, 192, .struct [(0, 3), (1, 22), (2, 22), (3, 3), (4, 23)], [.int .i64 0, .slice none 0 0, .slice none 0 0, .int .i64 0, .int .i64 0, .int .i64 0, .int .i64 0, .int .i64 0, .int .i64 0, .int .i64 0, .int .i64 0, .int .i64 0, .int .i64 0, .int .i64 0, .int .i64 0, .int .i64 0, .int .i64 0, .int .i64 0, .int .i64 0, .int .i64 0]⟩,
  ⟨0, 0, .other, []⟩,
  ⟨4, 40, .struct [(0, 9), (1, 3), (2, 3), (3, 4)], [.string ByteArray.empty, .int .i64 0, .int .i64 0, .bool false]⟩,
  ⟨1, 24, .slice 44, [.slice none 0 0]⟩,
  ⟨0, 0, .other, []⟩,
  ⟨0, 0, .other, []⟩,
  ⟨1, 8, .int .i64, [.int .i64 0]⟩,
  ⟨0, 0, .other, []⟩,
  ⟨6, 40, .struct [(0, 3), (1, 3), (2, 3), (3, 4), (4, 4), (5, 31)], [.int .i64 0, .int .i64 0, .int .i64 0, .bool false, .bool false, .int .i64 0]⟩,
  ⟨0, 0, .other, []⟩,
  ⟨15, 128, .struct [(0, 5), (1, 5), (2, 33), (8, 27), (12, 3), (13, 22), (14, 31)], [.int .u8 0, .int .u8 0, .int .i64 0, .int .i64 0, .int .i64 0, .bool false, .bool false, .int .i64 0, .string ByteArray.empty, .int .i64 0, .int .i64 0, .bool false, .int .i64 0, .slice none 0 0, .int .i64 0]⟩,
  ⟨1, 24, .slice 40, [.slice none 0 0]⟩,
  ⟨0, 0, .other, []⟩,
  ⟨0, 0, .other, []⟩,
  ⟨0, 0, .other, []⟩,
  ⟨15, 136, .struct [(0, 5), (1, 3), (2, 3), (3, 3), (4, 3), (5, 4), (6, 4), (7, 3), (8, 3), (9, 22), (10, 27), (14, 31)], [.int .u8 0, .int .i64 0, .int .i64 0, .int .i64 0, .int .i64 0, .bool false, .bool false, .int .i64 0, .int .i64 0, .slice none 0 0, .string ByteArray.empty, .int .i64 0, .int .i64 0, .bool false, .int .i64 0]⟩,
  ⟨0, 0, .other, []⟩,
  ⟨0, 0, .other, []⟩,
  ⟨0, 0, .other, []⟩,
  ⟨5, 48, .struct [(0, 4), (1, 4), (2, 3), (3, 22), (4, 4)], [.bool false, .bool false, .int .i64 0, .slice none 0 0, .bool false]⟩,
  ⟨0, 0, .other, []⟩,
  ⟨0, 0, .other, []⟩,
  ⟨0, 0, .other, []⟩,
  ⟨0, 0, .other, []⟩,
  ⟨0, 0, .other, []⟩,
  ⟨0, 0, .other, []⟩,
  ⟨0, 0, .other, []⟩,
  ⟨0, 0, .other, []⟩,
  ⟨0, 0, .other, []⟩,
  ⟨1, 8, .int .u64, [.int .u64 0]⟩,
  ⟨0, 0, .other, []⟩,
  ⟨1, 8, .func, [.nilFunc]⟩,
  ⟨0, 0, .other, []⟩,
  ⟨0, 0, .other, []⟩,
  ⟨0, 0, .other, []⟩,
  ⟨0, 0, .other, []⟩,
  ⟨0, 0, .other, []⟩,
  ⟨0, 0, .other, []⟩,
  ⟨0, 0, .other, []⟩,
  ⟨37, 352, .struct [(0, 25), (20, 35), (35, 36), (36, 4)], [.int .i64 0, .slice none 0 0, .slice none 0 0, .int .i64 0, .int .i64 0, .int .i64 0, .int .i64 0, .int .i64 0, .int .i64 0, .int .i64 0, .int .i64 0, .int .i64 0, .int .i64 0, .int .i64 0, .int .i64 0, .int .i64 0, .int .i64 0, .int .i64 0, .int .i64 0, .int .i64 0, .int .u8 0, .int .u8 0, .int .i64 0, .int .i64 0, .int .i64 0, .bool false, .bool false, .int .i64 0, .string ByteArray.empty, .int .i64 0, .int .i64 0, .bool false, .int .i64 0, .slice none 0 0, .int .i64 0, .slice none 0 0, .bool false]⟩,
  ⟨0, 0, .other, []⟩,
  ⟨1, 8, .func, [.nilFunc]⟩,
  ⟨0, 0, .other, []⟩,
  ⟨1, 8, .map 5 66, [.map none]⟩,
  ⟨0, 0, .other, []⟩,
  ⟨1, 8, .func, [.nilFunc]⟩,
  ⟨0, 0, .other, []⟩,
  ⟨1, 8, .map 5 70, [.map none]⟩,
  ⟨0, 0, .other, []⟩,
  ⟨0, 0, .other, []⟩,
  ⟨0, 0, .other, []⟩,
  ⟨0, 0, .other, []⟩,
  ⟨0, 0, .other, []⟩,
  ⟨0, 0, .other, []⟩,
  ⟨0, 0, .other, []⟩,
  ⟨0, 0, .other, []⟩,
  ⟨0, 0, .other, []⟩,
  ⟨0, 0, .other, []⟩,
  ⟨0, 0, .other, []⟩,
  ⟨0, 0, .other, []⟩,
  ⟨0, 0, .other, []⟩,
  ⟨0, 0, .other, []⟩,
  ⟨1, 8, .func, [.nilFunc]⟩,
  ⟨1, 8, .func, [.nilFunc]⟩,
  ⟨0, 0, .other, []⟩,
  ⟨0, 0, .other, []⟩,
  ⟨1, 8, .func, [.nilFunc]⟩,
  ⟨0, 0, .other, []⟩,
  ⟨1, 8, .ptr 64, [.pointer none]⟩,
  ⟨1, 8, .ptr 35, [.pointer none]⟩,
  ⟨0, 0, .other, []⟩,
  ⟨0, 0, .other, []⟩,
  ⟨0, 0, .other, []⟩,
  ⟨0, 0, .other, []⟩,
  ⟨0, 0, .other, []⟩,
  ⟨1, 8, .func, [.nilFunc]⟩,
  ⟨0, 0, .other, []⟩,
  ⟨0, 0, .other, []⟩,
  ⟨0, 0, .other, []⟩,
  ⟨0, 0, .other, []⟩,
  ⟨0, 0, .other, []⟩,
  ⟨0, 0, .other, []⟩,
  ⟨1, 8, .func, [.nilFunc]⟩,
  ⟨1, 8, .func, [.nilFunc]⟩,
  ⟨0, 0, .other, []⟩,
  ⟨0, 0, .other, []⟩,
  ⟨0, 0, .other, []⟩,
  ⟨0, 0, .other, []⟩,
  ⟨0, 0, .other, []⟩,
  ⟨0, 0, .other, []⟩,
  ⟨0, 0, .other, []⟩,
  ⟨1, 8, .func, [.nilFunc]⟩,
  ⟨1, 8, .func, [.nilFunc]⟩,
  ⟨0, 0, .other, []⟩,
  ⟨1, 8, .func, [.nilFunc]⟩,
  ⟨1, 8, .func, [.nilFunc]⟩,
  ⟨0, 0, .other, []⟩,
  ⟨0, 0, .other, []⟩,
  ⟨0, 0, .other, []⟩,
  ⟨0, 0, .other, []⟩,
  ⟨0, 0, .other, []⟩,
  ⟨0, 0, .other, []⟩,
  ⟨1, 8, .func, [.nilFunc]⟩,
  ⟨1, 8, .func, [.nilFunc]⟩,
  ⟨0, 0, .other, []⟩,
  ⟨0, 0, .other, []⟩,
  ⟨0, 0, .other, []⟩,
  ⟨0, 0, .other, []⟩,
  ⟨0, 0, .other, []⟩,
  ⟨0, 0, .other, []⟩,
  ⟨0, 0, .other, []⟩,
  ⟨0, 0, .other, []⟩,
  ⟨0, 0, .other, []⟩,
  ⟨0, 0, .other, []⟩,
  ⟨0, 0, .other, []⟩,
  ⟨0, 0, .other, []⟩,
  ⟨0, 0, .other, []⟩,
  ⟨0, 0, .other, []⟩,
  ⟨0, 0, .other, []⟩,
  ⟨0, 0, .other, []⟩,
  ⟨0, 0, .other, []⟩,
  ⟨0, 0, .other, []⟩,
  ⟨0, 0, .other, []⟩
  ], []⟩
theorem trow1 : RowOK T Tryz.prog 1 ⟨1, 8, .func, [.nilFunc]⟩ := ⟨Tryz.t1, _, _, Tryz.type1, rfl, rfl, rfl, rfl, rfl, rfl, fun h => Bool.noConfusion h, Tryz.underlying1, rfl, ⟨_, _, _, rfl⟩⟩
theorem trow2 : RowOK T Tryz.prog 2 ⟨1, 8, .int .i64, [.int .i64 0]⟩ := ⟨Tryz.t2, _, _, Tryz.type2, rfl, rfl, rfl, rfl, rfl, rfl, fun h => Bool.noConfusion h, Tryz.underlying2, rfl, rfl⟩
theorem trow3 : RowOK T Tryz.prog 3 ⟨1, 8, .int .i64, [.int .i64 0]⟩ := ⟨Tryz.t3, _, _, Tryz.type3, rfl, rfl, rfl, rfl, rfl, rfl, fun h => Bool.noConfusion h, Tryz.underlying3, rfl, rfl⟩
theorem trow4 : RowOK T Tryz.prog 4 ⟨1, 1, .bool, [.bool false]⟩ := ⟨Tryz.t4, _, _, Tryz.type4, rfl, rfl, rfl, rfl, rfl, rfl, fun h => Bool.noConfusion h, Tryz.underlying4, rfl, rfl⟩
theorem trow5 : RowOK T Tryz.prog 5 ⟨1, 1, .int .u8, [.int .u8 0]⟩ := ⟨Tryz.t5, _, _, Tryz.type5, rfl, rfl, rfl, rfl, rfl, rfl, fun h => Bool.noConfusion h, Tryz.underlying5, rfl, rfl⟩
theorem trow9 : RowOK T Tryz.prog 9 ⟨1, 16, .str, [.string ByteArray.empty]⟩ := ⟨Tryz.t9, _, _, Tryz.type9, rfl, rfl, rfl, rfl, rfl, rfl, fun h => Bool.noConfusion h, Tryz.underlying9, rfl, rfl⟩
theorem trow22 : RowOK T Tryz.prog 22 ⟨1, 24, .slice 3, [.slice none 0 0]⟩ := ⟨Tryz.t22, _, _, Tryz.type22, rfl, rfl, rfl, rfl, rfl, rfl, fun h => Bool.noConfusion h, Tryz.underlying22, rfl, ⟨rfl, by decide⟩⟩
theorem trow23 : RowOK T Tryz.prog 23 ⟨16, 128, .arr 16 3, [.int .i64 0, .int .i64 0, .int .i64 0, .int .i64 0, .int .i64 0, .int .i64 0, .int .i64 0, .int .i64 0, .int .i64 0, .int .i64 0, .int .i64 0, .int .i64 0, .int .i64 0, .int .i64 0, .int .i64 0, .int .i64 0]⟩ := ⟨Tryz.t23, _, _, Tryz.type23, rfl, rfl, rfl, rfl, rfl, rfl, fun _ => ⟨_, rfl⟩, Tryz.underlying23, rfl, ⟨rfl, by decide, by kernel_rfl⟩⟩
theorem trow25 : RowOK T Tryz.prog 25 ⟨20, 192, .struct [(0, 3), (1, 22), (2, 22), (3, 3), (4, 23)], [.int .i64 0, .slice none 0 0, .slice none 0 0, .int .i64 0, .int .i64 0, .int .i64 0, .int .i64 0, .int .i64 0, .int .i64 0, .int .i64 0, .int .i64 0, .int .i64 0, .int .i64 0, .int .i64 0, .int .i64 0, .int .i64 0, .int .i64 0, .int .i64 0, .int .i64 0, .int .i64 0]⟩ := ⟨Tryz.t25, _, _, Tryz.type25, rfl, rfl, rfl, rfl, rfl, rfl, fun _ => ⟨_, rfl⟩, Tryz.underlying25, rfl, ⟨⟨_, rfl, rfl, by kernel_rfl⟩, by decide, by kernel_rfl, by kernel_rfl⟩⟩
theorem trow27 : RowOK T Tryz.prog 27 ⟨4, 40, .struct [(0, 9), (1, 3), (2, 3), (3, 4)], [.string ByteArray.empty, .int .i64 0, .int .i64 0, .bool false]⟩ := ⟨Tryz.t27, _, _, Tryz.type27, rfl, rfl, rfl, rfl, rfl, rfl, fun _ => ⟨_, rfl⟩, Tryz.underlying27, rfl, ⟨⟨_, rfl, rfl, by kernel_rfl⟩, by decide, by kernel_rfl, by kernel_rfl⟩⟩
theorem trow28 : RowOK T Tryz.prog 28 ⟨1, 24, .slice 44, [.slice none 0 0]⟩ := ⟨Tryz.t28, _, _, Tryz.type28, rfl, rfl, rfl, rfl, rfl, rfl, fun h => Bool.noConfusion h, Tryz.underlying28, rfl, ⟨rfl, by decide⟩⟩
theorem trow31 : RowOK T Tryz.prog 31 ⟨1, 8, .int .i64, [.int .i64 0]⟩ := ⟨Tryz.t31, _, _, Tryz.type31, rfl, rfl, rfl, rfl, rfl, rfl, fun h => Bool.noConfusion h, Tryz.underlying31, rfl, rfl⟩
theorem trow33 : RowOK T Tryz.prog 33 ⟨6, 40, .struct [(0, 3), (1, 3), (2, 3), (3, 4), (4, 4), (5, 31)], [.int .i64 0, .int .i64 0, .int .i64 0, .bool false, .bool false, .int .i64 0]⟩ := ⟨Tryz.t33, _, _, Tryz.type33, rfl, rfl, rfl, rfl, rfl, rfl, fun _ => ⟨_, rfl⟩, Tryz.underlying33, rfl, ⟨⟨_, rfl, rfl, by kernel_rfl⟩, by decide, by kernel_rfl, by kernel_rfl⟩⟩
theorem trow35 : RowOK T Tryz.prog 35 ⟨15, 128, .struct [(0, 5), (1, 5), (2, 33), (8, 27), (12, 3), (13, 22), (14, 31)], [.int .u8 0, .int .u8 0, .int .i64 0, .int .i64 0, .int .i64 0, .bool false, .bool false, .int .i64 0, .string ByteArray.empty, .int .i64 0, .int .i64 0, .bool false, .int .i64 0, .slice none 0 0, .int .i64 0]⟩ := ⟨Tryz.t35, _, _, Tryz.type35, rfl, rfl, rfl, rfl, rfl, rfl, fun _ => ⟨_, rfl⟩, Tryz.underlying35, rfl, ⟨⟨_, rfl, rfl, by kernel_rfl⟩, by decide, by kernel_rfl, by kernel_rfl⟩⟩
theorem trow36 : RowOK T Tryz.prog 36 ⟨1, 24, .slice 40, [.slice none 0 0]⟩ := ⟨Tryz.t36, _, _, Tryz.type36, rfl, rfl, rfl, rfl, rfl, rfl, fun h => Bool.noConfusion h, Tryz.underlying36, rfl, ⟨rfl, by decide⟩⟩
theorem trow40 : RowOK T Tryz.prog 40 ⟨15, 136, .struct [(0, 5), (1, 3), (2, 3), (3, 3), (4, 3), (5, 4), (6, 4), (7, 3), (8, 3), (9, 22), (10, 27), (14, 31)], [.int .u8 0, .int .i64 0, .int .i64 0, .int .i64 0, .int .i64 0, .bool false, .bool false, .int .i64 0, .int .i64 0, .slice none 0 0, .string ByteArray.empty, .int .i64 0, .int .i64 0, .bool false, .int .i64 0]⟩ := ⟨Tryz.t40, _, _, Tryz.type40, rfl, rfl, rfl, rfl, rfl, rfl, fun _ => ⟨_, rfl⟩, Tryz.underlying40, rfl, ⟨⟨_, rfl, rfl, by kernel_rfl⟩, by decide, by kernel_rfl, by kernel_rfl⟩⟩
theorem trow44 : RowOK T Tryz.prog 44 ⟨5, 48, .struct [(0, 4), (1, 4), (2, 3), (3, 22), (4, 4)], [.bool false, .bool false, .int .i64 0, .slice none 0 0, .bool false]⟩ := ⟨Tryz.t44, _, _, Tryz.type44, rfl, rfl, rfl, rfl, rfl, rfl, fun _ => ⟨_, rfl⟩, Tryz.underlying44, rfl, ⟨⟨_, rfl, rfl, by kernel_rfl⟩, by decide, by kernel_rfl, by kernel_rfl⟩⟩
theorem trow54 : RowOK T Tryz.prog 54 ⟨1, 8, .int .u64, [.int .u64 0]⟩ := ⟨Tryz.t54, _, _, Tryz.type54, rfl, rfl, rfl, rfl, rfl, rfl, fun h => Bool.noConfusion h, Tryz.underlying54, rfl, rfl⟩
theorem trow56 : RowOK T Tryz.prog 56 ⟨1, 8, .func, [.nilFunc]⟩ := ⟨Tryz.t56, _, _, Tryz.type56, rfl, rfl, rfl, rfl, rfl, rfl, fun h => Bool.noConfusion h, Tryz.underlying56, rfl, ⟨_, _, _, rfl⟩⟩
theorem trow64 : RowOK T Tryz.prog 64 ⟨37, 352, .struct [(0, 25), (20, 35), (35, 36), (36, 4)], [.int .i64 0, .slice none 0 0, .slice none 0 0, .int .i64 0, .int .i64 0, .int .i64 0, .int .i64 0, .int .i64 0, .int .i64 0, .int .i64 0, .int .i64 0, .int .i64 0, .int .i64 0, .int .i64 0, .int .i64 0, .int .i64 0, .int .i64 0, .int .i64 0, .int .i64 0, .int .i64 0, .int .u8 0, .int .u8 0, .int .i64 0, .int .i64 0, .int .i64 0, .bool false, .bool false, .int .i64 0, .string ByteArray.empty, .int .i64 0, .int .i64 0, .bool false, .int .i64 0, .slice none 0 0, .int .i64 0, .slice none 0 0, .bool false]⟩ := ⟨Tryz.t64, _, _, Tryz.type64, rfl, rfl, rfl, rfl, rfl, rfl, fun _ => ⟨_, rfl⟩, Tryz.underlying64, rfl, ⟨⟨_, rfl, rfl, by kernel_rfl⟩, by decide, by kernel_rfl, by kernel_rfl⟩⟩
theorem trow66 : RowOK T Tryz.prog 66 ⟨1, 8, .func, [.nilFunc]⟩ := ⟨Tryz.t66, _, _, Tryz.type66, rfl, rfl, rfl, rfl, rfl, rfl, fun h => Bool.noConfusion h, Tryz.underlying66, rfl, ⟨_, _, _, rfl⟩⟩
theorem trow68 : RowOK T Tryz.prog 68 ⟨1, 8, .map 5 66, [.map none]⟩ := ⟨Tryz.t68, _, _, Tryz.type68, rfl, rfl, rfl, rfl, rfl, rfl, fun h => Bool.noConfusion h, Tryz.underlying68, rfl, rfl⟩
theorem trow70 : RowOK T Tryz.prog 70 ⟨1, 8, .func, [.nilFunc]⟩ := ⟨Tryz.t70, _, _, Tryz.type70, rfl, rfl, rfl, rfl, rfl, rfl, fun h => Bool.noConfusion h, Tryz.underlying70, rfl, ⟨_, _, _, rfl⟩⟩
theorem trow72 : RowOK T Tryz.prog 72 ⟨1, 8, .map 5 70, [.map none]⟩ := ⟨Tryz.t72, _, _, Tryz.type72, rfl, rfl, rfl, rfl, rfl, rfl, fun h => Bool.noConfusion h, Tryz.underlying72, rfl, rfl⟩
theorem trow87 : RowOK T Tryz.prog 87 ⟨1, 8, .func, [.nilFunc]⟩ := ⟨Tryz.t87, _, _, Tryz.type87, rfl, rfl, rfl, rfl, rfl, rfl, fun h => Bool.noConfusion h, Tryz.underlying87, rfl, ⟨_, _, _, rfl⟩⟩
theorem trow88 : RowOK T Tryz.prog 88 ⟨1, 8, .func, [.nilFunc]⟩ := ⟨Tryz.t88, _, _, Tryz.type88, rfl, rfl, rfl, rfl, rfl, rfl, fun h => Bool.noConfusion h, Tryz.underlying88, rfl, ⟨_, _, _, rfl⟩⟩
theorem trow91 : RowOK T Tryz.prog 91 ⟨1, 8, .func, [.nilFunc]⟩ := ⟨Tryz.t91, _, _, Tryz.type91, rfl, rfl, rfl, rfl, rfl, rfl, fun h => Bool.noConfusion h, Tryz.underlying91, rfl, ⟨_, _, _, rfl⟩⟩
theorem trow93 : RowOK T Tryz.prog 93 ⟨1, 8, .ptr 64, [.pointer none]⟩ := ⟨Tryz.t93, _, _, Tryz.type93, rfl, rfl, rfl, rfl, rfl, rfl, fun h => Bool.noConfusion h, Tryz.underlying93, rfl, rfl⟩
theorem trow94 : RowOK T Tryz.prog 94 ⟨1, 8, .ptr 35, [.pointer none]⟩ := ⟨Tryz.t94, _, _, Tryz.type94, rfl, rfl, rfl, rfl, rfl, rfl, fun h => Bool.noConfusion h, Tryz.underlying94, rfl, rfl⟩
theorem trow100 : RowOK T Tryz.prog 100 ⟨1, 8, .func, [.nilFunc]⟩ := ⟨Tryz.t100, _, _, Tryz.type100, rfl, rfl, rfl, rfl, rfl, rfl, fun h => Bool.noConfusion h, Tryz.underlying100, rfl, ⟨_, _, _, rfl⟩⟩
theorem trow107 : RowOK T Tryz.prog 107 ⟨1, 8, .func, [.nilFunc]⟩ := ⟨Tryz.t107, _, _, Tryz.type107, rfl, rfl, rfl, rfl, rfl, rfl, fun h => Bool.noConfusion h, Tryz.underlying107, rfl, ⟨_, _, _, rfl⟩⟩
theorem trow108 : RowOK T Tryz.prog 108 ⟨1, 8, .func, [.nilFunc]⟩ := ⟨Tryz.t108, _, _, Tryz.type108, rfl, rfl, rfl, rfl, rfl, rfl, fun h => Bool.noConfusion h, Tryz.underlying108, rfl, ⟨_, _, _, rfl⟩⟩
theorem trow116 : RowOK T Tryz.prog 116 ⟨1, 8, .func, [.nilFunc]⟩ := ⟨Tryz.t116, _, _, Tryz.type116, rfl, rfl, rfl, rfl, rfl, rfl, fun h => Bool.noConfusion h, Tryz.underlying116, rfl, ⟨_, _, _, rfl⟩⟩
theorem trow117 : RowOK T Tryz.prog 117 ⟨1, 8, .func, [.nilFunc]⟩ := ⟨Tryz.t117, _, _, Tryz.type117, rfl, rfl, rfl, rfl, rfl, rfl, fun h => Bool.noConfusion h, Tryz.underlying117, rfl, ⟨_, _, _, rfl⟩⟩
theorem trow119 : RowOK T Tryz.prog 119 ⟨1, 8, .func, [.nilFunc]⟩ := ⟨Tryz.t119, _, _, Tryz.type119, rfl, rfl, rfl, rfl, rfl, rfl, fun h => Bool.noConfusion h, Tryz.underlying119, rfl, ⟨_, _, _, rfl⟩⟩
theorem trow120 : RowOK T Tryz.prog 120 ⟨1, 8, .func, [.nilFunc]⟩ := ⟨Tryz.t120, _, _, Tryz.type120, rfl, rfl, rfl, rfl, rfl, rfl, fun h => Bool.noConfusion h, Tryz.underlying120, rfl, ⟨_, _, _, rfl⟩⟩
theorem trow127 : RowOK T Tryz.prog 127 ⟨1, 8, .func, [.nilFunc]⟩ := ⟨Tryz.t127, _, _, Tryz.type127, rfl, rfl, rfl, rfl, rfl, rfl, fun h => Bool.noConfusion h, Tryz.underlying127, rfl, ⟨_, _, _, rfl⟩⟩
theorem trow128 : RowOK T Tryz.prog 128 ⟨1, 8, .func, [.nilFunc]⟩ := ⟨Tryz.t128, _, _, Tryz.type128, rfl, rfl, rfl, rfl, rfl, rfl, fun h => Bool.noConfusion h, Tryz.underlying128, rfl, ⟨_, _, _, rfl⟩⟩
theorem tok : TOK T Tryz.prog := TOK.of (by
  show RowsOK T Tryz.prog 0 _
  exact 
    ⟨fun h => absurd rfl h, ⟨fun _ => trow1, ⟨fun _ => trow2, ⟨fun _ => trow3, ⟨fun _ => trow4, ⟨fun _ => trow5, ⟨fun h => absurd rfl h, ⟨fun h => absurd rfl h, ⟨fun h => absurd rfl h, ⟨fun _ => trow9, ⟨fun h => absurd rfl h, ⟨fun h => absurd rfl h, ⟨fun h => absurd rfl h, ⟨fun h => absurd rfl h, ⟨fun h => absurd rfl h, ⟨fun h => absurd rfl h, ⟨fun h => absurd rfl h, ⟨fun h => absurd rfl h, ⟨fun h => absurd rfl h, ⟨fun h => absurd rfl h, ⟨fun h => absurd rfl h, ⟨fun h => absurd rfl h, ⟨fun _ => trow22, ⟨fun _ => trow23, ⟨fun h => absurd rfl h, ⟨fun _ => trow25, ⟨fun h => absurd rfl h, ⟨fun _ => trow27, ⟨fun _ => trow28, ⟨fun h => absurd rfl h, ⟨fun h => absurd rfl h, ⟨fun _ => trow31, ⟨fun h => absurd rfl h, ⟨fun _ => trow33, ⟨fun h => absurd rfl h, ⟨fun _ => trow35, ⟨fun _ => trow36, ⟨fun h => absurd rfl h, ⟨fun h => absurd rfl h, ⟨fun h => absurd rfl h, ⟨fun _ => trow40, ⟨fun h => absurd rfl h, ⟨fun h => absurd rfl h, ⟨fun h => absurd rfl h, ⟨fun _ => trow44, ⟨fun h => absurd rfl h, ⟨fun h => absurd rfl h, ⟨fun h => absurd rfl h, ⟨fun h => absurd rfl h, ⟨fun h => absurd rfl h, ⟨fun h => absurd rfl h, ⟨fun h => absurd rfl h, ⟨fun h => absurd rfl h, ⟨fun h => absurd rfl h, ⟨fun _ => trow54, ⟨fun h => absurd rfl h, ⟨fun _ => trow56, ⟨fun h => absurd rfl h, ⟨fun h => absurd rfl h, ⟨fun h => absurd rfl h, ⟨fun h => absurd rfl h, ⟨fun h => absurd rfl h, ⟨fun h => absurd rfl h, ⟨fun h => absurd rfl h, ⟨fun _ => trow64, ⟨fun h => absurd rfl h, ⟨fun _ => trow66, ⟨fun h => absurd rfl h, ⟨fun _ => trow68, ⟨fun h => absurd rfl h, ⟨fun _ => trow70, ⟨fun h => absurd rfl h, ⟨fun _ => trow72, ⟨fun h => absurd rfl h, ⟨fun h => absurd rfl h, ⟨fun h => absurd rfl h, ⟨fun h => absurd rfl h, ⟨fun h => absurd rfl h, ⟨fun h => absurd rfl h, ⟨fun h => absurd rfl h, ⟨fun h => absurd rfl h, ⟨fun h => absurd rfl h, ⟨fun h => absurd rfl h, ⟨fun h => absurd rfl h, ⟨fun h => absurd rfl h, ⟨fun h => absurd rfl h, ⟨fun h => absurd rfl h, ⟨fun _ => trow87, ⟨fun _ => trow88, ⟨fun h => absurd rfl h, ⟨fun h => absurd rfl h, ⟨fun _ => trow91, ⟨fun h => absurd rfl h, ⟨fun _ => trow93, ⟨fun _ => trow94, ⟨fun h => absurd rfl h, ⟨fun h => absurd rfl h, ⟨fun h => absurd rfl h, ⟨fun h => absurd rfl h, ⟨fun h => absurd rfl h, ⟨fun _ => trow100, ⟨fun h => absurd rfl h, ⟨fun h => absurd rfl h, ⟨fun h => absurd rfl h, ⟨fun h => absurd rfl h, ⟨fun h => absurd rfl h, ⟨fun h => absurd rfl h, ⟨fun _ => trow107, ⟨fun _ => trow108, ⟨fun h => absurd rfl h, ⟨fun h => absurd rfl h, ⟨fun h => absurd rfl h, ⟨fun h => absurd rfl h, ⟨fun h => absurd rfl h, ⟨fun h => absurd rfl h, ⟨fun h => absurd rfl h, ⟨fun _ => trow116, ⟨fun _ => trow117, ⟨fun h => absurd rfl h, ⟨fun _ => trow119, ⟨fun _ => trow120, ⟨fun h => absurd rfl h, ⟨fun h => absurd rfl h, ⟨fun h => absurd rfl h, ⟨fun h => absurd rfl h, ⟨fun h => absurd rfl h, ⟨fun h => absurd rfl h, ⟨fun _ => trow127, ⟨fun _ => trow128, ⟨fun h => absurd rfl h, ⟨fun h => absurd rfl h, ⟨fun h => absurd rfl h, ⟨fun h => absurd rfl h, ⟨fun h => absurd rfl h, ⟨fun h => absurd rfl h, ⟨fun h => absurd rfl h, ⟨fun h => absurd rfl h, ⟨fun h => absurd rfl h, ⟨fun h => absurd rfl h, ⟨fun h => absurd rfl h, ⟨fun h => absurd rfl h, ⟨fun h => absurd rfl h, ⟨fun h => absurd rfl h, ⟨fun h => absurd rfl h, ⟨fun h => absurd rfl h, ⟨fun h => absurd rfl h, ⟨fun h => absurd rfl h, ⟨fun h => absurd rfl h, trivial⟩⟩⟩⟩⟩⟩⟩⟩⟩⟩⟩⟩⟩⟩⟩⟩⟩⟩⟩⟩⟩⟩⟩⟩⟩⟩⟩⟩⟩⟩⟩⟩⟩⟩⟩⟩⟩⟩⟩⟩⟩⟩⟩⟩⟩⟩⟩⟩⟩⟩⟩⟩⟩⟩⟩⟩⟩⟩⟩⟩⟩⟩⟩⟩⟩⟩⟩⟩⟩⟩⟩⟩⟩⟩⟩⟩⟩⟩⟩⟩⟩⟩⟩⟩⟩⟩⟩⟩⟩⟩⟩⟩⟩⟩⟩⟩⟩⟩⟩⟩⟩⟩⟩⟩⟩⟩⟩⟩⟩⟩⟩⟩⟩⟩⟩⟩⟩⟩⟩⟩⟩⟩⟩⟩⟩⟩⟩⟩⟩⟩⟩⟩⟩⟩⟩⟩⟩⟩⟩⟩⟩⟩⟩⟩⟩⟩⟩⟩) (by decide)
theorem Tglob : T.glob = [] := rfl
end Go.Proofs.YtlcbbjcehaahlaaGreat
