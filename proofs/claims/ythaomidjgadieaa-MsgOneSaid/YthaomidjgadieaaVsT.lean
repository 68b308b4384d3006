/-
  The table of the types of this seat's program.
-/
import Derived.Test.YthaomidjgadieaaVsQ
import Derived.Test.YthaomidjgadieaaProg
namespace Go.Proofs.Ythaomidjgadieaa
open Go Go.RowKit

def T : Tab := ⟨[
  ⟨0, 0, .other, []⟩,
  ⟨1, 8, .func, [.nilFunc]⟩,
  ⟨1, 8, .int .i64, [.int .i64 0]⟩,
  ⟨1, 8, .int .i64, [.int .i64 0]⟩,
  ⟨1, 1, .bool, [.bool false]⟩,
  ⟨1, 1, .int .u8, [.int .u8 0]⟩,
  ⟨0, 0, .other, []⟩,
  ⟨0, 0, .other, []⟩,
  ⟨0, 0, .other, []⟩,
  ⟨1, 16, .str, [.string ByteArray.empty]⟩,
  ⟨0, 0, .other, []⟩,
  ⟨0, 0, .other, []⟩,
  ⟨1, 8, .int .u64, [.int .u64 0]⟩,
  ⟨0, 0, .other, []⟩,
  ⟨0, 0, .other, []⟩,
  ⟨0, 0, .other, []⟩,
  ⟨0, 0, .other, []⟩,
  ⟨0, 0, .other, []⟩,
  ⟨0, 0, .other, []⟩,
  ⟨0, 0, .other, []⟩,
  ⟨0, 0, .other, []⟩,
  ⟨1, 4, .int .i32, [.int .i32 0]⟩,
  ⟨1, 24, .slice 3, [.slice none 0 0]⟩,
  ⟨4, 40, .struct [(0, 9), (1, 3), (2, 3), (3, 4)], [.string ByteArray.empty, .int .i64 0, .int .i64 0, .bool false]⟩,
  ⟨4, 40, .struct [(0, 9), (1, 3), (2, 3), (3, 4)], [.string ByteArray.empty, .int .i64 0, .int .i64 0, .bool false]⟩,
  ⟨1, 8, .int .i64, [.int .i64 0]⟩,
  ⟨15, 136, .struct [(0, 5), (1, 3), (2, 3), (3, 3), (4, 3), (5, 4), (6, 4), (7, 3), (8, 3), (9, 22), (10, 24), (14, 25)], [.int .u8 0, .int .i64 0, .int .i64 0, .int .i64 0, .int .i64 0, .bool false, .bool false, .int .i64 0, .int .i64 0, .slice none 0 0, .string ByteArray.empty, .int .i64 0, .int .i64 0, .bool false, .int .i64 0]⟩,
  ⟨15, 136, .struct [(0, 5), (1, 3), (2, 3), (3, 3), (4, 3), (5, 4), (6, 4), (7, 3), (8, 3), (9, 22), (10, 24), (14, 25)], [.int .u8 0, .int .i64 0, .int .i64 0, .int .i64 0, .int .i64 0, .bool false, .bool false, .int .i64 0, .int .i64 0, .slice none 0 0, .string ByteArray.empty, .int .i64 0, .int .i64 0, .bool false, .int .i64 0]⟩,
  ⟨1, 8, .func, [.nilFunc]⟩,
  ⟨1, 8, .func, [.nilFunc]⟩,
  ⟨0, 0, .other, []⟩,
  ⟨1, 8, .func, [.nilFunc]⟩,
  ⟨1, 8, .func, [.nilFunc]⟩,
  ⟨1, 8, .func, [.nilFunc]⟩,
  ⟨1, 8, .func, [.nilFunc]⟩,
  ⟨1, 8, .func, [.nilFunc]⟩,
  ⟨1, 8, .func, [.nilFunc]⟩,
  ⟨1, 8, .func, [.nilFunc]⟩,
  ⟨135, 1224, .arr 9 27, [.int .u8 0, .int .i64 0, .int .i64 0, .int .i64 0, .int .i64 0, .bool false, .bool false, .int .i64 0, .int .i64 0, .slice none 0 0, .string ByteArray.empty, .int .i64 0, .int .i64 0, .bool false, .int .i64 0, .int .u8 0, .int .i64 0, .int .i64 0, .int .i64 0, .int .i64 0, .bool false, .bool false, .int .i64 0, .int .i64 0, .slice none 0 0, .string ByteArray.empty, .int .i64 0, .int .i64 0, .bool false, .int .i64 0, .int .u8 0, .int .i64 0, .int .i64 0, .int .i64 0, .int .i64 0, .bool false, .bool false, .int .i64 0, .int .i64 0, .slice none 0 0, .string ByteArray.empty, .int .i64 0, .int .i64 0, .bool false, .int .i64 0, .int .u8 0, .int .i64 0, .int .i64 0, .int .i64 0, .int .i64 0, .bool false, .bool false, .int .i64 0, .int .i64 0, .slice none 0 0, .string ByteArray.empty, .int .i64 0, .int .i64 0, .bool false, .int .i64 0, .int .u8 0, .int .i64 0, .int .i64 0, .int .i64 0, .int .i64 0, .bool false, .bool false, .int .i64 0, .int .i64 0, .slice none 0 0, .string ByteArray.empty, .int .i64 0, .int .i64 0, .bool false, .int .i64 0, .int .u8 0, .int .i64 0, .int .i64 0, .int .i64 0, .int .i64 0, .bool false, .bool false, .int .i64 0, .int .i64 0, .slice none 0 0, .string ByteArray.empty, .int .i64 0, .int .i64 0, .bool false, .int .i64 0, .int .u8 0, .int .i64 0, .int .i64 0, .int .i64 0, .int .i64 0, .bool false, .bool false, .int .i64 0, .int .i64 0, .slice none 0 0, .string ByteArray.empty, .int .i64 0, .int .i64 0, .bool false, .int .i64 0, .int .u8 0, .int .i64 0, .int .i64 0, .int .i64 0, .int .i64 0, .bool false, .bool false, .int .i64 0, .int .i64 0, .slice none 0 0, .string ByteArray.empty, .int .i64 0, .int .i64 0, .bool false, .int .i64 0, .int .u8 0, .int .i64 0, .int .i64 0, .int .i64 0, .int .i64 0, .bool false, .bool false, .int .i64 0, .int .i64 0, .slice none 0 0, .string ByteArray.empty, .int .i64 0, .int .i64 0, .bool false, .int .i64 0]⟩,
  ⟨1, 8, .func, [.nilFunc]⟩,
  ⟨1, 8, .func, [.nilFunc]⟩,
  ⟨1, 8, .func, [.nilFunc]⟩,
  ⟨1, 24, .slice 24, [.slice none 0 0]⟩,
  ⟨1, 8, .func, [.nilFunc]⟩,
  ⟨0, 0, .other, []⟩,
  ⟨1, 8, .func, [.nilFunc]⟩,
  ⟨1, 8, .func, [.nilFunc]⟩,
  ⟨1, 8, .func, [.nilFunc]⟩,
  ⟨0, 0, .other, []⟩,
  ⟨1, 8, .func, [.nilFunc]⟩,
  ⟨0, 0, .other, []⟩,
  ⟨1, 8, .func, [.nilFunc]⟩,
  ⟨1, 8, .func, [.nilFunc]⟩,
  ⟨1, 8, .func, [.nilFunc]⟩,
  ⟨1, 8, .func, [.nilFunc]⟩,
  ⟨1, 8, .func, [.nilFunc]⟩,
  ⟨1, 8, .func, [.nilFunc]⟩,
  ⟨1, 24, .slice 9, [.slice none 0 0]⟩,
  ⟨1, 8, .func, [.nilFunc]⟩,
  ⟨1, 8, .func, [.nilFunc]⟩,
  ⟨1, 8, .func, [.nilFunc]⟩,
  ⟨1, 8, .func, [.nilFunc]⟩,
  ⟨1, 8, .func, [.nilFunc]⟩,
  ⟨1, 8, .func, [.nilFunc]⟩,
  ⟨1, 8, .func, [.nilFunc]⟩,
  ⟨1, 8, .func, [.nilFunc]⟩,
  ⟨1, 8, .func, [.nilFunc]⟩,
  ⟨1, 8, .func, [.nilFunc]⟩,
  ⟨1, 8, .func, [.nilFunc]⟩,
  ⟨1, 8, .func, [.nilFunc]⟩,
  ⟨1, 8, .func, [.nilFunc]⟩,
  ⟨0, 0, .other, []⟩,
  ⟨1, 8, .func, [.nilFunc]⟩,
  ⟨1, 8, .func, [.nilFunc]⟩,
  ⟨1, 8, .func, [.nilFunc]⟩,
  ⟨1, 8, .func, [.nilFunc]⟩,
  ⟨1, 8, .func, [.nilFunc]⟩,
  ⟨1, 8, .func, [.nilFunc]⟩,
  ⟨1, 8, .func, [.nilFunc]⟩,
  ⟨1, 8, .func, [.nilFunc]⟩,
  ⟨1, 8, .func, [.nilFunc]⟩,
  ⟨1, 8, .func, [.nilFunc]⟩,
  ⟨3, 24, .struct [(0, 3), (1, 3), (2, 4)], [.int .i64 0, .int .i64 0, .bool false]⟩,
  ⟨3, 24, .struct [(0, 3), (1, 3), (2, 4)], [.int .i64 0, .int .i64 0, .bool false]⟩,
  ⟨1, 8, .func, [.nilFunc]⟩,
  ⟨1, 8, .func, [.nilFunc]⟩,
  ⟨1, 8, .func, [.nilFunc]⟩,
  ⟨1, 8, .func, [.nilFunc]⟩,
  ⟨1, 8, .func, [.nilFunc]⟩,
  ⟨0, 0, .other, []⟩,
  ⟨0, 0, .other, []⟩,
  ⟨0, 0, .other, []⟩,
  ⟨0, 0, .other, []⟩,
  ⟨0, 0, .other, []⟩,
  ⟨1, 8, .func, [.nilFunc]⟩,
  ⟨1, 4, .int .u32, [.int .u32 0]⟩,
  ⟨0, 0, .other, []⟩,
  ⟨0, 0, .other, []⟩,
  ⟨1, 8, .func, [.nilFunc]⟩,
  ⟨1, 8, .ptr 5, [.pointer none]⟩,
  ⟨0, 0, .other, []⟩,
  ⟨0, 0, .other, []⟩,
  ⟨0, 0, .other, []⟩,
  ⟨0, 0, .other, []⟩,
  ⟨0, 0, .other, []⟩
  ], []⟩

theorem trow1 : RowOK T Try.prog 1 ⟨1, 8, .func, [.nilFunc]⟩ := ⟨Try.t1, _, _, Try.type1, rfl, rfl, rfl, rfl, rfl, rfl, fun h => Bool.noConfusion h, Try.underlying1, rfl, ⟨_, _, _, rfl⟩⟩
theorem trow2 : RowOK T Try.prog 2 ⟨1, 8, .int .i64, [.int .i64 0]⟩ := ⟨Try.t2, _, _, Try.type2, rfl, rfl, rfl, rfl, rfl, rfl, fun h => Bool.noConfusion h, Try.underlying2, rfl, rfl⟩
theorem trow3 : RowOK T Try.prog 3 ⟨1, 8, .int .i64, [.int .i64 0]⟩ := ⟨Try.t3, _, _, Try.type3, rfl, rfl, rfl, rfl, rfl, rfl, fun h => Bool.noConfusion h, Try.underlying3, rfl, rfl⟩
theorem trow4 : RowOK T Try.prog 4 ⟨1, 1, .bool, [.bool false]⟩ := ⟨Try.t4, _, _, Try.type4, rfl, rfl, rfl, rfl, rfl, rfl, fun h => Bool.noConfusion h, Try.underlying4, rfl, rfl⟩
theorem trow5 : RowOK T Try.prog 5 ⟨1, 1, .int .u8, [.int .u8 0]⟩ := ⟨Try.t5, _, _, Try.type5, rfl, rfl, rfl, rfl, rfl, rfl, fun h => Bool.noConfusion h, Try.underlying5, rfl, rfl⟩
theorem trow9 : RowOK T Try.prog 9 ⟨1, 16, .str, [.string ByteArray.empty]⟩ := ⟨Try.t9, _, _, Try.type9, rfl, rfl, rfl, rfl, rfl, rfl, fun h => Bool.noConfusion h, Try.underlying9, rfl, rfl⟩
theorem trow12 : RowOK T Try.prog 12 ⟨1, 8, .int .u64, [.int .u64 0]⟩ := ⟨Try.t12, _, _, Try.type12, rfl, rfl, rfl, rfl, rfl, rfl, fun h => Bool.noConfusion h, Try.underlying12, rfl, rfl⟩
theorem trow21 : RowOK T Try.prog 21 ⟨1, 4, .int .i32, [.int .i32 0]⟩ := ⟨Try.t21, _, _, Try.type21, rfl, rfl, rfl, rfl, rfl, rfl, fun h => Bool.noConfusion h, Try.underlying21, rfl, rfl⟩
theorem trow22 : RowOK T Try.prog 22 ⟨1, 24, .slice 3, [.slice none 0 0]⟩ := ⟨Try.t22, _, _, Try.type22, rfl, rfl, rfl, rfl, rfl, rfl, fun h => Bool.noConfusion h, Try.underlying22, rfl, ⟨rfl, by decide⟩⟩
theorem trow23 : RowOK T Try.prog 23 ⟨4, 40, .struct [(0, 9), (1, 3), (2, 3), (3, 4)], [.string ByteArray.empty, .int .i64 0, .int .i64 0, .bool false]⟩ := ⟨Try.t23, _, _, Try.type23, rfl, rfl, rfl, rfl, rfl, rfl, fun _ => ⟨_, rfl⟩, Try.underlying23, rfl, ⟨⟨_, rfl, rfl, by kernel_rfl⟩, by decide, by kernel_rfl, by kernel_rfl⟩⟩
theorem trow24 : RowOK T Try.prog 24 ⟨4, 40, .struct [(0, 9), (1, 3), (2, 3), (3, 4)], [.string ByteArray.empty, .int .i64 0, .int .i64 0, .bool false]⟩ := ⟨Try.t24, _, _, Try.type24, rfl, rfl, rfl, rfl, rfl, rfl, fun _ => ⟨_, rfl⟩, Try.underlying24, rfl, ⟨⟨_, rfl, rfl, by kernel_rfl⟩, by decide, by kernel_rfl, by kernel_rfl⟩⟩
theorem trow25 : RowOK T Try.prog 25 ⟨1, 8, .int .i64, [.int .i64 0]⟩ := ⟨Try.t25, _, _, Try.type25, rfl, rfl, rfl, rfl, rfl, rfl, fun h => Bool.noConfusion h, Try.underlying25, rfl, rfl⟩
theorem trow26 : RowOK T Try.prog 26 ⟨15, 136, .struct [(0, 5), (1, 3), (2, 3), (3, 3), (4, 3), (5, 4), (6, 4), (7, 3), (8, 3), (9, 22), (10, 24), (14, 25)], [.int .u8 0, .int .i64 0, .int .i64 0, .int .i64 0, .int .i64 0, .bool false, .bool false, .int .i64 0, .int .i64 0, .slice none 0 0, .string ByteArray.empty, .int .i64 0, .int .i64 0, .bool false, .int .i64 0]⟩ := ⟨Try.t26, _, _, Try.type26, rfl, rfl, rfl, rfl, rfl, rfl, fun _ => ⟨_, rfl⟩, Try.underlying26, rfl, ⟨⟨_, rfl, rfl, by kernel_rfl⟩, by decide, by kernel_rfl, by kernel_rfl⟩⟩
theorem trow27 : RowOK T Try.prog 27 ⟨15, 136, .struct [(0, 5), (1, 3), (2, 3), (3, 3), (4, 3), (5, 4), (6, 4), (7, 3), (8, 3), (9, 22), (10, 24), (14, 25)], [.int .u8 0, .int .i64 0, .int .i64 0, .int .i64 0, .int .i64 0, .bool false, .bool false, .int .i64 0, .int .i64 0, .slice none 0 0, .string ByteArray.empty, .int .i64 0, .int .i64 0, .bool false, .int .i64 0]⟩ := ⟨Try.t27, _, _, Try.type27, rfl, rfl, rfl, rfl, rfl, rfl, fun _ => ⟨_, rfl⟩, Try.underlying27, rfl, ⟨⟨_, rfl, rfl, by kernel_rfl⟩, by decide, by kernel_rfl, by kernel_rfl⟩⟩
theorem trow28 : RowOK T Try.prog 28 ⟨1, 8, .func, [.nilFunc]⟩ := ⟨Try.t28, _, _, Try.type28, rfl, rfl, rfl, rfl, rfl, rfl, fun h => Bool.noConfusion h, Try.underlying28, rfl, ⟨_, _, _, rfl⟩⟩
theorem trow29 : RowOK T Try.prog 29 ⟨1, 8, .func, [.nilFunc]⟩ := ⟨Try.t29, _, _, Try.type29, rfl, rfl, rfl, rfl, rfl, rfl, fun h => Bool.noConfusion h, Try.underlying29, rfl, ⟨_, _, _, rfl⟩⟩
theorem trow31 : RowOK T Try.prog 31 ⟨1, 8, .func, [.nilFunc]⟩ := ⟨Try.t31, _, _, Try.type31, rfl, rfl, rfl, rfl, rfl, rfl, fun h => Bool.noConfusion h, Try.underlying31, rfl, ⟨_, _, _, rfl⟩⟩
theorem trow32 : RowOK T Try.prog 32 ⟨1, 8, .func, [.nilFunc]⟩ := ⟨Try.t32, _, _, Try.type32, rfl, rfl, rfl, rfl, rfl, rfl, fun h => Bool.noConfusion h, Try.underlying32, rfl, ⟨_, _, _, rfl⟩⟩
theorem trow33 : RowOK T Try.prog 33 ⟨1, 8, .func, [.nilFunc]⟩ := ⟨Try.t33, _, _, Try.type33, rfl, rfl, rfl, rfl, rfl, rfl, fun h => Bool.noConfusion h, Try.underlying33, rfl, ⟨_, _, _, rfl⟩⟩
theorem trow34 : RowOK T Try.prog 34 ⟨1, 8, .func, [.nilFunc]⟩ := ⟨Try.t34, _, _, Try.type34, rfl, rfl, rfl, rfl, rfl, rfl, fun h => Bool.noConfusion h, Try.underlying34, rfl, ⟨_, _, _, rfl⟩⟩
theorem trow35 : RowOK T Try.prog 35 ⟨1, 8, .func, [.nilFunc]⟩ := ⟨Try.t35, _, _, Try.type35, rfl, rfl, rfl, rfl, rfl, rfl, fun h => Bool.noConfusion h, Try.underlying35, rfl, ⟨_, _, _, rfl⟩⟩
theorem trow36 : RowOK T Try.prog 36 ⟨1, 8, .func, [.nilFunc]⟩ := ⟨Try.t36, _, _, Try.type36, rfl, rfl, rfl, rfl, rfl, rfl, fun h => Bool.noConfusion h, Try.underlying36, rfl, ⟨_, _, _, rfl⟩⟩
theorem trow37 : RowOK T Try.prog 37 ⟨1, 8, .func, [.nilFunc]⟩ := ⟨Try.t37, _, _, Try.type37, rfl, rfl, rfl, rfl, rfl, rfl, fun h => Bool.noConfusion h, Try.underlying37, rfl, ⟨_, _, _, rfl⟩⟩
theorem trow38 : RowOK T Try.prog 38 ⟨135, 1224, .arr 9 27, [.int .u8 0, .int .i64 0, .int .i64 0, .int .i64 0, .int .i64 0, .bool false, .bool false, .int .i64 0, .int .i64 0, .slice none 0 0, .string ByteArray.empty, .int .i64 0, .int .i64 0, .bool false, .int .i64 0, .int .u8 0, .int .i64 0, .int .i64 0, .int .i64 0, .int .i64 0, .bool false, .bool false, .int .i64 0, .int .i64 0, .slice none 0 0, .string ByteArray.empty, .int .i64 0, .int .i64 0, .bool false, .int .i64 0, .int .u8 0, .int .i64 0, .int .i64 0, .int .i64 0, .int .i64 0, .bool false, .bool false, .int .i64 0, .int .i64 0, .slice none 0 0, .string ByteArray.empty, .int .i64 0, .int .i64 0, .bool false, .int .i64 0, .int .u8 0, .int .i64 0, .int .i64 0, .int .i64 0, .int .i64 0, .bool false, .bool false, .int .i64 0, .int .i64 0, .slice none 0 0, .string ByteArray.empty, .int .i64 0, .int .i64 0, .bool false, .int .i64 0, .int .u8 0, .int .i64 0, .int .i64 0, .int .i64 0, .int .i64 0, .bool false, .bool false, .int .i64 0, .int .i64 0, .slice none 0 0, .string ByteArray.empty, .int .i64 0, .int .i64 0, .bool false, .int .i64 0, .int .u8 0, .int .i64 0, .int .i64 0, .int .i64 0, .int .i64 0, .bool false, .bool false, .int .i64 0, .int .i64 0, .slice none 0 0, .string ByteArray.empty, .int .i64 0, .int .i64 0, .bool false, .int .i64 0, .int .u8 0, .int .i64 0, .int .i64 0, .int .i64 0, .int .i64 0, .bool false, .bool false, .int .i64 0, .int .i64 0, .slice none 0 0, .string ByteArray.empty, .int .i64 0, .int .i64 0, .bool false, .int .i64 0, .int .u8 0, .int .i64 0, .int .i64 0, .int .i64 0, .int .i64 0, .bool false, .bool false, .int .i64 0, .int .i64 0, .slice none 0 0, .string ByteArray.empty, .int .i64 0, .int .i64 0, .bool false, .int .i64 0, .int .u8 0, .int .i64 0, .int .i64 0, .int .i64 0, .int .i64 0, .bool false, .bool false, .int .i64 0, .int .i64 0, .slice none 0 0, .string ByteArray.empty, .int .i64 0, .int .i64 0, .bool false, .int .i64 0]⟩ := ⟨Try.t38, _, _, Try.type38, rfl, rfl, rfl, rfl, rfl, rfl, fun _ => ⟨_, rfl⟩, Try.underlying38, rfl, ⟨rfl, by decide, by kernel_rfl⟩⟩
theorem trow39 : RowOK T Try.prog 39 ⟨1, 8, .func, [.nilFunc]⟩ := ⟨Try.t39, _, _, Try.type39, rfl, rfl, rfl, rfl, rfl, rfl, fun h => Bool.noConfusion h, Try.underlying39, rfl, ⟨_, _, _, rfl⟩⟩
theorem trow40 : RowOK T Try.prog 40 ⟨1, 8, .func, [.nilFunc]⟩ := ⟨Try.t40, _, _, Try.type40, rfl, rfl, rfl, rfl, rfl, rfl, fun h => Bool.noConfusion h, Try.underlying40, rfl, ⟨_, _, _, rfl⟩⟩
theorem trow41 : RowOK T Try.prog 41 ⟨1, 8, .func, [.nilFunc]⟩ := ⟨Try.t41, _, _, Try.type41, rfl, rfl, rfl, rfl, rfl, rfl, fun h => Bool.noConfusion h, Try.underlying41, rfl, ⟨_, _, _, rfl⟩⟩
theorem trow42 : RowOK T Try.prog 42 ⟨1, 24, .slice 24, [.slice none 0 0]⟩ := ⟨Try.t42, _, _, Try.type42, rfl, rfl, rfl, rfl, rfl, rfl, fun h => Bool.noConfusion h, Try.underlying42, rfl, ⟨rfl, by decide⟩⟩
theorem trow43 : RowOK T Try.prog 43 ⟨1, 8, .func, [.nilFunc]⟩ := ⟨Try.t43, _, _, Try.type43, rfl, rfl, rfl, rfl, rfl, rfl, fun h => Bool.noConfusion h, Try.underlying43, rfl, ⟨_, _, _, rfl⟩⟩
theorem trow45 : RowOK T Try.prog 45 ⟨1, 8, .func, [.nilFunc]⟩ := ⟨Try.t45, _, _, Try.type45, rfl, rfl, rfl, rfl, rfl, rfl, fun h => Bool.noConfusion h, Try.underlying45, rfl, ⟨_, _, _, rfl⟩⟩
theorem trow46 : RowOK T Try.prog 46 ⟨1, 8, .func, [.nilFunc]⟩ := ⟨Try.t46, _, _, Try.type46, rfl, rfl, rfl, rfl, rfl, rfl, fun h => Bool.noConfusion h, Try.underlying46, rfl, ⟨_, _, _, rfl⟩⟩
theorem trow47 : RowOK T Try.prog 47 ⟨1, 8, .func, [.nilFunc]⟩ := ⟨Try.t47, _, _, Try.type47, rfl, rfl, rfl, rfl, rfl, rfl, fun h => Bool.noConfusion h, Try.underlying47, rfl, ⟨_, _, _, rfl⟩⟩
theorem trow49 : RowOK T Try.prog 49 ⟨1, 8, .func, [.nilFunc]⟩ := ⟨Try.t49, _, _, Try.type49, rfl, rfl, rfl, rfl, rfl, rfl, fun h => Bool.noConfusion h, Try.underlying49, rfl, ⟨_, _, _, rfl⟩⟩
theorem trow51 : RowOK T Try.prog 51 ⟨1, 8, .func, [.nilFunc]⟩ := ⟨Try.t51, _, _, Try.type51, rfl, rfl, rfl, rfl, rfl, rfl, fun h => Bool.noConfusion h, Try.underlying51, rfl, ⟨_, _, _, rfl⟩⟩
theorem trow52 : RowOK T Try.prog 52 ⟨1, 8, .func, [.nilFunc]⟩ := ⟨Try.t52, _, _, Try.type52, rfl, rfl, rfl, rfl, rfl, rfl, fun h => Bool.noConfusion h, Try.underlying52, rfl, ⟨_, _, _, rfl⟩⟩
theorem trow53 : RowOK T Try.prog 53 ⟨1, 8, .func, [.nilFunc]⟩ := ⟨Try.t53, _, _, Try.type53, rfl, rfl, rfl, rfl, rfl, rfl, fun h => Bool.noConfusion h, Try.underlying53, rfl, ⟨_, _, _, rfl⟩⟩
theorem trow54 : RowOK T Try.prog 54 ⟨1, 8, .func, [.nilFunc]⟩ := ⟨Try.t54, _, _, Try.type54, rfl, rfl, rfl, rfl, rfl, rfl, fun h => Bool.noConfusion h, Try.underlying54, rfl, ⟨_, _, _, rfl⟩⟩
theorem trow55 : RowOK T Try.prog 55 ⟨1, 8, .func, [.nilFunc]⟩ := ⟨Try.t55, _, _, Try.type55, rfl, rfl, rfl, rfl, rfl, rfl, fun h => Bool.noConfusion h, Try.underlying55, rfl, ⟨_, _, _, rfl⟩⟩
theorem trow56 : RowOK T Try.prog 56 ⟨1, 8, .func, [.nilFunc]⟩ := ⟨Try.t56, _, _, Try.type56, rfl, rfl, rfl, rfl, rfl, rfl, fun h => Bool.noConfusion h, Try.underlying56, rfl, ⟨_, _, _, rfl⟩⟩
theorem trow57 : RowOK T Try.prog 57 ⟨1, 24, .slice 9, [.slice none 0 0]⟩ := ⟨Try.t57, _, _, Try.type57, rfl, rfl, rfl, rfl, rfl, rfl, fun h => Bool.noConfusion h, Try.underlying57, rfl, ⟨rfl, by decide⟩⟩
theorem trow58 : RowOK T Try.prog 58 ⟨1, 8, .func, [.nilFunc]⟩ := ⟨Try.t58, _, _, Try.type58, rfl, rfl, rfl, rfl, rfl, rfl, fun h => Bool.noConfusion h, Try.underlying58, rfl, ⟨_, _, _, rfl⟩⟩
theorem trow59 : RowOK T Try.prog 59 ⟨1, 8, .func, [.nilFunc]⟩ := ⟨Try.t59, _, _, Try.type59, rfl, rfl, rfl, rfl, rfl, rfl, fun h => Bool.noConfusion h, Try.underlying59, rfl, ⟨_, _, _, rfl⟩⟩
theorem trow60 : RowOK T Try.prog 60 ⟨1, 8, .func, [.nilFunc]⟩ := ⟨Try.t60, _, _, Try.type60, rfl, rfl, rfl, rfl, rfl, rfl, fun h => Bool.noConfusion h, Try.underlying60, rfl, ⟨_, _, _, rfl⟩⟩
theorem trow61 : RowOK T Try.prog 61 ⟨1, 8, .func, [.nilFunc]⟩ := ⟨Try.t61, _, _, Try.type61, rfl, rfl, rfl, rfl, rfl, rfl, fun h => Bool.noConfusion h, Try.underlying61, rfl, ⟨_, _, _, rfl⟩⟩
theorem trow62 : RowOK T Try.prog 62 ⟨1, 8, .func, [.nilFunc]⟩ := ⟨Try.t62, _, _, Try.type62, rfl, rfl, rfl, rfl, rfl, rfl, fun h => Bool.noConfusion h, Try.underlying62, rfl, ⟨_, _, _, rfl⟩⟩
theorem trow63 : RowOK T Try.prog 63 ⟨1, 8, .func, [.nilFunc]⟩ := ⟨Try.t63, _, _, Try.type63, rfl, rfl, rfl, rfl, rfl, rfl, fun h => Bool.noConfusion h, Try.underlying63, rfl, ⟨_, _, _, rfl⟩⟩
theorem trow64 : RowOK T Try.prog 64 ⟨1, 8, .func, [.nilFunc]⟩ := ⟨Try.t64, _, _, Try.type64, rfl, rfl, rfl, rfl, rfl, rfl, fun h => Bool.noConfusion h, Try.underlying64, rfl, ⟨_, _, _, rfl⟩⟩
theorem trow65 : RowOK T Try.prog 65 ⟨1, 8, .func, [.nilFunc]⟩ := ⟨Try.t65, _, _, Try.type65, rfl, rfl, rfl, rfl, rfl, rfl, fun h => Bool.noConfusion h, Try.underlying65, rfl, ⟨_, _, _, rfl⟩⟩
theorem trow66 : RowOK T Try.prog 66 ⟨1, 8, .func, [.nilFunc]⟩ := ⟨Try.t66, _, _, Try.type66, rfl, rfl, rfl, rfl, rfl, rfl, fun h => Bool.noConfusion h, Try.underlying66, rfl, ⟨_, _, _, rfl⟩⟩
theorem trow67 : RowOK T Try.prog 67 ⟨1, 8, .func, [.nilFunc]⟩ := ⟨Try.t67, _, _, Try.type67, rfl, rfl, rfl, rfl, rfl, rfl, fun h => Bool.noConfusion h, Try.underlying67, rfl, ⟨_, _, _, rfl⟩⟩
theorem trow68 : RowOK T Try.prog 68 ⟨1, 8, .func, [.nilFunc]⟩ := ⟨Try.t68, _, _, Try.type68, rfl, rfl, rfl, rfl, rfl, rfl, fun h => Bool.noConfusion h, Try.underlying68, rfl, ⟨_, _, _, rfl⟩⟩
theorem trow69 : RowOK T Try.prog 69 ⟨1, 8, .func, [.nilFunc]⟩ := ⟨Try.t69, _, _, Try.type69, rfl, rfl, rfl, rfl, rfl, rfl, fun h => Bool.noConfusion h, Try.underlying69, rfl, ⟨_, _, _, rfl⟩⟩
theorem trow70 : RowOK T Try.prog 70 ⟨1, 8, .func, [.nilFunc]⟩ := ⟨Try.t70, _, _, Try.type70, rfl, rfl, rfl, rfl, rfl, rfl, fun h => Bool.noConfusion h, Try.underlying70, rfl, ⟨_, _, _, rfl⟩⟩
theorem trow72 : RowOK T Try.prog 72 ⟨1, 8, .func, [.nilFunc]⟩ := ⟨Try.t72, _, _, Try.type72, rfl, rfl, rfl, rfl, rfl, rfl, fun h => Bool.noConfusion h, Try.underlying72, rfl, ⟨_, _, _, rfl⟩⟩
theorem trow73 : RowOK T Try.prog 73 ⟨1, 8, .func, [.nilFunc]⟩ := ⟨Try.t73, _, _, Try.type73, rfl, rfl, rfl, rfl, rfl, rfl, fun h => Bool.noConfusion h, Try.underlying73, rfl, ⟨_, _, _, rfl⟩⟩
theorem trow74 : RowOK T Try.prog 74 ⟨1, 8, .func, [.nilFunc]⟩ := ⟨Try.t74, _, _, Try.type74, rfl, rfl, rfl, rfl, rfl, rfl, fun h => Bool.noConfusion h, Try.underlying74, rfl, ⟨_, _, _, rfl⟩⟩
theorem trow75 : RowOK T Try.prog 75 ⟨1, 8, .func, [.nilFunc]⟩ := ⟨Try.t75, _, _, Try.type75, rfl, rfl, rfl, rfl, rfl, rfl, fun h => Bool.noConfusion h, Try.underlying75, rfl, ⟨_, _, _, rfl⟩⟩
theorem trow76 : RowOK T Try.prog 76 ⟨1, 8, .func, [.nilFunc]⟩ := ⟨Try.t76, _, _, Try.type76, rfl, rfl, rfl, rfl, rfl, rfl, fun h => Bool.noConfusion h, Try.underlying76, rfl, ⟨_, _, _, rfl⟩⟩
theorem trow77 : RowOK T Try.prog 77 ⟨1, 8, .func, [.nilFunc]⟩ := ⟨Try.t77, _, _, Try.type77, rfl, rfl, rfl, rfl, rfl, rfl, fun h => Bool.noConfusion h, Try.underlying77, rfl, ⟨_, _, _, rfl⟩⟩
theorem trow78 : RowOK T Try.prog 78 ⟨1, 8, .func, [.nilFunc]⟩ := ⟨Try.t78, _, _, Try.type78, rfl, rfl, rfl, rfl, rfl, rfl, fun h => Bool.noConfusion h, Try.underlying78, rfl, ⟨_, _, _, rfl⟩⟩
theorem trow79 : RowOK T Try.prog 79 ⟨1, 8, .func, [.nilFunc]⟩ := ⟨Try.t79, _, _, Try.type79, rfl, rfl, rfl, rfl, rfl, rfl, fun h => Bool.noConfusion h, Try.underlying79, rfl, ⟨_, _, _, rfl⟩⟩
theorem trow80 : RowOK T Try.prog 80 ⟨1, 8, .func, [.nilFunc]⟩ := ⟨Try.t80, _, _, Try.type80, rfl, rfl, rfl, rfl, rfl, rfl, fun h => Bool.noConfusion h, Try.underlying80, rfl, ⟨_, _, _, rfl⟩⟩
theorem trow81 : RowOK T Try.prog 81 ⟨1, 8, .func, [.nilFunc]⟩ := ⟨Try.t81, _, _, Try.type81, rfl, rfl, rfl, rfl, rfl, rfl, fun h => Bool.noConfusion h, Try.underlying81, rfl, ⟨_, _, _, rfl⟩⟩
theorem trow82 : RowOK T Try.prog 82 ⟨3, 24, .struct [(0, 3), (1, 3), (2, 4)], [.int .i64 0, .int .i64 0, .bool false]⟩ := ⟨Try.t82, _, _, Try.type82, rfl, rfl, rfl, rfl, rfl, rfl, fun _ => ⟨_, rfl⟩, Try.underlying82, rfl, ⟨⟨_, rfl, rfl, by kernel_rfl⟩, by decide, by kernel_rfl, by kernel_rfl⟩⟩
theorem trow83 : RowOK T Try.prog 83 ⟨3, 24, .struct [(0, 3), (1, 3), (2, 4)], [.int .i64 0, .int .i64 0, .bool false]⟩ := ⟨Try.t83, _, _, Try.type83, rfl, rfl, rfl, rfl, rfl, rfl, fun _ => ⟨_, rfl⟩, Try.underlying83, rfl, ⟨⟨_, rfl, rfl, by kernel_rfl⟩, by decide, by kernel_rfl, by kernel_rfl⟩⟩
theorem trow84 : RowOK T Try.prog 84 ⟨1, 8, .func, [.nilFunc]⟩ := ⟨Try.t84, _, _, Try.type84, rfl, rfl, rfl, rfl, rfl, rfl, fun h => Bool.noConfusion h, Try.underlying84, rfl, ⟨_, _, _, rfl⟩⟩
theorem trow85 : RowOK T Try.prog 85 ⟨1, 8, .func, [.nilFunc]⟩ := ⟨Try.t85, _, _, Try.type85, rfl, rfl, rfl, rfl, rfl, rfl, fun h => Bool.noConfusion h, Try.underlying85, rfl, ⟨_, _, _, rfl⟩⟩
theorem trow86 : RowOK T Try.prog 86 ⟨1, 8, .func, [.nilFunc]⟩ := ⟨Try.t86, _, _, Try.type86, rfl, rfl, rfl, rfl, rfl, rfl, fun h => Bool.noConfusion h, Try.underlying86, rfl, ⟨_, _, _, rfl⟩⟩
theorem trow87 : RowOK T Try.prog 87 ⟨1, 8, .func, [.nilFunc]⟩ := ⟨Try.t87, _, _, Try.type87, rfl, rfl, rfl, rfl, rfl, rfl, fun h => Bool.noConfusion h, Try.underlying87, rfl, ⟨_, _, _, rfl⟩⟩
theorem trow88 : RowOK T Try.prog 88 ⟨1, 8, .func, [.nilFunc]⟩ := ⟨Try.t88, _, _, Try.type88, rfl, rfl, rfl, rfl, rfl, rfl, fun h => Bool.noConfusion h, Try.underlying88, rfl, ⟨_, _, _, rfl⟩⟩
theorem trow94 : RowOK T Try.prog 94 ⟨1, 8, .func, [.nilFunc]⟩ := ⟨Try.t94, _, _, Try.type94, rfl, rfl, rfl, rfl, rfl, rfl, fun h => Bool.noConfusion h, Try.underlying94, rfl, ⟨_, _, _, rfl⟩⟩
theorem trow95 : RowOK T Try.prog 95 ⟨1, 4, .int .u32, [.int .u32 0]⟩ := ⟨Try.t95, _, _, Try.type95, rfl, rfl, rfl, rfl, rfl, rfl, fun h => Bool.noConfusion h, Try.underlying95, rfl, rfl⟩
theorem trow98 : RowOK T Try.prog 98 ⟨1, 8, .func, [.nilFunc]⟩ := ⟨Try.t98, _, _, Try.type98, rfl, rfl, rfl, rfl, rfl, rfl, fun h => Bool.noConfusion h, Try.underlying98, rfl, ⟨_, _, _, rfl⟩⟩
theorem trow99 : RowOK T Try.prog 99 ⟨1, 8, .ptr 5, [.pointer none]⟩ := ⟨Try.t99, _, _, Try.type99, rfl, rfl, rfl, rfl, rfl, rfl, fun h => Bool.noConfusion h, Try.underlying99, rfl, rfl⟩

theorem tok : TOK T Try.prog := TOK.of (by
  show RowsOK T Try.prog 0 _
  exact 
    ⟨fun h => absurd rfl h, ⟨fun _ => trow1, ⟨fun _ => trow2, ⟨fun _ => trow3, ⟨fun _ => trow4, ⟨fun _ => trow5, ⟨fun h => absurd rfl h, ⟨fun h => absurd rfl h, ⟨fun h => absurd rfl h, ⟨fun _ => trow9, ⟨fun h => absurd rfl h, ⟨fun h => absurd rfl h, ⟨fun _ => trow12, ⟨fun h => absurd rfl h, ⟨fun h => absurd rfl h, ⟨fun h => absurd rfl h, ⟨fun h => absurd rfl h, ⟨fun h => absurd rfl h, ⟨fun h => absurd rfl h, ⟨fun h => absurd rfl h, ⟨fun h => absurd rfl h, ⟨fun _ => trow21, ⟨fun _ => trow22, ⟨fun _ => trow23, ⟨fun _ => trow24, ⟨fun _ => trow25, ⟨fun _ => trow26, ⟨fun _ => trow27, ⟨fun _ => trow28, ⟨fun _ => trow29, ⟨fun h => absurd rfl h, ⟨fun _ => trow31, ⟨fun _ => trow32, ⟨fun _ => trow33, ⟨fun _ => trow34, ⟨fun _ => trow35, ⟨fun _ => trow36, ⟨fun _ => trow37, ⟨fun _ => trow38, ⟨fun _ => trow39, ⟨fun _ => trow40, ⟨fun _ => trow41, ⟨fun _ => trow42, ⟨fun _ => trow43, ⟨fun h => absurd rfl h, ⟨fun _ => trow45, ⟨fun _ => trow46, ⟨fun _ => trow47, ⟨fun h => absurd rfl h, ⟨fun _ => trow49, ⟨fun h => absurd rfl h, ⟨fun _ => trow51, ⟨fun _ => trow52, ⟨fun _ => trow53, ⟨fun _ => trow54, ⟨fun _ => trow55, ⟨fun _ => trow56, ⟨fun _ => trow57, ⟨fun _ => trow58, ⟨fun _ => trow59, ⟨fun _ => trow60, ⟨fun _ => trow61, ⟨fun _ => trow62, ⟨fun _ => trow63, ⟨fun _ => trow64, ⟨fun _ => trow65, ⟨fun _ => trow66, ⟨fun _ => trow67, ⟨fun _ => trow68, ⟨fun _ => trow69, ⟨fun _ => trow70, ⟨fun h => absurd rfl h, ⟨fun _ => trow72, ⟨fun _ => trow73, ⟨fun _ => trow74, ⟨fun _ => trow75, ⟨fun _ => trow76, ⟨fun _ => trow77, ⟨fun _ => trow78, ⟨fun _ => trow79, ⟨fun _ => trow80, ⟨fun _ => trow81, ⟨fun _ => trow82, ⟨fun _ => trow83, ⟨fun _ => trow84, ⟨fun _ => trow85, ⟨fun _ => trow86, ⟨fun _ => trow87, ⟨fun _ => trow88, ⟨fun h => absurd rfl h, ⟨fun h => absurd rfl h, ⟨fun h => absurd rfl h, ⟨fun h => absurd rfl h, ⟨fun h => absurd rfl h, ⟨fun _ => trow94, ⟨fun _ => trow95, ⟨fun h => absurd rfl h, ⟨fun h => absurd rfl h, ⟨fun _ => trow98, ⟨fun _ => trow99, ⟨fun h => absurd rfl h, ⟨fun h => absurd rfl h, ⟨fun h => absurd rfl h, ⟨fun h => absurd rfl h, ⟨fun h => absurd rfl h, trivial⟩⟩⟩⟩⟩⟩⟩⟩⟩⟩⟩⟩⟩⟩⟩⟩⟩⟩⟩⟩⟩⟩⟩⟩⟩⟩⟩⟩⟩⟩⟩⟩⟩⟩⟩⟩⟩⟩⟩⟩⟩⟩⟩⟩⟩⟩⟩⟩⟩⟩⟩⟩⟩⟩⟩⟩⟩⟩⟩⟩⟩⟩⟩⟩⟩⟩⟩⟩⟩⟩⟩⟩⟩⟩⟩⟩⟩⟩⟩⟩⟩⟩⟩⟩⟩⟩⟩⟩⟩⟩⟩⟩⟩⟩⟩⟩⟩⟩⟩⟩⟩⟩⟩⟩⟩) (by decide)
theorem Tat1 : T.at 1 = ⟨1, 8, .func, [.nilFunc]⟩ := rfl
theorem Tat2 : T.at 2 = ⟨1, 8, .int .i64, [.int .i64 0]⟩ := rfl
theorem Tat3 : T.at 3 = ⟨1, 8, .int .i64, [.int .i64 0]⟩ := rfl
theorem Tat4 : T.at 4 = ⟨1, 1, .bool, [.bool false]⟩ := rfl
theorem Tat5 : T.at 5 = ⟨1, 1, .int .u8, [.int .u8 0]⟩ := rfl
theorem Tat9 : T.at 9 = ⟨1, 16, .str, [.string ByteArray.empty]⟩ := rfl
theorem Tat12 : T.at 12 = ⟨1, 8, .int .u64, [.int .u64 0]⟩ := rfl
theorem Tat21 : T.at 21 = ⟨1, 4, .int .i32, [.int .i32 0]⟩ := rfl
theorem Tat22 : T.at 22 = ⟨1, 24, .slice 3, [.slice none 0 0]⟩ := rfl
theorem Tat23 : T.at 23 = ⟨4, 40, .struct [(0, 9), (1, 3), (2, 3), (3, 4)], [.string ByteArray.empty, .int .i64 0, .int .i64 0, .bool false]⟩ := rfl
theorem Tat24 : T.at 24 = ⟨4, 40, .struct [(0, 9), (1, 3), (2, 3), (3, 4)], [.string ByteArray.empty, .int .i64 0, .int .i64 0, .bool false]⟩ := rfl
theorem Tat25 : T.at 25 = ⟨1, 8, .int .i64, [.int .i64 0]⟩ := rfl
theorem Tat26 : T.at 26 = ⟨15, 136, .struct [(0, 5), (1, 3), (2, 3), (3, 3), (4, 3), (5, 4), (6, 4), (7, 3), (8, 3), (9, 22), (10, 24), (14, 25)], [.int .u8 0, .int .i64 0, .int .i64 0, .int .i64 0, .int .i64 0, .bool false, .bool false, .int .i64 0, .int .i64 0, .slice none 0 0, .string ByteArray.empty, .int .i64 0, .int .i64 0, .bool false, .int .i64 0]⟩ := rfl
theorem Tat27 : T.at 27 = ⟨15, 136, .struct [(0, 5), (1, 3), (2, 3), (3, 3), (4, 3), (5, 4), (6, 4), (7, 3), (8, 3), (9, 22), (10, 24), (14, 25)], [.int .u8 0, .int .i64 0, .int .i64 0, .int .i64 0, .int .i64 0, .bool false, .bool false, .int .i64 0, .int .i64 0, .slice none 0 0, .string ByteArray.empty, .int .i64 0, .int .i64 0, .bool false, .int .i64 0]⟩ := rfl
theorem Tat28 : T.at 28 = ⟨1, 8, .func, [.nilFunc]⟩ := rfl
theorem Tat29 : T.at 29 = ⟨1, 8, .func, [.nilFunc]⟩ := rfl
theorem Tat31 : T.at 31 = ⟨1, 8, .func, [.nilFunc]⟩ := rfl
theorem Tat32 : T.at 32 = ⟨1, 8, .func, [.nilFunc]⟩ := rfl
theorem Tat33 : T.at 33 = ⟨1, 8, .func, [.nilFunc]⟩ := rfl
theorem Tat34 : T.at 34 = ⟨1, 8, .func, [.nilFunc]⟩ := rfl
theorem Tat35 : T.at 35 = ⟨1, 8, .func, [.nilFunc]⟩ := rfl
theorem Tat36 : T.at 36 = ⟨1, 8, .func, [.nilFunc]⟩ := rfl
theorem Tat37 : T.at 37 = ⟨1, 8, .func, [.nilFunc]⟩ := rfl
theorem Tat38 : T.at 38 = ⟨135, 1224, .arr 9 27, [.int .u8 0, .int .i64 0, .int .i64 0, .int .i64 0, .int .i64 0, .bool false, .bool false, .int .i64 0, .int .i64 0, .slice none 0 0, .string ByteArray.empty, .int .i64 0, .int .i64 0, .bool false, .int .i64 0, .int .u8 0, .int .i64 0, .int .i64 0, .int .i64 0, .int .i64 0, .bool false, .bool false, .int .i64 0, .int .i64 0, .slice none 0 0, .string ByteArray.empty, .int .i64 0, .int .i64 0, .bool false, .int .i64 0, .int .u8 0, .int .i64 0, .int .i64 0, .int .i64 0, .int .i64 0, .bool false, .bool false, .int .i64 0, .int .i64 0, .slice none 0 0, .string ByteArray.empty, .int .i64 0, .int .i64 0, .bool false, .int .i64 0, .int .u8 0, .int .i64 0, .int .i64 0, .int .i64 0, .int .i64 0, .bool false, .bool false, .int .i64 0, .int .i64 0, .slice none 0 0, .string ByteArray.empty, .int .i64 0, .int .i64 0, .bool false, .int .i64 0, .int .u8 0, .int .i64 0, .int .i64 0, .int .i64 0, .int .i64 0, .bool false, .bool false, .int .i64 0, .int .i64 0, .slice none 0 0, .string ByteArray.empty, .int .i64 0, .int .i64 0, .bool false, .int .i64 0, .int .u8 0, .int .i64 0, .int .i64 0, .int .i64 0, .int .i64 0, .bool false, .bool false, .int .i64 0, .int .i64 0, .slice none 0 0, .string ByteArray.empty, .int .i64 0, .int .i64 0, .bool false, .int .i64 0, .int .u8 0, .int .i64 0, .int .i64 0, .int .i64 0, .int .i64 0, .bool false, .bool false, .int .i64 0, .int .i64 0, .slice none 0 0, .string ByteArray.empty, .int .i64 0, .int .i64 0, .bool false, .int .i64 0, .int .u8 0, .int .i64 0, .int .i64 0, .int .i64 0, .int .i64 0, .bool false, .bool false, .int .i64 0, .int .i64 0, .slice none 0 0, .string ByteArray.empty, .int .i64 0, .int .i64 0, .bool false, .int .i64 0, .int .u8 0, .int .i64 0, .int .i64 0, .int .i64 0, .int .i64 0, .bool false, .bool false, .int .i64 0, .int .i64 0, .slice none 0 0, .string ByteArray.empty, .int .i64 0, .int .i64 0, .bool false, .int .i64 0]⟩ := rfl
theorem Tat39 : T.at 39 = ⟨1, 8, .func, [.nilFunc]⟩ := rfl
theorem Tat40 : T.at 40 = ⟨1, 8, .func, [.nilFunc]⟩ := rfl
theorem Tat41 : T.at 41 = ⟨1, 8, .func, [.nilFunc]⟩ := rfl
theorem Tat42 : T.at 42 = ⟨1, 24, .slice 24, [.slice none 0 0]⟩ := rfl
theorem Tat43 : T.at 43 = ⟨1, 8, .func, [.nilFunc]⟩ := rfl
theorem Tat45 : T.at 45 = ⟨1, 8, .func, [.nilFunc]⟩ := rfl
theorem Tat46 : T.at 46 = ⟨1, 8, .func, [.nilFunc]⟩ := rfl
theorem Tat47 : T.at 47 = ⟨1, 8, .func, [.nilFunc]⟩ := rfl
theorem Tat49 : T.at 49 = ⟨1, 8, .func, [.nilFunc]⟩ := rfl
theorem Tat51 : T.at 51 = ⟨1, 8, .func, [.nilFunc]⟩ := rfl
theorem Tat52 : T.at 52 = ⟨1, 8, .func, [.nilFunc]⟩ := rfl
theorem Tat53 : T.at 53 = ⟨1, 8, .func, [.nilFunc]⟩ := rfl
theorem Tat54 : T.at 54 = ⟨1, 8, .func, [.nilFunc]⟩ := rfl
theorem Tat55 : T.at 55 = ⟨1, 8, .func, [.nilFunc]⟩ := rfl
theorem Tat56 : T.at 56 = ⟨1, 8, .func, [.nilFunc]⟩ := rfl
theorem Tat57 : T.at 57 = ⟨1, 24, .slice 9, [.slice none 0 0]⟩ := rfl
theorem Tat58 : T.at 58 = ⟨1, 8, .func, [.nilFunc]⟩ := rfl
theorem Tat59 : T.at 59 = ⟨1, 8, .func, [.nilFunc]⟩ := rfl
theorem Tat60 : T.at 60 = ⟨1, 8, .func, [.nilFunc]⟩ := rfl
theorem Tat61 : T.at 61 = ⟨1, 8, .func, [.nilFunc]⟩ := rfl
theorem Tat62 : T.at 62 = ⟨1, 8, .func, [.nilFunc]⟩ := rfl
theorem Tat63 : T.at 63 = ⟨1, 8, .func, [.nilFunc]⟩ := rfl
theorem Tat64 : T.at 64 = ⟨1, 8, .func, [.nilFunc]⟩ := rfl
theorem Tat65 : T.at 65 = ⟨1, 8, .func, [.nilFunc]⟩ := rfl
theorem Tat66 : T.at 66 = ⟨1, 8, .func, [.nilFunc]⟩ := rfl
theorem Tat67 : T.at 67 = ⟨1, 8, .func, [.nilFunc]⟩ := rfl
theorem Tat68 : T.at 68 = ⟨1, 8, .func, [.nilFunc]⟩ := rfl
theorem Tat69 : T.at 69 = ⟨1, 8, .func, [.nilFunc]⟩ := rfl
theorem Tat70 : T.at 70 = ⟨1, 8, .func, [.nilFunc]⟩ := rfl
theorem Tat72 : T.at 72 = ⟨1, 8, .func, [.nilFunc]⟩ := rfl
theorem Tat73 : T.at 73 = ⟨1, 8, .func, [.nilFunc]⟩ := rfl
theorem Tat74 : T.at 74 = ⟨1, 8, .func, [.nilFunc]⟩ := rfl
theorem Tat75 : T.at 75 = ⟨1, 8, .func, [.nilFunc]⟩ := rfl
theorem Tat76 : T.at 76 = ⟨1, 8, .func, [.nilFunc]⟩ := rfl
theorem Tat77 : T.at 77 = ⟨1, 8, .func, [.nilFunc]⟩ := rfl
theorem Tat78 : T.at 78 = ⟨1, 8, .func, [.nilFunc]⟩ := rfl
theorem Tat79 : T.at 79 = ⟨1, 8, .func, [.nilFunc]⟩ := rfl
theorem Tat80 : T.at 80 = ⟨1, 8, .func, [.nilFunc]⟩ := rfl
theorem Tat81 : T.at 81 = ⟨1, 8, .func, [.nilFunc]⟩ := rfl
theorem Tat82 : T.at 82 = ⟨3, 24, .struct [(0, 3), (1, 3), (2, 4)], [.int .i64 0, .int .i64 0, .bool false]⟩ := rfl
theorem Tat83 : T.at 83 = ⟨3, 24, .struct [(0, 3), (1, 3), (2, 4)], [.int .i64 0, .int .i64 0, .bool false]⟩ := rfl
theorem Tat84 : T.at 84 = ⟨1, 8, .func, [.nilFunc]⟩ := rfl
theorem Tat85 : T.at 85 = ⟨1, 8, .func, [.nilFunc]⟩ := rfl
theorem Tat86 : T.at 86 = ⟨1, 8, .func, [.nilFunc]⟩ := rfl
theorem Tat87 : T.at 87 = ⟨1, 8, .func, [.nilFunc]⟩ := rfl
theorem Tat88 : T.at 88 = ⟨1, 8, .func, [.nilFunc]⟩ := rfl
theorem Tat94 : T.at 94 = ⟨1, 8, .func, [.nilFunc]⟩ := rfl
theorem Tat95 : T.at 95 = ⟨1, 4, .int .u32, [.int .u32 0]⟩ := rfl
theorem Tat98 : T.at 98 = ⟨1, 8, .func, [.nilFunc]⟩ := rfl
theorem Tat99 : T.at 99 = ⟨1, 8, .ptr 5, [.pointer none]⟩ := rfl
theorem Tglob : T.glob = [] := rfl

end Go.Proofs.Ythaomidjgadieaa
