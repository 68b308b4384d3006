/-
  The table of the types of this seat's program.
-/
import Derived.Test.YtcbhmedknbiffaaVsQ
import Derived.Test.YtcbhmedknbiffaaProg
namespace Go.Proofs.Ytcbhmedknbiffaa
open Go Go.RowKit

def T : Tab := ⟨[
  ⟨0, 0, .other, []⟩,
  ⟨1, 8, .func, [.nilFunc]⟩,
  ⟨1, 8, .int .i64, [.int .i64 0]⟩,
  ⟨1, 8, .int .i64, [.int .i64 0]⟩,
  ⟨1, 1, .bool, [.bool false]⟩,
  ⟨1, 1, .int .u8, [.int .u8 0]⟩,
  ⟨0, 0, .other, []⟩,
  ⟨0, 0, .other, []⟩,
  ⟨0, 0, .other, []⟩,
  ⟨1, 16, .str, [.string ByteArray.empty]⟩,
  ⟨0, 0, .other, []⟩,
  ⟨0, 0, .other, []⟩,
  ⟨1, 8, .int .u64, [.int .u64 0]⟩,
  ⟨0, 0, .other, []⟩,
  ⟨0, 0, .other, []⟩,
  ⟨0, 0, .other, []⟩,
  ⟨0, 0, .other, []⟩,
  ⟨0, 0, .other, []⟩,
  ⟨0, 0, .other, []⟩,
  ⟨0, 0, .other, []⟩,
  ⟨0, 0, .other, []⟩,
  ⟨1, 4, .int .i32, [.int .i32 0]⟩,
  ⟨1, 24, .slice 34, [.slice none 0 0]⟩,
  ⟨1, 24, .slice 29, [.slice none 0 0]⟩,
  ⟨1, 24, .slice 3, [.slice none 0 0]⟩,
  ⟨4, 40, .struct [(0, 9), (1, 3), (2, 3), (3, 4)], [.string ByteArray.empty, .int .i64 0, .int .i64 0, .bool false]⟩,
  ⟨4, 40, .struct [(0, 9), (1, 3), (2, 3), (3, 4)], [.string ByteArray.empty, .int .i64 0, .int .i64 0, .bool false]⟩,
  ⟨1, 8, .int .i64, [.int .i64 0]⟩,
  ⟨15, 136, .struct [(0, 5), (1, 3), (2, 3), (3, 3), (4, 3), (5, 4), (6, 4), (7, 3), (8, 3), (9, 24), (10, 26), (14, 27)], [.int .u8 0, .int .i64 0, .int .i64 0, .int .i64 0, .int .i64 0, .bool false, .bool false, .int .i64 0, .int .i64 0, .slice none 0 0, .string ByteArray.empty, .int .i64 0, .int .i64 0, .bool false, .int .i64 0]⟩,
  ⟨15, 136, .struct [(0, 5), (1, 3), (2, 3), (3, 3), (4, 3), (5, 4), (6, 4), (7, 3), (8, 3), (9, 24), (10, 26), (14, 27)], [.int .u8 0, .int .i64 0, .int .i64 0, .int .i64 0, .int .i64 0, .bool false, .bool false, .int .i64 0, .int .i64 0, .slice none 0 0, .string ByteArray.empty, .int .i64 0, .int .i64 0, .bool false, .int .i64 0]⟩,
  ⟨1, 8, .func, [.nilFunc]⟩,
  ⟨1, 8, .func, [.nilFunc]⟩,
  ⟨1, 8, .func, [.nilFunc]⟩,
  ⟨17, 152, .struct [(0, 3), (1, 3), (2, 29)], [.int .i64 0, .int .i64 0, .int .u8 0, .int .i64 0, .int .i64 0, .int .i64 0, .int .i64 0, .bool false, .bool false, .int .i64 0, .int .i64 0, .slice none 0 0, .string ByteArray.empty, .int .i64 0, .int .i64 0, .bool false, .int .i64 0]⟩,
  ⟨17, 152, .struct [(0, 3), (1, 3), (2, 29)], [.int .i64 0, .int .i64 0, .int .u8 0, .int .i64 0, .int .i64 0, .int .i64 0, .int .i64 0, .bool false, .bool false, .int .i64 0, .int .i64 0, .slice none 0 0, .string ByteArray.empty, .int .i64 0, .int .i64 0, .bool false, .int .i64 0]⟩,
  ⟨0, 0, .other, []⟩,
  ⟨1, 8, .func, [.nilFunc]⟩,
  ⟨0, 0, .other, []⟩,
  ⟨1, 8, .func, [.nilFunc]⟩,
  ⟨1, 8, .func, [.nilFunc]⟩,
  ⟨1, 8, .func, [.nilFunc]⟩,
  ⟨1, 8, .func, [.nilFunc]⟩,
  ⟨1, 8, .func, [.nilFunc]⟩,
  ⟨1, 8, .func, [.nilFunc]⟩,
  ⟨1, 8, .func, [.nilFunc]⟩,
  ⟨1, 8, .func, [.nilFunc]⟩,
  ⟨1, 8, .func, [.nilFunc]⟩,
  ⟨1, 8, .func, [.nilFunc]⟩,
  ⟨1, 8, .func, [.nilFunc]⟩,
  ⟨1, 8, .func, [.nilFunc]⟩,
  ⟨1, 8, .func, [.nilFunc]⟩,
  ⟨1, 8, .func, [.nilFunc]⟩,
  ⟨1, 8, .func, [.nilFunc]⟩,
  ⟨1, 8, .func, [.nilFunc]⟩,
  ⟨1, 8, .func, [.nilFunc]⟩,
  ⟨1, 8, .func, [.nilFunc]⟩,
  ⟨1, 8, .func, [.nilFunc]⟩,
  ⟨1, 8, .func, [.nilFunc]⟩,
  ⟨1, 8, .func, [.nilFunc]⟩,
  ⟨1, 8, .func, [.nilFunc]⟩,
  ⟨1, 8, .func, [.nilFunc]⟩,
  ⟨1, 8, .func, [.nilFunc]⟩,
  ⟨1, 8, .func, [.nilFunc]⟩,
  ⟨1, 8, .func, [.nilFunc]⟩,
  ⟨1, 8, .func, [.nilFunc]⟩,
  ⟨1, 8, .func, [.nilFunc]⟩,
  ⟨1, 8, .func, [.nilFunc]⟩,
  ⟨1, 8, .func, [.nilFunc]⟩,
  ⟨1, 8, .func, [.nilFunc]⟩,
  ⟨1, 8, .func, [.nilFunc]⟩,
  ⟨0, 0, .other, []⟩,
  ⟨0, 0, .other, []⟩,
  ⟨0, 0, .other, []⟩,
  ⟨0, 0, .other, []⟩,
  ⟨0, 0, .other, []⟩,
  ⟨1, 8, .func, [.nilFunc]⟩,
  ⟨1, 4, .int .u32, [.int .u32 0]⟩,
  ⟨0, 0, .other, []⟩,
  ⟨0, 0, .other, []⟩,
  ⟨1, 8, .func, [.nilFunc]⟩,
  ⟨1, 8, .ptr 5, [.pointer none]⟩,
  ⟨0, 0, .other, []⟩,
  ⟨0, 0, .other, []⟩,
  ⟨0, 0, .other, []⟩,
  ⟨0, 0, .other, []⟩,
  ⟨0, 0, .other, []⟩
  ], []⟩

theorem trow1 : RowOK T Try.prog 1 ⟨1, 8, .func, [.nilFunc]⟩ := ⟨Try.t1, _, _, Try.type1, rfl, rfl, rfl, rfl, rfl, rfl, fun h => Bool.noConfusion h, Try.underlying1, rfl, ⟨_, _, _, rfl⟩⟩
theorem trow2 : RowOK T Try.prog 2 ⟨1, 8, .int .i64, [.int .i64 0]⟩ := ⟨Try.t2, _, _, Try.type2, rfl, rfl, rfl, rfl, rfl, rfl, fun h => Bool.noConfusion h, Try.underlying2, rfl, rfl⟩
theorem trow3 : RowOK T Try.prog 3 ⟨1, 8, .int .i64, [.int .i64 0]⟩ := ⟨Try.t3, _, _, Try.type3, rfl, rfl, rfl, rfl, rfl, rfl, fun h => Bool.noConfusion h, Try.underlying3, rfl, rfl⟩
theorem trow4 : RowOK T Try.prog 4 ⟨1, 1, .bool, [.bool false]⟩ := ⟨Try.t4, _, _, Try.type4, rfl, rfl, rfl, rfl, rfl, rfl, fun h => Bool.noConfusion h, Try.underlying4, rfl, rfl⟩
theorem trow5 : RowOK T Try.prog 5 ⟨1, 1, .int .u8, [.int .u8 0]⟩ := ⟨Try.t5, _, _, Try.type5, rfl, rfl, rfl, rfl, rfl, rfl, fun h => Bool.noConfusion h, Try.underlying5, rfl, rfl⟩
theorem trow9 : RowOK T Try.prog 9 ⟨1, 16, .str, [.string ByteArray.empty]⟩ := ⟨Try.t9, _, _, Try.type9, rfl, rfl, rfl, rfl, rfl, rfl, fun h => Bool.noConfusion h, Try.underlying9, rfl, rfl⟩
theorem trow12 : RowOK T Try.prog 12 ⟨1, 8, .int .u64, [.int .u64 0]⟩ := ⟨Try.t12, _, _, Try.type12, rfl, rfl, rfl, rfl, rfl, rfl, fun h => Bool.noConfusion h, Try.underlying12, rfl, rfl⟩
theorem trow21 : RowOK T Try.prog 21 ⟨1, 4, .int .i32, [.int .i32 0]⟩ := ⟨Try.t21, _, _, Try.type21, rfl, rfl, rfl, rfl, rfl, rfl, fun h => Bool.noConfusion h, Try.underlying21, rfl, rfl⟩
theorem trow22 : RowOK T Try.prog 22 ⟨1, 24, .slice 34, [.slice none 0 0]⟩ := ⟨Try.t22, _, _, Try.type22, rfl, rfl, rfl, rfl, rfl, rfl, fun h => Bool.noConfusion h, Try.underlying22, rfl, ⟨rfl, by decide⟩⟩
theorem trow23 : RowOK T Try.prog 23 ⟨1, 24, .slice 29, [.slice none 0 0]⟩ := ⟨Try.t23, _, _, Try.type23, rfl, rfl, rfl, rfl, rfl, rfl, fun h => Bool.noConfusion h, Try.underlying23, rfl, ⟨rfl, by decide⟩⟩
theorem trow24 : RowOK T Try.prog 24 ⟨1, 24, .slice 3, [.slice none 0 0]⟩ := ⟨Try.t24, _, _, Try.type24, rfl, rfl, rfl, rfl, rfl, rfl, fun h => Bool.noConfusion h, Try.underlying24, rfl, ⟨rfl, by decide⟩⟩
theorem trow25 : RowOK T Try.prog 25 ⟨4, 40, .struct [(0, 9), (1, 3), (2, 3), (3, 4)], [.string ByteArray.empty, .int .i64 0, .int .i64 0, .bool false]⟩ := ⟨Try.t25, _, _, Try.type25, rfl, rfl, rfl, rfl, rfl, rfl, fun _ => ⟨_, rfl⟩, Try.underlying25, rfl, ⟨⟨_, rfl, rfl, by kernel_rfl⟩, by decide, by kernel_rfl, by kernel_rfl⟩⟩
theorem trow26 : RowOK T Try.prog 26 ⟨4, 40, .struct [(0, 9), (1, 3), (2, 3), (3, 4)], [.string ByteArray.empty, .int .i64 0, .int .i64 0, .bool false]⟩ := ⟨Try.t26, _, _, Try.type26, rfl, rfl, rfl, rfl, rfl, rfl, fun _ => ⟨_, rfl⟩, Try.underlying26, rfl, ⟨⟨_, rfl, rfl, by kernel_rfl⟩, by decide, by kernel_rfl, by kernel_rfl⟩⟩
theorem trow27 : RowOK T Try.prog 27 ⟨1, 8, .int .i64, [.int .i64 0]⟩ := ⟨Try.t27, _, _, Try.type27, rfl, rfl, rfl, rfl, rfl, rfl, fun h => Bool.noConfusion h, Try.underlying27, rfl, rfl⟩
theorem trow28 : RowOK T Try.prog 28 ⟨15, 136, .struct [(0, 5), (1, 3), (2, 3), (3, 3), (4, 3), (5, 4), (6, 4), (7, 3), (8, 3), (9, 24), (10, 26), (14, 27)], [.int .u8 0, .int .i64 0, .int .i64 0, .int .i64 0, .int .i64 0, .bool false, .bool false, .int .i64 0, .int .i64 0, .slice none 0 0, .string ByteArray.empty, .int .i64 0, .int .i64 0, .bool false, .int .i64 0]⟩ := ⟨Try.t28, _, _, Try.type28, rfl, rfl, rfl, rfl, rfl, rfl, fun _ => ⟨_, rfl⟩, Try.underlying28, rfl, ⟨⟨_, rfl, rfl, by kernel_rfl⟩, by decide, by kernel_rfl, by kernel_rfl⟩⟩
theorem trow29 : RowOK T Try.prog 29 ⟨15, 136, .struct [(0, 5), (1, 3), (2, 3), (3, 3), (4, 3), (5, 4), (6, 4), (7, 3), (8, 3), (9, 24), (10, 26), (14, 27)], [.int .u8 0, .int .i64 0, .int .i64 0, .int .i64 0, .int .i64 0, .bool false, .bool false, .int .i64 0, .int .i64 0, .slice none 0 0, .string ByteArray.empty, .int .i64 0, .int .i64 0, .bool false, .int .i64 0]⟩ := ⟨Try.t29, _, _, Try.type29, rfl, rfl, rfl, rfl, rfl, rfl, fun _ => ⟨_, rfl⟩, Try.underlying29, rfl, ⟨⟨_, rfl, rfl, by kernel_rfl⟩, by decide, by kernel_rfl, by kernel_rfl⟩⟩
theorem trow30 : RowOK T Try.prog 30 ⟨1, 8, .func, [.nilFunc]⟩ := ⟨Try.t30, _, _, Try.type30, rfl, rfl, rfl, rfl, rfl, rfl, fun h => Bool.noConfusion h, Try.underlying30, rfl, ⟨_, _, _, rfl⟩⟩
theorem trow31 : RowOK T Try.prog 31 ⟨1, 8, .func, [.nilFunc]⟩ := ⟨Try.t31, _, _, Try.type31, rfl, rfl, rfl, rfl, rfl, rfl, fun h => Bool.noConfusion h, Try.underlying31, rfl, ⟨_, _, _, rfl⟩⟩
theorem trow32 : RowOK T Try.prog 32 ⟨1, 8, .func, [.nilFunc]⟩ := ⟨Try.t32, _, _, Try.type32, rfl, rfl, rfl, rfl, rfl, rfl, fun h => Bool.noConfusion h, Try.underlying32, rfl, ⟨_, _, _, rfl⟩⟩
theorem trow33 : RowOK T Try.prog 33 ⟨17, 152, .struct [(0, 3), (1, 3), (2, 29)], [.int .i64 0, .int .i64 0, .int .u8 0, .int .i64 0, .int .i64 0, .int .i64 0, .int .i64 0, .bool false, .bool false, .int .i64 0, .int .i64 0, .slice none 0 0, .string ByteArray.empty, .int .i64 0, .int .i64 0, .bool false, .int .i64 0]⟩ := ⟨Try.t33, _, _, Try.type33, rfl, rfl, rfl, rfl, rfl, rfl, fun _ => ⟨_, rfl⟩, Try.underlying33, rfl, ⟨⟨_, rfl, rfl, by kernel_rfl⟩, by decide, by kernel_rfl, by kernel_rfl⟩⟩
theorem trow34 : RowOK T Try.prog 34 ⟨17, 152, .struct [(0, 3), (1, 3), (2, 29)], [.int .i64 0, .int .i64 0, .int .u8 0, .int .i64 0, .int .i64 0, .int .i64 0, .int .i64 0, .bool false, .bool false, .int .i64 0, .int .i64 0, .slice none 0 0, .string ByteArray.empty, .int .i64 0, .int .i64 0, .bool false, .int .i64 0]⟩ := ⟨Try.t34, _, _, Try.type34, rfl, rfl, rfl, rfl, rfl, rfl, fun _ => ⟨_, rfl⟩, Try.underlying34, rfl, ⟨⟨_, rfl, rfl, by kernel_rfl⟩, by decide, by kernel_rfl, by kernel_rfl⟩⟩
theorem trow36 : RowOK T Try.prog 36 ⟨1, 8, .func, [.nilFunc]⟩ := ⟨Try.t36, _, _, Try.type36, rfl, rfl, rfl, rfl, rfl, rfl, fun h => Bool.noConfusion h, Try.underlying36, rfl, ⟨_, _, _, rfl⟩⟩
theorem trow38 : RowOK T Try.prog 38 ⟨1, 8, .func, [.nilFunc]⟩ := ⟨Try.t38, _, _, Try.type38, rfl, rfl, rfl, rfl, rfl, rfl, fun h => Bool.noConfusion h, Try.underlying38, rfl, ⟨_, _, _, rfl⟩⟩
theorem trow39 : RowOK T Try.prog 39 ⟨1, 8, .func, [.nilFunc]⟩ := ⟨Try.t39, _, _, Try.type39, rfl, rfl, rfl, rfl, rfl, rfl, fun h => Bool.noConfusion h, Try.underlying39, rfl, ⟨_, _, _, rfl⟩⟩
theorem trow40 : RowOK T Try.prog 40 ⟨1, 8, .func, [.nilFunc]⟩ := ⟨Try.t40, _, _, Try.type40, rfl, rfl, rfl, rfl, rfl, rfl, fun h => Bool.noConfusion h, Try.underlying40, rfl, ⟨_, _, _, rfl⟩⟩
theorem trow41 : RowOK T Try.prog 41 ⟨1, 8, .func, [.nilFunc]⟩ := ⟨Try.t41, _, _, Try.type41, rfl, rfl, rfl, rfl, rfl, rfl, fun h => Bool.noConfusion h, Try.underlying41, rfl, ⟨_, _, _, rfl⟩⟩
theorem trow42 : RowOK T Try.prog 42 ⟨1, 8, .func, [.nilFunc]⟩ := ⟨Try.t42, _, _, Try.type42, rfl, rfl, rfl, rfl, rfl, rfl, fun h => Bool.noConfusion h, Try.underlying42, rfl, ⟨_, _, _, rfl⟩⟩
theorem trow43 : RowOK T Try.prog 43 ⟨1, 8, .func, [.nilFunc]⟩ := ⟨Try.t43, _, _, Try.type43, rfl, rfl, rfl, rfl, rfl, rfl, fun h => Bool.noConfusion h, Try.underlying43, rfl, ⟨_, _, _, rfl⟩⟩
theorem trow44 : RowOK T Try.prog 44 ⟨1, 8, .func, [.nilFunc]⟩ := ⟨Try.t44, _, _, Try.type44, rfl, rfl, rfl, rfl, rfl, rfl, fun h => Bool.noConfusion h, Try.underlying44, rfl, ⟨_, _, _, rfl⟩⟩
theorem trow45 : RowOK T Try.prog 45 ⟨1, 8, .func, [.nilFunc]⟩ := ⟨Try.t45, _, _, Try.type45, rfl, rfl, rfl, rfl, rfl, rfl, fun h => Bool.noConfusion h, Try.underlying45, rfl, ⟨_, _, _, rfl⟩⟩
theorem trow46 : RowOK T Try.prog 46 ⟨1, 8, .func, [.nilFunc]⟩ := ⟨Try.t46, _, _, Try.type46, rfl, rfl, rfl, rfl, rfl, rfl, fun h => Bool.noConfusion h, Try.underlying46, rfl, ⟨_, _, _, rfl⟩⟩
theorem trow47 : RowOK T Try.prog 47 ⟨1, 8, .func, [.nilFunc]⟩ := ⟨Try.t47, _, _, Try.type47, rfl, rfl, rfl, rfl, rfl, rfl, fun h => Bool.noConfusion h, Try.underlying47, rfl, ⟨_, _, _, rfl⟩⟩
theorem trow48 : RowOK T Try.prog 48 ⟨1, 8, .func, [.nilFunc]⟩ := ⟨Try.t48, _, _, Try.type48, rfl, rfl, rfl, rfl, rfl, rfl, fun h => Bool.noConfusion h, Try.underlying48, rfl, ⟨_, _, _, rfl⟩⟩
theorem trow49 : RowOK T Try.prog 49 ⟨1, 8, .func, [.nilFunc]⟩ := ⟨Try.t49, _, _, Try.type49, rfl, rfl, rfl, rfl, rfl, rfl, fun h => Bool.noConfusion h, Try.underlying49, rfl, ⟨_, _, _, rfl⟩⟩
theorem trow50 : RowOK T Try.prog 50 ⟨1, 8, .func, [.nilFunc]⟩ := ⟨Try.t50, _, _, Try.type50, rfl, rfl, rfl, rfl, rfl, rfl, fun h => Bool.noConfusion h, Try.underlying50, rfl, ⟨_, _, _, rfl⟩⟩
theorem trow51 : RowOK T Try.prog 51 ⟨1, 8, .func, [.nilFunc]⟩ := ⟨Try.t51, _, _, Try.type51, rfl, rfl, rfl, rfl, rfl, rfl, fun h => Bool.noConfusion h, Try.underlying51, rfl, ⟨_, _, _, rfl⟩⟩
theorem trow52 : RowOK T Try.prog 52 ⟨1, 8, .func, [.nilFunc]⟩ := ⟨Try.t52, _, _, Try.type52, rfl, rfl, rfl, rfl, rfl, rfl, fun h => Bool.noConfusion h, Try.underlying52, rfl, ⟨_, _, _, rfl⟩⟩
theorem trow53 : RowOK T Try.prog 53 ⟨1, 8, .func, [.nilFunc]⟩ := ⟨Try.t53, _, _, Try.type53, rfl, rfl, rfl, rfl, rfl, rfl, fun h => Bool.noConfusion h, Try.underlying53, rfl, ⟨_, _, _, rfl⟩⟩
theorem trow54 : RowOK T Try.prog 54 ⟨1, 8, .func, [.nilFunc]⟩ := ⟨Try.t54, _, _, Try.type54, rfl, rfl, rfl, rfl, rfl, rfl, fun h => Bool.noConfusion h, Try.underlying54, rfl, ⟨_, _, _, rfl⟩⟩
theorem trow55 : RowOK T Try.prog 55 ⟨1, 8, .func, [.nilFunc]⟩ := ⟨Try.t55, _, _, Try.type55, rfl, rfl, rfl, rfl, rfl, rfl, fun h => Bool.noConfusion h, Try.underlying55, rfl, ⟨_, _, _, rfl⟩⟩
theorem trow56 : RowOK T Try.prog 56 ⟨1, 8, .func, [.nilFunc]⟩ := ⟨Try.t56, _, _, Try.type56, rfl, rfl, rfl, rfl, rfl, rfl, fun h => Bool.noConfusion h, Try.underlying56, rfl, ⟨_, _, _, rfl⟩⟩
theorem trow57 : RowOK T Try.prog 57 ⟨1, 8, .func, [.nilFunc]⟩ := ⟨Try.t57, _, _, Try.type57, rfl, rfl, rfl, rfl, rfl, rfl, fun h => Bool.noConfusion h, Try.underlying57, rfl, ⟨_, _, _, rfl⟩⟩
theorem trow58 : RowOK T Try.prog 58 ⟨1, 8, .func, [.nilFunc]⟩ := ⟨Try.t58, _, _, Try.type58, rfl, rfl, rfl, rfl, rfl, rfl, fun h => Bool.noConfusion h, Try.underlying58, rfl, ⟨_, _, _, rfl⟩⟩
theorem trow59 : RowOK T Try.prog 59 ⟨1, 8, .func, [.nilFunc]⟩ := ⟨Try.t59, _, _, Try.type59, rfl, rfl, rfl, rfl, rfl, rfl, fun h => Bool.noConfusion h, Try.underlying59, rfl, ⟨_, _, _, rfl⟩⟩
theorem trow60 : RowOK T Try.prog 60 ⟨1, 8, .func, [.nilFunc]⟩ := ⟨Try.t60, _, _, Try.type60, rfl, rfl, rfl, rfl, rfl, rfl, fun h => Bool.noConfusion h, Try.underlying60, rfl, ⟨_, _, _, rfl⟩⟩
theorem trow61 : RowOK T Try.prog 61 ⟨1, 8, .func, [.nilFunc]⟩ := ⟨Try.t61, _, _, Try.type61, rfl, rfl, rfl, rfl, rfl, rfl, fun h => Bool.noConfusion h, Try.underlying61, rfl, ⟨_, _, _, rfl⟩⟩
theorem trow62 : RowOK T Try.prog 62 ⟨1, 8, .func, [.nilFunc]⟩ := ⟨Try.t62, _, _, Try.type62, rfl, rfl, rfl, rfl, rfl, rfl, fun h => Bool.noConfusion h, Try.underlying62, rfl, ⟨_, _, _, rfl⟩⟩
theorem trow63 : RowOK T Try.prog 63 ⟨1, 8, .func, [.nilFunc]⟩ := ⟨Try.t63, _, _, Try.type63, rfl, rfl, rfl, rfl, rfl, rfl, fun h => Bool.noConfusion h, Try.underlying63, rfl, ⟨_, _, _, rfl⟩⟩
theorem trow64 : RowOK T Try.prog 64 ⟨1, 8, .func, [.nilFunc]⟩ := ⟨Try.t64, _, _, Try.type64, rfl, rfl, rfl, rfl, rfl, rfl, fun h => Bool.noConfusion h, Try.underlying64, rfl, ⟨_, _, _, rfl⟩⟩
theorem trow65 : RowOK T Try.prog 65 ⟨1, 8, .func, [.nilFunc]⟩ := ⟨Try.t65, _, _, Try.type65, rfl, rfl, rfl, rfl, rfl, rfl, fun h => Bool.noConfusion h, Try.underlying65, rfl, ⟨_, _, _, rfl⟩⟩
theorem trow66 : RowOK T Try.prog 66 ⟨1, 8, .func, [.nilFunc]⟩ := ⟨Try.t66, _, _, Try.type66, rfl, rfl, rfl, rfl, rfl, rfl, fun h => Bool.noConfusion h, Try.underlying66, rfl, ⟨_, _, _, rfl⟩⟩
theorem trow67 : RowOK T Try.prog 67 ⟨1, 8, .func, [.nilFunc]⟩ := ⟨Try.t67, _, _, Try.type67, rfl, rfl, rfl, rfl, rfl, rfl, fun h => Bool.noConfusion h, Try.underlying67, rfl, ⟨_, _, _, rfl⟩⟩
theorem trow68 : RowOK T Try.prog 68 ⟨1, 8, .func, [.nilFunc]⟩ := ⟨Try.t68, _, _, Try.type68, rfl, rfl, rfl, rfl, rfl, rfl, fun h => Bool.noConfusion h, Try.underlying68, rfl, ⟨_, _, _, rfl⟩⟩
theorem trow69 : RowOK T Try.prog 69 ⟨1, 8, .func, [.nilFunc]⟩ := ⟨Try.t69, _, _, Try.type69, rfl, rfl, rfl, rfl, rfl, rfl, fun h => Bool.noConfusion h, Try.underlying69, rfl, ⟨_, _, _, rfl⟩⟩
theorem trow75 : RowOK T Try.prog 75 ⟨1, 8, .func, [.nilFunc]⟩ := ⟨Try.t75, _, _, Try.type75, rfl, rfl, rfl, rfl, rfl, rfl, fun h => Bool.noConfusion h, Try.underlying75, rfl, ⟨_, _, _, rfl⟩⟩
theorem trow76 : RowOK T Try.prog 76 ⟨1, 4, .int .u32, [.int .u32 0]⟩ := ⟨Try.t76, _, _, Try.type76, rfl, rfl, rfl, rfl, rfl, rfl, fun h => Bool.noConfusion h, Try.underlying76, rfl, rfl⟩
theorem trow79 : RowOK T Try.prog 79 ⟨1, 8, .func, [.nilFunc]⟩ := ⟨Try.t79, _, _, Try.type79, rfl, rfl, rfl, rfl, rfl, rfl, fun h => Bool.noConfusion h, Try.underlying79, rfl, ⟨_, _, _, rfl⟩⟩
theorem trow80 : RowOK T Try.prog 80 ⟨1, 8, .ptr 5, [.pointer none]⟩ := ⟨Try.t80, _, _, Try.type80, rfl, rfl, rfl, rfl, rfl, rfl, fun h => Bool.noConfusion h, Try.underlying80, rfl, rfl⟩

theorem tok : TOK T Try.prog := TOK.of (by
  show RowsOK T Try.prog 0 _
  exact 
    ⟨fun h => absurd rfl h, ⟨fun _ => trow1, ⟨fun _ => trow2, ⟨fun _ => trow3, ⟨fun _ => trow4, ⟨fun _ => trow5, ⟨fun h => absurd rfl h, ⟨fun h => absurd rfl h, ⟨fun h => absurd rfl h, ⟨fun _ => trow9, ⟨fun h => absurd rfl h, ⟨fun h => absurd rfl h, ⟨fun _ => trow12, ⟨fun h => absurd rfl h, ⟨fun h => absurd rfl h, ⟨fun h => absurd rfl h, ⟨fun h => absurd rfl h, ⟨fun h => absurd rfl h, ⟨fun h => absurd rfl h, ⟨fun h => absurd rfl h, ⟨fun h => absurd rfl h, ⟨fun _ => trow21, ⟨fun _ => trow22, ⟨fun _ => trow23, ⟨fun _ => trow24, ⟨fun _ => trow25, ⟨fun _ => trow26, ⟨fun _ => trow27, ⟨fun _ => trow28, ⟨fun _ => trow29, ⟨fun _ => trow30, ⟨fun _ => trow31, ⟨fun _ => trow32, ⟨fun _ => trow33, ⟨fun _ => trow34, ⟨fun h => absurd rfl h, ⟨fun _ => trow36, ⟨fun h => absurd rfl h, ⟨fun _ => trow38, ⟨fun _ => trow39, ⟨fun _ => trow40, ⟨fun _ => trow41, ⟨fun _ => trow42, ⟨fun _ => trow43, ⟨fun _ => trow44, ⟨fun _ => trow45, ⟨fun _ => trow46, ⟨fun _ => trow47, ⟨fun _ => trow48, ⟨fun _ => trow49, ⟨fun _ => trow50, ⟨fun _ => trow51, ⟨fun _ => trow52, ⟨fun _ => trow53, ⟨fun _ => trow54, ⟨fun _ => trow55, ⟨fun _ => trow56, ⟨fun _ => trow57, ⟨fun _ => trow58, ⟨fun _ => trow59, ⟨fun _ => trow60, ⟨fun _ => trow61, ⟨fun _ => trow62, ⟨fun _ => trow63, ⟨fun _ => trow64, ⟨fun _ => trow65, ⟨fun _ => trow66, ⟨fun _ => trow67, ⟨fun _ => trow68, ⟨fun _ => trow69, ⟨fun h => absurd rfl h, ⟨fun h => absurd rfl h, ⟨fun h => absurd rfl h, ⟨fun h => absurd rfl h, ⟨fun h => absurd rfl h, ⟨fun _ => trow75, ⟨fun _ => trow76, ⟨fun h => absurd rfl h, ⟨fun h => absurd rfl h, ⟨fun _ => trow79, ⟨fun _ => trow80, ⟨fun h => absurd rfl h, ⟨fun h => absurd rfl h, ⟨fun h => absurd rfl h, ⟨fun h => absurd rfl h, ⟨fun h => absurd rfl h, trivial⟩⟩⟩⟩⟩⟩⟩⟩⟩⟩⟩⟩⟩⟩⟩⟩⟩⟩⟩⟩⟩⟩⟩⟩⟩⟩⟩⟩⟩⟩⟩⟩⟩⟩⟩⟩⟩⟩⟩⟩⟩⟩⟩⟩⟩⟩⟩⟩⟩⟩⟩⟩⟩⟩⟩⟩⟩⟩⟩⟩⟩⟩⟩⟩⟩⟩⟩⟩⟩⟩⟩⟩⟩⟩⟩⟩⟩⟩⟩⟩⟩⟩⟩⟩⟩⟩) (by decide)
theorem Tat1 : T.at 1 = ⟨1, 8, .func, [.nilFunc]⟩ := rfl
theorem Tat2 : T.at 2 = ⟨1, 8, .int .i64, [.int .i64 0]⟩ := rfl
theorem Tat3 : T.at 3 = ⟨1, 8, .int .i64, [.int .i64 0]⟩ := rfl
theorem Tat4 : T.at 4 = ⟨1, 1, .bool, [.bool false]⟩ := rfl
theorem Tat5 : T.at 5 = ⟨1, 1, .int .u8, [.int .u8 0]⟩ := rfl
theorem Tat9 : T.at 9 = ⟨1, 16, .str, [.string ByteArray.empty]⟩ := rfl
theorem Tat12 : T.at 12 = ⟨1, 8, .int .u64, [.int .u64 0]⟩ := rfl
theorem Tat21 : T.at 21 = ⟨1, 4, .int .i32, [.int .i32 0]⟩ := rfl
theorem Tat22 : T.at 22 = ⟨1, 24, .slice 34, [.slice none 0 0]⟩ := rfl
theorem Tat23 : T.at 23 = ⟨1, 24, .slice 29, [.slice none 0 0]⟩ := rfl
theorem Tat24 : T.at 24 = ⟨1, 24, .slice 3, [.slice none 0 0]⟩ := rfl
theorem Tat25 : T.at 25 = ⟨4, 40, .struct [(0, 9), (1, 3), (2, 3), (3, 4)], [.string ByteArray.empty, .int .i64 0, .int .i64 0, .bool false]⟩ := rfl
theorem Tat26 : T.at 26 = ⟨4, 40, .struct [(0, 9), (1, 3), (2, 3), (3, 4)], [.string ByteArray.empty, .int .i64 0, .int .i64 0, .bool false]⟩ := rfl
theorem Tat27 : T.at 27 = ⟨1, 8, .int .i64, [.int .i64 0]⟩ := rfl
theorem Tat28 : T.at 28 = ⟨15, 136, .struct [(0, 5), (1, 3), (2, 3), (3, 3), (4, 3), (5, 4), (6, 4), (7, 3), (8, 3), (9, 24), (10, 26), (14, 27)], [.int .u8 0, .int .i64 0, .int .i64 0, .int .i64 0, .int .i64 0, .bool false, .bool false, .int .i64 0, .int .i64 0, .slice none 0 0, .string ByteArray.empty, .int .i64 0, .int .i64 0, .bool false, .int .i64 0]⟩ := rfl
theorem Tat29 : T.at 29 = ⟨15, 136, .struct [(0, 5), (1, 3), (2, 3), (3, 3), (4, 3), (5, 4), (6, 4), (7, 3), (8, 3), (9, 24), (10, 26), (14, 27)], [.int .u8 0, .int .i64 0, .int .i64 0, .int .i64 0, .int .i64 0, .bool false, .bool false, .int .i64 0, .int .i64 0, .slice none 0 0, .string ByteArray.empty, .int .i64 0, .int .i64 0, .bool false, .int .i64 0]⟩ := rfl
theorem Tat30 : T.at 30 = ⟨1, 8, .func, [.nilFunc]⟩ := rfl
theorem Tat31 : T.at 31 = ⟨1, 8, .func, [.nilFunc]⟩ := rfl
theorem Tat32 : T.at 32 = ⟨1, 8, .func, [.nilFunc]⟩ := rfl
theorem Tat33 : T.at 33 = ⟨17, 152, .struct [(0, 3), (1, 3), (2, 29)], [.int .i64 0, .int .i64 0, .int .u8 0, .int .i64 0, .int .i64 0, .int .i64 0, .int .i64 0, .bool false, .bool false, .int .i64 0, .int .i64 0, .slice none 0 0, .string ByteArray.empty, .int .i64 0, .int .i64 0, .bool false, .int .i64 0]⟩ := rfl
theorem Tat34 : T.at 34 = ⟨17, 152, .struct [(0, 3), (1, 3), (2, 29)], [.int .i64 0, .int .i64 0, .int .u8 0, .int .i64 0, .int .i64 0, .int .i64 0, .int .i64 0, .bool false, .bool false, .int .i64 0, .int .i64 0, .slice none 0 0, .string ByteArray.empty, .int .i64 0, .int .i64 0, .bool false, .int .i64 0]⟩ := rfl
theorem Tat36 : T.at 36 = ⟨1, 8, .func, [.nilFunc]⟩ := rfl
theorem Tat38 : T.at 38 = ⟨1, 8, .func, [.nilFunc]⟩ := rfl
theorem Tat39 : T.at 39 = ⟨1, 8, .func, [.nilFunc]⟩ := rfl
theorem Tat40 : T.at 40 = ⟨1, 8, .func, [.nilFunc]⟩ := rfl
theorem Tat41 : T.at 41 = ⟨1, 8, .func, [.nilFunc]⟩ := rfl
theorem Tat42 : T.at 42 = ⟨1, 8, .func, [.nilFunc]⟩ := rfl
theorem Tat43 : T.at 43 = ⟨1, 8, .func, [.nilFunc]⟩ := rfl
theorem Tat44 : T.at 44 = ⟨1, 8, .func, [.nilFunc]⟩ := rfl
theorem Tat45 : T.at 45 = ⟨1, 8, .func, [.nilFunc]⟩ := rfl
theorem Tat46 : T.at 46 = ⟨1, 8, .func, [.nilFunc]⟩ := rfl
theorem Tat47 : T.at 47 = ⟨1, 8, .func, [.nilFunc]⟩ := rfl
theorem Tat48 : T.at 48 = ⟨1, 8, .func, [.nilFunc]⟩ := rfl
theorem Tat49 : T.at 49 = ⟨1, 8, .func, [.nilFunc]⟩ := rfl
theorem Tat50 : T.at 50 = ⟨1, 8, .func, [.nilFunc]⟩ := rfl
theorem Tat51 : T.at 51 = ⟨1, 8, .func, [.nilFunc]⟩ := rfl
theorem Tat52 : T.at 52 = ⟨1, 8, .func, [.nilFunc]⟩ := rfl
theorem Tat53 : T.at 53 = ⟨1, 8, .func, [.nilFunc]⟩ := rfl
theorem Tat54 : T.at 54 = ⟨1, 8, .func, [.nilFunc]⟩ := rfl
theorem Tat55 : T.at 55 = ⟨1, 8, .func, [.nilFunc]⟩ := rfl
theorem Tat56 : T.at 56 = ⟨1, 8, .func, [.nilFunc]⟩ := rfl
theorem Tat57 : T.at 57 = ⟨1, 8, .func, [.nilFunc]⟩ := rfl
theorem Tat58 : T.at 58 = ⟨1, 8, .func, [.nilFunc]⟩ := rfl
theorem Tat59 : T.at 59 = ⟨1, 8, .func, [.nilFunc]⟩ := rfl
theorem Tat60 : T.at 60 = ⟨1, 8, .func, [.nilFunc]⟩ := rfl
theorem Tat61 : T.at 61 = ⟨1, 8, .func, [.nilFunc]⟩ := rfl
theorem Tat62 : T.at 62 = ⟨1, 8, .func, [.nilFunc]⟩ := rfl
theorem Tat63 : T.at 63 = ⟨1, 8, .func, [.nilFunc]⟩ := rfl
theorem Tat64 : T.at 64 = ⟨1, 8, .func, [.nilFunc]⟩ := rfl
theorem Tat65 : T.at 65 = ⟨1, 8, .func, [.nilFunc]⟩ := rfl
theorem Tat66 : T.at 66 = ⟨1, 8, .func, [.nilFunc]⟩ := rfl
theorem Tat67 : T.at 67 = ⟨1, 8, .func, [.nilFunc]⟩ := rfl
theorem Tat68 : T.at 68 = ⟨1, 8, .func, [.nilFunc]⟩ := rfl
theorem Tat69 : T.at 69 = ⟨1, 8, .func, [.nilFunc]⟩ := rfl
theorem Tat75 : T.at 75 = ⟨1, 8, .func, [.nilFunc]⟩ := rfl
theorem Tat76 : T.at 76 = ⟨1, 4, .int .u32, [.int .u32 0]⟩ := rfl
theorem Tat79 : T.at 79 = ⟨1, 8, .func, [.nilFunc]⟩ := rfl
theorem Tat80 : T.at 80 = ⟨1, 8, .ptr 5, [.pointer none]⟩ := rfl
theorem Tglob : T.glob = [] := rfl

end Go.Proofs.Ytcbhmedknbiffaa
