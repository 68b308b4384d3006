/-
  The table of the types of this seat's program.
-/
import Derived.Test.YtcbhmedknbiffaaDoorVsQ
import Derived.Test.YtcbhmedknbiffaaDoorProg
namespace Go.Proofs.YtcbhmedknbiffaaDoor
open Go Go.RowKit

def T : Tab := ⟨[
  ⟨0, 0, .other, []⟩,
  ⟨1, 8, .func, [.nilFunc]⟩,
  ⟨1, 8, .int .i64, [.int .i64 0]⟩,
  ⟨1, 8, .int .i64, [.int .i64 0]⟩,
  ⟨1, 1, .bool, [.bool false]⟩,
  ⟨1, 1, .int .u8, [.int .u8 0]⟩,
  ⟨0, 0, .other, []⟩,
  ⟨0, 0, .other, []⟩,
  ⟨0, 0, .other, []⟩,
  ⟨1, 16, .str, [.string ByteArray.empty]⟩,
  ⟨0, 0, .other, []⟩,
  ⟨0, 0, .other, []⟩,
  ⟨1, 8, .int .u64, [.int .u64 0]⟩,
  ⟨0, 0, .other, []⟩,
  ⟨0, 0, .other, []⟩,
  ⟨0, 0, .other, []⟩,
  ⟨0, 0, .other, []⟩,
  ⟨0, 0, .other, []⟩,
  ⟨0, 0, .other, []⟩,
  ⟨0, 0, .other, []⟩,
  ⟨0, 0, .other, []⟩,
  ⟨1, 4, .int .i32, [.int .i32 0]⟩,
  ⟨1, 24, .slice 36, [.slice none 0 0]⟩,
  ⟨1, 24, .slice 43, [.slice none 0 0]⟩,
  ⟨3, 40, .struct [(0, 3), (1, 3), (2, 23)], [.int .i64 0, .int .i64 0, .slice none 0 0]⟩,
  ⟨3, 40, .struct [(0, 3), (1, 3), (2, 23)], [.int .i64 0, .int .i64 0, .slice none 0 0]⟩,
  ⟨1, 8, .int .i64, [.int .i64 0]⟩,
  ⟨0, 0, .other, []⟩,
  ⟨1, 8, .func, [.nilFunc]⟩,
  ⟨1, 8, .func, [.nilFunc]⟩,
  ⟨1, 24, .slice 3, [.slice none 0 0]⟩,
  ⟨4, 40, .struct [(0, 9), (1, 3), (2, 3), (3, 4)], [.string ByteArray.empty, .int .i64 0, .int .i64 0, .bool false]⟩,
  ⟨4, 40, .struct [(0, 9), (1, 3), (2, 3), (3, 4)], [.string ByteArray.empty, .int .i64 0, .int .i64 0, .bool false]⟩,
  ⟨15, 136, .struct [(0, 5), (1, 3), (2, 3), (3, 3), (4, 3), (5, 4), (6, 4), (7, 3), (8, 3), (9, 30), (10, 32), (14, 26)], [.int .u8 0, .int .i64 0, .int .i64 0, .int .i64 0, .int .i64 0, .bool false, .bool false, .int .i64 0, .int .i64 0, .slice none 0 0, .string ByteArray.empty, .int .i64 0, .int .i64 0, .bool false, .int .i64 0]⟩,
  ⟨15, 136, .struct [(0, 5), (1, 3), (2, 3), (3, 3), (4, 3), (5, 4), (6, 4), (7, 3), (8, 3), (9, 30), (10, 32), (14, 26)], [.int .u8 0, .int .i64 0, .int .i64 0, .int .i64 0, .int .i64 0, .bool false, .bool false, .int .i64 0, .int .i64 0, .slice none 0 0, .string ByteArray.empty, .int .i64 0, .int .i64 0, .bool false, .int .i64 0]⟩,
  ⟨18, 160, .struct [(0, 3), (1, 3), (2, 34), (17, 5)], [.int .i64 0, .int .i64 0, .int .u8 0, .int .i64 0, .int .i64 0, .int .i64 0, .int .i64 0, .bool false, .bool false, .int .i64 0, .int .i64 0, .slice none 0 0, .string ByteArray.empty, .int .i64 0, .int .i64 0, .bool false, .int .i64 0, .int .u8 0]⟩,
  ⟨18, 160, .struct [(0, 3), (1, 3), (2, 34), (17, 5)], [.int .i64 0, .int .i64 0, .int .u8 0, .int .i64 0, .int .i64 0, .int .i64 0, .int .i64 0, .bool false, .bool false, .int .i64 0, .int .i64 0, .slice none 0 0, .string ByteArray.empty, .int .i64 0, .int .i64 0, .bool false, .int .i64 0, .int .u8 0]⟩,
  ⟨1, 8, .func, [.nilFunc]⟩,
  ⟨0, 0, .other, []⟩,
  ⟨1, 8, .func, [.nilFunc]⟩,
  ⟨1, 8, .func, [.nilFunc]⟩,
  ⟨1, 8, .func, [.nilFunc]⟩,
  ⟨20, 176, .struct [(0, 3), (1, 34), (16, 5), (17, 3), (18, 3), (19, 3)], [.int .i64 0, .int .u8 0, .int .i64 0, .int .i64 0, .int .i64 0, .int .i64 0, .bool false, .bool false, .int .i64 0, .int .i64 0, .slice none 0 0, .string ByteArray.empty, .int .i64 0, .int .i64 0, .bool false, .int .i64 0, .int .u8 0, .int .i64 0, .int .i64 0, .int .i64 0]⟩,
  ⟨20, 176, .struct [(0, 3), (1, 34), (16, 5), (17, 3), (18, 3), (19, 3)], [.int .i64 0, .int .u8 0, .int .i64 0, .int .i64 0, .int .i64 0, .int .i64 0, .bool false, .bool false, .int .i64 0, .int .i64 0, .slice none 0 0, .string ByteArray.empty, .int .i64 0, .int .i64 0, .bool false, .int .i64 0, .int .u8 0, .int .i64 0, .int .i64 0, .int .i64 0]⟩,
  ⟨0, 0, .other, []⟩,
  ⟨1, 8, .func, [.nilFunc]⟩,
  ⟨1, 8, .func, [.nilFunc]⟩,
  ⟨1, 24, .slice 34, [.slice none 0 0]⟩,
  ⟨0, 0, .other, []⟩,
  ⟨1, 8, .func, [.nilFunc]⟩,
  ⟨1, 8, .func, [.nilFunc]⟩,
  ⟨1, 8, .func, [.nilFunc]⟩,
  ⟨1, 8, .func, [.nilFunc]⟩,
  ⟨1, 8, .func, [.nilFunc]⟩,
  ⟨1, 8, .func, [.nilFunc]⟩,
  ⟨1, 8, .func, [.nilFunc]⟩,
  ⟨1, 8, .func, [.nilFunc]⟩,
  ⟨1, 8, .func, [.nilFunc]⟩,
  ⟨0, 0, .other, []⟩,
  ⟨1, 8, .func, [.nilFunc]⟩,
  ⟨1, 8, .func, [.nilFunc]⟩,
  ⟨1, 8, .func, [.nilFunc]⟩,
  ⟨1, 8, .func, [.nilFunc]⟩,
  ⟨0, 0, .other, []⟩,
  ⟨1, 8, .func, [.nilFunc]⟩,
  ⟨1, 8, .func, [.nilFunc]⟩,
  ⟨1, 8, .func, [.nilFunc]⟩,
  ⟨1, 8, .func, [.nilFunc]⟩,
  ⟨1, 8, .ptr 43, [.pointer none]⟩,
  ⟨1, 8, .func, [.nilFunc]⟩,
  ⟨1, 8, .func, [.nilFunc]⟩,
  ⟨1, 8, .func, [.nilFunc]⟩,
  ⟨1, 8, .func, [.nilFunc]⟩,
  ⟨1, 8, .func, [.nilFunc]⟩,
  ⟨1, 8, .func, [.nilFunc]⟩,
  ⟨1, 8, .func, [.nilFunc]⟩,
  ⟨1, 8, .func, [.nilFunc]⟩,
  ⟨1, 8, .func, [.nilFunc]⟩,
  ⟨1, 8, .func, [.nilFunc]⟩,
  ⟨1, 8, .func, [.nilFunc]⟩,
  ⟨1, 8, .func, [.nilFunc]⟩,
  ⟨1, 8, .func, [.nilFunc]⟩,
  ⟨1, 8, .func, [.nilFunc]⟩,
  ⟨1, 8, .func, [.nilFunc]⟩,
  ⟨1, 8, .func, [.nilFunc]⟩,
  ⟨1, 8, .func, [.nilFunc]⟩,
  ⟨1, 8, .func, [.nilFunc]⟩,
  ⟨1, 8, .func, [.nilFunc]⟩,
  ⟨1, 8, .func, [.nilFunc]⟩,
  ⟨1, 8, .func, [.nilFunc]⟩,
  ⟨3, 24, .arr 3 3, [.int .i64 0, .int .i64 0, .int .i64 0]⟩,
  ⟨1, 8, .func, [.nilFunc]⟩,
  ⟨1, 8, .func, [.nilFunc]⟩,
  ⟨0, 0, .other, []⟩,
  ⟨0, 0, .other, []⟩,
  ⟨0, 0, .other, []⟩,
  ⟨0, 0, .other, []⟩,
  ⟨0, 0, .other, []⟩,
  ⟨1, 8, .func, [.nilFunc]⟩,
  ⟨1, 4, .int .u32, [.int .u32 0]⟩,
  ⟨0, 0, .other, []⟩,
  ⟨0, 0, .other, []⟩,
  ⟨1, 8, .func, [.nilFunc]⟩,
  ⟨1, 8, .ptr 5, [.pointer none]⟩,
  ⟨0, 0, .other, []⟩,
  ⟨0, 0, .other, []⟩,
  ⟨0, 0, .other, []⟩,
  ⟨0, 0, .other, []⟩,
  ⟨0, 0, .other, []⟩
  ], [(0, [.int .i64 1, .int .i64 2, .int .i64 4])]⟩

theorem trow1 : RowOK T Tryd.prog 1 ⟨1, 8, .func, [.nilFunc]⟩ := ⟨Tryd.t1, _, _, Tryd.type1, rfl, rfl, rfl, rfl, rfl, rfl, fun h => Bool.noConfusion h, Tryd.underlying1, rfl, ⟨_, _, _, rfl⟩⟩
theorem trow2 : RowOK T Tryd.prog 2 ⟨1, 8, .int .i64, [.int .i64 0]⟩ := ⟨Tryd.t2, _, _, Tryd.type2, rfl, rfl, rfl, rfl, rfl, rfl, fun h => Bool.noConfusion h, Tryd.underlying2, rfl, rfl⟩
theorem trow3 : RowOK T Tryd.prog 3 ⟨1, 8, .int .i64, [.int .i64 0]⟩ := ⟨Tryd.t3, _, _, Tryd.type3, rfl, rfl, rfl, rfl, rfl, rfl, fun h => Bool.noConfusion h, Tryd.underlying3, rfl, rfl⟩
theorem trow4 : RowOK T Tryd.prog 4 ⟨1, 1, .bool, [.bool false]⟩ := ⟨Tryd.t4, _, _, Tryd.type4, rfl, rfl, rfl, rfl, rfl, rfl, fun h => Bool.noConfusion h, Tryd.underlying4, rfl, rfl⟩
theorem trow5 : RowOK T Tryd.prog 5 ⟨1, 1, .int .u8, [.int .u8 0]⟩ := ⟨Tryd.t5, _, _, Tryd.type5, rfl, rfl, rfl, rfl, rfl, rfl, fun h => Bool.noConfusion h, Tryd.underlying5, rfl, rfl⟩
theorem trow9 : RowOK T Tryd.prog 9 ⟨1, 16, .str, [.string ByteArray.empty]⟩ := ⟨Tryd.t9, _, _, Tryd.type9, rfl, rfl, rfl, rfl, rfl, rfl, fun h => Bool.noConfusion h, Tryd.underlying9, rfl, rfl⟩
theorem trow12 : RowOK T Tryd.prog 12 ⟨1, 8, .int .u64, [.int .u64 0]⟩ := ⟨Tryd.t12, _, _, Tryd.type12, rfl, rfl, rfl, rfl, rfl, rfl, fun h => Bool.noConfusion h, Tryd.underlying12, rfl, rfl⟩
theorem trow21 : RowOK T Tryd.prog 21 ⟨1, 4, .int .i32, [.int .i32 0]⟩ := ⟨Tryd.t21, _, _, Tryd.type21, rfl, rfl, rfl, rfl, rfl, rfl, fun h => Bool.noConfusion h, Tryd.underlying21, rfl, rfl⟩
theorem trow22 : RowOK T Tryd.prog 22 ⟨1, 24, .slice 36, [.slice none 0 0]⟩ := ⟨Tryd.t22, _, _, Tryd.type22, rfl, rfl, rfl, rfl, rfl, rfl, fun h => Bool.noConfusion h, Tryd.underlying22, rfl, ⟨rfl, by decide⟩⟩
theorem trow23 : RowOK T Tryd.prog 23 ⟨1, 24, .slice 43, [.slice none 0 0]⟩ := ⟨Tryd.t23, _, _, Tryd.type23, rfl, rfl, rfl, rfl, rfl, rfl, fun h => Bool.noConfusion h, Tryd.underlying23, rfl, ⟨rfl, by decide⟩⟩
theorem trow24 : RowOK T Tryd.prog 24 ⟨3, 40, .struct [(0, 3), (1, 3), (2, 23)], [.int .i64 0, .int .i64 0, .slice none 0 0]⟩ := ⟨Tryd.t24, _, _, Tryd.type24, rfl, rfl, rfl, rfl, rfl, rfl, fun _ => ⟨_, rfl⟩, Tryd.underlying24, rfl, ⟨⟨_, rfl, rfl, by kernel_rfl⟩, by decide, by kernel_rfl, by kernel_rfl⟩⟩
theorem trow25 : RowOK T Tryd.prog 25 ⟨3, 40, .struct [(0, 3), (1, 3), (2, 23)], [.int .i64 0, .int .i64 0, .slice none 0 0]⟩ := ⟨Tryd.t25, _, _, Tryd.type25, rfl, rfl, rfl, rfl, rfl, rfl, fun _ => ⟨_, rfl⟩, Tryd.underlying25, rfl, ⟨⟨_, rfl, rfl, by kernel_rfl⟩, by decide, by kernel_rfl, by kernel_rfl⟩⟩
theorem trow26 : RowOK T Tryd.prog 26 ⟨1, 8, .int .i64, [.int .i64 0]⟩ := ⟨Tryd.t26, _, _, Tryd.type26, rfl, rfl, rfl, rfl, rfl, rfl, fun h => Bool.noConfusion h, Tryd.underlying26, rfl, rfl⟩
theorem trow28 : RowOK T Tryd.prog 28 ⟨1, 8, .func, [.nilFunc]⟩ := ⟨Tryd.t28, _, _, Tryd.type28, rfl, rfl, rfl, rfl, rfl, rfl, fun h => Bool.noConfusion h, Tryd.underlying28, rfl, ⟨_, _, _, rfl⟩⟩
theorem trow29 : RowOK T Tryd.prog 29 ⟨1, 8, .func, [.nilFunc]⟩ := ⟨Tryd.t29, _, _, Tryd.type29, rfl, rfl, rfl, rfl, rfl, rfl, fun h => Bool.noConfusion h, Tryd.underlying29, rfl, ⟨_, _, _, rfl⟩⟩
theorem trow30 : RowOK T Tryd.prog 30 ⟨1, 24, .slice 3, [.slice none 0 0]⟩ := ⟨Tryd.t30, _, _, Tryd.type30, rfl, rfl, rfl, rfl, rfl, rfl, fun h => Bool.noConfusion h, Tryd.underlying30, rfl, ⟨rfl, by decide⟩⟩
theorem trow31 : RowOK T Tryd.prog 31 ⟨4, 40, .struct [(0, 9), (1, 3), (2, 3), (3, 4)], [.string ByteArray.empty, .int .i64 0, .int .i64 0, .bool false]⟩ := ⟨Tryd.t31, _, _, Tryd.type31, rfl, rfl, rfl, rfl, rfl, rfl, fun _ => ⟨_, rfl⟩, Tryd.underlying31, rfl, ⟨⟨_, rfl, rfl, by kernel_rfl⟩, by decide, by kernel_rfl, by kernel_rfl⟩⟩
theorem trow32 : RowOK T Tryd.prog 32 ⟨4, 40, .struct [(0, 9), (1, 3), (2, 3), (3, 4)], [.string ByteArray.empty, .int .i64 0, .int .i64 0, .bool false]⟩ := ⟨Tryd.t32, _, _, Tryd.type32, rfl, rfl, rfl, rfl, rfl, rfl, fun _ => ⟨_, rfl⟩, Tryd.underlying32, rfl, ⟨⟨_, rfl, rfl, by kernel_rfl⟩, by decide, by kernel_rfl, by kernel_rfl⟩⟩
theorem trow33 : RowOK T Tryd.prog 33 ⟨15, 136, .struct [(0, 5), (1, 3), (2, 3), (3, 3), (4, 3), (5, 4), (6, 4), (7, 3), (8, 3), (9, 30), (10, 32), (14, 26)], [.int .u8 0, .int .i64 0, .int .i64 0, .int .i64 0, .int .i64 0, .bool false, .bool false, .int .i64 0, .int .i64 0, .slice none 0 0, .string ByteArray.empty, .int .i64 0, .int .i64 0, .bool false, .int .i64 0]⟩ := ⟨Tryd.t33, _, _, Tryd.type33, rfl, rfl, rfl, rfl, rfl, rfl, fun _ => ⟨_, rfl⟩, Tryd.underlying33, rfl, ⟨⟨_, rfl, rfl, by kernel_rfl⟩, by decide, by kernel_rfl, by kernel_rfl⟩⟩
theorem trow34 : RowOK T Tryd.prog 34 ⟨15, 136, .struct [(0, 5), (1, 3), (2, 3), (3, 3), (4, 3), (5, 4), (6, 4), (7, 3), (8, 3), (9, 30), (10, 32), (14, 26)], [.int .u8 0, .int .i64 0, .int .i64 0, .int .i64 0, .int .i64 0, .bool false, .bool false, .int .i64 0, .int .i64 0, .slice none 0 0, .string ByteArray.empty, .int .i64 0, .int .i64 0, .bool false, .int .i64 0]⟩ := ⟨Tryd.t34, _, _, Tryd.type34, rfl, rfl, rfl, rfl, rfl, rfl, fun _ => ⟨_, rfl⟩, Tryd.underlying34, rfl, ⟨⟨_, rfl, rfl, by kernel_rfl⟩, by decide, by kernel_rfl, by kernel_rfl⟩⟩
theorem trow35 : RowOK T Tryd.prog 35 ⟨18, 160, .struct [(0, 3), (1, 3), (2, 34), (17, 5)], [.int .i64 0, .int .i64 0, .int .u8 0, .int .i64 0, .int .i64 0, .int .i64 0, .int .i64 0, .bool false, .bool false, .int .i64 0, .int .i64 0, .slice none 0 0, .string ByteArray.empty, .int .i64 0, .int .i64 0, .bool false, .int .i64 0, .int .u8 0]⟩ := ⟨Tryd.t35, _, _, Tryd.type35, rfl, rfl, rfl, rfl, rfl, rfl, fun _ => ⟨_, rfl⟩, Tryd.underlying35, rfl, ⟨⟨_, rfl, rfl, by kernel_rfl⟩, by decide, by kernel_rfl, by kernel_rfl⟩⟩
theorem trow36 : RowOK T Tryd.prog 36 ⟨18, 160, .struct [(0, 3), (1, 3), (2, 34), (17, 5)], [.int .i64 0, .int .i64 0, .int .u8 0, .int .i64 0, .int .i64 0, .int .i64 0, .int .i64 0, .bool false, .bool false, .int .i64 0, .int .i64 0, .slice none 0 0, .string ByteArray.empty, .int .i64 0, .int .i64 0, .bool false, .int .i64 0, .int .u8 0]⟩ := ⟨Tryd.t36, _, _, Tryd.type36, rfl, rfl, rfl, rfl, rfl, rfl, fun _ => ⟨_, rfl⟩, Tryd.underlying36, rfl, ⟨⟨_, rfl, rfl, by kernel_rfl⟩, by decide, by kernel_rfl, by kernel_rfl⟩⟩
theorem trow37 : RowOK T Tryd.prog 37 ⟨1, 8, .func, [.nilFunc]⟩ := ⟨Tryd.t37, _, _, Tryd.type37, rfl, rfl, rfl, rfl, rfl, rfl, fun h => Bool.noConfusion h, Tryd.underlying37, rfl, ⟨_, _, _, rfl⟩⟩
theorem trow39 : RowOK T Tryd.prog 39 ⟨1, 8, .func, [.nilFunc]⟩ := ⟨Tryd.t39, _, _, Tryd.type39, rfl, rfl, rfl, rfl, rfl, rfl, fun h => Bool.noConfusion h, Tryd.underlying39, rfl, ⟨_, _, _, rfl⟩⟩
theorem trow40 : RowOK T Tryd.prog 40 ⟨1, 8, .func, [.nilFunc]⟩ := ⟨Tryd.t40, _, _, Tryd.type40, rfl, rfl, rfl, rfl, rfl, rfl, fun h => Bool.noConfusion h, Tryd.underlying40, rfl, ⟨_, _, _, rfl⟩⟩
theorem trow41 : RowOK T Tryd.prog 41 ⟨1, 8, .func, [.nilFunc]⟩ := ⟨Tryd.t41, _, _, Tryd.type41, rfl, rfl, rfl, rfl, rfl, rfl, fun h => Bool.noConfusion h, Tryd.underlying41, rfl, ⟨_, _, _, rfl⟩⟩
theorem trow42 : RowOK T Tryd.prog 42 ⟨20, 176, .struct [(0, 3), (1, 34), (16, 5), (17, 3), (18, 3), (19, 3)], [.int .i64 0, .int .u8 0, .int .i64 0, .int .i64 0, .int .i64 0, .int .i64 0, .bool false, .bool false, .int .i64 0, .int .i64 0, .slice none 0 0, .string ByteArray.empty, .int .i64 0, .int .i64 0, .bool false, .int .i64 0, .int .u8 0, .int .i64 0, .int .i64 0, .int .i64 0]⟩ := ⟨Tryd.t42, _, _, Tryd.type42, rfl, rfl, rfl, rfl, rfl, rfl, fun _ => ⟨_, rfl⟩, Tryd.underlying42, rfl, ⟨⟨_, rfl, rfl, by kernel_rfl⟩, by decide, by kernel_rfl, by kernel_rfl⟩⟩
theorem trow43 : RowOK T Tryd.prog 43 ⟨20, 176, .struct [(0, 3), (1, 34), (16, 5), (17, 3), (18, 3), (19, 3)], [.int .i64 0, .int .u8 0, .int .i64 0, .int .i64 0, .int .i64 0, .int .i64 0, .bool false, .bool false, .int .i64 0, .int .i64 0, .slice none 0 0, .string ByteArray.empty, .int .i64 0, .int .i64 0, .bool false, .int .i64 0, .int .u8 0, .int .i64 0, .int .i64 0, .int .i64 0]⟩ := ⟨Tryd.t43, _, _, Tryd.type43, rfl, rfl, rfl, rfl, rfl, rfl, fun _ => ⟨_, rfl⟩, Tryd.underlying43, rfl, ⟨⟨_, rfl, rfl, by kernel_rfl⟩, by decide, by kernel_rfl, by kernel_rfl⟩⟩
theorem trow45 : RowOK T Tryd.prog 45 ⟨1, 8, .func, [.nilFunc]⟩ := ⟨Tryd.t45, _, _, Tryd.type45, rfl, rfl, rfl, rfl, rfl, rfl, fun h => Bool.noConfusion h, Tryd.underlying45, rfl, ⟨_, _, _, rfl⟩⟩
theorem trow46 : RowOK T Tryd.prog 46 ⟨1, 8, .func, [.nilFunc]⟩ := ⟨Tryd.t46, _, _, Tryd.type46, rfl, rfl, rfl, rfl, rfl, rfl, fun h => Bool.noConfusion h, Tryd.underlying46, rfl, ⟨_, _, _, rfl⟩⟩
theorem trow47 : RowOK T Tryd.prog 47 ⟨1, 24, .slice 34, [.slice none 0 0]⟩ := ⟨Tryd.t47, _, _, Tryd.type47, rfl, rfl, rfl, rfl, rfl, rfl, fun h => Bool.noConfusion h, Tryd.underlying47, rfl, ⟨rfl, by decide⟩⟩
theorem trow49 : RowOK T Tryd.prog 49 ⟨1, 8, .func, [.nilFunc]⟩ := ⟨Tryd.t49, _, _, Tryd.type49, rfl, rfl, rfl, rfl, rfl, rfl, fun h => Bool.noConfusion h, Tryd.underlying49, rfl, ⟨_, _, _, rfl⟩⟩
theorem trow50 : RowOK T Tryd.prog 50 ⟨1, 8, .func, [.nilFunc]⟩ := ⟨Tryd.t50, _, _, Tryd.type50, rfl, rfl, rfl, rfl, rfl, rfl, fun h => Bool.noConfusion h, Tryd.underlying50, rfl, ⟨_, _, _, rfl⟩⟩
theorem trow51 : RowOK T Tryd.prog 51 ⟨1, 8, .func, [.nilFunc]⟩ := ⟨Tryd.t51, _, _, Tryd.type51, rfl, rfl, rfl, rfl, rfl, rfl, fun h => Bool.noConfusion h, Tryd.underlying51, rfl, ⟨_, _, _, rfl⟩⟩
theorem trow52 : RowOK T Tryd.prog 52 ⟨1, 8, .func, [.nilFunc]⟩ := ⟨Tryd.t52, _, _, Tryd.type52, rfl, rfl, rfl, rfl, rfl, rfl, fun h => Bool.noConfusion h, Tryd.underlying52, rfl, ⟨_, _, _, rfl⟩⟩
theorem trow53 : RowOK T Tryd.prog 53 ⟨1, 8, .func, [.nilFunc]⟩ := ⟨Tryd.t53, _, _, Tryd.type53, rfl, rfl, rfl, rfl, rfl, rfl, fun h => Bool.noConfusion h, Tryd.underlying53, rfl, ⟨_, _, _, rfl⟩⟩
theorem trow54 : RowOK T Tryd.prog 54 ⟨1, 8, .func, [.nilFunc]⟩ := ⟨Tryd.t54, _, _, Tryd.type54, rfl, rfl, rfl, rfl, rfl, rfl, fun h => Bool.noConfusion h, Tryd.underlying54, rfl, ⟨_, _, _, rfl⟩⟩
theorem trow55 : RowOK T Tryd.prog 55 ⟨1, 8, .func, [.nilFunc]⟩ := ⟨Tryd.t55, _, _, Tryd.type55, rfl, rfl, rfl, rfl, rfl, rfl, fun h => Bool.noConfusion h, Tryd.underlying55, rfl, ⟨_, _, _, rfl⟩⟩
theorem trow56 : RowOK T Tryd.prog 56 ⟨1, 8, .func, [.nilFunc]⟩ := ⟨Tryd.t56, _, _, Tryd.type56, rfl, rfl, rfl, rfl, rfl, rfl, fun h => Bool.noConfusion h, Tryd.underlying56, rfl, ⟨_, _, _, rfl⟩⟩
theorem trow57 : RowOK T Tryd.prog 57 ⟨1, 8, .func, [.nilFunc]⟩ := ⟨Tryd.t57, _, _, Tryd.type57, rfl, rfl, rfl, rfl, rfl, rfl, fun h => Bool.noConfusion h, Tryd.underlying57, rfl, ⟨_, _, _, rfl⟩⟩
theorem trow59 : RowOK T Tryd.prog 59 ⟨1, 8, .func, [.nilFunc]⟩ := ⟨Tryd.t59, _, _, Tryd.type59, rfl, rfl, rfl, rfl, rfl, rfl, fun h => Bool.noConfusion h, Tryd.underlying59, rfl, ⟨_, _, _, rfl⟩⟩
theorem trow60 : RowOK T Tryd.prog 60 ⟨1, 8, .func, [.nilFunc]⟩ := ⟨Tryd.t60, _, _, Tryd.type60, rfl, rfl, rfl, rfl, rfl, rfl, fun h => Bool.noConfusion h, Tryd.underlying60, rfl, ⟨_, _, _, rfl⟩⟩
theorem trow61 : RowOK T Tryd.prog 61 ⟨1, 8, .func, [.nilFunc]⟩ := ⟨Tryd.t61, _, _, Tryd.type61, rfl, rfl, rfl, rfl, rfl, rfl, fun h => Bool.noConfusion h, Tryd.underlying61, rfl, ⟨_, _, _, rfl⟩⟩
theorem trow62 : RowOK T Tryd.prog 62 ⟨1, 8, .func, [.nilFunc]⟩ := ⟨Tryd.t62, _, _, Tryd.type62, rfl, rfl, rfl, rfl, rfl, rfl, fun h => Bool.noConfusion h, Tryd.underlying62, rfl, ⟨_, _, _, rfl⟩⟩
theorem trow64 : RowOK T Tryd.prog 64 ⟨1, 8, .func, [.nilFunc]⟩ := ⟨Tryd.t64, _, _, Tryd.type64, rfl, rfl, rfl, rfl, rfl, rfl, fun h => Bool.noConfusion h, Tryd.underlying64, rfl, ⟨_, _, _, rfl⟩⟩
theorem trow65 : RowOK T Tryd.prog 65 ⟨1, 8, .func, [.nilFunc]⟩ := ⟨Tryd.t65, _, _, Tryd.type65, rfl, rfl, rfl, rfl, rfl, rfl, fun h => Bool.noConfusion h, Tryd.underlying65, rfl, ⟨_, _, _, rfl⟩⟩
theorem trow66 : RowOK T Tryd.prog 66 ⟨1, 8, .func, [.nilFunc]⟩ := ⟨Tryd.t66, _, _, Tryd.type66, rfl, rfl, rfl, rfl, rfl, rfl, fun h => Bool.noConfusion h, Tryd.underlying66, rfl, ⟨_, _, _, rfl⟩⟩
theorem trow67 : RowOK T Tryd.prog 67 ⟨1, 8, .func, [.nilFunc]⟩ := ⟨Tryd.t67, _, _, Tryd.type67, rfl, rfl, rfl, rfl, rfl, rfl, fun h => Bool.noConfusion h, Tryd.underlying67, rfl, ⟨_, _, _, rfl⟩⟩
theorem trow68 : RowOK T Tryd.prog 68 ⟨1, 8, .ptr 43, [.pointer none]⟩ := ⟨Tryd.t68, _, _, Tryd.type68, rfl, rfl, rfl, rfl, rfl, rfl, fun h => Bool.noConfusion h, Tryd.underlying68, rfl, rfl⟩
theorem trow69 : RowOK T Tryd.prog 69 ⟨1, 8, .func, [.nilFunc]⟩ := ⟨Tryd.t69, _, _, Tryd.type69, rfl, rfl, rfl, rfl, rfl, rfl, fun h => Bool.noConfusion h, Tryd.underlying69, rfl, ⟨_, _, _, rfl⟩⟩
theorem trow70 : RowOK T Tryd.prog 70 ⟨1, 8, .func, [.nilFunc]⟩ := ⟨Tryd.t70, _, _, Tryd.type70, rfl, rfl, rfl, rfl, rfl, rfl, fun h => Bool.noConfusion h, Tryd.underlying70, rfl, ⟨_, _, _, rfl⟩⟩
theorem trow71 : RowOK T Tryd.prog 71 ⟨1, 8, .func, [.nilFunc]⟩ := ⟨Tryd.t71, _, _, Tryd.type71, rfl, rfl, rfl, rfl, rfl, rfl, fun h => Bool.noConfusion h, Tryd.underlying71, rfl, ⟨_, _, _, rfl⟩⟩
theorem trow72 : RowOK T Tryd.prog 72 ⟨1, 8, .func, [.nilFunc]⟩ := ⟨Tryd.t72, _, _, Tryd.type72, rfl, rfl, rfl, rfl, rfl, rfl, fun h => Bool.noConfusion h, Tryd.underlying72, rfl, ⟨_, _, _, rfl⟩⟩
theorem trow73 : RowOK T Tryd.prog 73 ⟨1, 8, .func, [.nilFunc]⟩ := ⟨Tryd.t73, _, _, Tryd.type73, rfl, rfl, rfl, rfl, rfl, rfl, fun h => Bool.noConfusion h, Tryd.underlying73, rfl, ⟨_, _, _, rfl⟩⟩
theorem trow74 : RowOK T Tryd.prog 74 ⟨1, 8, .func, [.nilFunc]⟩ := ⟨Tryd.t74, _, _, Tryd.type74, rfl, rfl, rfl, rfl, rfl, rfl, fun h => Bool.noConfusion h, Tryd.underlying74, rfl, ⟨_, _, _, rfl⟩⟩
theorem trow75 : RowOK T Tryd.prog 75 ⟨1, 8, .func, [.nilFunc]⟩ := ⟨Tryd.t75, _, _, Tryd.type75, rfl, rfl, rfl, rfl, rfl, rfl, fun h => Bool.noConfusion h, Tryd.underlying75, rfl, ⟨_, _, _, rfl⟩⟩
theorem trow76 : RowOK T Tryd.prog 76 ⟨1, 8, .func, [.nilFunc]⟩ := ⟨Tryd.t76, _, _, Tryd.type76, rfl, rfl, rfl, rfl, rfl, rfl, fun h => Bool.noConfusion h, Tryd.underlying76, rfl, ⟨_, _, _, rfl⟩⟩
theorem trow77 : RowOK T Tryd.prog 77 ⟨1, 8, .func, [.nilFunc]⟩ := ⟨Tryd.t77, _, _, Tryd.type77, rfl, rfl, rfl, rfl, rfl, rfl, fun h => Bool.noConfusion h, Tryd.underlying77, rfl, ⟨_, _, _, rfl⟩⟩
theorem trow78 : RowOK T Tryd.prog 78 ⟨1, 8, .func, [.nilFunc]⟩ := ⟨Tryd.t78, _, _, Tryd.type78, rfl, rfl, rfl, rfl, rfl, rfl, fun h => Bool.noConfusion h, Tryd.underlying78, rfl, ⟨_, _, _, rfl⟩⟩
theorem trow79 : RowOK T Tryd.prog 79 ⟨1, 8, .func, [.nilFunc]⟩ := ⟨Tryd.t79, _, _, Tryd.type79, rfl, rfl, rfl, rfl, rfl, rfl, fun h => Bool.noConfusion h, Tryd.underlying79, rfl, ⟨_, _, _, rfl⟩⟩
theorem trow80 : RowOK T Tryd.prog 80 ⟨1, 8, .func, [.nilFunc]⟩ := ⟨Tryd.t80, _, _, Tryd.type80, rfl, rfl, rfl, rfl, rfl, rfl, fun h => Bool.noConfusion h, Tryd.underlying80, rfl, ⟨_, _, _, rfl⟩⟩
theorem trow81 : RowOK T Tryd.prog 81 ⟨1, 8, .func, [.nilFunc]⟩ := ⟨Tryd.t81, _, _, Tryd.type81, rfl, rfl, rfl, rfl, rfl, rfl, fun h => Bool.noConfusion h, Tryd.underlying81, rfl, ⟨_, _, _, rfl⟩⟩
theorem trow82 : RowOK T Tryd.prog 82 ⟨1, 8, .func, [.nilFunc]⟩ := ⟨Tryd.t82, _, _, Tryd.type82, rfl, rfl, rfl, rfl, rfl, rfl, fun h => Bool.noConfusion h, Tryd.underlying82, rfl, ⟨_, _, _, rfl⟩⟩
theorem trow83 : RowOK T Tryd.prog 83 ⟨1, 8, .func, [.nilFunc]⟩ := ⟨Tryd.t83, _, _, Tryd.type83, rfl, rfl, rfl, rfl, rfl, rfl, fun h => Bool.noConfusion h, Tryd.underlying83, rfl, ⟨_, _, _, rfl⟩⟩
theorem trow84 : RowOK T Tryd.prog 84 ⟨1, 8, .func, [.nilFunc]⟩ := ⟨Tryd.t84, _, _, Tryd.type84, rfl, rfl, rfl, rfl, rfl, rfl, fun h => Bool.noConfusion h, Tryd.underlying84, rfl, ⟨_, _, _, rfl⟩⟩
theorem trow85 : RowOK T Tryd.prog 85 ⟨1, 8, .func, [.nilFunc]⟩ := ⟨Tryd.t85, _, _, Tryd.type85, rfl, rfl, rfl, rfl, rfl, rfl, fun h => Bool.noConfusion h, Tryd.underlying85, rfl, ⟨_, _, _, rfl⟩⟩
theorem trow86 : RowOK T Tryd.prog 86 ⟨1, 8, .func, [.nilFunc]⟩ := ⟨Tryd.t86, _, _, Tryd.type86, rfl, rfl, rfl, rfl, rfl, rfl, fun h => Bool.noConfusion h, Tryd.underlying86, rfl, ⟨_, _, _, rfl⟩⟩
theorem trow87 : RowOK T Tryd.prog 87 ⟨1, 8, .func, [.nilFunc]⟩ := ⟨Tryd.t87, _, _, Tryd.type87, rfl, rfl, rfl, rfl, rfl, rfl, fun h => Bool.noConfusion h, Tryd.underlying87, rfl, ⟨_, _, _, rfl⟩⟩
theorem trow88 : RowOK T Tryd.prog 88 ⟨1, 8, .func, [.nilFunc]⟩ := ⟨Tryd.t88, _, _, Tryd.type88, rfl, rfl, rfl, rfl, rfl, rfl, fun h => Bool.noConfusion h, Tryd.underlying88, rfl, ⟨_, _, _, rfl⟩⟩
theorem trow89 : RowOK T Tryd.prog 89 ⟨1, 8, .func, [.nilFunc]⟩ := ⟨Tryd.t89, _, _, Tryd.type89, rfl, rfl, rfl, rfl, rfl, rfl, fun h => Bool.noConfusion h, Tryd.underlying89, rfl, ⟨_, _, _, rfl⟩⟩
theorem trow90 : RowOK T Tryd.prog 90 ⟨3, 24, .arr 3 3, [.int .i64 0, .int .i64 0, .int .i64 0]⟩ := ⟨Tryd.t90, _, _, Tryd.type90, rfl, rfl, rfl, rfl, rfl, rfl, fun _ => ⟨_, rfl⟩, Tryd.underlying90, rfl, ⟨rfl, by decide, by kernel_rfl⟩⟩
theorem trow91 : RowOK T Tryd.prog 91 ⟨1, 8, .func, [.nilFunc]⟩ := ⟨Tryd.t91, _, _, Tryd.type91, rfl, rfl, rfl, rfl, rfl, rfl, fun h => Bool.noConfusion h, Tryd.underlying91, rfl, ⟨_, _, _, rfl⟩⟩
theorem trow92 : RowOK T Tryd.prog 92 ⟨1, 8, .func, [.nilFunc]⟩ := ⟨Tryd.t92, _, _, Tryd.type92, rfl, rfl, rfl, rfl, rfl, rfl, fun h => Bool.noConfusion h, Tryd.underlying92, rfl, ⟨_, _, _, rfl⟩⟩
theorem trow98 : RowOK T Tryd.prog 98 ⟨1, 8, .func, [.nilFunc]⟩ := ⟨Tryd.t98, _, _, Tryd.type98, rfl, rfl, rfl, rfl, rfl, rfl, fun h => Bool.noConfusion h, Tryd.underlying98, rfl, ⟨_, _, _, rfl⟩⟩
theorem trow99 : RowOK T Tryd.prog 99 ⟨1, 4, .int .u32, [.int .u32 0]⟩ := ⟨Tryd.t99, _, _, Tryd.type99, rfl, rfl, rfl, rfl, rfl, rfl, fun h => Bool.noConfusion h, Tryd.underlying99, rfl, rfl⟩
theorem trow102 : RowOK T Tryd.prog 102 ⟨1, 8, .func, [.nilFunc]⟩ := ⟨Tryd.t102, _, _, Tryd.type102, rfl, rfl, rfl, rfl, rfl, rfl, fun h => Bool.noConfusion h, Tryd.underlying102, rfl, ⟨_, _, _, rfl⟩⟩
theorem trow103 : RowOK T Tryd.prog 103 ⟨1, 8, .ptr 5, [.pointer none]⟩ := ⟨Tryd.t103, _, _, Tryd.type103, rfl, rfl, rfl, rfl, rfl, rfl, fun h => Bool.noConfusion h, Tryd.underlying103, rfl, rfl⟩

theorem tok : TOK T Tryd.prog := TOK.of (by
  show RowsOK T Tryd.prog 0 _
  exact 
    ⟨fun h => absurd rfl h, ⟨fun _ => trow1, ⟨fun _ => trow2, ⟨fun _ => trow3, ⟨fun _ => trow4, ⟨fun _ => trow5, ⟨fun h => absurd rfl h, ⟨fun h => absurd rfl h, ⟨fun h => absurd rfl h, ⟨fun _ => trow9, ⟨fun h => absurd rfl h, ⟨fun h => absurd rfl h, ⟨fun _ => trow12, ⟨fun h => absurd rfl h, ⟨fun h => absurd rfl h, ⟨fun h => absurd rfl h, ⟨fun h => absurd rfl h, ⟨fun h => absurd rfl h, ⟨fun h => absurd rfl h, ⟨fun h => absurd rfl h, ⟨fun h => absurd rfl h, ⟨fun _ => trow21, ⟨fun _ => trow22, ⟨fun _ => trow23, ⟨fun _ => trow24, ⟨fun _ => trow25, ⟨fun _ => trow26, ⟨fun h => absurd rfl h, ⟨fun _ => trow28, ⟨fun _ => trow29, ⟨fun _ => trow30, ⟨fun _ => trow31, ⟨fun _ => trow32, ⟨fun _ => trow33, ⟨fun _ => trow34, ⟨fun _ => trow35, ⟨fun _ => trow36, ⟨fun _ => trow37, ⟨fun h => absurd rfl h, ⟨fun _ => trow39, ⟨fun _ => trow40, ⟨fun _ => trow41, ⟨fun _ => trow42, ⟨fun _ => trow43, ⟨fun h => absurd rfl h, ⟨fun _ => trow45, ⟨fun _ => trow46, ⟨fun _ => trow47, ⟨fun h => absurd rfl h, ⟨fun _ => trow49, ⟨fun _ => trow50, ⟨fun _ => trow51, ⟨fun _ => trow52, ⟨fun _ => trow53, ⟨fun _ => trow54, ⟨fun _ => trow55, ⟨fun _ => trow56, ⟨fun _ => trow57, ⟨fun h => absurd rfl h, ⟨fun _ => trow59, ⟨fun _ => trow60, ⟨fun _ => trow61, ⟨fun _ => trow62, ⟨fun h => absurd rfl h, ⟨fun _ => trow64, ⟨fun _ => trow65, ⟨fun _ => trow66, ⟨fun _ => trow67, ⟨fun _ => trow68, ⟨fun _ => trow69, ⟨fun _ => trow70, ⟨fun _ => trow71, ⟨fun _ => trow72, ⟨fun _ => trow73, ⟨fun _ => trow74, ⟨fun _ => trow75, ⟨fun _ => trow76, ⟨fun _ => trow77, ⟨fun _ => trow78, ⟨fun _ => trow79, ⟨fun _ => trow80, ⟨fun _ => trow81, ⟨fun _ => trow82, ⟨fun _ => trow83, ⟨fun _ => trow84, ⟨fun _ => trow85, ⟨fun _ => trow86, ⟨fun _ => trow87, ⟨fun _ => trow88, ⟨fun _ => trow89, ⟨fun _ => trow90, ⟨fun _ => trow91, ⟨fun _ => trow92, ⟨fun h => absurd rfl h, ⟨fun h => absurd rfl h, ⟨fun h => absurd rfl h, ⟨fun h => absurd rfl h, ⟨fun h => absurd rfl h, ⟨fun _ => trow98, ⟨fun _ => trow99, ⟨fun h => absurd rfl h, ⟨fun h => absurd rfl h, ⟨fun _ => trow102, ⟨fun _ => trow103, ⟨fun h => absurd rfl h, ⟨fun h => absurd rfl h, ⟨fun h => absurd rfl h, ⟨fun h => absurd rfl h, ⟨fun h => absurd rfl h, trivial⟩⟩⟩⟩⟩⟩⟩⟩⟩⟩⟩⟩⟩⟩⟩⟩⟩⟩⟩⟩⟩⟩⟩⟩⟩⟩⟩⟩⟩⟩⟩⟩⟩⟩⟩⟩⟩⟩⟩⟩⟩⟩⟩⟩⟩⟩⟩⟩⟩⟩⟩⟩⟩⟩⟩⟩⟩⟩⟩⟩⟩⟩⟩⟩⟩⟩⟩⟩⟩⟩⟩⟩⟩⟩⟩⟩⟩⟩⟩⟩⟩⟩⟩⟩⟩⟩⟩⟩⟩⟩⟩⟩⟩⟩⟩⟩⟩⟩⟩⟩⟩⟩⟩⟩⟩⟩⟩⟩⟩) (by decide)
theorem Tat1 : T.at 1 = ⟨1, 8, .func, [.nilFunc]⟩ := rfl
theorem Tat2 : T.at 2 = ⟨1, 8, .int .i64, [.int .i64 0]⟩ := rfl
theorem Tat3 : T.at 3 = ⟨1, 8, .int .i64, [.int .i64 0]⟩ := rfl
theorem Tat4 : T.at 4 = ⟨1, 1, .bool, [.bool false]⟩ := rfl
theorem Tat5 : T.at 5 = ⟨1, 1, .int .u8, [.int .u8 0]⟩ := rfl
theorem Tat9 : T.at 9 = ⟨1, 16, .str, [.string ByteArray.empty]⟩ := rfl
theorem Tat12 : T.at 12 = ⟨1, 8, .int .u64, [.int .u64 0]⟩ := rfl
theorem Tat21 : T.at 21 = ⟨1, 4, .int .i32, [.int .i32 0]⟩ := rfl
theorem Tat22 : T.at 22 = ⟨1, 24, .slice 36, [.slice none 0 0]⟩ := rfl
theorem Tat23 : T.at 23 = ⟨1, 24, .slice 43, [.slice none 0 0]⟩ := rfl
theorem Tat24 : T.at 24 = ⟨3, 40, .struct [(0, 3), (1, 3), (2, 23)], [.int .i64 0, .int .i64 0, .slice none 0 0]⟩ := rfl
theorem Tat25 : T.at 25 = ⟨3, 40, .struct [(0, 3), (1, 3), (2, 23)], [.int .i64 0, .int .i64 0, .slice none 0 0]⟩ := rfl
theorem Tat26 : T.at 26 = ⟨1, 8, .int .i64, [.int .i64 0]⟩ := rfl
theorem Tat28 : T.at 28 = ⟨1, 8, .func, [.nilFunc]⟩ := rfl
theorem Tat29 : T.at 29 = ⟨1, 8, .func, [.nilFunc]⟩ := rfl
theorem Tat30 : T.at 30 = ⟨1, 24, .slice 3, [.slice none 0 0]⟩ := rfl
theorem Tat31 : T.at 31 = ⟨4, 40, .struct [(0, 9), (1, 3), (2, 3), (3, 4)], [.string ByteArray.empty, .int .i64 0, .int .i64 0, .bool false]⟩ := rfl
theorem Tat32 : T.at 32 = ⟨4, 40, .struct [(0, 9), (1, 3), (2, 3), (3, 4)], [.string ByteArray.empty, .int .i64 0, .int .i64 0, .bool false]⟩ := rfl
theorem Tat33 : T.at 33 = ⟨15, 136, .struct [(0, 5), (1, 3), (2, 3), (3, 3), (4, 3), (5, 4), (6, 4), (7, 3), (8, 3), (9, 30), (10, 32), (14, 26)], [.int .u8 0, .int .i64 0, .int .i64 0, .int .i64 0, .int .i64 0, .bool false, .bool false, .int .i64 0, .int .i64 0, .slice none 0 0, .string ByteArray.empty, .int .i64 0, .int .i64 0, .bool false, .int .i64 0]⟩ := rfl
theorem Tat34 : T.at 34 = ⟨15, 136, .struct [(0, 5), (1, 3), (2, 3), (3, 3), (4, 3), (5, 4), (6, 4), (7, 3), (8, 3), (9, 30), (10, 32), (14, 26)], [.int .u8 0, .int .i64 0, .int .i64 0, .int .i64 0, .int .i64 0, .bool false, .bool false, .int .i64 0, .int .i64 0, .slice none 0 0, .string ByteArray.empty, .int .i64 0, .int .i64 0, .bool false, .int .i64 0]⟩ := rfl
theorem Tat35 : T.at 35 = ⟨18, 160, .struct [(0, 3), (1, 3), (2, 34), (17, 5)], [.int .i64 0, .int .i64 0, .int .u8 0, .int .i64 0, .int .i64 0, .int .i64 0, .int .i64 0, .bool false, .bool false, .int .i64 0, .int .i64 0, .slice none 0 0, .string ByteArray.empty, .int .i64 0, .int .i64 0, .bool false, .int .i64 0, .int .u8 0]⟩ := rfl
theorem Tat36 : T.at 36 = ⟨18, 160, .struct [(0, 3), (1, 3), (2, 34), (17, 5)], [.int .i64 0, .int .i64 0, .int .u8 0, .int .i64 0, .int .i64 0, .int .i64 0, .int .i64 0, .bool false, .bool false, .int .i64 0, .int .i64 0, .slice none 0 0, .string ByteArray.empty, .int .i64 0, .int .i64 0, .bool false, .int .i64 0, .int .u8 0]⟩ := rfl
theorem Tat37 : T.at 37 = ⟨1, 8, .func, [.nilFunc]⟩ := rfl
theorem Tat39 : T.at 39 = ⟨1, 8, .func, [.nilFunc]⟩ := rfl
theorem Tat40 : T.at 40 = ⟨1, 8, .func, [.nilFunc]⟩ := rfl
theorem Tat41 : T.at 41 = ⟨1, 8, .func, [.nilFunc]⟩ := rfl
theorem Tat42 : T.at 42 = ⟨20, 176, .struct [(0, 3), (1, 34), (16, 5), (17, 3), (18, 3), (19, 3)], [.int .i64 0, .int .u8 0, .int .i64 0, .int .i64 0, .int .i64 0, .int .i64 0, .bool false, .bool false, .int .i64 0, .int .i64 0, .slice none 0 0, .string ByteArray.empty, .int .i64 0, .int .i64 0, .bool false, .int .i64 0, .int .u8 0, .int .i64 0, .int .i64 0, .int .i64 0]⟩ := rfl
theorem Tat43 : T.at 43 = ⟨20, 176, .struct [(0, 3), (1, 34), (16, 5), (17, 3), (18, 3), (19, 3)], [.int .i64 0, .int .u8 0, .int .i64 0, .int .i64 0, .int .i64 0, .int .i64 0, .bool false, .bool false, .int .i64 0, .int .i64 0, .slice none 0 0, .string ByteArray.empty, .int .i64 0, .int .i64 0, .bool false, .int .i64 0, .int .u8 0, .int .i64 0, .int .i64 0, .int .i64 0]⟩ := rfl
theorem Tat45 : T.at 45 = ⟨1, 8, .func, [.nilFunc]⟩ := rfl
theorem Tat46 : T.at 46 = ⟨1, 8, .func, [.nilFunc]⟩ := rfl
theorem Tat47 : T.at 47 = ⟨1, 24, .slice 34, [.slice none 0 0]⟩ := rfl
theorem Tat49 : T.at 49 = ⟨1, 8, .func, [.nilFunc]⟩ := rfl
theorem Tat50 : T.at 50 = ⟨1, 8, .func, [.nilFunc]⟩ := rfl
theorem Tat51 : T.at 51 = ⟨1, 8, .func, [.nilFunc]⟩ := rfl
theorem Tat52 : T.at 52 = ⟨1, 8, .func, [.nilFunc]⟩ := rfl
theorem Tat53 : T.at 53 = ⟨1, 8, .func, [.nilFunc]⟩ := rfl
theorem Tat54 : T.at 54 = ⟨1, 8, .func, [.nilFunc]⟩ := rfl
theorem Tat55 : T.at 55 = ⟨1, 8, .func, [.nilFunc]⟩ := rfl
theorem Tat56 : T.at 56 = ⟨1, 8, .func, [.nilFunc]⟩ := rfl
theorem Tat57 : T.at 57 = ⟨1, 8, .func, [.nilFunc]⟩ := rfl
theorem Tat59 : T.at 59 = ⟨1, 8, .func, [.nilFunc]⟩ := rfl
theorem Tat60 : T.at 60 = ⟨1, 8, .func, [.nilFunc]⟩ := rfl
theorem Tat61 : T.at 61 = ⟨1, 8, .func, [.nilFunc]⟩ := rfl
theorem Tat62 : T.at 62 = ⟨1, 8, .func, [.nilFunc]⟩ := rfl
theorem Tat64 : T.at 64 = ⟨1, 8, .func, [.nilFunc]⟩ := rfl
theorem Tat65 : T.at 65 = ⟨1, 8, .func, [.nilFunc]⟩ := rfl
theorem Tat66 : T.at 66 = ⟨1, 8, .func, [.nilFunc]⟩ := rfl
theorem Tat67 : T.at 67 = ⟨1, 8, .func, [.nilFunc]⟩ := rfl
theorem Tat68 : T.at 68 = ⟨1, 8, .ptr 43, [.pointer none]⟩ := rfl
theorem Tat69 : T.at 69 = ⟨1, 8, .func, [.nilFunc]⟩ := rfl
theorem Tat70 : T.at 70 = ⟨1, 8, .func, [.nilFunc]⟩ := rfl
theorem Tat71 : T.at 71 = ⟨1, 8, .func, [.nilFunc]⟩ := rfl
theorem Tat72 : T.at 72 = ⟨1, 8, .func, [.nilFunc]⟩ := rfl
theorem Tat73 : T.at 73 = ⟨1, 8, .func, [.nilFunc]⟩ := rfl
theorem Tat74 : T.at 74 = ⟨1, 8, .func, [.nilFunc]⟩ := rfl
theorem Tat75 : T.at 75 = ⟨1, 8, .func, [.nilFunc]⟩ := rfl
theorem Tat76 : T.at 76 = ⟨1, 8, .func, [.nilFunc]⟩ := rfl
theorem Tat77 : T.at 77 = ⟨1, 8, .func, [.nilFunc]⟩ := rfl
theorem Tat78 : T.at 78 = ⟨1, 8, .func, [.nilFunc]⟩ := rfl
theorem Tat79 : T.at 79 = ⟨1, 8, .func, [.nilFunc]⟩ := rfl
theorem Tat80 : T.at 80 = ⟨1, 8, .func, [.nilFunc]⟩ := rfl
theorem Tat81 : T.at 81 = ⟨1, 8, .func, [.nilFunc]⟩ := rfl
theorem Tat82 : T.at 82 = ⟨1, 8, .func, [.nilFunc]⟩ := rfl
theorem Tat83 : T.at 83 = ⟨1, 8, .func, [.nilFunc]⟩ := rfl
theorem Tat84 : T.at 84 = ⟨1, 8, .func, [.nilFunc]⟩ := rfl
theorem Tat85 : T.at 85 = ⟨1, 8, .func, [.nilFunc]⟩ := rfl
theorem Tat86 : T.at 86 = ⟨1, 8, .func, [.nilFunc]⟩ := rfl
theorem Tat87 : T.at 87 = ⟨1, 8, .func, [.nilFunc]⟩ := rfl
theorem Tat88 : T.at 88 = ⟨1, 8, .func, [.nilFunc]⟩ := rfl
theorem Tat89 : T.at 89 = ⟨1, 8, .func, [.nilFunc]⟩ := rfl
theorem Tat90 : T.at 90 = ⟨3, 24, .arr 3 3, [.int .i64 0, .int .i64 0, .int .i64 0]⟩ := rfl
theorem Tat91 : T.at 91 = ⟨1, 8, .func, [.nilFunc]⟩ := rfl
theorem Tat92 : T.at 92 = ⟨1, 8, .func, [.nilFunc]⟩ := rfl
theorem Tat98 : T.at 98 = ⟨1, 8, .func, [.nilFunc]⟩ := rfl
theorem Tat99 : T.at 99 = ⟨1, 4, .int .u32, [.int .u32 0]⟩ := rfl
theorem Tat102 : T.at 102 = ⟨1, 8, .func, [.nilFunc]⟩ := rfl
theorem Tat103 : T.at 103 = ⟨1, 8, .ptr 5, [.pointer none]⟩ := rfl
theorem Tglob : T.glob = [(0, [.int .i64 1, .int .i64 2, .int .i64 4])] := rfl

end Go.Proofs.YtcbhmedknbiffaaDoor
