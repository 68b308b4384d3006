/-
  The table of the types of this seat's program.
-/
import Derived.Test.YtomgapihddmafaaDoorVsQ
import Derived.Test.YtomgapihddmafaaDoorProg
namespace Go.Proofs.YtomgapihddmafaaDoor
open Go Go.RowKit

def T : Tab := ⟨[
  ⟨0, 0, .other, []⟩,
  ⟨1, 8, .func, [.nilFunc]⟩,
  ⟨1, 8, .int .i64, [.int .i64 0]⟩,
  ⟨1, 8, .int .i64, [.int .i64 0]⟩,
  ⟨1, 1, .bool, [.bool false]⟩,
  ⟨1, 1, .int .u8, [.int .u8 0]⟩,
  ⟨0, 0, .other, []⟩,
  ⟨0, 0, .other, []⟩,
  ⟨0, 0, .other, []⟩,
  ⟨1, 16, .str, [.string ByteArray.empty]⟩,
  ⟨0, 0, .other, []⟩,
  ⟨0, 0, .other, []⟩,
  ⟨1, 8, .int .u64, [.int .u64 0]⟩,
  ⟨0, 0, .other, []⟩,
  ⟨0, 0, .other, []⟩,
  ⟨0, 0, .other, []⟩,
  ⟨0, 0, .other, []⟩,
  ⟨0, 0, .other, []⟩,
  ⟨0, 0, .other, []⟩,
  ⟨0, 0, .other, []⟩,
  ⟨0, 0, .other, []⟩,
  ⟨1, 4, .int .i32, [.int .i32 0]⟩,
  ⟨1, 24, .slice 3, [.slice none 0 0]⟩,
  ⟨16, 128, .arr 16 3, [.int .i64 0, .int .i64 0, .int .i64 0, .int .i64 0, .int .i64 0, .int .i64 0, .int .i64 0, .int .i64 0, .int .i64 0, .int .i64 0, .int .i64 0, .int .i64 0, .int .i64 0, .int .i64 0, .int .i64 0, .int .i64 0]⟩,
  ⟨20, 192, .struct [(0, 3), (1, 22), (2, 22), (3, 3), (4, 23)], [.int .i64 0, .slice none 0 0, .slice none 0 0, .int .i64 0, .int .i64 0, .int .i64 0, .int .i64 0, .int .i64 0, .int .i64 0, .int .i64 0, .int .i64 0, .int .i64 0, .int .i64 0, .int .i64 0, .int .i64 0, .int .i64 0, .int .i64 0, .int .i64 0, .int .i64 0, .int .i64 0]⟩,
  ⟨20, 192, .struct [(0, 3), (1, 22), (2, 22), (3, 3), (4, 23)], [.int .i64 0, .slice none 0 0, .slice none 0 0, .int .i64 0, .int .i64 0, .int .i64 0, .int .i64 0, .int .i64 0, .int .i64 0, .int .i64 0, .int .i64 0, .int .i64 0, .int .i64 0, .int .i64 0, .int .i64 0, .int .i64 0, .int .i64 0, .int .i64 0, .int .i64 0, .int .i64 0]⟩,
  ⟨1, 8, .func, [.nilFunc]⟩,
  ⟨1, 8, .func, [.nilFunc]⟩,
  ⟨1, 8, .int .i64, [.int .i64 0]⟩,
  ⟨0, 0, .other, []⟩,
  ⟨1, 8, .func, [.nilFunc]⟩,
  ⟨0, 0, .other, []⟩,
  ⟨1, 8, .func, [.nilFunc]⟩,
  ⟨0, 0, .other, []⟩,
  ⟨1, 8, .func, [.nilFunc]⟩,
  ⟨1, 8, .func, [.nilFunc]⟩,
  ⟨0, 0, .other, []⟩,
  ⟨1, 8, .func, [.nilFunc]⟩,
  ⟨1, 8, .func, [.nilFunc]⟩,
  ⟨1, 8, .func, [.nilFunc]⟩,
  ⟨1, 8, .func, [.nilFunc]⟩,
  ⟨1, 8, .func, [.nilFunc]⟩,
  ⟨1, 8, .func, [.nilFunc]⟩,
  ⟨1, 8, .func, [.nilFunc]⟩,
  ⟨1, 8, .func, [.nilFunc]⟩,
  ⟨1, 8, .func, [.nilFunc]⟩,
  ⟨1, 8, .func, [.nilFunc]⟩,
  ⟨1, 8, .func, [.nilFunc]⟩,
  ⟨1, 8, .func, [.nilFunc]⟩,
  ⟨1, 8, .func, [.nilFunc]⟩,
  ⟨1, 8, .func, [.nilFunc]⟩,
  ⟨1, 8, .func, [.nilFunc]⟩,
  ⟨1, 8, .func, [.nilFunc]⟩,
  ⟨1, 8, .func, [.nilFunc]⟩,
  ⟨1, 8, .func, [.nilFunc]⟩,
  ⟨1, 8, .func, [.nilFunc]⟩,
  ⟨1, 8, .func, [.nilFunc]⟩,
  ⟨1, 8, .func, [.nilFunc]⟩,
  ⟨1, 8, .func, [.nilFunc]⟩,
  ⟨1, 8, .func, [.nilFunc]⟩,
  ⟨1, 8, .func, [.nilFunc]⟩,
  ⟨1, 8, .func, [.nilFunc]⟩,
  ⟨1, 8, .func, [.nilFunc]⟩,
  ⟨1, 8, .func, [.nilFunc]⟩,
  ⟨1, 8, .func, [.nilFunc]⟩,
  ⟨1, 8, .func, [.nilFunc]⟩,
  ⟨1, 8, .func, [.nilFunc]⟩,
  ⟨1, 8, .func, [.nilFunc]⟩,
  ⟨1, 8, .func, [.nilFunc]⟩,
  ⟨0, 0, .other, []⟩,
  ⟨0, 0, .other, []⟩,
  ⟨0, 0, .other, []⟩,
  ⟨0, 0, .other, []⟩,
  ⟨0, 0, .other, []⟩,
  ⟨1, 8, .func, [.nilFunc]⟩,
  ⟨1, 4, .int .u32, [.int .u32 0]⟩,
  ⟨0, 0, .other, []⟩,
  ⟨0, 0, .other, []⟩,
  ⟨1, 8, .func, [.nilFunc]⟩,
  ⟨1, 8, .ptr 5, [.pointer none]⟩,
  ⟨0, 0, .other, []⟩,
  ⟨0, 0, .other, []⟩,
  ⟨0, 0, .other, []⟩,
  ⟨0, 0, .other, []⟩,
  ⟨0, 0, .other, []⟩
  ], [(0, [.int .i64 1, .int .i64 2, .int .i64 4, .int .i64 8, .int .i64 16, .int .i64 32, .int .i64 64, .int .i64 128, .int .i64 256, .int .i64 512, .int .i64 1024, .int .i64 2048, .int .i64 4096, .int .i64 8192, .int .i64 16384, .int .i64 32768])]⟩

theorem trow1 : RowOK T Tryd.prog 1 ⟨1, 8, .func, [.nilFunc]⟩ := ⟨Tryd.t1, _, _, Tryd.type1, rfl, rfl, rfl, rfl, rfl, rfl, fun h => Bool.noConfusion h, Tryd.underlying1, rfl, ⟨_, _, _, rfl⟩⟩
theorem trow2 : RowOK T Tryd.prog 2 ⟨1, 8, .int .i64, [.int .i64 0]⟩ := ⟨Tryd.t2, _, _, Tryd.type2, rfl, rfl, rfl, rfl, rfl, rfl, fun h => Bool.noConfusion h, Tryd.underlying2, rfl, rfl⟩
theorem trow3 : RowOK T Tryd.prog 3 ⟨1, 8, .int .i64, [.int .i64 0]⟩ := ⟨Tryd.t3, _, _, Tryd.type3, rfl, rfl, rfl, rfl, rfl, rfl, fun h => Bool.noConfusion h, Tryd.underlying3, rfl, rfl⟩
theorem trow4 : RowOK T Tryd.prog 4 ⟨1, 1, .bool, [.bool false]⟩ := ⟨Tryd.t4, _, _, Tryd.type4, rfl, rfl, rfl, rfl, rfl, rfl, fun h => Bool.noConfusion h, Tryd.underlying4, rfl, rfl⟩
theorem trow5 : RowOK T Tryd.prog 5 ⟨1, 1, .int .u8, [.int .u8 0]⟩ := ⟨Tryd.t5, _, _, Tryd.type5, rfl, rfl, rfl, rfl, rfl, rfl, fun h => Bool.noConfusion h, Tryd.underlying5, rfl, rfl⟩
theorem trow9 : RowOK T Tryd.prog 9 ⟨1, 16, .str, [.string ByteArray.empty]⟩ := ⟨Tryd.t9, _, _, Tryd.type9, rfl, rfl, rfl, rfl, rfl, rfl, fun h => Bool.noConfusion h, Tryd.underlying9, rfl, rfl⟩
theorem trow12 : RowOK T Tryd.prog 12 ⟨1, 8, .int .u64, [.int .u64 0]⟩ := ⟨Tryd.t12, _, _, Tryd.type12, rfl, rfl, rfl, rfl, rfl, rfl, fun h => Bool.noConfusion h, Tryd.underlying12, rfl, rfl⟩
theorem trow21 : RowOK T Tryd.prog 21 ⟨1, 4, .int .i32, [.int .i32 0]⟩ := ⟨Tryd.t21, _, _, Tryd.type21, rfl, rfl, rfl, rfl, rfl, rfl, fun h => Bool.noConfusion h, Tryd.underlying21, rfl, rfl⟩
theorem trow22 : RowOK T Tryd.prog 22 ⟨1, 24, .slice 3, [.slice none 0 0]⟩ := ⟨Tryd.t22, _, _, Tryd.type22, rfl, rfl, rfl, rfl, rfl, rfl, fun h => Bool.noConfusion h, Tryd.underlying22, rfl, ⟨rfl, by decide⟩⟩
theorem trow23 : RowOK T Tryd.prog 23 ⟨16, 128, .arr 16 3, [.int .i64 0, .int .i64 0, .int .i64 0, .int .i64 0, .int .i64 0, .int .i64 0, .int .i64 0, .int .i64 0, .int .i64 0, .int .i64 0, .int .i64 0, .int .i64 0, .int .i64 0, .int .i64 0, .int .i64 0, .int .i64 0]⟩ := ⟨Tryd.t23, _, _, Tryd.type23, rfl, rfl, rfl, rfl, rfl, rfl, fun _ => ⟨_, rfl⟩, Tryd.underlying23, rfl, ⟨rfl, by decide, by kernel_rfl⟩⟩
theorem trow24 : RowOK T Tryd.prog 24 ⟨20, 192, .struct [(0, 3), (1, 22), (2, 22), (3, 3), (4, 23)], [.int .i64 0, .slice none 0 0, .slice none 0 0, .int .i64 0, .int .i64 0, .int .i64 0, .int .i64 0, .int .i64 0, .int .i64 0, .int .i64 0, .int .i64 0, .int .i64 0, .int .i64 0, .int .i64 0, .int .i64 0, .int .i64 0, .int .i64 0, .int .i64 0, .int .i64 0, .int .i64 0]⟩ := ⟨Tryd.t24, _, _, Tryd.type24, rfl, rfl, rfl, rfl, rfl, rfl, fun _ => ⟨_, rfl⟩, Tryd.underlying24, rfl, ⟨⟨_, rfl, rfl, by kernel_rfl⟩, by decide, by kernel_rfl, by kernel_rfl⟩⟩
theorem trow25 : RowOK T Tryd.prog 25 ⟨20, 192, .struct [(0, 3), (1, 22), (2, 22), (3, 3), (4, 23)], [.int .i64 0, .slice none 0 0, .slice none 0 0, .int .i64 0, .int .i64 0, .int .i64 0, .int .i64 0, .int .i64 0, .int .i64 0, .int .i64 0, .int .i64 0, .int .i64 0, .int .i64 0, .int .i64 0, .int .i64 0, .int .i64 0, .int .i64 0, .int .i64 0, .int .i64 0, .int .i64 0]⟩ := ⟨Tryd.t25, _, _, Tryd.type25, rfl, rfl, rfl, rfl, rfl, rfl, fun _ => ⟨_, rfl⟩, Tryd.underlying25, rfl, ⟨⟨_, rfl, rfl, by kernel_rfl⟩, by decide, by kernel_rfl, by kernel_rfl⟩⟩
theorem trow26 : RowOK T Tryd.prog 26 ⟨1, 8, .func, [.nilFunc]⟩ := ⟨Tryd.t26, _, _, Tryd.type26, rfl, rfl, rfl, rfl, rfl, rfl, fun h => Bool.noConfusion h, Tryd.underlying26, rfl, ⟨_, _, _, rfl⟩⟩
theorem trow27 : RowOK T Tryd.prog 27 ⟨1, 8, .func, [.nilFunc]⟩ := ⟨Tryd.t27, _, _, Tryd.type27, rfl, rfl, rfl, rfl, rfl, rfl, fun h => Bool.noConfusion h, Tryd.underlying27, rfl, ⟨_, _, _, rfl⟩⟩
theorem trow28 : RowOK T Tryd.prog 28 ⟨1, 8, .int .i64, [.int .i64 0]⟩ := ⟨Tryd.t28, _, _, Tryd.type28, rfl, rfl, rfl, rfl, rfl, rfl, fun h => Bool.noConfusion h, Tryd.underlying28, rfl, rfl⟩
theorem trow30 : RowOK T Tryd.prog 30 ⟨1, 8, .func, [.nilFunc]⟩ := ⟨Tryd.t30, _, _, Tryd.type30, rfl, rfl, rfl, rfl, rfl, rfl, fun h => Bool.noConfusion h, Tryd.underlying30, rfl, ⟨_, _, _, rfl⟩⟩
theorem trow32 : RowOK T Tryd.prog 32 ⟨1, 8, .func, [.nilFunc]⟩ := ⟨Tryd.t32, _, _, Tryd.type32, rfl, rfl, rfl, rfl, rfl, rfl, fun h => Bool.noConfusion h, Tryd.underlying32, rfl, ⟨_, _, _, rfl⟩⟩
theorem trow34 : RowOK T Tryd.prog 34 ⟨1, 8, .func, [.nilFunc]⟩ := ⟨Tryd.t34, _, _, Tryd.type34, rfl, rfl, rfl, rfl, rfl, rfl, fun h => Bool.noConfusion h, Tryd.underlying34, rfl, ⟨_, _, _, rfl⟩⟩
theorem trow35 : RowOK T Tryd.prog 35 ⟨1, 8, .func, [.nilFunc]⟩ := ⟨Tryd.t35, _, _, Tryd.type35, rfl, rfl, rfl, rfl, rfl, rfl, fun h => Bool.noConfusion h, Tryd.underlying35, rfl, ⟨_, _, _, rfl⟩⟩
theorem trow37 : RowOK T Tryd.prog 37 ⟨1, 8, .func, [.nilFunc]⟩ := ⟨Tryd.t37, _, _, Tryd.type37, rfl, rfl, rfl, rfl, rfl, rfl, fun h => Bool.noConfusion h, Tryd.underlying37, rfl, ⟨_, _, _, rfl⟩⟩
theorem trow38 : RowOK T Tryd.prog 38 ⟨1, 8, .func, [.nilFunc]⟩ := ⟨Tryd.t38, _, _, Tryd.type38, rfl, rfl, rfl, rfl, rfl, rfl, fun h => Bool.noConfusion h, Tryd.underlying38, rfl, ⟨_, _, _, rfl⟩⟩
theorem trow39 : RowOK T Tryd.prog 39 ⟨1, 8, .func, [.nilFunc]⟩ := ⟨Tryd.t39, _, _, Tryd.type39, rfl, rfl, rfl, rfl, rfl, rfl, fun h => Bool.noConfusion h, Tryd.underlying39, rfl, ⟨_, _, _, rfl⟩⟩
theorem trow40 : RowOK T Tryd.prog 40 ⟨1, 8, .func, [.nilFunc]⟩ := ⟨Tryd.t40, _, _, Tryd.type40, rfl, rfl, rfl, rfl, rfl, rfl, fun h => Bool.noConfusion h, Tryd.underlying40, rfl, ⟨_, _, _, rfl⟩⟩
theorem trow41 : RowOK T Tryd.prog 41 ⟨1, 8, .func, [.nilFunc]⟩ := ⟨Tryd.t41, _, _, Tryd.type41, rfl, rfl, rfl, rfl, rfl, rfl, fun h => Bool.noConfusion h, Tryd.underlying41, rfl, ⟨_, _, _, rfl⟩⟩
theorem trow42 : RowOK T Tryd.prog 42 ⟨1, 8, .func, [.nilFunc]⟩ := ⟨Tryd.t42, _, _, Tryd.type42, rfl, rfl, rfl, rfl, rfl, rfl, fun h => Bool.noConfusion h, Tryd.underlying42, rfl, ⟨_, _, _, rfl⟩⟩
theorem trow43 : RowOK T Tryd.prog 43 ⟨1, 8, .func, [.nilFunc]⟩ := ⟨Tryd.t43, _, _, Tryd.type43, rfl, rfl, rfl, rfl, rfl, rfl, fun h => Bool.noConfusion h, Tryd.underlying43, rfl, ⟨_, _, _, rfl⟩⟩
theorem trow44 : RowOK T Tryd.prog 44 ⟨1, 8, .func, [.nilFunc]⟩ := ⟨Tryd.t44, _, _, Tryd.type44, rfl, rfl, rfl, rfl, rfl, rfl, fun h => Bool.noConfusion h, Tryd.underlying44, rfl, ⟨_, _, _, rfl⟩⟩
theorem trow45 : RowOK T Tryd.prog 45 ⟨1, 8, .func, [.nilFunc]⟩ := ⟨Tryd.t45, _, _, Tryd.type45, rfl, rfl, rfl, rfl, rfl, rfl, fun h => Bool.noConfusion h, Tryd.underlying45, rfl, ⟨_, _, _, rfl⟩⟩
theorem trow46 : RowOK T Tryd.prog 46 ⟨1, 8, .func, [.nilFunc]⟩ := ⟨Tryd.t46, _, _, Tryd.type46, rfl, rfl, rfl, rfl, rfl, rfl, fun h => Bool.noConfusion h, Tryd.underlying46, rfl, ⟨_, _, _, rfl⟩⟩
theorem trow47 : RowOK T Tryd.prog 47 ⟨1, 8, .func, [.nilFunc]⟩ := ⟨Tryd.t47, _, _, Tryd.type47, rfl, rfl, rfl, rfl, rfl, rfl, fun h => Bool.noConfusion h, Tryd.underlying47, rfl, ⟨_, _, _, rfl⟩⟩
theorem trow48 : RowOK T Tryd.prog 48 ⟨1, 8, .func, [.nilFunc]⟩ := ⟨Tryd.t48, _, _, Tryd.type48, rfl, rfl, rfl, rfl, rfl, rfl, fun h => Bool.noConfusion h, Tryd.underlying48, rfl, ⟨_, _, _, rfl⟩⟩
theorem trow49 : RowOK T Tryd.prog 49 ⟨1, 8, .func, [.nilFunc]⟩ := ⟨Tryd.t49, _, _, Tryd.type49, rfl, rfl, rfl, rfl, rfl, rfl, fun h => Bool.noConfusion h, Tryd.underlying49, rfl, ⟨_, _, _, rfl⟩⟩
theorem trow50 : RowOK T Tryd.prog 50 ⟨1, 8, .func, [.nilFunc]⟩ := ⟨Tryd.t50, _, _, Tryd.type50, rfl, rfl, rfl, rfl, rfl, rfl, fun h => Bool.noConfusion h, Tryd.underlying50, rfl, ⟨_, _, _, rfl⟩⟩
theorem trow51 : RowOK T Tryd.prog 51 ⟨1, 8, .func, [.nilFunc]⟩ := ⟨Tryd.t51, _, _, Tryd.type51, rfl, rfl, rfl, rfl, rfl, rfl, fun h => Bool.noConfusion h, Tryd.underlying51, rfl, ⟨_, _, _, rfl⟩⟩
theorem trow52 : RowOK T Tryd.prog 52 ⟨1, 8, .func, [.nilFunc]⟩ := ⟨Tryd.t52, _, _, Tryd.type52, rfl, rfl, rfl, rfl, rfl, rfl, fun h => Bool.noConfusion h, Tryd.underlying52, rfl, ⟨_, _, _, rfl⟩⟩
theorem trow53 : RowOK T Tryd.prog 53 ⟨1, 8, .func, [.nilFunc]⟩ := ⟨Tryd.t53, _, _, Tryd.type53, rfl, rfl, rfl, rfl, rfl, rfl, fun h => Bool.noConfusion h, Tryd.underlying53, rfl, ⟨_, _, _, rfl⟩⟩
theorem trow54 : RowOK T Tryd.prog 54 ⟨1, 8, .func, [.nilFunc]⟩ := ⟨Tryd.t54, _, _, Tryd.type54, rfl, rfl, rfl, rfl, rfl, rfl, fun h => Bool.noConfusion h, Tryd.underlying54, rfl, ⟨_, _, _, rfl⟩⟩
theorem trow55 : RowOK T Tryd.prog 55 ⟨1, 8, .func, [.nilFunc]⟩ := ⟨Tryd.t55, _, _, Tryd.type55, rfl, rfl, rfl, rfl, rfl, rfl, fun h => Bool.noConfusion h, Tryd.underlying55, rfl, ⟨_, _, _, rfl⟩⟩
theorem trow56 : RowOK T Tryd.prog 56 ⟨1, 8, .func, [.nilFunc]⟩ := ⟨Tryd.t56, _, _, Tryd.type56, rfl, rfl, rfl, rfl, rfl, rfl, fun h => Bool.noConfusion h, Tryd.underlying56, rfl, ⟨_, _, _, rfl⟩⟩
theorem trow57 : RowOK T Tryd.prog 57 ⟨1, 8, .func, [.nilFunc]⟩ := ⟨Tryd.t57, _, _, Tryd.type57, rfl, rfl, rfl, rfl, rfl, rfl, fun h => Bool.noConfusion h, Tryd.underlying57, rfl, ⟨_, _, _, rfl⟩⟩
theorem trow58 : RowOK T Tryd.prog 58 ⟨1, 8, .func, [.nilFunc]⟩ := ⟨Tryd.t58, _, _, Tryd.type58, rfl, rfl, rfl, rfl, rfl, rfl, fun h => Bool.noConfusion h, Tryd.underlying58, rfl, ⟨_, _, _, rfl⟩⟩
theorem trow59 : RowOK T Tryd.prog 59 ⟨1, 8, .func, [.nilFunc]⟩ := ⟨Tryd.t59, _, _, Tryd.type59, rfl, rfl, rfl, rfl, rfl, rfl, fun h => Bool.noConfusion h, Tryd.underlying59, rfl, ⟨_, _, _, rfl⟩⟩
theorem trow60 : RowOK T Tryd.prog 60 ⟨1, 8, .func, [.nilFunc]⟩ := ⟨Tryd.t60, _, _, Tryd.type60, rfl, rfl, rfl, rfl, rfl, rfl, fun h => Bool.noConfusion h, Tryd.underlying60, rfl, ⟨_, _, _, rfl⟩⟩
theorem trow61 : RowOK T Tryd.prog 61 ⟨1, 8, .func, [.nilFunc]⟩ := ⟨Tryd.t61, _, _, Tryd.type61, rfl, rfl, rfl, rfl, rfl, rfl, fun h => Bool.noConfusion h, Tryd.underlying61, rfl, ⟨_, _, _, rfl⟩⟩
theorem trow62 : RowOK T Tryd.prog 62 ⟨1, 8, .func, [.nilFunc]⟩ := ⟨Tryd.t62, _, _, Tryd.type62, rfl, rfl, rfl, rfl, rfl, rfl, fun h => Bool.noConfusion h, Tryd.underlying62, rfl, ⟨_, _, _, rfl⟩⟩
theorem trow63 : RowOK T Tryd.prog 63 ⟨1, 8, .func, [.nilFunc]⟩ := ⟨Tryd.t63, _, _, Tryd.type63, rfl, rfl, rfl, rfl, rfl, rfl, fun h => Bool.noConfusion h, Tryd.underlying63, rfl, ⟨_, _, _, rfl⟩⟩
theorem trow64 : RowOK T Tryd.prog 64 ⟨1, 8, .func, [.nilFunc]⟩ := ⟨Tryd.t64, _, _, Tryd.type64, rfl, rfl, rfl, rfl, rfl, rfl, fun h => Bool.noConfusion h, Tryd.underlying64, rfl, ⟨_, _, _, rfl⟩⟩
theorem trow65 : RowOK T Tryd.prog 65 ⟨1, 8, .func, [.nilFunc]⟩ := ⟨Tryd.t65, _, _, Tryd.type65, rfl, rfl, rfl, rfl, rfl, rfl, fun h => Bool.noConfusion h, Tryd.underlying65, rfl, ⟨_, _, _, rfl⟩⟩
theorem trow66 : RowOK T Tryd.prog 66 ⟨1, 8, .func, [.nilFunc]⟩ := ⟨Tryd.t66, _, _, Tryd.type66, rfl, rfl, rfl, rfl, rfl, rfl, fun h => Bool.noConfusion h, Tryd.underlying66, rfl, ⟨_, _, _, rfl⟩⟩
theorem trow67 : RowOK T Tryd.prog 67 ⟨1, 8, .func, [.nilFunc]⟩ := ⟨Tryd.t67, _, _, Tryd.type67, rfl, rfl, rfl, rfl, rfl, rfl, fun h => Bool.noConfusion h, Tryd.underlying67, rfl, ⟨_, _, _, rfl⟩⟩
theorem trow68 : RowOK T Tryd.prog 68 ⟨1, 8, .func, [.nilFunc]⟩ := ⟨Tryd.t68, _, _, Tryd.type68, rfl, rfl, rfl, rfl, rfl, rfl, fun h => Bool.noConfusion h, Tryd.underlying68, rfl, ⟨_, _, _, rfl⟩⟩
theorem trow74 : RowOK T Tryd.prog 74 ⟨1, 8, .func, [.nilFunc]⟩ := ⟨Tryd.t74, _, _, Tryd.type74, rfl, rfl, rfl, rfl, rfl, rfl, fun h => Bool.noConfusion h, Tryd.underlying74, rfl, ⟨_, _, _, rfl⟩⟩
theorem trow75 : RowOK T Tryd.prog 75 ⟨1, 4, .int .u32, [.int .u32 0]⟩ := ⟨Tryd.t75, _, _, Tryd.type75, rfl, rfl, rfl, rfl, rfl, rfl, fun h => Bool.noConfusion h, Tryd.underlying75, rfl, rfl⟩
theorem trow78 : RowOK T Tryd.prog 78 ⟨1, 8, .func, [.nilFunc]⟩ := ⟨Tryd.t78, _, _, Tryd.type78, rfl, rfl, rfl, rfl, rfl, rfl, fun h => Bool.noConfusion h, Tryd.underlying78, rfl, ⟨_, _, _, rfl⟩⟩
theorem trow79 : RowOK T Tryd.prog 79 ⟨1, 8, .ptr 5, [.pointer none]⟩ := ⟨Tryd.t79, _, _, Tryd.type79, rfl, rfl, rfl, rfl, rfl, rfl, fun h => Bool.noConfusion h, Tryd.underlying79, rfl, rfl⟩

theorem tok : TOK T Tryd.prog := TOK.of (by
  show RowsOK T Tryd.prog 0 _
  exact 
    ⟨fun h => absurd rfl h, ⟨fun _ => trow1, ⟨fun _ => trow2, ⟨fun _ => trow3, ⟨fun _ => trow4, ⟨fun _ => trow5, ⟨fun h => absurd rfl h, ⟨fun h => absurd rfl h, ⟨fun h => absurd rfl h, ⟨fun _ => trow9, ⟨fun h => absurd rfl h, ⟨fun h => absurd rfl h, ⟨fun _ => trow12, ⟨fun h => absurd rfl h, ⟨fun h => absurd rfl h, ⟨fun h => absurd rfl h, ⟨fun h => absurd rfl h, ⟨fun h => absurd rfl h, ⟨fun h => absurd rfl h, ⟨fun h => absurd rfl h, ⟨fun h => absurd rfl h, ⟨fun _ => trow21, ⟨fun _ => trow22, ⟨fun _ => trow23, ⟨fun _ => trow24, ⟨fun _ => trow25, ⟨fun _ => trow26, ⟨fun _ => trow27, ⟨fun _ => trow28, ⟨fun h => absurd rfl h, ⟨fun _ => trow30, ⟨fun h => absurd rfl h, ⟨fun _ => trow32, ⟨fun h => absurd rfl h, ⟨fun _ => trow34, ⟨fun _ => trow35, ⟨fun h => absurd rfl h, ⟨fun _ => trow37, ⟨fun _ => trow38, ⟨fun _ => trow39, ⟨fun _ => trow40, ⟨fun _ => trow41, ⟨fun _ => trow42, ⟨fun _ => trow43, ⟨fun _ => trow44, ⟨fun _ => trow45, ⟨fun _ => trow46, ⟨fun _ => trow47, ⟨fun _ => trow48, ⟨fun _ => trow49, ⟨fun _ => trow50, ⟨fun _ => trow51, ⟨fun _ => trow52, ⟨fun _ => trow53, ⟨fun _ => trow54, ⟨fun _ => trow55, ⟨fun _ => trow56, ⟨fun _ => trow57, ⟨fun _ => trow58, ⟨fun _ => trow59, ⟨fun _ => trow60, ⟨fun _ => trow61, ⟨fun _ => trow62, ⟨fun _ => trow63, ⟨fun _ => trow64, ⟨fun _ => trow65, ⟨fun _ => trow66, ⟨fun _ => trow67, ⟨fun _ => trow68, ⟨fun h => absurd rfl h, ⟨fun h => absurd rfl h, ⟨fun h => absurd rfl h, ⟨fun h => absurd rfl h, ⟨fun h => absurd rfl h, ⟨fun _ => trow74, ⟨fun _ => trow75, ⟨fun h => absurd rfl h, ⟨fun h => absurd rfl h, ⟨fun _ => trow78, ⟨fun _ => trow79, ⟨fun h => absurd rfl h, ⟨fun h => absurd rfl h, ⟨fun h => absurd rfl h, ⟨fun h => absurd rfl h, ⟨fun h => absurd rfl h, trivial⟩⟩⟩⟩⟩⟩⟩⟩⟩⟩⟩⟩⟩⟩⟩⟩⟩⟩⟩⟩⟩⟩⟩⟩⟩⟩⟩⟩⟩⟩⟩⟩⟩⟩⟩⟩⟩⟩⟩⟩⟩⟩⟩⟩⟩⟩⟩⟩⟩⟩⟩⟩⟩⟩⟩⟩⟩⟩⟩⟩⟩⟩⟩⟩⟩⟩⟩⟩⟩⟩⟩⟩⟩⟩⟩⟩⟩⟩⟩⟩⟩⟩⟩⟩⟩) (by decide)
theorem Tat1 : T.at 1 = ⟨1, 8, .func, [.nilFunc]⟩ := rfl
theorem Tat2 : T.at 2 = ⟨1, 8, .int .i64, [.int .i64 0]⟩ := rfl
theorem Tat3 : T.at 3 = ⟨1, 8, .int .i64, [.int .i64 0]⟩ := rfl
theorem Tat4 : T.at 4 = ⟨1, 1, .bool, [.bool false]⟩ := rfl
theorem Tat5 : T.at 5 = ⟨1, 1, .int .u8, [.int .u8 0]⟩ := rfl
theorem Tat9 : T.at 9 = ⟨1, 16, .str, [.string ByteArray.empty]⟩ := rfl
theorem Tat12 : T.at 12 = ⟨1, 8, .int .u64, [.int .u64 0]⟩ := rfl
theorem Tat21 : T.at 21 = ⟨1, 4, .int .i32, [.int .i32 0]⟩ := rfl
theorem Tat22 : T.at 22 = ⟨1, 24, .slice 3, [.slice none 0 0]⟩ := rfl
theorem Tat23 : T.at 23 = ⟨16, 128, .arr 16 3, [.int .i64 0, .int .i64 0, .int .i64 0, .int .i64 0, .int .i64 0, .int .i64 0, .int .i64 0, .int .i64 0, .int .i64 0, .int .i64 0, .int .i64 0, .int .i64 0, .int .i64 0, .int .i64 0, .int .i64 0, .int .i64 0]⟩ := rfl
theorem Tat24 : T.at 24 = ⟨20, 192, .struct [(0, 3), (1, 22), (2, 22), (3, 3), (4, 23)], [.int .i64 0, .slice none 0 0, .slice none 0 0, .int .i64 0, .int .i64 0, .int .i64 0, .int .i64 0, .int .i64 0, .int .i64 0, .int .i64 0, .int .i64 0, .int .i64 0, .int .i64 0, .int .i64 0, .int .i64 0, .int .i64 0, .int .i64 0, .int .i64 0, .int .i64 0, .int .i64 0]⟩ := rfl
theorem Tat25 : T.at 25 = ⟨20, 192, .struct [(0, 3), (1, 22), (2, 22), (3, 3), (4, 23)], [.int .i64 0, .slice none 0 0, .slice none 0 0, .int .i64 0, .int .i64 0, .int .i64 0, .int .i64 0, .int .i64 0, .int .i64 0, .int .i64 0, .int .i64 0, .int .i64 0, .int .i64 0, .int .i64 0, .int .i64 0, .int .i64 0, .int .i64 0, .int .i64 0, .int .i64 0, .int .i64 0]⟩ := rfl
theorem Tat26 : T.at 26 = ⟨1, 8, .func, [.nilFunc]⟩ := rfl
theorem Tat27 : T.at 27 = ⟨1, 8, .func, [.nilFunc]⟩ := rfl
theorem Tat28 : T.at 28 = ⟨1, 8, .int .i64, [.int .i64 0]⟩ := rfl
theorem Tat30 : T.at 30 = ⟨1, 8, .func, [.nilFunc]⟩ := rfl
theorem Tat32 : T.at 32 = ⟨1, 8, .func, [.nilFunc]⟩ := rfl
theorem Tat34 : T.at 34 = ⟨1, 8, .func, [.nilFunc]⟩ := rfl
theorem Tat35 : T.at 35 = ⟨1, 8, .func, [.nilFunc]⟩ := rfl
theorem Tat37 : T.at 37 = ⟨1, 8, .func, [.nilFunc]⟩ := rfl
theorem Tat38 : T.at 38 = ⟨1, 8, .func, [.nilFunc]⟩ := rfl
theorem Tat39 : T.at 39 = ⟨1, 8, .func, [.nilFunc]⟩ := rfl
theorem Tat40 : T.at 40 = ⟨1, 8, .func, [.nilFunc]⟩ := rfl
theorem Tat41 : T.at 41 = ⟨1, 8, .func, [.nilFunc]⟩ := rfl
theorem Tat42 : T.at 42 = ⟨1, 8, .func, [.nilFunc]⟩ := rfl
theorem Tat43 : T.at 43 = ⟨1, 8, .func, [.nilFunc]⟩ := rfl
theorem Tat44 : T.at 44 = ⟨1, 8, .func, [.nilFunc]⟩ := rfl
theorem Tat45 : T.at 45 = ⟨1, 8, .func, [.nilFunc]⟩ := rfl
theorem Tat46 : T.at 46 = ⟨1, 8, .func, [.nilFunc]⟩ := rfl
theorem Tat47 : T.at 47 = ⟨1, 8, .func, [.nilFunc]⟩ := rfl
theorem Tat48 : T.at 48 = ⟨1, 8, .func, [.nilFunc]⟩ := rfl
theorem Tat49 : T.at 49 = ⟨1, 8, .func, [.nilFunc]⟩ := rfl
theorem Tat50 : T.at 50 = ⟨1, 8, .func, [.nilFunc]⟩ := rfl
theorem Tat51 : T.at 51 = ⟨1, 8, .func, [.nilFunc]⟩ := rfl
theorem Tat52 : T.at 52 = ⟨1, 8, .func, [.nilFunc]⟩ := rfl
theorem Tat53 : T.at 53 = ⟨1, 8, .func, [.nilFunc]⟩ := rfl
theorem Tat54 : T.at 54 = ⟨1, 8, .func, [.nilFunc]⟩ := rfl
theorem Tat55 : T.at 55 = ⟨1, 8, .func, [.nilFunc]⟩ := rfl
theorem Tat56 : T.at 56 = ⟨1, 8, .func, [.nilFunc]⟩ := rfl
theorem Tat57 : T.at 57 = ⟨1, 8, .func, [.nilFunc]⟩ := rfl
theorem Tat58 : T.at 58 = ⟨1, 8, .func, [.nilFunc]⟩ := rfl
theorem Tat59 : T.at 59 = ⟨1, 8, .func, [.nilFunc]⟩ := rfl
theorem Tat60 : T.at 60 = ⟨1, 8, .func, [.nilFunc]⟩ := rfl
theorem Tat61 : T.at 61 = ⟨1, 8, .func, [.nilFunc]⟩ := rfl
theorem Tat62 : T.at 62 = ⟨1, 8, .func, [.nilFunc]⟩ := rfl
theorem Tat63 : T.at 63 = ⟨1, 8, .func, [.nilFunc]⟩ := rfl
theorem Tat64 : T.at 64 = ⟨1, 8, .func, [.nilFunc]⟩ := rfl
theorem Tat65 : T.at 65 = ⟨1, 8, .func, [.nilFunc]⟩ := rfl
theorem Tat66 : T.at 66 = ⟨1, 8, .func, [.nilFunc]⟩ := rfl
theorem Tat67 : T.at 67 = ⟨1, 8, .func, [.nilFunc]⟩ := rfl
theorem Tat68 : T.at 68 = ⟨1, 8, .func, [.nilFunc]⟩ := rfl
theorem Tat74 : T.at 74 = ⟨1, 8, .func, [.nilFunc]⟩ := rfl
theorem Tat75 : T.at 75 = ⟨1, 4, .int .u32, [.int .u32 0]⟩ := rfl
theorem Tat78 : T.at 78 = ⟨1, 8, .func, [.nilFunc]⟩ := rfl
theorem Tat79 : T.at 79 = ⟨1, 8, .ptr 5, [.pointer none]⟩ := rfl
theorem Tglob : T.glob = [(0, [.int .i64 1, .int .i64 2, .int .i64 4, .int .i64 8, .int .i64 16, .int .i64 32, .int .i64 64, .int .i64 128, .int .i64 256, .int .i64 512, .int .i64 1024, .int .i64 2048, .int .i64 4096, .int .i64 8192, .int .i64 16384, .int .i64 32768])] := rfl

end Go.Proofs.YtomgapihddmafaaDoor
