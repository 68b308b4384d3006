/-
 The table of the types of this seat's program.
-/
import Derived.Test.YthjhcmkgadfpmaaGreatVsQ
import Derived.Test.YthjhcmkgadfpmaaGreatProg
namespace Go.Proofs.YthjhcmkgadfpmaaGreat
open Go Go.RowKit
set_option maxRecDepth 100000
def T : Tab := ⟨[
 ⟨0, 0, .other, []⟩,
 ⟨1, 8, .func, [.nilFunc]⟩,
 ⟨1, 8, .int .i64, [.int .i64 0]⟩,
 ⟨1, 8, .int .i64, [.int .i64 0]⟩,
 ⟨1, 1, .bool, [.bool false]⟩,
 ⟨1, 1, .int .u8, [.int .u8 0]⟩,
 ⟨0, 0, .other, []⟩,
 ⟨0, 0, .other, []⟩,
 ⟨0, 0, .other, []⟩,
 ⟨1, 16, .str, [.string ByteArray.empty]⟩,
 ⟨0, 0, .other, []⟩,
 ⟨0, 0, .other, []⟩,
 ⟨0, 0, .other, []⟩,
 ⟨0, 0, .other, []⟩,
 ⟨0, 0, .other, []⟩,
 ⟨0, 0, .other, []⟩,
 ⟨0, 0, .other, []⟩,
 ⟨0, 0, .other, []⟩,
 ⟨0, 0, .other, []⟩,
 ⟨0, 0, .other, []⟩,
 ⟨0, 0, .other, []⟩,
 ⟨0, 0, .other, []⟩,
 ⟨1, 24, .slice 3, [.slice none 0 0]⟩,
 ⟨16, 128, .arr 16 3, [.int .i64 0, .int .i64 0, .int .i64 0, .int .i64 0, .int .i64 0, .int .i64 0, .int .i64 0, .int .i64 0, .int .i64 0, .int .i64 0, .int .i64 0, .int .i64 0, .int .i64 0, .int .i64 0, .int .i64 0, .int .i64 0]⟩,
 ⟨0, 0, .other, []⟩,
 ⟨20, 192, .struct [(0, 3), (1, 22), (2, 22), (3, 3), (4, 23)], [.int .i64 0, .slice none 0 0, .slice none 0 0, .int .i64 0, .int .i64 0, .int .i64 0, .int .i64 0, .int .i64 0, .int .i64 0, .int .i64 0, .int .i64 0, .int .i64 0, .int .i64 0, .int .i64 0, .int .i64 0, .int .i64 0, .int .i64 0, .int .i64 0, .int .i64 0, .int .i64 0]⟩,
 ⟨1, 24, .slice 106, [.slice none 0 0]⟩,
 ⟨0, 0, .other, []⟩,
 ⟨3, 40, .struct [(0, 3), (1, 3), (2, 26)], [.int .i64 0, .int .i64 0, .slice none 0 0]⟩,
 ⟨1, 24, .slice 56, [.slice none 0 0]⟩,
 ⟨0, 0, .other, []⟩,
 ⟨2, 16, .struct [(0, 5), (1, 3)], [.int .u8 0, .int .i64 0]⟩,
 ⟨1, 8, .int .i64, [.int .i64 0]⟩,
 ⟨0, 0, .other, []⟩,
 ⟨6, 40, .struct [(0, 3), (1, 3), (2, 3), (3, 4), (4, 4), (5, 32)], [.int .i64 0, .int .i64 0, .int .i64 0, .bool false, .bool false, .int .i64 0]⟩,
 ⟨0, 0, .other, []⟩,
 ⟨4, 40, .struct [(0, 9), (1, 3), (2, 3), (3, 4)], [.string ByteArray.empty, .int .i64 0, .int .i64 0, .bool false]⟩,
 ⟨0, 0, .other, []⟩,
 ⟨15, 128, .struct [(0, 5), (1, 5), (2, 34), (8, 36), (12, 3), (13, 22), (14, 32)], [.int .u8 0, .int .u8 0, .int .i64 0, .int .i64 0, .int .i64 0, .bool false, .bool false, .int .i64 0, .string ByteArray.empty, .int .i64 0, .int .i64 0, .bool false, .int .i64 0, .slice none 0 0, .int .i64 0]⟩,
 ⟨1, 24, .slice 36, [.slice none 0 0]⟩,
 ⟨0, 0, .other, []⟩,
 ⟨76, 720, .struct [(0, 25), (20, 3), (21, 28), (24, 29), (25, 31), (27, 38), (42, 38), (57, 38), (72, 3), (73, 9), (74, 39), (75, 3)], [.int .i64 0, .slice none 0 0, .slice none 0 0, .int .i64 0, .int .i64 0, .int .i64 0, .int .i64 0, .int .i64 0, .int .i64 0, .int .i64 0, .int .i64 0, .int .i64 0, .int .i64 0, .int .i64 0, .int .i64 0, .int .i64 0, .int .i64 0, .int .i64 0, .int .i64 0, .int .i64 0, .int .i64 0, .int .i64 0, .int .i64 0, .slice none 0 0, .slice none 0 0, .int .u8 0, .int .i64 0, .int .u8 0, .int .u8 0, .int .i64 0, .int .i64 0, .int .i64 0, .bool false, .bool false, .int .i64 0, .string ByteArray.empty, .int .i64 0, .int .i64 0, .bool false, .int .i64 0, .slice none 0 0, .int .i64 0, .int .u8 0, .int .u8 0, .int .i64 0, .int .i64 0, .int .i64 0, .bool false, .bool false, .int .i64 0, .string ByteArray.empty, .int .i64 0, .int .i64 0, .bool false, .int .i64 0, .slice none 0 0, .int .i64 0, .int .u8 0, .int .u8 0, .int .i64 0, .int .i64 0, .int .i64 0, .bool false, .bool false, .int .i64 0, .string ByteArray.empty, .int .i64 0, .int .i64 0, .bool false, .int .i64 0, .slice none 0 0, .int .i64 0, .int .i64 0, .string ByteArray.empty, .slice none 0 0, .int .i64 0]⟩,
 ⟨0, 0, .other, []⟩,
 ⟨15, 136, .struct [(0, 5), (1, 3), (2, 3), (3, 3), (4, 3), (5, 4), (6, 4), (7, 3), (8, 3), (9, 22), (10, 36), (14, 32)], [.int .u8 0, .int .i64 0, .int .i64 0, .int .i64 0, .int .i64 0, .bool false, .bool false, .int .i64 0, .int .i64 0, .slice none 0 0, .string ByteArray.empty, .int .i64 0, .int .i64 0, .bool false, .int .i64 0]⟩,
 ⟨0, 0, .other, []⟩,
 ⟨0, 0, .other, []⟩,
 ⟨1, 8, .func, [.nilFunc]⟩,
 ⟨0, 0, .other, []⟩,
 ⟨0, 0, .other, []⟩,
 ⟨0, 0, .other, []⟩,
 ⟨0, 0, .other, []⟩,
 ⟨0, 0, .other, []⟩,
 ⟨0, 0, .other, []⟩,
 ⟨0, 0, .other, []⟩,
 ⟨0, 0, .other, []⟩,
 ⟨0, 0, .other, []⟩,
 ⟨17, 152, .struct [(0, 3), (1, 3), (2, 43)], [.int .i64 0, .int .i64 0, .int .u8 0, .int .i64 0, .int .i64 0, .int .i64 0, .int .i64 0, .bool false, .bool false, .int .i64 0, .int .i64 0, .slice none 0 0, .string ByteArray.empty, .int .i64 0, .int .i64 0, .bool false, .int .i64 0]⟩,
 ⟨0, 0, .other, []⟩,
 ⟨0, 0, .other, []⟩,
 ⟨0, 0, .other, []⟩,
 ⟨0, 0, .other, []⟩,
 ⟨0, 0, .other, []⟩,
 ⟨0, 0, .other, []⟩,
 ⟨0, 0, .other, []⟩,
 ⟨1, 24, .slice 43, [.slice none 0 0]⟩,
 ⟨0, 0, .other, []⟩,
 ⟨0, 0, .other, []⟩,
 ⟨0, 0, .other, []⟩,
 ⟨0, 0, .other, []⟩,
 ⟨0, 0, .other, []⟩,
 ⟨0, 0, .other, []⟩,
 ⟨0, 0, .other, []⟩,
 ⟨0, 0, .other, []⟩,
 ⟨0, 0, .other, []⟩,
 ⟨1, 8, .func, [.nilFunc]⟩,
 ⟨0, 0, .other, []⟩,
 ⟨1, 8, .map 5 74, [.map none]⟩,
 ⟨0, 0, .other, []⟩,
 ⟨1, 8, .ptr 41, [.pointer none]⟩,
 ⟨0, 0, .other, []⟩,
 ⟨0, 0, .other, []⟩,
 ⟨0, 0, .other, []⟩,
 ⟨0, 0, .other, []⟩,
 ⟨0, 0, .other, []⟩,
 ⟨0, 0, .other, []⟩,
 ⟨0, 0, .other, []⟩,
 ⟨0, 0, .other, []⟩,
 ⟨0, 0, .other, []⟩,
 ⟨0, 0, .other, []⟩,
 ⟨0, 0, .other, []⟩,
 ⟨0, 0, .other, []⟩,
 ⟨1, 8, .func, [.nilFunc]⟩,
 ⟨0, 0, .other, []⟩,
 ⟨0, 0, .other, []⟩,
 ⟨0, 0, .other, []⟩,
 ⟨0, 0, .other, []⟩,
 ⟨0, 0, .other, []⟩,
 ⟨0, 0, .other, []⟩,
 ⟨1, 8, .func, [.nilFunc]⟩,
 ⟨0, 0, .other, []⟩,
 ⟨0, 0, .other, []⟩,
 ⟨0, 0, .other, []⟩,
 ⟨0, 0, .other, []⟩,
 ⟨0, 0, .other, []⟩,
 ⟨0, 0, .other, []⟩,
 ⟨0, 0, .other, []⟩,
 ⟨20, 176, .struct [(0, 3), (1, 43), (16, 5), (17, 3), (18, 3), (19, 3)], [.int .i64 0, .int .u8 0, .int .i64 0, .int .i64 0, .int .i64 0, .int .i64 0, .bool false, .bool false, .int .i64 0, .int .i64 0, .slice none 0 0, .string ByteArray.empty, .int .i64 0, .int .i64 0, .bool false, .int .i64 0, .int .u8 0, .int .i64 0, .int .i64 0, .int .i64 0]⟩,
 ⟨0, 0, .other, []⟩,
 ⟨0, 0, .other, []⟩,
 ⟨0, 0, .other, []⟩,
 ⟨0, 0, .other, []⟩,
 ⟨0, 0, .other, []⟩,
 ⟨0, 0, .other, []⟩,
 ⟨0, 0, .other, []⟩,
 ⟨0, 0, .other, []⟩,
 ⟨0, 0, .other, []⟩,
 ⟨0, 0, .other, []⟩,
 ⟨0, 0, .other, []⟩,
 ⟨1, 24, .slice 46, [.slice none 0 0]⟩,
 ⟨1, 8, .func, [.nilFunc]⟩,
 ⟨1, 8, .func, [.nilFunc]⟩,
 ⟨0, 0, .other, []⟩,
 ⟨0, 0, .other, []⟩,
 ⟨0, 0, .other, []⟩,
 ⟨1, 8, .func, [.nilFunc]⟩,
 ⟨1, 8, .func, [.nilFunc]⟩,
 ⟨0, 0, .other, []⟩,
 ⟨0, 0, .other, []⟩,
 ⟨1, 8, .func, [.nilFunc]⟩,
 ⟨1, 8, .func, [.nilFunc]⟩,
 ⟨0, 0, .other, []⟩,
 ⟨1, 8, .func, [.nilFunc]⟩,
 ⟨1, 8, .func, [.nilFunc]⟩,
 ⟨0, 0, .other, []⟩,
 ⟨0, 0, .other, []⟩,
 ⟨1, 8, .func, [.nilFunc]⟩,
 ⟨0, 0, .other, []⟩,
 ⟨1, 8, .func, [.nilFunc]⟩,
 ⟨0, 0, .other, []⟩,
 ⟨1, 8, .ptr 106, [.pointer none]⟩,
 ⟨1, 8, .func, [.nilFunc]⟩,
 ⟨0, 0, .other, []⟩,
 ⟨0, 0, .other, []⟩,
 ⟨0, 0, .other, []⟩,
 ⟨1, 8, .ptr 25, [.pointer none]⟩,
 ⟨0, 0, .other, []⟩,
 ⟨0, 0, .other, []⟩,
 ⟨1, 8, .func, [.nilFunc]⟩,
 ⟨1, 8, .func, [.nilFunc]⟩,
 ⟨1, 8, .func, [.nilFunc]⟩,
 ⟨0, 0, .other, []⟩,
 ⟨0, 0, .other, []⟩,
 ⟨0, 0, .other, []⟩,
 ⟨1, 8, .func, [.nilFunc]⟩,
 ⟨0, 0, .other, []⟩,
 ⟨1, 8, .func, [.nilFunc]⟩,
 ⟨1, 8, .func, [.nilFunc]⟩,
 ⟨1, 8, .func, [.nilFunc]⟩,
 ⟨0, 0, .other, []⟩,
 ⟨0, 0, .other, []⟩,
 ⟨0, 0, .other, []⟩,
 ⟨0, 0, .other, []⟩,
 ⟨1, 8, .func, [.nilFunc]⟩,
 ⟨1, 8, .func, [.nilFunc]⟩,
 ⟨0, 0, .other, []⟩,
 ⟨0, 0, .other, []⟩,
 ⟨0, 0, .other, []⟩,
 ⟨3, 24, .struct [(0, 3), (1, 3), (2, 4)], [.int .i64 0, .int .i64 0, .bool false]⟩,
 ⟨0, 0, .other, []⟩,
 ⟨0, 0, .other, []⟩,
 ⟨0, 0, .other, []⟩,
 ⟨0, 0, .other, []⟩,
 ⟨0, 0, .other, []⟩,
 ⟨0, 0, .other, []⟩,
 ⟨0, 0, .other, []⟩,
 ⟨0, 0, .other, []⟩,
 ⟨0, 0, .other, []⟩,
 ⟨0, 0, .other, []⟩,
 ⟨0, 0, .other, []⟩,
 ⟨0, 0, .other, []⟩,
 ⟨0, 0, .other, []⟩,
 ⟨0, 0, .other, []⟩,
 ⟨0, 0, .other, []⟩,
 ⟨0, 0, .other, []⟩,
 ⟨0, 0, .other, []⟩,
 ⟨0, 0, .other, []⟩,
 ⟨0, 0, .other, []⟩,
 ⟨0, 0, .other, []⟩
 ], []⟩
theorem trow1 : qn T Tryz.prog 1 ⟨1, 8, .func, [.nilFunc]⟩ := ⟨Tryz.t1, _, _, Tryz.type1, rfl, rfl, rfl, rfl, rfl, rfl, fun h => Bool.noConfusion h, Tryz.underlying1, rfl, ⟨_, _, _, rfl⟩⟩
theorem trow2 : qn T Tryz.prog 2 ⟨1, 8, .int .i64, [.int .i64 0]⟩ := ⟨Tryz.t2, _, _, Tryz.type2, rfl, rfl, rfl, rfl, rfl, rfl, fun h => Bool.noConfusion h, Tryz.underlying2, rfl, rfl⟩
theorem trow3 : qn T Tryz.prog 3 ⟨1, 8, .int .i64, [.int .i64 0]⟩ := ⟨Tryz.t3, _, _, Tryz.type3, rfl, rfl, rfl, rfl, rfl, rfl, fun h => Bool.noConfusion h, Tryz.underlying3, rfl, rfl⟩
theorem trow4 : qn T Tryz.prog 4 ⟨1, 1, .bool, [.bool false]⟩ := ⟨Tryz.t4, _, _, Tryz.type4, rfl, rfl, rfl, rfl, rfl, rfl, fun h => Bool.noConfusion h, Tryz.underlying4, rfl, rfl⟩
theorem trow5 : qn T Tryz.prog 5 ⟨1, 1, .int .u8, [.int .u8 0]⟩ := ⟨Tryz.t5, _, _, Tryz.type5, rfl, rfl, rfl, rfl, rfl, rfl, fun h => Bool.noConfusion h, Tryz.underlying5, rfl, rfl⟩
theorem trow9 : qn T Tryz.prog 9 ⟨1, 16, .str, [.string ByteArray.empty]⟩ := ⟨Tryz.t9, _, _, Tryz.type9, rfl, rfl, rfl, rfl, rfl, rfl, fun h => Bool.noConfusion h, Tryz.underlying9, rfl, rfl⟩
theorem trow22 : qn T Tryz.prog 22 ⟨1, 24, .slice 3, [.slice none 0 0]⟩ := ⟨Tryz.t22, _, _, Tryz.type22, rfl, rfl, rfl, rfl, rfl, rfl, fun h => Bool.noConfusion h, Tryz.underlying22, rfl, ⟨rfl, by decide⟩⟩
theorem trow23 : qn T Tryz.prog 23 ⟨16, 128, .arr 16 3, [.int .i64 0, .int .i64 0, .int .i64 0, .int .i64 0, .int .i64 0, .int .i64 0, .int .i64 0, .int .i64 0, .int .i64 0, .int .i64 0, .int .i64 0, .int .i64 0, .int .i64 0, .int .i64 0, .int .i64 0, .int .i64 0]⟩ := ⟨Tryz.t23, _, _, Tryz.type23, rfl, rfl, rfl, rfl, rfl, rfl, fun _ => ⟨_, rfl⟩, Tryz.underlying23, rfl, ⟨rfl, by decide, by kernel_rfl⟩⟩
theorem trow25 : qn T Tryz.prog 25 ⟨20, 192, .struct [(0, 3), (1, 22), (2, 22), (3, 3), (4, 23)], [.int .i64 0, .slice none 0 0, .slice none 0 0, .int .i64 0, .int .i64 0, .int .i64 0, .int .i64 0, .int .i64 0, .int .i64 0, .int .i64 0, .int .i64 0, .int .i64 0, .int .i64 0, .int .i64 0, .int .i64 0, .int .i64 0, .int .i64 0, .int .i64 0, .int .i64 0, .int .i64 0]⟩ := ⟨Tryz.t25, _, _, Tryz.type25, rfl, rfl, rfl, rfl, rfl, rfl, fun _ => ⟨_, rfl⟩, Tryz.underlying25, rfl, ⟨⟨_, rfl, rfl, by kernel_rfl⟩, by decide, by kernel_rfl, by kernel_rfl⟩⟩
theorem trow26 : qn T Tryz.prog 26 ⟨1, 24, .slice 106, [.slice none 0 0]⟩ := ⟨Tryz.t26, _, _, Tryz.type26, rfl, rfl, rfl, rfl, rfl, rfl, fun h => Bool.noConfusion h, Tryz.underlying26, rfl, ⟨rfl, by decide⟩⟩
theorem trow28 : qn T Tryz.prog 28 ⟨3, 40, .struct [(0, 3), (1, 3), (2, 26)], [.int .i64 0, .int .i64 0, .slice none 0 0]⟩ := ⟨Tryz.t28, _, _, Tryz.type28, rfl, rfl, rfl, rfl, rfl, rfl, fun _ => ⟨_, rfl⟩, Tryz.underlying28, rfl, ⟨⟨_, rfl, rfl, by kernel_rfl⟩, by decide, by kernel_rfl, by kernel_rfl⟩⟩
theorem trow29 : qn T Tryz.prog 29 ⟨1, 24, .slice 56, [.slice none 0 0]⟩ := ⟨Tryz.t29, _, _, Tryz.type29, rfl, rfl, rfl, rfl, rfl, rfl, fun h => Bool.noConfusion h, Tryz.underlying29, rfl, ⟨rfl, by decide⟩⟩
theorem trow31 : qn T Tryz.prog 31 ⟨2, 16, .struct [(0, 5), (1, 3)], [.int .u8 0, .int .i64 0]⟩ := ⟨Tryz.t31, _, _, Tryz.type31, rfl, rfl, rfl, rfl, rfl, rfl, fun _ => ⟨_, rfl⟩, Tryz.underlying31, rfl, ⟨⟨_, rfl, rfl, by kernel_rfl⟩, by decide, by kernel_rfl, by kernel_rfl⟩⟩
theorem trow32 : qn T Tryz.prog 32 ⟨1, 8, .int .i64, [.int .i64 0]⟩ := ⟨Tryz.t32, _, _, Tryz.type32, rfl, rfl, rfl, rfl, rfl, rfl, fun h => Bool.noConfusion h, Tryz.underlying32, rfl, rfl⟩
theorem trow34 : qn T Tryz.prog 34 ⟨6, 40, .struct [(0, 3), (1, 3), (2, 3), (3, 4), (4, 4), (5, 32)], [.int .i64 0, .int .i64 0, .int .i64 0, .bool false, .bool false, .int .i64 0]⟩ := ⟨Tryz.t34, _, _, Tryz.type34, rfl, rfl, rfl, rfl, rfl, rfl, fun _ => ⟨_, rfl⟩, Tryz.underlying34, rfl, ⟨⟨_, rfl, rfl, by kernel_rfl⟩, by decide, by kernel_rfl, by kernel_rfl⟩⟩
theorem trow36 : qn T Tryz.prog 36 ⟨4, 40, .struct [(0, 9), (1, 3), (2, 3), (3, 4)], [.string ByteArray.empty, .int .i64 0, .int .i64 0, .bool false]⟩ := ⟨Tryz.t36, _, _, Tryz.type36, rfl, rfl, rfl, rfl, rfl, rfl, fun _ => ⟨_, rfl⟩, Tryz.underlying36, rfl, ⟨⟨_, rfl, rfl, by kernel_rfl⟩, by decide, by kernel_rfl, by kernel_rfl⟩⟩
theorem trow38 : qn T Tryz.prog 38 ⟨15, 128, .struct [(0, 5), (1, 5), (2, 34), (8, 36), (12, 3), (13, 22), (14, 32)], [.int .u8 0, .int .u8 0, .int .i64 0, .int .i64 0, .int .i64 0, .bool false, .bool false, .int .i64 0, .string ByteArray.empty, .int .i64 0, .int .i64 0, .bool false, .int .i64 0, .slice none 0 0, .int .i64 0]⟩ := ⟨Tryz.t38, _, _, Tryz.type38, rfl, rfl, rfl, rfl, rfl, rfl, fun _ => ⟨_, rfl⟩, Tryz.underlying38, rfl, ⟨⟨_, rfl, rfl, by kernel_rfl⟩, by decide, by kernel_rfl, by kernel_rfl⟩⟩
theorem trow39 : qn T Tryz.prog 39 ⟨1, 24, .slice 36, [.slice none 0 0]⟩ := ⟨Tryz.t39, _, _, Tryz.type39, rfl, rfl, rfl, rfl, rfl, rfl, fun h => Bool.noConfusion h, Tryz.underlying39, rfl, ⟨rfl, by decide⟩⟩
theorem trow41 : qn T Tryz.prog 41 ⟨76, 720, .struct [(0, 25), (20, 3), (21, 28), (24, 29), (25, 31), (27, 38), (42, 38), (57, 38), (72, 3), (73, 9), (74, 39), (75, 3)], [.int .i64 0, .slice none 0 0, .slice none 0 0, .int .i64 0, .int .i64 0, .int .i64 0, .int .i64 0, .int .i64 0, .int .i64 0, .int .i64 0, .int .i64 0, .int .i64 0, .int .i64 0, .int .i64 0, .int .i64 0, .int .i64 0, .int .i64 0, .int .i64 0, .int .i64 0, .int .i64 0, .int .i64 0, .int .i64 0, .int .i64 0, .slice none 0 0, .slice none 0 0, .int .u8 0, .int .i64 0, .int .u8 0, .int .u8 0, .int .i64 0, .int .i64 0, .int .i64 0, .bool false, .bool false, .int .i64 0, .string ByteArray.empty, .int .i64 0, .int .i64 0, .bool false, .int .i64 0, .slice none 0 0, .int .i64 0, .int .u8 0, .int .u8 0, .int .i64 0, .int .i64 0, .int .i64 0, .bool false, .bool false, .int .i64 0, .string ByteArray.empty, .int .i64 0, .int .i64 0, .bool false, .int .i64 0, .slice none 0 0, .int .i64 0, .int .u8 0, .int .u8 0, .int .i64 0, .int .i64 0, .int .i64 0, .bool false, .bool false, .int .i64 0, .string ByteArray.empty, .int .i64 0, .int .i64 0, .bool false, .int .i64 0, .slice none 0 0, .int .i64 0, .int .i64 0, .string ByteArray.empty, .slice none 0 0, .int .i64 0]⟩ := ⟨Tryz.t41, _, _, Tryz.type41, rfl, rfl, rfl, rfl, rfl, rfl, fun _ => ⟨_, rfl⟩, Tryz.underlying41, rfl, ⟨⟨_, rfl, rfl, by kernel_rfl⟩, by decide, by kernel_rfl, by kernel_rfl⟩⟩
theorem trow43 : qn T Tryz.prog 43 ⟨15, 136, .struct [(0, 5), (1, 3), (2, 3), (3, 3), (4, 3), (5, 4), (6, 4), (7, 3), (8, 3), (9, 22), (10, 36), (14, 32)], [.int .u8 0, .int .i64 0, .int .i64 0, .int .i64 0, .int .i64 0, .bool false, .bool false, .int .i64 0, .int .i64 0, .slice none 0 0, .string ByteArray.empty, .int .i64 0, .int .i64 0, .bool false, .int .i64 0]⟩ := ⟨Tryz.t43, _, _, Tryz.type43, rfl, rfl, rfl, rfl, rfl, rfl, fun _ => ⟨_, rfl⟩, Tryz.underlying43, rfl, ⟨⟨_, rfl, rfl, by kernel_rfl⟩, by decide, by kernel_rfl, by kernel_rfl⟩⟩
theorem trow46 : qn T Tryz.prog 46 ⟨1, 8, .func, [.nilFunc]⟩ := ⟨Tryz.t46, _, _, Tryz.type46, rfl, rfl, rfl, rfl, rfl, rfl, fun h => Bool.noConfusion h, Tryz.underlying46, rfl, ⟨_, _, _, rfl⟩⟩
theorem trow56 : qn T Tryz.prog 56 ⟨17, 152, .struct [(0, 3), (1, 3), (2, 43)], [.int .i64 0, .int .i64 0, .int .u8 0, .int .i64 0, .int .i64 0, .int .i64 0, .int .i64 0, .bool false, .bool false, .int .i64 0, .int .i64 0, .slice none 0 0, .string ByteArray.empty, .int .i64 0, .int .i64 0, .bool false, .int .i64 0]⟩ := ⟨Tryz.t56, _, _, Tryz.type56, rfl, rfl, rfl, rfl, rfl, rfl, fun _ => ⟨_, rfl⟩, Tryz.underlying56, rfl, ⟨⟨_, rfl, rfl, by kernel_rfl⟩, by decide, by kernel_rfl, by kernel_rfl⟩⟩
theorem trow64 : qn T Tryz.prog 64 ⟨1, 24, .slice 43, [.slice none 0 0]⟩ := ⟨Tryz.t64, _, _, Tryz.type64, rfl, rfl, rfl, rfl, rfl, rfl, fun h => Bool.noConfusion h, Tryz.underlying64, rfl, ⟨rfl, by decide⟩⟩
theorem trow74 : qn T Tryz.prog 74 ⟨1, 8, .func, [.nilFunc]⟩ := ⟨Tryz.t74, _, _, Tryz.type74, rfl, rfl, rfl, rfl, rfl, rfl, fun h => Bool.noConfusion h, Tryz.underlying74, rfl, ⟨_, _, _, rfl⟩⟩
theorem trow76 : qn T Tryz.prog 76 ⟨1, 8, .map 5 74, [.map none]⟩ := ⟨Tryz.t76, _, _, Tryz.type76, rfl, rfl, rfl, rfl, rfl, rfl, fun h => Bool.noConfusion h, Tryz.underlying76, rfl, rfl⟩
theorem trow78 : qn T Tryz.prog 78 ⟨1, 8, .ptr 41, [.pointer none]⟩ := ⟨Tryz.t78, _, _, Tryz.type78, rfl, rfl, rfl, rfl, rfl, rfl, fun h => Bool.noConfusion h, Tryz.underlying78, rfl, rfl⟩
theorem trow91 : qn T Tryz.prog 91 ⟨1, 8, .func, [.nilFunc]⟩ := ⟨Tryz.t91, _, _, Tryz.type91, rfl, rfl, rfl, rfl, rfl, rfl, fun h => Bool.noConfusion h, Tryz.underlying91, rfl, ⟨_, _, _, rfl⟩⟩
theorem trow98 : qn T Tryz.prog 98 ⟨1, 8, .func, [.nilFunc]⟩ := ⟨Tryz.t98, _, _, Tryz.type98, rfl, rfl, rfl, rfl, rfl, rfl, fun h => Bool.noConfusion h, Tryz.underlying98, rfl, ⟨_, _, _, rfl⟩⟩
theorem trow106 : qn T Tryz.prog 106 ⟨20, 176, .struct [(0, 3), (1, 43), (16, 5), (17, 3), (18, 3), (19, 3)], [.int .i64 0, .int .u8 0, .int .i64 0, .int .i64 0, .int .i64 0, .int .i64 0, .bool false, .bool false, .int .i64 0, .int .i64 0, .slice none 0 0, .string ByteArray.empty, .int .i64 0, .int .i64 0, .bool false, .int .i64 0, .int .u8 0, .int .i64 0, .int .i64 0, .int .i64 0]⟩ := ⟨Tryz.t106, _, _, Tryz.type106, rfl, rfl, rfl, rfl, rfl, rfl, fun _ => ⟨_, rfl⟩, Tryz.underlying106, rfl, ⟨⟨_, rfl, rfl, by kernel_rfl⟩, by decide, by kernel_rfl, by kernel_rfl⟩⟩
theorem trow118 : qn T Tryz.prog 118 ⟨1, 24, .slice 46, [.slice none 0 0]⟩ := ⟨Tryz.t118, _, _, Tryz.type118, rfl, rfl, rfl, rfl, rfl, rfl, fun h => Bool.noConfusion h, Tryz.underlying118, rfl, ⟨rfl, by decide⟩⟩
theorem trow119 : qn T Tryz.prog 119 ⟨1, 8, .func, [.nilFunc]⟩ := ⟨Tryz.t119, _, _, Tryz.type119, rfl, rfl, rfl, rfl, rfl, rfl, fun h => Bool.noConfusion h, Tryz.underlying119, rfl, ⟨_, _, _, rfl⟩⟩
theorem trow120 : qn T Tryz.prog 120 ⟨1, 8, .func, [.nilFunc]⟩ := ⟨Tryz.t120, _, _, Tryz.type120, rfl, rfl, rfl, rfl, rfl, rfl, fun h => Bool.noConfusion h, Tryz.underlying120, rfl, ⟨_, _, _, rfl⟩⟩
theorem trow124 : qn T Tryz.prog 124 ⟨1, 8, .func, [.nilFunc]⟩ := ⟨Tryz.t124, _, _, Tryz.type124, rfl, rfl, rfl, rfl, rfl, rfl, fun h => Bool.noConfusion h, Tryz.underlying124, rfl, ⟨_, _, _, rfl⟩⟩
theorem trow125 : qn T Tryz.prog 125 ⟨1, 8, .func, [.nilFunc]⟩ := ⟨Tryz.t125, _, _, Tryz.type125, rfl, rfl, rfl, rfl, rfl, rfl, fun h => Bool.noConfusion h, Tryz.underlying125, rfl, ⟨_, _, _, rfl⟩⟩
theorem trow128 : qn T Tryz.prog 128 ⟨1, 8, .func, [.nilFunc]⟩ := ⟨Tryz.t128, _, _, Tryz.type128, rfl, rfl, rfl, rfl, rfl, rfl, fun h => Bool.noConfusion h, Tryz.underlying128, rfl, ⟨_, _, _, rfl⟩⟩
theorem trow129 : qn T Tryz.prog 129 ⟨1, 8, .func, [.nilFunc]⟩ := ⟨Tryz.t129, _, _, Tryz.type129, rfl, rfl, rfl, rfl, rfl, rfl, fun h => Bool.noConfusion h, Tryz.underlying129, rfl, ⟨_, _, _, rfl⟩⟩
theorem trow131 : qn T Tryz.prog 131 ⟨1, 8, .func, [.nilFunc]⟩ := ⟨Tryz.t131, _, _, Tryz.type131, rfl, rfl, rfl, rfl, rfl, rfl, fun h => Bool.noConfusion h, Tryz.underlying131, rfl, ⟨_, _, _, rfl⟩⟩
theorem trow132 : qn T Tryz.prog 132 ⟨1, 8, .func, [.nilFunc]⟩ := ⟨Tryz.t132, _, _, Tryz.type132, rfl, rfl, rfl, rfl, rfl, rfl, fun h => Bool.noConfusion h, Tryz.underlying132, rfl, ⟨_, _, _, rfl⟩⟩
theorem trow135 : qn T Tryz.prog 135 ⟨1, 8, .func, [.nilFunc]⟩ := ⟨Tryz.t135, _, _, Tryz.type135, rfl, rfl, rfl, rfl, rfl, rfl, fun h => Bool.noConfusion h, Tryz.underlying135, rfl, ⟨_, _, _, rfl⟩⟩
theorem trow137 : qn T Tryz.prog 137 ⟨1, 8, .func, [.nilFunc]⟩ := ⟨Tryz.t137, _, _, Tryz.type137, rfl, rfl, rfl, rfl, rfl, rfl, fun h => Bool.noConfusion h, Tryz.underlying137, rfl, ⟨_, _, _, rfl⟩⟩
theorem trow139 : qn T Tryz.prog 139 ⟨1, 8, .ptr 106, [.pointer none]⟩ := ⟨Tryz.t139, _, _, Tryz.type139, rfl, rfl, rfl, rfl, rfl, rfl, fun h => Bool.noConfusion h, Tryz.underlying139, rfl, rfl⟩
theorem trow140 : qn T Tryz.prog 140 ⟨1, 8, .func, [.nilFunc]⟩ := ⟨Tryz.t140, _, _, Tryz.type140, rfl, rfl, rfl, rfl, rfl, rfl, fun h => Bool.noConfusion h, Tryz.underlying140, rfl, ⟨_, _, _, rfl⟩⟩
theorem trow144 : qn T Tryz.prog 144 ⟨1, 8, .ptr 25, [.pointer none]⟩ := ⟨Tryz.t144, _, _, Tryz.type144, rfl, rfl, rfl, rfl, rfl, rfl, fun h => Bool.noConfusion h, Tryz.underlying144, rfl, rfl⟩
theorem trow147 : qn T Tryz.prog 147 ⟨1, 8, .func, [.nilFunc]⟩ := ⟨Tryz.t147, _, _, Tryz.type147, rfl, rfl, rfl, rfl, rfl, rfl, fun h => Bool.noConfusion h, Tryz.underlying147, rfl, ⟨_, _, _, rfl⟩⟩
theorem trow148 : qn T Tryz.prog 148 ⟨1, 8, .func, [.nilFunc]⟩ := ⟨Tryz.t148, _, _, Tryz.type148, rfl, rfl, rfl, rfl, rfl, rfl, fun h => Bool.noConfusion h, Tryz.underlying148, rfl, ⟨_, _, _, rfl⟩⟩
theorem trow149 : qn T Tryz.prog 149 ⟨1, 8, .func, [.nilFunc]⟩ := ⟨Tryz.t149, _, _, Tryz.type149, rfl, rfl, rfl, rfl, rfl, rfl, fun h => Bool.noConfusion h, Tryz.underlying149, rfl, ⟨_, _, _, rfl⟩⟩
theorem trow153 : qn T Tryz.prog 153 ⟨1, 8, .func, [.nilFunc]⟩ := ⟨Tryz.t153, _, _, Tryz.type153, rfl, rfl, rfl, rfl, rfl, rfl, fun h => Bool.noConfusion h, Tryz.underlying153, rfl, ⟨_, _, _, rfl⟩⟩
theorem trow155 : qn T Tryz.prog 155 ⟨1, 8, .func, [.nilFunc]⟩ := ⟨Tryz.t155, _, _, Tryz.type155, rfl, rfl, rfl, rfl, rfl, rfl, fun h => Bool.noConfusion h, Tryz.underlying155, rfl, ⟨_, _, _, rfl⟩⟩
theorem trow156 : qn T Tryz.prog 156 ⟨1, 8, .func, [.nilFunc]⟩ := ⟨Tryz.t156, _, _, Tryz.type156, rfl, rfl, rfl, rfl, rfl, rfl, fun h => Bool.noConfusion h, Tryz.underlying156, rfl, ⟨_, _, _, rfl⟩⟩
theorem trow157 : qn T Tryz.prog 157 ⟨1, 8, .func, [.nilFunc]⟩ := ⟨Tryz.t157, _, _, Tryz.type157, rfl, rfl, rfl, rfl, rfl, rfl, fun h => Bool.noConfusion h, Tryz.underlying157, rfl, ⟨_, _, _, rfl⟩⟩
theorem trow162 : qn T Tryz.prog 162 ⟨1, 8, .func, [.nilFunc]⟩ := ⟨Tryz.t162, _, _, Tryz.type162, rfl, rfl, rfl, rfl, rfl, rfl, fun h => Bool.noConfusion h, Tryz.underlying162, rfl, ⟨_, _, _, rfl⟩⟩
theorem trow163 : qn T Tryz.prog 163 ⟨1, 8, .func, [.nilFunc]⟩ := ⟨Tryz.t163, _, _, Tryz.type163, rfl, rfl, rfl, rfl, rfl, rfl, fun h => Bool.noConfusion h, Tryz.underlying163, rfl, ⟨_, _, _, rfl⟩⟩
theorem trow167 : qn T Tryz.prog 167 ⟨3, 24, .struct [(0, 3), (1, 3), (2, 4)], [.int .i64 0, .int .i64 0, .bool false]⟩ := ⟨Tryz.t167, _, _, Tryz.type167, rfl, rfl, rfl, rfl, rfl, rfl, fun _ => ⟨_, rfl⟩, Tryz.underlying167, rfl, ⟨⟨_, rfl, rfl, by kernel_rfl⟩, by decide, by kernel_rfl, by kernel_rfl⟩⟩
theorem tok : TOK T Tryz.prog := TOK.of (by
 show RowsOK T Tryz.prog 0 _
 exact 
  ⟨fun h => absurd rfl h, ⟨fun _ => trow1, ⟨fun _ => trow2, ⟨fun _ => trow3, ⟨fun _ => trow4, ⟨fun _ => trow5, ⟨fun h => absurd rfl h, ⟨fun h => absurd rfl h, ⟨fun h => absurd rfl h, ⟨fun _ => trow9, ⟨fun h => absurd rfl h, ⟨fun h => absurd rfl h, ⟨fun h => absurd rfl h, ⟨fun h => absurd rfl h, ⟨fun h => absurd rfl h, ⟨fun h => absurd rfl h, ⟨fun h => absurd rfl h, ⟨fun h => absurd rfl h, ⟨fun h => absurd rfl h, ⟨fun h => absurd rfl h, ⟨fun h => absurd rfl h, ⟨fun h => absurd rfl h, ⟨fun _ => trow22, ⟨fun _ => trow23, ⟨fun h => absurd rfl h, ⟨fun _ => trow25, ⟨fun _ => trow26, ⟨fun h => absurd rfl h, ⟨fun _ => trow28, ⟨fun _ => trow29, ⟨fun h => absurd rfl h, ⟨fun _ => trow31, ⟨fun _ => trow32, ⟨fun h => absurd rfl h, ⟨fun _ => trow34, ⟨fun h => absurd rfl h, ⟨fun _ => trow36, ⟨fun h => absurd rfl h, ⟨fun _ => trow38, ⟨fun _ => trow39, ⟨fun h => absurd rfl h, ⟨fun _ => trow41, ⟨fun h => absurd rfl h, ⟨fun _ => trow43, ⟨fun h => absurd rfl h, ⟨fun h => absurd rfl h, ⟨fun _ => trow46, ⟨fun h => absurd rfl h, ⟨fun h => absurd rfl h, ⟨fun h => absurd rfl h, ⟨fun h => absurd rfl h, ⟨fun h => absurd rfl h, ⟨fun h => absurd rfl h, ⟨fun h => absurd rfl h, ⟨fun h => absurd rfl h, ⟨fun h => absurd rfl h, ⟨fun _ => trow56, ⟨fun h => absurd rfl h, ⟨fun h => absurd rfl h, ⟨fun h => absurd rfl h, ⟨fun h => absurd rfl h, ⟨fun h => absurd rfl h, ⟨fun h => absurd rfl h, ⟨fun h => absurd rfl h, ⟨fun _ => trow64, ⟨fun h => absurd rfl h, ⟨fun h => absurd rfl h, ⟨fun h => absurd rfl h, ⟨fun h => absurd rfl h, ⟨fun h => absurd rfl h, ⟨fun h => absurd rfl h, ⟨fun h => absurd rfl h, ⟨fun h => absurd rfl h, ⟨fun h => absurd rfl h, ⟨fun _ => trow74, ⟨fun h => absurd rfl h, ⟨fun _ => trow76, ⟨fun h => absurd rfl h, ⟨fun _ => trow78, ⟨fun h => absurd rfl h, ⟨fun h => absurd rfl h, ⟨fun h => absurd rfl h, ⟨fun h => absurd rfl h, ⟨fun h => absurd rfl h, ⟨fun h => absurd rfl h, ⟨fun h => absurd rfl h, ⟨fun h => absurd rfl h, ⟨fun h => absurd rfl h, ⟨fun h => absurd rfl h, ⟨fun h => absurd rfl h, ⟨fun h => absurd rfl h, ⟨fun _ => trow91, ⟨fun h => absurd rfl h, ⟨fun h => absurd rfl h, ⟨fun h => absurd rfl h, ⟨fun h => absurd rfl h, ⟨fun h => absurd rfl h, ⟨fun h => absurd rfl h, ⟨fun _ => trow98, ⟨fun h => absurd rfl h, ⟨fun h => absurd rfl h, ⟨fun h => absurd rfl h, ⟨fun h => absurd rfl h, ⟨fun h => absurd rfl h, ⟨fun h => absurd rfl h, ⟨fun h => absurd rfl h, ⟨fun _ => trow106, ⟨fun h => absurd rfl h, ⟨fun h => absurd rfl h, ⟨fun h => absurd rfl h, ⟨fun h => absurd rfl h, ⟨fun h => absurd rfl h, ⟨fun h => absurd rfl h, ⟨fun h => absurd rfl h, ⟨fun h => absurd rfl h, ⟨fun h => absurd rfl h, ⟨fun h => absurd rfl h, ⟨fun h => absurd rfl h, ⟨fun _ => trow118, ⟨fun _ => trow119, ⟨fun _ => trow120, ⟨fun h => absurd rfl h, ⟨fun h => absurd rfl h, ⟨fun h => absurd rfl h, ⟨fun _ => trow124, ⟨fun _ => trow125, ⟨fun h => absurd rfl h, ⟨fun h => absurd rfl h, ⟨fun _ => trow128, ⟨fun _ => trow129, ⟨fun h => absurd rfl h, ⟨fun _ => trow131, ⟨fun _ => trow132, ⟨fun h => absurd rfl h, ⟨fun h => absurd rfl h, ⟨fun _ => trow135, ⟨fun h => absurd rfl h, ⟨fun _ => trow137, ⟨fun h => absurd rfl h, ⟨fun _ => trow139, ⟨fun _ => trow140, ⟨fun h => absurd rfl h, ⟨fun h => absurd rfl h, ⟨fun h => absurd rfl h, ⟨fun _ => trow144, ⟨fun h => absurd rfl h, ⟨fun h => absurd rfl h, ⟨fun _ => trow147, ⟨fun _ => trow148, ⟨fun _ => trow149, ⟨fun h => absurd rfl h, ⟨fun h => absurd rfl h, ⟨fun h => absurd rfl h, ⟨fun _ => trow153, ⟨fun h => absurd rfl h, ⟨fun _ => trow155, ⟨fun _ => trow156, ⟨fun _ => trow157, ⟨fun h => absurd rfl h, ⟨fun h => absurd rfl h, ⟨fun h => absurd rfl h, ⟨fun h => absurd rfl h, ⟨fun _ => trow162, ⟨fun _ => trow163, ⟨fun h => absurd rfl h, ⟨fun h => absurd rfl h, ⟨fun h => absurd rfl h, ⟨fun _ => trow167, ⟨fun h => absurd rfl h, ⟨fun h => absurd rfl h, ⟨fun h => absurd rfl h, ⟨fun h => absurd rfl h, ⟨fun h => absurd rfl h, ⟨fun h => absurd rfl h, ⟨fun h => absurd rfl h, ⟨fun h => absurd rfl h, ⟨fun h => absurd rfl h, ⟨fun h => absurd rfl h, ⟨fun h => absurd rfl h, ⟨fun h => absurd rfl h, ⟨fun h => absurd rfl h, ⟨fun h => absurd rfl h, ⟨fun h => absurd rfl h, ⟨fun h => absurd rfl h, ⟨fun h => absurd rfl h, ⟨fun h => absurd rfl h, ⟨fun h => absurd rfl h, ⟨fun h => absurd rfl h, trivial⟩⟩⟩⟩⟩⟩⟩⟩⟩⟩⟩⟩⟩⟩⟩⟩⟩⟩⟩⟩⟩⟩⟩⟩⟩⟩⟩⟩⟩⟩⟩⟩⟩⟩⟩⟩⟩⟩⟩⟩⟩⟩⟩⟩⟩⟩⟩⟩⟩⟩⟩⟩⟩⟩⟩⟩⟩⟩⟩⟩⟩⟩⟩⟩⟩⟩⟩⟩⟩⟩⟩⟩⟩⟩⟩⟩⟩⟩⟩⟩⟩⟩⟩⟩⟩⟩⟩⟩⟩⟩⟩⟩⟩⟩⟩⟩⟩⟩⟩⟩⟩⟩⟩⟩⟩⟩⟩⟩⟩⟩⟩⟩⟩⟩⟩⟩⟩⟩⟩⟩⟩⟩⟩⟩⟩⟩⟩⟩⟩⟩⟩⟩⟩⟩⟩⟩⟩⟩⟩⟩⟩⟩⟩⟩⟩⟩⟩⟩⟩⟩⟩⟩⟩⟩⟩⟩⟩⟩⟩⟩⟩⟩⟩⟩⟩⟩⟩⟩⟩⟩⟩⟩⟩⟩⟩⟩⟩⟩⟩⟩⟩⟩⟩⟩⟩⟩⟩⟩) (by decide)
theorem Tglob : T.glob = [] := rfl
end Go.Proofs.YthjhcmkgadfpmaaGreat
