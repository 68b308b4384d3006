/-
  The table of the types of this seat's program.
-/
import Derived.Test.YtcbhmedknbiffaaVsQ
import Derived.Test.YtcbhmedknbiffaaProg
namespace Go.Proofs.Ytcbhmedknbiffaa
open Go Go.RowKit
set_option maxRecDepth 100000
def T : Tab := ⟨[
  ⟨0, 0, .other, []⟩,
  ⟨1, 8, .func, [.nilFunc]⟩,
  ⟨1, 8, .int .i64, [.int .i64 0]⟩,
  ⟨1, 8, .int .i64, [.int .i64 0]⟩,
  ⟨1, 1, .bool, [.bool false]⟩,
  ⟨1, 1, .int .u8, [.int .u8 0]⟩,
  ⟨0, 0, .other, []⟩,
  ⟨0, 0, .other, []⟩,
  ⟨0, 0, .other, []⟩,
  ⟨1, 16, .str, [.string ByteArray.empty]⟩,
  ⟨0, 0, .other, []⟩,
  ⟨0, 0, .other, []⟩,
  ⟨0, 0, .other, []⟩,
  ⟨0, 0, .other, []⟩,
  ⟨0, 0, .other, []⟩,
  ⟨0, 0, .other, []⟩,
  ⟨0, 0, .other, []⟩,
  ⟨0, 0, .other, []⟩,
  ⟨0, 0, .other, []⟩,
  ⟨0, 0, .other, []⟩,
  ⟨0, 0, .other, []⟩,
  ⟨0, 0, .other, []⟩,
  ⟨1, 24, .slice 34, [.slice none 0 0]⟩,
  ⟨1, 24, .slice 29, [.slice none 0 0]⟩,
  ⟨1, 24, .slice 3, [.slice none 0 0]⟩,
  ⟨0, 0, .other, []⟩,
  ⟨4, 40, .struct [(0, 9), (1, 3), (2, 3), (3, 4)], [.string ByteArray.empty, .int .i64 0, .int .i64 0, .bool false]⟩,
  ⟨1, 8, .int .i64, [.int .i64 0]⟩,
  ⟨0, 0, .other, []⟩,
  ⟨15, 136, .struct [(0, 5), (1, 3), (2, 3), (3, 3), (4, 3), (5, 4), (6, 4), (7, 3), (8, 3), (9, 24), (10, 26), (14, 27)], [.int .u8 0, .int .i64 0, .int .i64 0, .int .i64 0, .int .i64 0, .bool false, .bool false, .int .i64 0, .int .i64 0, .slice none 0 0, .string ByteArray.empty, .int .i64 0, .int .i64 0, .bool false, .int .i64 0]⟩,
  ⟨0, 0, .other, []⟩,
  ⟨0, 0, .other, []⟩,
  ⟨0, 0, .other, []⟩,
  ⟨0, 0, .other, []⟩,
  ⟨17, 152, .struct [(0, 3), (1, 3), (2, 29)], [.int .i64 0, .int .i64 0, .int .u8 0, .int .i64 0, .int .i64 0, .int .i64 0, .int .i64 0, .bool false, .bool false, .int .i64 0, .int .i64 0, .slice none 0 0, .string ByteArray.empty, .int .i64 0, .int .i64 0, .bool false, .int .i64 0]⟩,
  ⟨0, 0, .other, []⟩,
  ⟨0, 0, .other, []⟩,
  ⟨0, 0, .other, []⟩,
  ⟨0, 0, .other, []⟩,
  ⟨0, 0, .other, []⟩,
  ⟨0, 0, .other, []⟩,
  ⟨0, 0, .other, []⟩,
  ⟨0, 0, .other, []⟩,
  ⟨0, 0, .other, []⟩,
  ⟨0, 0, .other, []⟩,
  ⟨0, 0, .other, []⟩,
  ⟨0, 0, .other, []⟩,
  ⟨0, 0, .other, []⟩,
  ⟨0, 0, .other, []⟩,
  ⟨0, 0, .other, []⟩,
  ⟨0, 0, .other, []⟩,
  ⟨1, 8, .func, [.nilFunc]⟩,
  ⟨0, 0, .other, []⟩,
  ⟨1, 8, .func, [.nilFunc]⟩,
  ⟨1, 8, .func, [.nilFunc]⟩,
  ⟨0, 0, .other, []⟩,
  ⟨1, 8, .func, [.nilFunc]⟩,
  ⟨0, 0, .other, []⟩,
  ⟨1, 8, .func, [.nilFunc]⟩,
  ⟨1, 8, .func, [.nilFunc]⟩,
  ⟨0, 0, .other, []⟩,
  ⟨0, 0, .other, []⟩,
  ⟨1, 8, .func, [.nilFunc]⟩,
  ⟨0, 0, .other, []⟩,
  ⟨0, 0, .other, []⟩,
  ⟨0, 0, .other, []⟩,
  ⟨0, 0, .other, []⟩,
  ⟨0, 0, .other, []⟩,
  ⟨0, 0, .other, []⟩,
  ⟨0, 0, .other, []⟩,
  ⟨0, 0, .other, []⟩,
  ⟨0, 0, .other, []⟩,
  ⟨0, 0, .other, []⟩,
  ⟨0, 0, .other, []⟩,
  ⟨0, 0, .other, []⟩,
  ⟨0, 0, .other, []⟩,
  ⟨0, 0, .other, []⟩,
  ⟨0, 0, .other, []⟩,
  ⟨0, 0, .other, []⟩,
  ⟨0, 0, .other, []⟩,
  ⟨0, 0, .other, []⟩,
  ⟨0, 0, .other, []⟩,
  ⟨0, 0, .other, []⟩,
  ⟨0, 0, .other, []⟩,
  ⟨0, 0, .other, []⟩,
  ⟨0, 0, .other, []⟩
  ], []⟩
theorem trow1 : RowOK T Try.prog 1 ⟨1, 8, .func, [.nilFunc]⟩ := ⟨Try.t1, _, _, Try.type1, rfl, rfl, rfl, rfl, rfl, rfl, fun h => Bool.noConfusion h, Try.underlying1, rfl, ⟨_, _, _, rfl⟩⟩
theorem trow2 : RowOK T Try.prog 2 ⟨1, 8, .int .i64, [.int .i64 0]⟩ := ⟨Try.t2, _, _, Try.type2, rfl, rfl, rfl, rfl, rfl, rfl, fun h => Bool.noConfusion h, Try.underlying2, rfl, rfl⟩
theorem trow3 : RowOK T Try.prog 3 ⟨1, 8, .int .i64, [.int .i64 0]⟩ := ⟨Try.t3, _, _, Try.type3, rfl, rfl, rfl, rfl, rfl, rfl, fun h => Bool.noConfusion h, Try.underlying3, rfl, rfl⟩
theorem trow4 : RowOK T Try.prog 4 ⟨1, 1, .bool, [.bool false]⟩ := ⟨Try.t4, _, _, Try.type4, rfl, rfl, rfl, rfl, rfl, rfl, fun h => Bool.noConfusion h, Try.underlying4, rfl, rfl⟩
theorem trow5 : RowOK T Try.prog 5 ⟨1, 1, .int .u8, [.int .u8 0]⟩ := ⟨Try.t5, _, _, Try.type5, rfl, rfl, rfl, rfl, rfl, rfl, fun h => Bool.noConfusion h, Try.underlying5, rfl, rfl⟩
theorem trow9 : RowOK T Try.prog 9 ⟨1, 16, .str, [.string ByteArray.empty]⟩ := ⟨Try.t9, _, _, Try.type9, rfl, rfl, rfl, rfl, rfl, rfl, fun h => Bool.noConfusion h, Try.underlying9, rfl, rfl⟩
theorem trow22 : RowOK T Try.prog 22 ⟨1, 24, .slice 34, [.slice none 0 0]⟩ := ⟨Try.t22, _, _, Try.type22, rfl, rfl, rfl, rfl, rfl, rfl, fun h => Bool.noConfusion h, Try.underlying22, rfl, ⟨rfl, by decide⟩⟩
theorem trow23 : RowOK T Try.prog 23 ⟨1, 24, .slice 29, [.slice none 0 0]⟩ := ⟨Try.t23, _, _, Try.type23, rfl, rfl, rfl, rfl, rfl, rfl, fun h => Bool.noConfusion h, Try.underlying23, rfl, ⟨rfl, by decide⟩⟩
theorem trow24 : RowOK T Try.prog 24 ⟨1, 24, .slice 3, [.slice none 0 0]⟩ := ⟨Try.t24, _, _, Try.type24, rfl, rfl, rfl, rfl, rfl, rfl, fun h => Bool.noConfusion h, Try.underlying24, rfl, ⟨rfl, by decide⟩⟩
theorem trow26 : RowOK T Try.prog 26 ⟨4, 40, .struct [(0, 9), (1, 3), (2, 3), (3, 4)], [.string ByteArray.empty, .int .i64 0, .int .i64 0, .bool false]⟩ := ⟨Try.t26, _, _, Try.type26, rfl, rfl, rfl, rfl, rfl, rfl, fun _ => ⟨_, rfl⟩, Try.underlying26, rfl, ⟨⟨_, rfl, rfl, by kernel_rfl⟩, by decide, by kernel_rfl, by kernel_rfl⟩⟩
theorem trow27 : RowOK T Try.prog 27 ⟨1, 8, .int .i64, [.int .i64 0]⟩ := ⟨Try.t27, _, _, Try.type27, rfl, rfl, rfl, rfl, rfl, rfl, fun h => Bool.noConfusion h, Try.underlying27, rfl, rfl⟩
theorem trow29 : RowOK T Try.prog 29 ⟨15, 136, .struct [(0, 5), (1, 3), (2, 3), (3, 3), (4, 3), (5, 4), (6, 4), (7, 3), (8, 3), (9, 24), (10, 26), (14, 27)], [.int .u8 0, .int .i64 0, .int .i64 0, .int .i64 0, .int .i64 0, .bool false, .bool false, .int .i64 0, .int .i64 0, .slice none 0 0, .string ByteArray.empty, .int .i64 0, .int .i64 0, .bool false, .int .i64 0]⟩ := ⟨Try.t29, _, _, Try.type29, rfl, rfl, rfl, rfl, rfl, rfl, fun _ => ⟨_, rfl⟩, Try.underlying29, rfl, ⟨⟨_, rfl, rfl, by kernel_rfl⟩, by decide, by kernel_rfl, by kernel_rfl⟩⟩
theorem trow34 : RowOK T Try.prog 34 ⟨17, 152, .struct [(0, 3), (1, 3), (2, 29)], [.int .i64 0, .int .i64 0, .int .u8 0, .int .i64 0, .int .i64 0, .int .i64 0, .int .i64 0, .bool false, .bool false, .int .i64 0, .int .i64 0, .slice none 0 0, .string ByteArray.empty, .int .i64 0, .int .i64 0, .bool false, .int .i64 0]⟩ := ⟨Try.t34, _, _, Try.type34, rfl, rfl, rfl, rfl, rfl, rfl, fun _ => ⟨_, rfl⟩, Try.underlying34, rfl, ⟨⟨_, rfl, rfl, by kernel_rfl⟩, by decide, by kernel_rfl, by kernel_rfl⟩⟩
theorem trow51 : RowOK T Try.prog 51 ⟨1, 8, .func, [.nilFunc]⟩ := ⟨Try.t51, _, _, Try.type51, rfl, rfl, rfl, rfl, rfl, rfl, fun h => Bool.noConfusion h, Try.underlying51, rfl, ⟨_, _, _, rfl⟩⟩
theorem trow53 : RowOK T Try.prog 53 ⟨1, 8, .func, [.nilFunc]⟩ := ⟨Try.t53, _, _, Try.type53, rfl, rfl, rfl, rfl, rfl, rfl, fun h => Bool.noConfusion h, Try.underlying53, rfl, ⟨_, _, _, rfl⟩⟩
theorem trow54 : RowOK T Try.prog 54 ⟨1, 8, .func, [.nilFunc]⟩ := ⟨Try.t54, _, _, Try.type54, rfl, rfl, rfl, rfl, rfl, rfl, fun h => Bool.noConfusion h, Try.underlying54, rfl, ⟨_, _, _, rfl⟩⟩
theorem trow56 : RowOK T Try.prog 56 ⟨1, 8, .func, [.nilFunc]⟩ := ⟨Try.t56, _, _, Try.type56, rfl, rfl, rfl, rfl, rfl, rfl, fun h => Bool.noConfusion h, Try.underlying56, rfl, ⟨_, _, _, rfl⟩⟩
theorem trow58 : RowOK T Try.prog 58 ⟨1, 8, .func, [.nilFunc]⟩ := ⟨Try.t58, _, _, Try.type58, rfl, rfl, rfl, rfl, rfl, rfl, fun h => Bool.noConfusion h, Try.underlying58, rfl, ⟨_, _, _, rfl⟩⟩
theorem trow59 : RowOK T Try.prog 59 ⟨1, 8, .func, [.nilFunc]⟩ := ⟨Try.t59, _, _, Try.type59, rfl, rfl, rfl, rfl, rfl, rfl, fun h => Bool.noConfusion h, Try.underlying59, rfl, ⟨_, _, _, rfl⟩⟩
theorem trow62 : RowOK T Try.prog 62 ⟨1, 8, .func, [.nilFunc]⟩ := ⟨Try.t62, _, _, Try.type62, rfl, rfl, rfl, rfl, rfl, rfl, fun h => Bool.noConfusion h, Try.underlying62, rfl, ⟨_, _, _, rfl⟩⟩
theorem tok : TOK T Try.prog := TOK.of (by
  show RowsOK T Try.prog 0 _
  exact 
    ⟨fun h => absurd rfl h, ⟨fun _ => trow1, ⟨fun _ => trow2, ⟨fun _ => trow3, ⟨fun _ => trow4, ⟨fun _ => trow5, ⟨fun h => absurd rfl h, ⟨fun h => absurd rfl h, ⟨fun h => absurd rfl h, ⟨fun _ => trow9, ⟨fun h => absurd rfl h, ⟨fun h => absurd rfl h, ⟨fun h => absurd rfl h, ⟨fun h => absurd rfl h, ⟨fun h => absurd rfl h, ⟨fun h => absurd rfl h, ⟨fun h => absurd rfl h, ⟨fun h => absurd rfl h, ⟨fun h => absurd rfl h, ⟨fun h => absurd rfl h, ⟨fun h => absurd rfl h, ⟨fun h => absurd rfl h, ⟨fun _ => trow22, ⟨fun _ => trow23, ⟨fun _ => trow24, ⟨fun h => absurd rfl h, ⟨fun _ => trow26, ⟨fun _ => trow27, ⟨fun h => absurd rfl h, ⟨fun _ => trow29, ⟨fun h => absurd rfl h, ⟨fun h => absurd rfl h, ⟨fun h => absurd rfl h, ⟨fun h => absurd rfl h, ⟨fun _ => trow34, ⟨fun h => absurd rfl h, ⟨fun h => absurd rfl h, ⟨fun h => absurd rfl h, ⟨fun h => absurd rfl h, ⟨fun h => absurd rfl h, ⟨fun h => absurd rfl h, ⟨fun h => absurd rfl h, ⟨fun h => absurd rfl h, ⟨fun h => absurd rfl h, ⟨fun h => absurd rfl h, ⟨fun h => absurd rfl h, ⟨fun h => absurd rfl h, ⟨fun h => absurd rfl h, ⟨fun h => absurd rfl h, ⟨fun h => absurd rfl h, ⟨fun h => absurd rfl h, ⟨fun _ => trow51, ⟨fun h => absurd rfl h, ⟨fun _ => trow53, ⟨fun _ => trow54, ⟨fun h => absurd rfl h, ⟨fun _ => trow56, ⟨fun h => absurd rfl h, ⟨fun _ => trow58, ⟨fun _ => trow59, ⟨fun h => absurd rfl h, ⟨fun h => absurd rfl h, ⟨fun _ => trow62, ⟨fun h => absurd rfl h, ⟨fun h => absurd rfl h, ⟨fun h => absurd rfl h, ⟨fun h => absurd rfl h, ⟨fun h => absurd rfl h, ⟨fun h => absurd rfl h, ⟨fun h => absurd rfl h, ⟨fun h => absurd rfl h, ⟨fun h => absurd rfl h, ⟨fun h => absurd rfl h, ⟨fun h => absurd rfl h, ⟨fun h => absurd rfl h, ⟨fun h => absurd rfl h, ⟨fun h => absurd rfl h, ⟨fun h => absurd rfl h, ⟨fun h => absurd rfl h, ⟨fun h => absurd rfl h, ⟨fun h => absurd rfl h, ⟨fun h => absurd rfl h, ⟨fun h => absurd rfl h, ⟨fun h => absurd rfl h, ⟨fun h => absurd rfl h, ⟨fun h => absurd rfl h, trivial⟩⟩⟩⟩⟩⟩⟩⟩⟩⟩⟩⟩⟩⟩⟩⟩⟩⟩⟩⟩⟩⟩⟩⟩⟩⟩⟩⟩⟩⟩⟩⟩⟩⟩⟩⟩⟩⟩⟩⟩⟩⟩⟩⟩⟩⟩⟩⟩⟩⟩⟩⟩⟩⟩⟩⟩⟩⟩⟩⟩⟩⟩⟩⟩⟩⟩⟩⟩⟩⟩⟩⟩⟩⟩⟩⟩⟩⟩⟩⟩⟩⟩⟩⟩⟩⟩) (by decide)
theorem Tglob : T.glob = [] := rfl
end Go.Proofs.Ytcbhmedknbiffaa
