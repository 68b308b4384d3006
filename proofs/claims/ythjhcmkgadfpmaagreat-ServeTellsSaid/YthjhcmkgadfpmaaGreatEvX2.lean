/-
 The functions of this program, evaluated; each is as it is evaluated.
-/
import Derived.Test.YthjhcmkgadfpmaaGreatEvX
namespace Go.Proofs.YthjhcmkgadfpmaaGreat
open Go Go.RowKit
set_option maxRecDepth 100000
abbrev qv12c : List CT := [.int .u8, .int .i64, .int .i64, .int .i64, .int .i64, .bool, .bool, .int .i64, .int .i64, .sl [.int .i64], .str, .int .i64, .int .i64, .bool, .int .i64]
abbrev qv11c : List CT := [.int .i64, .int .i64, .int .u8, .int .i64, .int .i64, .int .i64, .int .i64, .bool, .bool, .int .i64, .int .i64, .sl [.int .i64], .str, .int .i64, .int .i64, .bool, .int .i64]
abbrev qv10c : List CT := [.int .i64, .int .u8, .int .i64, .int .i64, .int .i64, .int .i64, .bool, .bool, .int .i64, .int .i64, .sl [.int .i64], .str, .int .i64, .int .i64, .bool, .int .i64, .int .u8, .int .i64, .int .i64, .int .i64]
def sr7 : jg := ⟨.b, [], none⟩
def sh7_0 : qd := ⟨[(156, [(2, .i .i64), (3, .sl false qv12c), (5, .ref 0 0), (10, .ref 1 0), (11, .ref 2 0), (13, .i .i64)])], [.cells [.s, .i .i64, .i .i64, .b], .cells [.i .u8, .i .i64, .i .i64, .i .i64, .i .i64, .b, .b, .i .i64, .i .i64, .nil, .s, .i .i64, .i .i64, .b, .i .i64], .cells [.i .i64, .sl true [.int .i64], .sl true [.int .i64], .i .i64, .i .i64, .i .i64, .i .i64, .i .i64, .i .i64, .i .i64, .i .i64, .i .i64, .i .i64, .i .i64, .i .i64, .i .i64, .i .i64, .i .i64, .i .i64, .i .i64, .i .i64, .i .i64, .i .i64, .sl true qv10c, .sl true qv11c, .i .u8, .i .i64, .i .u8, .i .u8, .i .i64, .i .i64, .i .i64, .b, .b, .i .i64, .s, .i .i64, .i .i64, .b, .i .i64, .sl true [.int .i64], .i .i64, .i .u8, .i .u8, .i .i64, .i .i64, .i .i64, .b, .b, .i .i64, .s, .i .i64, .i .i64, .b, .i .i64, .sl true [.int .i64], .i .i64, .i .u8, .i .u8, .i .i64, .i .i64, .i .i64, .b, .b, .i .i64, .s, .i .i64, .i .i64, .b, .i .i64, .sl true [.int .i64], .i .i64, .i .i64, .s, .sl true [.str, .int .i64, .int .i64, .bool], .i .i64], .gone, .gone, .gone, .gone]⟩
def ts72 : List LT := [.i, .l qv12c, .i, .s, .i, .i, .b, .i, .i, .i, .i, .i, .b, .b, .i, .i, .s, .i, .i, .b, .i, .i, .l [.int .i64], .l [.int .i64], .i, .i, .i, .i, .i, .i, .i, .i, .i, .i, .i, .i, .i, .i, .i, .i, .i, .i, .i, .i, .l qv10c, .l qv11c, .i, .i, .i, .i, .i, .i, .i, .b, .b, .i, .s, .i, .i, .b, .i, .l [.int .i64], .i, .i, .i, .i, .i, .i, .b, .b, .i, .s, .i, .i, .b, .i, .l [.int .i64], .i, .i, .i, .i, .i, .i, .b, .b, .i, .s, .i, .i, .b, .i, .l [.int .i64], .i, .i, .s, .l [.str, .int .i64, .int .i64, .bool], .i]
def cuts7 : List (List Nat × Cut (Bool)) := [([1, 1, 1, 1, 1, 1, 1, 0, 1, 0], cutG sh7_0 ts72 F7_c0)]
noncomputable def X7 : Px (Bool) := ⟨T, Tryz.prog, lkF [(8, run8), (10, run10), (16, run16), (29, jzr), (30, run30), (23, run23), (11, run11), (9, run9), (31, run31)], ji 7 cuts7, altN, jd⟩
theorem k7 : AllCuts X7 32 7 (endK sr7 (toG rb_b)) cuts7 :=
 ⟨jm (by (repeat intro _); show _ = _; kernel_rfl) (by (repeat intro _); show _ = _; kernel_rfl), trivial⟩
end Go.Proofs.YthjhcmkgadfpmaaGreat
