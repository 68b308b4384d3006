/-
  The functions of this program, evaluated; each is as it is evaluated.
-/
import Derived.Test.YthjhcmkgadfpmaaGreatEvX
namespace Go.Proofs.YthjhcmkgadfpmaaGreat
open Go Go.RowKit
set_option maxRecDepth 100000
abbrev qv14c : List CT := [.int .u8, .int .i64, .int .i64, .int .i64, .int .i64, .bool, .bool, .int .i64, .int .i64, .sl [.int .i64], .str, .int .i64, .int .i64, .bool, .int .i64]
abbrev qv13v : List VP := [.i .u8, .i .i64, .i .i64, .i .i64, .i .i64, .b, .b, .i .i64, .i .i64, .sl false [.int .i64], .s, .i .i64, .i .i64, .b, .i .i64]
abbrev qv12c : List CT := [.int .i64, .int .u8, .int .i64, .int .i64, .int .i64, .int .i64, .bool, .bool, .int .i64, .int .i64, .sl [.int .i64], .str, .int .i64, .int .i64, .bool, .int .i64, .int .u8, .int .i64, .int .i64, .int .i64]
abbrev qv11c : List CT := [.int .i64, .int .i64, .int .u8, .int .i64, .int .i64, .int .i64, .int .i64, .bool, .bool, .int .i64, .int .i64, .sl [.int .i64], .str, .int .i64, .int .i64, .bool, .int .i64]
abbrev qv10v : List VP := [.i .i64, .sl false [.int .i64], .sl false [.int .i64], .i .i64, .i .i64, .i .i64, .i .i64, .i .i64, .i .i64, .i .i64, .i .i64, .i .i64, .i .i64, .i .i64, .i .i64, .i .i64, .i .i64, .i .i64, .i .i64, .i .i64, .i .i64, .i .i64, .i .i64, .sl false qv12c, .sl false qv11c, .i .u8, .i .i64, .i .u8, .i .u8, .i .i64, .i .i64, .i .i64, .b, .b, .i .i64, .s, .i .i64, .i .i64, .b, .i .i64, .sl false [.int .i64], .i .i64, .i .u8, .i .u8, .i .i64, .i .i64, .i .i64, .b, .b, .i .i64, .s, .i .i64, .i .i64, .b, .i .i64, .sl false [.int .i64], .i .i64, .i .u8, .i .u8, .i .i64, .i .i64, .i .i64, .b, .b, .i .i64, .s, .i .i64, .i .i64, .b, .i .i64, .sl false [.int .i64], .i .i64, .i .i64, .s, .sl false [.str, .int .i64, .int .i64, .bool], .i .i64]
def pa23 : List VP := [.sl false qv11c, .agg qv13v]
def sr23 : RShape := ⟨.b, [], none⟩
def ts70 : List LT := [.l qv11c, .i, .i, .i, .i, .i, .b, .b, .i, .i, .l [.int .i64], .s, .i, .i, .b, .i]
def run23 {R : Type} : SF R := runG rb_b pa23 ts70 sr23 false (F23 FUEL)
noncomputable def X23 : Px (Bool) := ⟨T, Tryz.prog, lkF [(39, run39), (21, run21), (22, run22)], mkCuts 23 [], altN, altN_ok⟩
theorem sp23 : SpG T Tryz.prog 23 rb_b pa23 ts70 sr23 F23 :=
  spG (X := X23) tok (sfok_of ⟨ok39, ok21, ok22, trivial⟩) mixed 23 32 [] rfl trivial (by (repeat intro _); show _ = _; kernel_rfl)
theorem ok23 {R : Type} : SFone T Tryz.prog 23 (run23 : SF R) := okG sp23
def pa7 : List VP := [.agg qv10v, .agg [.s, .i .i64, .i .i64, .b], .i .i64, .sl false qv14c]
def sr7 : RShape := ⟨.b, [], none⟩
def ts71 : List LT := [.i, .l [.int .i64], .l [.int .i64], .i, .i, .i, .i, .i, .i, .i, .i, .i, .i, .i, .i, .i, .i, .i, .i, .i, .i, .i, .i, .l qv12c, .l qv11c, .i, .i, .i, .i, .i, .i, .i, .b, .b, .i, .s, .i, .i, .b, .i, .l [.int .i64], .i, .i, .i, .i, .i, .i, .b, .b, .i, .s, .i, .i, .b, .i, .l [.int .i64], .i, .i, .i, .i, .i, .i, .b, .b, .i, .s, .i, .i, .b, .i, .l [.int .i64], .i, .i, .s, .l [.str, .int .i64, .int .i64, .bool], .i, .s, .i, .i, .b, .i, .l qv14c]
def sh7_0 : Shape := ⟨[(156, [(2, .i .i64), (3, .sl false qv14c), (5, .ref 0 0), (10, .ref 1 0), (11, .ref 2 0), (13, .i .i64)])], [.cells [.s, .i .i64, .i .i64, .b], .cells [.i .u8, .i .i64, .i .i64, .i .i64, .i .i64, .b, .b, .i .i64, .i .i64, .nil, .s, .i .i64, .i .i64, .b, .i .i64], .cells [.i .i64, .sl true [.int .i64], .sl true [.int .i64], .i .i64, .i .i64, .i .i64, .i .i64, .i .i64, .i .i64, .i .i64, .i .i64, .i .i64, .i .i64, .i .i64, .i .i64, .i .i64, .i .i64, .i .i64, .i .i64, .i .i64, .i .i64, .i .i64, .i .i64, .sl true qv12c, .sl true qv11c, .i .u8, .i .i64, .i .u8, .i .u8, .i .i64, .i .i64, .i .i64, .b, .b, .i .i64, .s, .i .i64, .i .i64, .b, .i .i64, .sl true [.int .i64], .i .i64, .i .u8, .i .u8, .i .i64, .i .i64, .i .i64, .b, .b, .i .i64, .s, .i .i64, .i .i64, .b, .i .i64, .sl true [.int .i64], .i .i64, .i .u8, .i .u8, .i .i64, .i .i64, .i .i64, .b, .b, .i .i64, .s, .i .i64, .i .i64, .b, .i .i64, .sl true [.int .i64], .i .i64, .i .i64, .s, .sl true [.str, .int .i64, .int .i64, .bool], .i .i64], .gone, .gone, .gone, .gone]⟩
def ts72 : List LT := [.i, .l qv14c, .i, .s, .i, .i, .b, .i, .i, .i, .i, .i, .b, .b, .i, .i, .s, .i, .i, .b, .i, .i, .l [.int .i64], .l [.int .i64], .i, .i, .i, .i, .i, .i, .i, .i, .i, .i, .i, .i, .i, .i, .i, .i, .i, .i, .i, .i, .l qv12c, .l qv11c, .i, .i, .i, .i, .i, .i, .i, .b, .b, .i, .s, .i, .i, .b, .i, .l [.int .i64], .i, .i, .i, .i, .i, .i, .b, .b, .i, .s, .i, .i, .b, .i, .l [.int .i64], .i, .i, .i, .i, .i, .i, .b, .b, .i, .s, .i, .i, .b, .i, .l [.int .i64], .i, .i, .s, .l [.str, .int .i64, .int .i64, .bool], .i]
def cuts7 : List (List Nat × Cut (Bool)) := [([1, 1, 1, 1, 1, 1, 1, 0, 1, 0], cutG sh7_0 ts72 F7_c0)]
noncomputable def X7 : Px (Bool) := ⟨T, Tryz.prog, lkF [(8, run8), (10, run10), (16, run16), (29, run29), (30, run30), (23, run23), (11, run11), (9, run9), (31, run31)], mkCuts 7 cuts7, altN, altN_ok⟩
theorem k7 : AllCuts X7 32 7 (endK sr7 (toG rb_b)) cuts7 :=
  ⟨cutG_ok (by (repeat intro _); show _ = _; kernel_rfl) (by (repeat intro _); show _ = _; kernel_rfl), trivial⟩
theorem sp7 : SpG T Tryz.prog 7 rb_b pa7 ts71 sr7 F7 :=
  spG (X := X7) tok (sfok_of ⟨ok8, ok10, ok16, ok29, ok30, ok23, ok11, ok9, ok31, trivial⟩) mixed 7 32 cuts7 rfl k7 (by (repeat intro _); show _ = _; kernel_rfl)
end Go.Proofs.YthjhcmkgadfpmaaGreat
