/-
 The functions of this program, evaluated; each is as it is evaluated.
-/
import Derived.Test.YthjhcmkgadfpmaaGreatEvR
import Derived.Test.YthjhcmkgadfpmaaGreatEvY
import Derived.Test.YthjhcmkgadfpmaaGreatVsT
import Derived.KernelRfl
namespace Go.Proofs.YthjhcmkgadfpmaaGreat
open Go Go.RowKit
set_option maxRecDepth 100000
theorem mixed : Tryz.prog.follows .mixedOrders = true := by kernel_rfl
abbrev qv018v : List VP := [.i .u8, .i .u8, .i .i64, .i .i64, .i .i64, .b, .b, .i .i64, .s, .i .i64, .i .i64, .b, .i .i64, .row 0, .i .i64]
abbrev qv017v : List VP := [.i .u8, .i .i64, .i .i64, .i .i64, .i .i64, .b, .b, .i .i64, .i .i64, .sl true [.int .i64], .s, .i .i64, .i .i64, .b, .i .i64]
abbrev qv016v : List VP := [.i .i64, .i .i64, .i .i64, .i .i64, .i .i64, .i .i64, .i .i64, .i .i64, .i .i64, .i .i64, .i .i64, .i .i64, .i .i64, .i .i64, .i .i64, .i .i64]
abbrev qv015v : List VP := [.agg [.i .i64, .i .i64, .i .u8, .i .i64, .i .i64, .i .i64, .i .i64, .b, .b, .i .i64, .i .i64, .sl true [.int .i64], .s, .i .i64, .i .i64, .b, .i .i64], .i .i64]
abbrev qv014v : List VP := [.i .i64, .row 2, .row 3, .i .i64, .i .i64, .i .i64, .i .i64, .i .i64, .i .i64, .i .i64, .i .i64, .i .i64, .i .i64, .i .i64, .i .i64, .i .i64, .i .i64, .i .i64, .i .i64, .i .i64]
abbrev qv013v : List VP := [.agg [.s, .i .i64, .i .i64, .b], .agg [.s, .i .i64, .i .i64, .b]]
abbrev qv012v : List VP := [.i .u8, .i .i64, .i .i64, .i .i64, .i .i64, .b, .b, .i .i64, .i .i64, .row 0, .s, .i .i64, .i .i64, .b, .i .i64]
abbrev qv011v : List VP := [.i .u8, .i .i64, .i .i64, .i .i64, .i .i64, .b, .b, .i .i64, .i .i64, .opq 0, .s, .i .i64, .i .i64, .b, .i .i64]
abbrev qv010v : List VP := [.i .i64, .row 0, .row 1, .i .i64, .i .i64, .i .i64, .i .i64, .i .i64, .i .i64, .i .i64, .i .i64, .i .i64, .i .i64, .i .i64, .i .i64, .i .i64, .i .i64, .i .i64, .i .i64, .i .i64]
abbrev qv09v : List VP := [.i .i64, .row 0, .row 1, .i .i64, .i .i64, .i .i64, .i .i64, .i .i64, .i .i64, .i .i64, .i .i64, .i .i64, .i .i64, .i .i64, .i .i64, .i .i64, .i .i64, .i .i64, .i .i64, .i .i64, .i .i64, .i .i64, .i .i64, .row 2, .row 3, .i .u8, .i .i64, .i .u8, .i .u8, .i .i64, .i .i64, .i .i64, .b, .b, .i .i64, .s, .i .i64, .i .i64, .b, .i .i64, .row 4, .i .i64, .i .u8, .i .u8, .i .i64, .i .i64, .i .i64, .b, .b, .i .i64, .s, .i .i64, .i .i64, .b, .i .i64, .row 5, .i .i64, .i .u8, .i .u8, .i .i64, .i .i64, .i .i64, .b, .b, .i .i64, .s, .i .i64, .i .i64, .b, .i .i64, .row 6, .i .i64, .i .i64, .s, .row 7, .i .i64]
abbrev qv08v : List VP := [.i .u8, .i .i64, .i .i64, .i .i64, .i .i64, .b, .b, .i .i64, .i .i64, .nil, .s, .i .i64, .i .i64, .b, .i .i64]
abbrev qv07v : List VP := [.i .i64, .i .u8, .i .i64, .i .i64, .i .i64, .i .i64, .b, .b, .i .i64, .i .i64, .sl false [.int .i64], .s, .i .i64, .i .i64, .b, .i .i64, .i .u8, .i .i64, .i .i64, .i .i64]
abbrev qv06v : List VP := [.i .u8, .i .u8, .i .i64, .i .i64, .i .i64, .b, .b, .i .i64, .s, .i .i64, .i .i64, .b, .i .i64, .sl false [.int .i64], .i .i64]
abbrev qv05c : List CT := [.int .u8, .int .i64, .int .i64, .int .i64, .int .i64, .bool, .bool, .int .i64, .int .i64, .sl [.int .i64], .str, .int .i64, .int .i64, .bool, .int .i64]
abbrev qv04v : List VP := [.i .u8, .i .i64, .i .i64, .i .i64, .i .i64, .b, .b, .i .i64, .i .i64, .sl false [.int .i64], .s, .i .i64, .i .i64, .b, .i .i64]
abbrev qv03v : List VP := [.i .i64, .sl false [.int .i64], .sl false [.int .i64], .i .i64, .i .i64, .i .i64, .i .i64, .i .i64, .i .i64, .i .i64, .i .i64, .i .i64, .i .i64, .i .i64, .i .i64, .i .i64, .i .i64, .i .i64, .i .i64, .i .i64]
abbrev qv02c : List CT := [.int .i64, .int .u8, .int .i64, .int .i64, .int .i64, .int .i64, .bool, .bool, .int .i64, .int .i64, .sl [.int .i64], .str, .int .i64, .int .i64, .bool, .int .i64, .int .u8, .int .i64, .int .i64, .int .i64]
abbrev qv01c : List CT := [.int .i64, .int .i64, .int .u8, .int .i64, .int .i64, .int .i64, .int .i64, .bool, .bool, .int .i64, .int .i64, .sl [.int .i64], .str, .int .i64, .int .i64, .bool, .int .i64]
abbrev qv00v : List VP := [.i .i64, .sl false [.int .i64], .sl false [.int .i64], .i .i64, .i .i64, .i .i64, .i .i64, .i .i64, .i .i64, .i .i64, .i .i64, .i .i64, .i .i64, .i .i64, .i .i64, .i .i64, .i .i64, .i .i64, .i .i64, .i .i64, .i .i64, .i .i64, .i .i64, .sl false qv02c, .sl false qv01c, .i .u8, .i .i64, .i .u8, .i .u8, .i .i64, .i .i64, .i .i64, .b, .b, .i .i64, .s, .i .i64, .i .i64, .b, .i .i64, .sl false [.int .i64], .i .i64, .i .u8, .i .u8, .i .i64, .i .i64, .i .i64, .b, .b, .i .i64, .s, .i .i64, .i .i64, .b, .i .i64, .sl false [.int .i64], .i .i64, .i .u8, .i .u8, .i .i64, .i .i64, .i .i64, .b, .b, .i .i64, .s, .i .i64, .i .i64, .b, .i .i64, .sl false [.int .i64], .i .i64, .i .i64, .s, .sl false [.str, .int .i64, .int .i64, .bool], .i .i64]
def pa32 : List VP := [.agg qv03v]
def sr32 : RShape := ⟨.b, [], none⟩
def rb_b : RB (Bool) [.b] := ⟨fun x => x, fun y => (y, ()), fun _ => rfl⟩
def ts0 : List LT := [.i, .l [.int .i64], .l [.int .i64], .i, .i, .i, .i, .i, .i, .i, .i, .i, .i, .i, .i, .i, .i, .i, .i, .i]
def run32 {R : Type} : SF R := runG rb_b pa32 ts0 sr32 false (F32 FUEL)
noncomputable def X32 : Px (Bool) := ⟨T, Tryz.prog, lkF [], mkCuts 32 [], altN, altN_ok⟩
theorem sp32 : SpG T Tryz.prog 32 rb_b pa32 ts0 sr32 F32 :=
 spG (X := X32) tok (sfok_of trivial) mixed 32 32 [] rfl trivial (by (repeat intro _); show _ = _; kernel_rfl)
def pa33 : List VP := [.agg [.i .i64, .i .i64, .sl false qv02c]]
def sr33 : RShape := ⟨.b, [], none⟩
def ts1 : List LT := [.i, .i, .l qv02c]
def run33 {R : Type} : SF R := runG rb_b pa33 ts1 sr33 false (F33 FUEL)
def sh33_0 : Shape := ⟨[(40, [(1, .ref 0 0), (3, .i .i64)])], [.cells [.i .i64, .i .i64, .sl false qv02c]]⟩
def ts2 : List LT := [.i, .i, .i, .l qv02c]
def cuts33 : List (List Nat × Cut (Bool)) := [([1, 0, 1, 0], cutG sh33_0 ts2 F33_c0)]
noncomputable def X33 : Px (Bool) := ⟨T, Tryz.prog, lkF [], mkCuts 33 cuts33, altN, altN_ok⟩
theorem k33 : AllCuts X33 32 33 (endK sr33 (toG rb_b)) cuts33 :=
 ⟨cutG_ok (by (repeat intro _); show _ = _; kernel_rfl) (by (repeat intro _); show _ = _; kernel_rfl), trivial⟩
theorem sp33 : SpG T Tryz.prog 33 rb_b pa33 ts1 sr33 F33 :=
 spG (X := X33) tok (sfok_of trivial) mixed 33 32 cuts33 rfl k33 (by (repeat intro _); show _ = _; kernel_rfl)
def pa8 : List VP := [.agg qv00v]
def sr8 : RShape := ⟨.b, [], none⟩
def ts3 : List LT := [.i, .l [.int .i64], .l [.int .i64], .i, .i, .i, .i, .i, .i, .i, .i, .i, .i, .i, .i, .i, .i, .i, .i, .i, .i, .i, .i, .l qv02c, .l qv01c, .i, .i, .i, .i, .i, .i, .i, .b, .b, .i, .s, .i, .i, .b, .i, .l [.int .i64], .i, .i, .i, .i, .i, .i, .b, .b, .i, .s, .i, .i, .b, .i, .l [.int .i64], .i, .i, .i, .i, .i, .i, .b, .b, .i, .s, .i, .i, .b, .i, .l [.int .i64], .i, .i, .s, .l [.str, .int .i64, .int .i64, .bool], .i]
def run8 {R : Type} : SF R := runG rb_b pa8 ts3 sr8 false (F8 FUEL)
def sh8_0 : Shape := ⟨[(95, [(1, .ref 0 0), (3, .i .i64)])], [.cells qv00v]⟩
def sh8_1 : Shape := ⟨[(95, [(1, .ref 0 0), (4, .i .i64)])], [.cells qv00v]⟩
def ts4 : List LT := [.i, .i, .l [.int .i64], .l [.int .i64], .i, .i, .i, .i, .i, .i, .i, .i, .i, .i, .i, .i, .i, .i, .i, .i, .i, .i, .i, .i, .l qv02c, .l qv01c, .i, .i, .i, .i, .i, .i, .i, .b, .b, .i, .s, .i, .i, .b, .i, .l [.int .i64], .i, .i, .i, .i, .i, .i, .b, .b, .i, .s, .i, .i, .b, .i, .l [.int .i64], .i, .i, .i, .i, .i, .i, .b, .b, .i, .s, .i, .i, .b, .i, .l [.int .i64], .i, .i, .s, .l [.str, .int .i64, .int .i64, .bool], .i]
def cuts8 : List (List Nat × Cut (Bool)) := [([1, 1, 0, 1, 0], cutG sh8_0 ts4 F8_c0), ([1, 1, 1, 0, 1, 0], cutG sh8_1 ts4 F8_c1)]
noncomputable def X8 : Px (Bool) := ⟨T, Tryz.prog, lkF [(32, run32), (33, run33)], mkCuts 8 cuts8, altN, altN_ok⟩
theorem k8 : AllCuts X8 32 8 (endK sr8 (toG rb_b)) cuts8 :=
 ⟨cutG_ok (by (repeat intro _); show _ = _; kernel_rfl) (by (repeat intro _); show _ = _; kernel_rfl), cutG_ok (by (repeat intro _); show _ = _; kernel_rfl) (by (repeat intro _); show _ = _; kernel_rfl), trivial⟩
theorem sp8 : SpG T Tryz.prog 8 rb_b pa8 ts3 sr8 F8 :=
 spG (X := X8) tok (sfok_of ⟨okG sp32, okG sp33, trivial⟩) mixed 8 32 cuts8 rfl k8 (by (repeat intro _); show _ = _; kernel_rfl)
def pa9 : List VP := [.agg qv04v]
def sr9 : RShape := ⟨.b, [], none⟩
def ts5 : List LT := [.i, .i, .i, .i, .i, .b, .b, .i, .i, .l [.int .i64], .s, .i, .i, .b, .i]
def run9 {R : Type} : SF R := runG rb_b pa9 ts5 sr9 false (F9 FUEL)
noncomputable def X9 : Px (Bool) := ⟨T, Tryz.prog, lkF [], mkCuts 9 [], altN, altN_ok⟩
theorem sp9 : SpG T Tryz.prog 9 rb_b pa9 ts5 sr9 F9 :=
 spG (X := X9) tok (sfok_of trivial) mixed 9 32 [] rfl trivial (by (repeat intro _); show _ = _; kernel_rfl)
def pa137 : List VP := [.i .i64]
def sr137 : RShape := ⟨.b, [], none⟩
def run137 {R : Type} : SF R := runG rb_b pa137 [.i] sr137 false (F137 FUEL)
noncomputable def X137 : Px (Bool) := ⟨T, Tryz.prog, lkF [], mkCuts 137 [], altN, altN_ok⟩
theorem sp137 : SpG T Tryz.prog 137 rb_b pa137 [.i] sr137 F137 :=
 spG (X := X137) tok (sfok_of trivial) mixed 137 32 [] rfl trivial (by (repeat intro _); show _ = _; kernel_rfl)
def pa175 : List VP := [.i .i64]
def sr175 : RShape := ⟨.b, [], none⟩
def run175 {R : Type} : SF R := runG rb_b pa175 [.i] sr175 false (F175 FUEL)
noncomputable def X175 : Px (Bool) := ⟨T, Tryz.prog, lkF [], mkCuts 175 [], altN, altN_ok⟩
theorem sp175 : SpG T Tryz.prog 175 rb_b pa175 [.i] sr175 F175 :=
 spG (X := X175) tok (sfok_of trivial) mixed 175 32 [] rfl trivial (by (repeat intro _); show _ = _; kernel_rfl)
def pa155 : List VP := [.i .i64]
def sr155 : RShape := ⟨.i .i64, [], none⟩
def rb_i : RB (Int) [.i] := ⟨fun x => x, fun y => (y, ()), fun _ => rfl⟩
def run155 {R : Type} : SF R := runG rb_i pa155 [.i] sr155 false (F155 FUEL)
noncomputable def X155 : Px (Int) := ⟨T, Tryz.prog, lkF [], mkCuts 155 [], altN, altN_ok⟩
theorem sp155 : SpG T Tryz.prog 155 rb_i pa155 [.i] sr155 F155 :=
 spG (X := X155) tok (sfok_of trivial) mixed 155 32 [] rfl trivial (by (repeat intro _); show _ = _; kernel_rfl)
def pa105 : List VP := [.i .i64, .i .i64]
def sr105 : RShape := ⟨.i .i64, [], none⟩
def run105 {R : Type} : SF R := runG rb_i pa105 [.i, .i] sr105 false (F105 FUEL)
noncomputable def X105 : Px (Int) := ⟨T, Tryz.prog, lkF [(155, run155)], mkCuts 105 [], altN, altN_ok⟩
theorem sp105 : SpG T Tryz.prog 105 rb_i pa105 [.i, .i] sr105 F105 :=
 spG (X := X105) tok (sfok_of ⟨okG sp155, trivial⟩) mixed 105 32 [] rfl trivial (by (repeat intro _); show _ = _; kernel_rfl)
def pa176 : List VP := [.i .i64, .i .i64, .i .i64]
def sr176 : RShape := ⟨.b, [], none⟩
def run176 {R : Type} : SF R := runG rb_b pa176 [.i, .i, .i] sr176 false (F176 FUEL)
noncomputable def X176 : Px (Bool) := ⟨T, Tryz.prog, lkF [(105, run105)], mkCuts 176 [], altN, altN_ok⟩
theorem sp176 : SpG T Tryz.prog 176 rb_b pa176 [.i, .i, .i] sr176 F176 :=
 spG (X := X176) tok (sfok_of ⟨okG sp105, trivial⟩) mixed 176 32 [] rfl trivial (by (repeat intro _); show _ = _; kernel_rfl)
def pa138 : List VP := [.i .i64, .sl false [.int .i64]]
def sr138 : RShape := ⟨.b, [], none⟩
def run138 {R : Type} : SF R := runG rb_b pa138 [.i, .l [.int .i64]] sr138 false (F138 FUEL)
def sh138_0 : Shape := ⟨[(48, [(0, .i .i64), (1, .sl false [.int .i64]), (5, .i .i64)])], []⟩
def cuts138 : List (List Nat × Cut (Bool)) := [([1, 0, 1, 0], cutG sh138_0 [.i, .l [.int .i64], .i] F138_c0)]
noncomputable def X138 : Px (Bool) := ⟨T, Tryz.prog, lkF [(175, run175), (155, run155), (176, run176)], mkCuts 138 cuts138, altN, altN_ok⟩
theorem k138 : AllCuts X138 32 138 (endK sr138 (toG rb_b)) cuts138 :=
 ⟨cutG_ok (by (repeat intro _); show _ = _; kernel_rfl) (by (repeat intro _); show _ = _; kernel_rfl), trivial⟩
theorem sp138 : SpG T Tryz.prog 138 rb_b pa138 [.i, .l [.int .i64]] sr138 F138 :=
 spG (X := X138) tok (sfok_of ⟨okG sp175, okG sp155, okG sp176, trivial⟩) mixed 138 32 cuts138 rfl k138 (by (repeat intro _); show _ = _; kernel_rfl)
def pa139 : List VP := [.agg qv03v, .i .i64]
def sr139 : RShape := ⟨.b, [], none⟩
def ts6 : List LT := [.i, .l [.int .i64], .l [.int .i64], .i, .i, .i, .i, .i, .i, .i, .i, .i, .i, .i, .i, .i, .i, .i, .i, .i, .i]
def run139 {R : Type} : SF R := runG rb_b pa139 ts6 sr139 false (F139 FUEL)
noncomputable def X139 : Px (Bool) := ⟨T, Tryz.prog, lkF [(137, run137)], mkCuts 139 [], altN, altN_ok⟩
theorem sp139 : SpG T Tryz.prog 139 rb_b pa139 ts6 sr139 F139 :=
 spG (X := X139) tok (sfok_of ⟨okG sp137, trivial⟩) mixed 139 32 [] rfl trivial (by (repeat intro _); show _ = _; kernel_rfl)
def pa66 : List VP := [.agg qv03v]
def sr66 : RShape := ⟨.b, [], none⟩
def run66 {R : Type} : SF R := runG rb_b pa66 ts0 sr66 false (F66 FUEL)
def sh66_0 : Shape := ⟨[(79, [(1, .ref 0 0), (3, .i .i64)])], [.cells qv03v]⟩
def sh66_1 : Shape := ⟨[(79, [(1, .ref 0 0), (4, .i .i64)])], [.cells qv03v]⟩
def ts7 : List LT := [.i, .i, .l [.int .i64], .l [.int .i64], .i, .i, .i, .i, .i, .i, .i, .i, .i, .i, .i, .i, .i, .i, .i, .i, .i]
def cuts66 : List (List Nat × Cut (Bool)) := [([1, 1, 0, 1, 0], cutG sh66_0 ts7 F66_c0), ([1, 1, 1, 0, 1, 0], cutG sh66_1 ts7 F66_c1)]
noncomputable def X66 : Px (Bool) := ⟨T, Tryz.prog, lkF [(137, run137), (138, run138), (139, run139)], mkCuts 66 cuts66, altN, altN_ok⟩
theorem k66 : AllCuts X66 32 66 (endK sr66 (toG rb_b)) cuts66 :=
 ⟨cutG_ok (by (repeat intro _); show _ = _; kernel_rfl) (by (repeat intro _); show _ = _; kernel_rfl), cutG_ok (by (repeat intro _); show _ = _; kernel_rfl) (by (repeat intro _); show _ = _; kernel_rfl), trivial⟩
theorem sp66 : SpG T Tryz.prog 66 rb_b pa66 ts0 sr66 F66 :=
 spG (X := X66) tok (sfok_of ⟨okG sp137, okG sp138, okG sp139, trivial⟩) mixed 66 32 cuts66 rfl k66 (by (repeat intro _); show _ = _; kernel_rfl)
def pa107 : List VP := [.i .i64, .sl false [.int .i64]]
def sr107 : RShape := ⟨.tup [.agg [.i .i64, .row 0, .nil, .i .i64, .i .i64, .i .i64, .i .i64, .i .i64, .i .i64, .i .i64, .i .i64, .i .i64, .i .i64, .i .i64, .i .i64, .i .i64, .i .i64, .i .i64, .i .i64, .i .i64], .i .i64], [.row true [.int .i64]], none⟩
def rbSi19l : RB (Si19l) [.i, .i, .i, .i, .i, .i, .i, .i, .i, .i, .i, .i, .i, .i, .i, .i, .i, .i, .i, .l [.int .i64]] := ⟨Si19l.mk, fun y => (y.q0, y.q1, y.q2, y.q3, y.q4, y.q5, y.q6, y.q7, y.q8, y.q9, y.q10, y.q11, y.q12, y.q13, y.q14, y.q15, y.q16, y.q17, y.q18, y.q19, ()), fun _ => rfl⟩
def run107 {R : Type} : SF R := runG rbSi19l pa107 [.i, .l [.int .i64]] sr107 false (F107 FUEL)
def sh107_0 : Shape := ⟨[(25, [(4, .ref 0 0), (6, .ref 1 0), (7, .i .i64)])], [.cells [.ci .i64 (0), .nil, .nil, .ci .i64 (0), .ci .i64 (0), .ci .i64 (0), .ci .i64 (0), .ci .i64 (0), .ci .i64 (0), .ci .i64 (0), .ci .i64 (0), .ci .i64 (0), .ci .i64 (0), .ci .i64 (0), .ci .i64 (0), .ci .i64 (0), .ci .i64 (0), .ci .i64 (0), .ci .i64 (0), .ci .i64 (0)], .cells [.i .i64, .row 2, .nil, .ci .i64 (-1), .i .i64, .i .i64, .i .i64, .i .i64, .i .i64, .i .i64, .i .i64, .i .i64, .i .i64, .i .i64, .i .i64, .i .i64, .i .i64, .i .i64, .i .i64, .i .i64], .row true [.int .i64]]⟩
def ts8 : List LT := [.i, .i, .i, .i, .i, .i, .i, .i, .i, .i, .i, .i, .i, .i, .i, .i, .i, .i, .l [.int .i64]]
def cuts107 : List (List Nat × Cut (Si19l)) := [([1, 1, 0, 1, 0], cutG sh107_0 ts8 F107_c0)]
noncomputable def X107 : Px (Si19l) := ⟨T, Tryz.prog, lkF [(66, run66)], mkCuts 107 cuts107, altN, altN_ok⟩
theorem k107 : AllCuts X107 32 107 (endK sr107 (toG rbSi19l)) cuts107 :=
 ⟨cutG_ok (by (repeat intro _); show _ = _; kernel_rfl) (by (repeat intro _); show _ = _; kernel_rfl), trivial⟩
theorem sp107 : SpG T Tryz.prog 107 rbSi19l pa107 [.i, .l [.int .i64]] sr107 F107 :=
 spG (X := X107) tok (sfok_of ⟨okG sp66, trivial⟩) mixed 107 32 cuts107 rfl k107 (by (repeat intro _); show _ = _; kernel_rfl)
def pa92 : List VP := [.i .i64]
def sr92 : RShape := ⟨.b, [], none⟩
def run92 {R : Type} : SF R := runG rb_b pa92 [.i] sr92 false (F92 FUEL)
noncomputable def X92 : Px (Bool) := ⟨T, Tryz.prog, lkF [], mkCuts 92 [], altN, altN_ok⟩
theorem sp92 : SpG T Tryz.prog 92 rb_b pa92 [.i] sr92 F92 :=
 spG (X := X92) tok (sfok_of trivial) mixed 92 32 [] rfl trivial (by (repeat intro _); show _ = _; kernel_rfl)
def pa22 : List VP := [.agg qv04v]
def sr22 : RShape := ⟨.b, [], none⟩
def run22 {R : Type} : SF R := runG rb_b pa22 ts5 sr22 false (F22 FUEL)
noncomputable def X22 : Px (Bool) := ⟨T, Tryz.prog, lkF [], mkCuts 22 [], altN, altN_ok⟩
theorem sp22 : SpG T Tryz.prog 22 rb_b pa22 ts5 sr22 F22 :=
 spG (X := X22) tok (sfok_of trivial) mixed 22 32 [] rfl trivial (by (repeat intro _); show _ = _; kernel_rfl)
def pa93 : List VP := [.agg qv04v]
def sr93 : RShape := ⟨.i .i64, [], none⟩
def run93 {R : Type} : SF R := runG rb_i pa93 ts5 sr93 false (F93 FUEL)
noncomputable def X93 : Px (Int) := ⟨T, Tryz.prog, lkF [(22, run22)], mkCuts 93 [], altN, altN_ok⟩
theorem sp93 : SpG T Tryz.prog 93 rb_i pa93 ts5 sr93 F93 :=
 spG (X := X93) tok (sfok_of ⟨okG sp22, trivial⟩) mixed 93 32 [] rfl trivial (by (repeat intro _); show _ = _; kernel_rfl)
def pa94 : List VP := [.agg qv011v]
def sr94 : RShape := ⟨.agg qv011v, [], some (.agg qv08v)⟩
def rbSbi5b2i2si2bi : RB (Sbi5b2i2si2bi) [.b, .i, .i, .i, .i, .i, .b, .b, .i, .i, .s, .i, .i, .b, .i] := ⟨Sbi5b2i2si2bi.mk, fun y => (y.q0, y.q1, y.q2, y.q3, y.q4, y.q5, y.q6, y.q7, y.q8, y.q9, y.q10, y.q11, y.q12, y.q13, y.q14, ()), fun _ => rfl⟩
def ts9 : List LT := [.i, .i, .i, .i, .i, .b, .b, .i, .i, .s, .i, .i, .b, .i]
def run94 {R : Type} : SF R := runG rbSbi5b2i2si2bi pa94 ts9 sr94 false (F94 FUEL)
noncomputable def X94 : Px (Sbi5b2i2si2bi) := ⟨T, Tryz.prog, lkF [], mkCuts 94 [], altN, altN_ok⟩
theorem sp94 : SpG T Tryz.prog 94 rbSbi5b2i2si2bi pa94 ts9 sr94 F94 :=
 spG (X := X94) tok (sfok_of trivial) mixed 94 32 [] rfl trivial (by (repeat intro _); show _ = _; kernel_rfl)
def pa14 : List VP := [.agg qv04v, .agg qv04v]
def sr14 : RShape := ⟨.b, [], none⟩
def ts10 : List LT := [.i, .i, .i, .i, .i, .b, .b, .i, .i, .l [.int .i64], .s, .i, .i, .b, .i, .i, .i, .i, .i, .i, .b, .b, .i, .i, .l [.int .i64], .s, .i, .i, .b, .i]
def run14 {R : Type} : SF R := runG rb_b pa14 ts10 sr14 false (F14 FUEL)
def sh14_0 : Shape := ⟨[(106, [(2, .ref 0 0), (3, .ref 1 0), (5, .i .i64)])], [.cells qv04v, .cells qv04v]⟩
def ts11 : List LT := [.i, .i, .i, .i, .i, .i, .b, .b, .i, .i, .l [.int .i64], .s, .i, .i, .b, .i, .i, .i, .i, .i, .i, .b, .b, .i, .i, .l [.int .i64], .s, .i, .i, .b, .i]
def cuts14 : List (List Nat × Cut (Bool)) := [([1, 1, 0, 1, 0], cutG sh14_0 ts11 F14_c0)]
noncomputable def X14 : Px (Bool) := ⟨T, Tryz.prog, lkF [], mkCuts 14 cuts14, altN, altN_ok⟩
theorem k14 : AllCuts X14 32 14 (endK sr14 (toG rb_b)) cuts14 :=
 ⟨cutG_ok (by (repeat intro _); show _ = _; kernel_rfl) (by (repeat intro _); show _ = _; kernel_rfl), trivial⟩
theorem sp14 : SpG T Tryz.prog 14 rb_b pa14 ts10 sr14 F14 :=
 spG (X := X14) tok (sfok_of trivial) mixed 14 32 cuts14 rfl k14 (by (repeat intro _); show _ = _; kernel_rfl)
def pa29 : List VP := [.agg [.s, .i .i64, .i .i64, .b]]
def sr29 : RShape := ⟨.b, [], none⟩
def run29 {R : Type} : SF R := runG rb_b pa29 [.s, .i, .i, .b] sr29 false (F29 FUEL)
noncomputable def X29 : Px (Bool) := ⟨T, Tryz.prog, lkF [], mkCuts 29 [], altN, altN_ok⟩
theorem sp29 : SpG T Tryz.prog 29 rb_b pa29 [.s, .i, .i, .b] sr29 F29 :=
 spG (X := X29) tok (sfok_of trivial) mixed 29 32 [] rfl trivial (by (repeat intro _); show _ = _; kernel_rfl)
def pa153 : List VP := [.sl false [.int .i64], .i .i64]
def sr153 : RShape := ⟨.b, [], none⟩
def run153 {R : Type} : SF R := runG rb_b pa153 [.l [.int .i64], .i] sr153 false (F153 FUEL)
def sh153_0 : Shape := ⟨[(44, [(0, .sl false [.int .i64]), (1, .i .i64), (5, .i .i64)])], []⟩
def sh153_1 : Shape := ⟨[(44, [(0, .sl false [.int .i64]), (1, .i .i64), (5, .i .i64), (6, .i .i64)])], []⟩
def cuts153 : List (List Nat × Cut (Bool)) := [([1, 0, 1, 0], cutG sh153_0 [.l [.int .i64], .i, .i] F153_c0), ([1, 0, 1, 0, 0, 1, 0, 0, 1, 1, 0], cutG sh153_1 [.l [.int .i64], .i, .i, .i] F153_c1)]
noncomputable def X153 : Px (Bool) := ⟨T, Tryz.prog, lkF [(92, run92)], mkCuts 153 cuts153, altN, altN_ok⟩
theorem k153 : AllCuts X153 32 153 (endK sr153 (toG rb_b)) cuts153 :=
 ⟨cutG_ok (by (repeat intro _); show _ = _; kernel_rfl) (by (repeat intro _); show _ = _; kernel_rfl), cutG_ok (by (repeat intro _); show _ = _; kernel_rfl) (by (repeat intro _); show _ = _; kernel_rfl), trivial⟩
theorem sp153 : SpG T Tryz.prog 153 rb_b pa153 [.l [.int .i64], .i] sr153 F153 :=
 spG (X := X153) tok (sfok_of ⟨okG sp92, trivial⟩) mixed 153 32 cuts153 rfl k153 (by (repeat intro _); show _ = _; kernel_rfl)
def pa95 : List VP := [.agg qv04v]
def sr95 : RShape := ⟨.b, [], none⟩
def run95 {R : Type} : SF R := runG rb_b pa95 ts5 sr95 false (F95 FUEL)
noncomputable def X95 : Px (Bool) := ⟨T, Tryz.prog, lkF [(92, run92), (29, run29), (153, run153)], mkCuts 95 [], altN, altN_ok⟩
theorem sp95 : SpG T Tryz.prog 95 rb_b pa95 ts5 sr95 F95 :=
 spG (X := X95) tok (sfok_of ⟨okG sp92, okG sp29, okG sp153, trivial⟩) mixed 95 32 [] rfl trivial (by (repeat intro _); show _ = _; kernel_rfl)
def pa21 : List VP := [.agg qv04v]
def sr21 : RShape := ⟨.b, [], none⟩
def run21 {R : Type} : SF R := runG rb_b pa21 ts5 sr21 false (F21 FUEL)
noncomputable def X21 : Px (Bool) := ⟨T, Tryz.prog, lkF [(92, run92), (93, run93), (94, run94), (14, run14), (95, run95)], mkCuts 21 [], altN, altN_ok⟩
theorem sp21 : SpG T Tryz.prog 21 rb_b pa21 ts5 sr21 F21 :=
 spG (X := X21) tok (sfok_of ⟨okG sp92, okG sp93, okG sp94, okG sp14, okG sp95, trivial⟩) mixed 21 32 [] rfl trivial (by (repeat intro _); show _ = _; kernel_rfl)
def pa140 : List VP := [.i .i64]
def sr140 : RShape := ⟨.b, [], none⟩
def run140 {R : Type} : SF R := runG rb_b pa140 [.i] sr140 false (F140 FUEL)
noncomputable def X140 : Px (Bool) := ⟨T, Tryz.prog, lkF [], mkCuts 140 [], altN, altN_ok⟩
theorem sp140 : SpG T Tryz.prog 140 rb_b pa140 [.i] sr140 F140 :=
 spG (X := X140) tok (sfok_of trivial) mixed 140 32 [] rfl trivial (by (repeat intro _); show _ = _; kernel_rfl)
def pa67 : List VP := [.agg [.i .i64, .i .i64, .sl false qv02c]]
def sr67 : RShape := ⟨.b, [], none⟩
def run67 {R : Type} : SF R := runG rb_b pa67 ts1 sr67 false (F67 FUEL)
def sh67_0 : Shape := ⟨[(110, [(1, .ref 0 0), (3, .i .i64)])], [.cells [.i .i64, .i .i64, .sl false qv02c]]⟩
def cuts67 : List (List Nat × Cut (Bool)) := [([1, 1, 0, 1, 0], cutG sh67_0 ts2 F67_c0)]
noncomputable def X67 : Px (Bool) := ⟨T, Tryz.prog, lkF [(21, run21), (22, run22), (140, run140)], mkCuts 67 cuts67, altN, altN_ok⟩
theorem k67 : AllCuts X67 32 67 (endK sr67 (toG rb_b)) cuts67 :=
 ⟨cutG_ok (by (repeat intro _); show _ = _; kernel_rfl) (by (repeat intro _); show _ = _; kernel_rfl), trivial⟩
theorem sp67 : SpG T Tryz.prog 67 rb_b pa67 ts1 sr67 F67 :=
 spG (X := X67) tok (sfok_of ⟨okG sp21, okG sp22, okG sp140, trivial⟩) mixed 67 32 cuts67 rfl k67 (by (repeat intro _); show _ = _; kernel_rfl)
def pa108 : List VP := [.i .i64]
def sr108 : RShape := ⟨.tup [.agg [.i .i64, .i .i64, .nil], .i .i64], [], none⟩
def rb_i3 : RB (Int × Int × Int) [.i, .i, .i] := ⟨fun x y z => (x, y, z), fun y => (y.1, y.2.1, y.2.2, ()), fun _ => rfl⟩
def run108 {R : Type} : SF R := runG rb_i3 pa108 [.i] sr108 false (F108 FUEL)
noncomputable def X108 : Px (Int × Int × Int) := ⟨T, Tryz.prog, lkF [(67, run67)], mkCuts 108 [], altN, altN_ok⟩
theorem sp108 : SpG T Tryz.prog 108 rb_i3 pa108 [.i] sr108 F108 :=
 spG (X := X108) tok (sfok_of ⟨okG sp67, trivial⟩) mixed 108 32 [] rfl trivial (by (repeat intro _); show _ = _; kernel_rfl)
def pa34 : List VP := [.i .i64, .sl false [.int .i64]]
def sr34 : RShape := ⟨.agg [.i .i64, .row 0, .nil, .i .i64, .i .i64, .i .i64, .i .i64, .i .i64, .i .i64, .i .i64, .i .i64, .i .i64, .i .i64, .i .i64, .i .i64, .i .i64, .i .i64, .i .i64, .i .i64, .i .i64, .i .i64, .i .i64, .i .i64, .nil, .nil, .i .u8, .i .i64, .i .u8, .i .u8, .i .i64, .i .i64, .i .i64, .b, .b, .i .i64, .s, .i .i64, .i .i64, .b, .i .i64, .nil, .i .i64, .i .u8, .i .u8, .i .i64, .i .i64, .i .i64, .b, .b, .i .i64, .s, .i .i64, .i .i64, .b, .i .i64, .nil, .i .i64, .i .u8, .i .u8, .i .i64, .i .i64, .i .i64, .b, .b, .i .i64, .s, .i .i64, .i .i64, .b, .i .i64, .nil, .i .i64, .i .i64, .s, .nil, .i .i64], [.row true [.int .i64]], none⟩
def rbSx0 : RB (Sx0) [.i, .i, .i, .i, .i, .i, .i, .i, .i, .i, .i, .i, .i, .i, .i, .i, .i, .i, .i, .i, .i, .i, .i, .i, .i, .i, .i, .i, .b, .b, .i, .s, .i, .i, .b, .i, .i, .i, .i, .i, .i, .i, .b, .b, .i, .s, .i, .i, .b, .i, .i, .i, .i, .i, .i, .i, .b, .b, .i, .s, .i, .i, .b, .i, .i, .i, .s, .i, .l [.int .i64]] := ⟨Sx0.mk, fun y => (y.q0, y.q1, y.q2, y.q3, y.q4, y.q5, y.q6, y.q7, y.q8, y.q9, y.q10, y.q11, y.q12, y.q13, y.q14, y.q15, y.q16, y.q17, y.q18, y.q19, y.q20, y.q21, y.q22, y.q23, y.q24, y.q25, y.q26, y.q27, y.q28, y.q29, y.q30, y.q31, y.q32, y.q33, y.q34, y.q35, y.q36, y.q37, y.q38, y.q39, y.q40, y.q41, y.q42, y.q43, y.q44, y.q45, y.q46, y.q47, y.q48, y.q49, y.q50, y.q51, y.q52, y.q53, y.q54, y.q55, y.q56, y.q57, y.q58, y.q59, y.q60, y.q61, y.q62, y.q63, y.q64, y.q65, y.q66, y.q67, y.q68, ()), fun _ => rfl⟩
def run34 {R : Type} : SF R := runG rbSx0 pa34 [.i, .l [.int .i64]] sr34 false (F34 FUEL)
noncomputable def X34 : Px (Sx0) := ⟨T, Tryz.prog, lkF [(107, run107), (108, run108)], mkCuts 34 [], altN, altN_ok⟩
theorem sp34 : SpG T Tryz.prog 34 rbSx0 pa34 [.i, .l [.int .i64]] sr34 F34 :=
 spG (X := X34) tok (sfok_of ⟨okG sp107, okG sp108, trivial⟩) mixed 34 32 [] rfl trivial (by (repeat intro _); show _ = _; kernel_rfl)
def pa30 : List VP := [.i .u8, .i .i64, .i .i64, .i .i64]
def sr30 : RShape := ⟨.agg qv08v, [], none⟩
def rbSi5b2i2si2bi : RB (Si5b2i2si2bi) [.i, .i, .i, .i, .i, .b, .b, .i, .i, .s, .i, .i, .b, .i] := ⟨Si5b2i2si2bi.mk, fun y => (y.q0, y.q1, y.q2, y.q3, y.q4, y.q5, y.q6, y.q7, y.q8, y.q9, y.q10, y.q11, y.q12, y.q13, ()), fun _ => rfl⟩
def run30 {R : Type} : SF R := runG rbSi5b2i2si2bi pa30 [.i, .i, .i, .i] sr30 false (F30 FUEL)
noncomputable def X30 : Px (Si5b2i2si2bi) := ⟨T, Tryz.prog, lkF [], mkCuts 30 [], altN, altN_ok⟩
theorem sp30 : SpG T Tryz.prog 30 rbSi5b2i2si2bi pa30 [.i, .i, .i, .i] sr30 F30 :=
 spG (X := X30) tok (sfok_of trivial) mixed 30 32 [] rfl trivial (by (repeat intro _); show _ = _; kernel_rfl)
def pa113 : List VP := [.sl false [.int .i64]]
def sr113 : RShape := ⟨.row 0, [.row true [.int .i64]], none⟩
def rb_l : RB ((List (Int))) [.l [.int .i64]] := ⟨fun x => x, fun y => (y, ()), fun _ => rfl⟩
def run113 {R : Type} : SF R := runG rb_l pa113 [.l [.int .i64]] sr113 false (F113 FUEL)
noncomputable def X113 : Px ((List (Int))) := ⟨T, Tryz.prog, lkF [], mkCuts 113 [], altE, altE_ok⟩
theorem sp113 : SpG T Tryz.prog 113 rb_l pa113 [.l [.int .i64]] sr113 F113 :=
 spG (X := X113) tok (sfok_of trivial) mixed 113 32 [] rfl trivial (by (repeat intro _); show _ = _; kernel_rfl)
def pa87 : List VP := [.agg qv03v]
def sr87 : RShape := ⟨.agg qv010v, [.row true [.int .i64], .row true [.int .i64]], none⟩
def rbSi18l2 : RB (Si18l2) [.i, .i, .i, .i, .i, .i, .i, .i, .i, .i, .i, .i, .i, .i, .i, .i, .i, .i, .l [.int .i64], .l [.int .i64]] := ⟨Si18l2.mk, fun y => (y.q0, y.q1, y.q2, y.q3, y.q4, y.q5, y.q6, y.q7, y.q8, y.q9, y.q10, y.q11, y.q12, y.q13, y.q14, y.q15, y.q16, y.q17, y.q18, y.q19, ()), fun _ => rfl⟩
def run87 {R : Type} : SF R := runG rbSi18l2 pa87 ts0 sr87 false (F87 FUEL)
noncomputable def X87 : Px (Si18l2) := ⟨T, Tryz.prog, lkF [(113, run113)], mkCuts 87 [], altN, altN_ok⟩
theorem sp87 : SpG T Tryz.prog 87 rbSi18l2 pa87 ts0 sr87 F87 :=
 spG (X := X87) tok (sfok_of ⟨okG sp113, trivial⟩) mixed 87 32 [] rfl trivial (by (repeat intro _); show _ = _; kernel_rfl)
def pa38 : List VP := [.agg qv04v]
def sr38 : RShape := ⟨.agg qv012v, [.row true [.int .i64]], none⟩
def rbSi5b2i2si2bil : RB (Si5b2i2si2bil) [.i, .i, .i, .i, .i, .b, .b, .i, .i, .s, .i, .i, .b, .i, .l [.int .i64]] := ⟨Si5b2i2si2bil.mk, fun y => (y.q0, y.q1, y.q2, y.q3, y.q4, y.q5, y.q6, y.q7, y.q8, y.q9, y.q10, y.q11, y.q12, y.q13, y.q14, ()), fun _ => rfl⟩
def run38 {R : Type} : SF R := runG rbSi5b2i2si2bil pa38 ts5 sr38 false (F38 FUEL)
noncomputable def X38 : Px (Si5b2i2si2bil) := ⟨T, Tryz.prog, lkF [], mkCuts 38 [], altN, altN_ok⟩
theorem sp38 : SpG T Tryz.prog 38 rbSi5b2i2si2bil pa38 ts5 sr38 F38 :=
 spG (X := X38) tok (sfok_of trivial) mixed 38 32 [] rfl trivial (by (repeat intro _); show _ = _; kernel_rfl)
def pa195 : List VP := [.agg qv07v]
def sr195 : RShape := ⟨.agg [.i .i64, .i .u8, .i .i64, .i .i64, .i .i64, .i .i64, .b, .b, .i .i64, .i .i64, .row 0, .s, .i .i64, .i .i64, .b, .i .i64, .i .u8, .i .i64, .i .i64, .i .i64], [.row true [.int .i64]], none⟩
def rbSi6b2i2si2bi5l : RB (Si6b2i2si2bi5l) [.i, .i, .i, .i, .i, .i, .b, .b, .i, .i, .s, .i, .i, .b, .i, .i, .i, .i, .i, .l [.int .i64]] := ⟨Si6b2i2si2bi5l.mk, fun y => (y.q0, y.q1, y.q2, y.q3, y.q4, y.q5, y.q6, y.q7, y.q8, y.q9, y.q10, y.q11, y.q12, y.q13, y.q14, y.q15, y.q16, y.q17, y.q18, y.q19, ()), fun _ => rfl⟩
def ts12 : List LT := [.i, .i, .i, .i, .i, .i, .b, .b, .i, .i, .l [.int .i64], .s, .i, .i, .b, .i, .i, .i, .i, .i]
def run195 {R : Type} : SF R := runG rbSi6b2i2si2bi5l pa195 ts12 sr195 false (F195 FUEL)
noncomputable def X195 : Px (Si6b2i2si2bi5l) := ⟨T, Tryz.prog, lkF [(38, run38)], mkCuts 195 [], altN, altN_ok⟩
theorem sp195 : SpG T Tryz.prog 195 rbSi6b2i2si2bi5l pa195 ts12 sr195 F195 :=
 spG (X := X195) tok (sfok_of ⟨okG sp38, trivial⟩) mixed 195 32 [] rfl trivial (by (repeat intro _); show _ = _; kernel_rfl)
def pa88 : List VP := [.agg [.i .i64, .i .i64, .sl false qv02c]]
def sr88 : RShape := ⟨.agg [.i .i64, .i .i64, .row 0], [.row true qv02c], none⟩
def rb_i2l_i6b2i2lsi2bi5_ : RB (Int × Int × (List (TY0))) [.i, .i, .l qv02c] := ⟨fun x y z => (x, y, z), fun y => (y.1, y.2.1, y.2.2, ()), fun _ => rfl⟩
def run88 {R : Type} : SF R := runG rb_i2l_i6b2i2lsi2bi5_ pa88 ts1 sr88 false (F88 FUEL)
def sh88_0 : Shape := ⟨[(18, [(0, .yield 10), (6, .sl false qv02c), (7, .i .i64), (8, .i .i64)]), (28, [(3, .ref 0 0), (4, .ref 1 0), (5, .ref 2 0)]), (5, [(2, .ref 3 0)])], [.cells [.clos 152 []], .cells [.ci .i64 (0), .ci .i64 (0), .nil], .cells [.i .i64, .i .i64, .row 4], .cells [.ci .i64 (0), .ci .i64 (0), .nil], .row true qv02c]⟩
def ts13 : List LT := [.l qv02c, .i, .i, .i, .i, .l qv02c]
def cuts88 : List (List Nat × Cut (Int × Int × (List (TY0)))) := [([1, 0, 1, 302, 1, 1, 0, 1, 0, 388, 1, 0], cutG sh88_0 ts13 F88_c0)]
noncomputable def X88 : Px (Int × Int × (List (TY0))) := ⟨T, Tryz.prog, lkF [(195, run195)], mkCuts 88 cuts88, altN, altN_ok⟩
theorem k88 : AllCuts X88 32 88 (endK sr88 (toG rb_i2l_i6b2i2lsi2bi5_)) cuts88 :=
 ⟨cutG_ok (by (repeat intro _); show _ = _; kernel_rfl) (by (repeat intro _); show _ = _; kernel_rfl), trivial⟩
theorem sp88 : SpG T Tryz.prog 88 rb_i2l_i6b2i2lsi2bi5_ pa88 ts1 sr88 F88 :=
 spG (X := X88) tok (sfok_of ⟨okG sp195, trivial⟩) mixed 88 32 cuts88 rfl k88 (by (repeat intro _); show _ = _; kernel_rfl)
def pa89 : List VP := [.sl false qv01c]
def sr89 : RShape := ⟨.row 0, [.row true qv01c], none⟩
def rb_l_i7b2i2lsi2bi_ : RB ((List (TY1))) [.l qv01c] := ⟨fun x => x, fun y => (y, ()), fun _ => rfl⟩
def ts14 : List LT := [.l qv01c]
def run89 {R : Type} : SF R := runG rb_l_i7b2i2lsi2bi_ pa89 ts14 sr89 false (F89 FUEL)
def sh89_0 : Shape := ⟨[(18, [(0, .yield 6), (5, .sl false qv01c), (6, .i .i64), (7, .i .i64)]), (19, [(3, .ref 0 0)])], [.cells [.row 1], .row true qv01c]⟩
def ts15 : List LT := [.l qv01c, .i, .i, .l qv01c]
def cuts89 : List (List Nat × Cut ((List (TY1)))) := [([1, 1, 0, 1, 0, 348, 1, 0], cutG sh89_0 ts15 F89_c0)]
noncomputable def X89 : Px ((List (TY1))) := ⟨T, Tryz.prog, lkF [(38, run38)], mkCuts 89 cuts89, altN, altN_ok⟩
theorem k89 : AllCuts X89 32 89 (endK sr89 (toG rb_l_i7b2i2lsi2bi_)) cuts89 :=
 ⟨cutG_ok (by (repeat intro _); show _ = _; kernel_rfl) (by (repeat intro _); show _ = _; kernel_rfl), trivial⟩
theorem sp89 : SpG T Tryz.prog 89 rb_l_i7b2i2lsi2bi_ pa89 ts14 sr89 F89 :=
 spG (X := X89) tok (sfok_of ⟨okG sp38, trivial⟩) mixed 89 32 cuts89 rfl k89 (by (repeat intro _); show _ = _; kernel_rfl)
def pa90 : List VP := [.agg qv06v]
def sr90 : RShape := ⟨.agg qv018v, [.row true [.int .i64]], none⟩
def rbSi5b2isi2bi2l : RB (Si5b2isi2bi2l) [.i, .i, .i, .i, .i, .b, .b, .i, .s, .i, .i, .b, .i, .i, .l [.int .i64]] := ⟨Si5b2isi2bi2l.mk, fun y => (y.q0, y.q1, y.q2, y.q3, y.q4, y.q5, y.q6, y.q7, y.q8, y.q9, y.q10, y.q11, y.q12, y.q13, y.q14, ()), fun _ => rfl⟩
def ts16 : List LT := [.i, .i, .i, .i, .i, .b, .b, .i, .s, .i, .i, .b, .i, .l [.int .i64], .i]
def run90 {R : Type} : SF R := runG rbSi5b2isi2bi2l pa90 ts16 sr90 true (F90 FUEL)
noncomputable def X90 : Px (Si5b2isi2bi2l) := ⟨T, Tryz.prog, lkF [(113, run113)], mkCuts 90 [], altN, altN_ok⟩
theorem sp90 : SpG T Tryz.prog 90 rbSi5b2isi2bi2l pa90 ts16 sr90 F90 :=
 spG (X := X90) tok (sfok_of ⟨okG sp113, trivial⟩) mixed 90 32 [] rfl trivial (by (repeat intro _); show _ = _; kernel_rfl)
def pa91 : List VP := [.sl false [.str, .int .i64, .int .i64, .bool]]
def sr91 : RShape := ⟨.row 0, [.row true [.str, .int .i64, .int .i64, .bool]], none⟩
def rb_l_si2b_ : RB ((List (ByteArray × Int × Int × Bool))) [.l [.str, .int .i64, .int .i64, .bool]] := ⟨fun x => x, fun y => (y, ()), fun _ => rfl⟩
def ts17 : List LT := [.l [.str, .int .i64, .int .i64, .bool]]
def run91 {R : Type} : SF R := runG rb_l_si2b_ pa91 ts17 sr91 false (F91 FUEL)
def sh91_0 : Shape := ⟨[(18, [(0, .yield 7), (5, .sl false [.str, .int .i64, .int .i64, .bool]), (6, .i .i64), (7, .i .i64)]), (21, [(3, .ref 0 0)])], [.cells [.row 1], .row true [.str, .int .i64, .int .i64, .bool]]⟩
def ts18 : List LT := [.l [.str, .int .i64, .int .i64, .bool], .i, .i, .l [.str, .int .i64, .int .i64, .bool]]
def cuts91 : List (List Nat × Cut ((List (ByteArray × Int × Int × Bool)))) := [([1, 1, 1, 0, 1, 0, 342, 1, 0], cutG sh91_0 ts18 F91_c0)]
noncomputable def X91 : Px ((List (ByteArray × Int × Int × Bool))) := ⟨T, Tryz.prog, lkF [], mkCuts 91 cuts91, altN, altN_ok⟩
theorem k91 : AllCuts X91 32 91 (endK sr91 (toG rb_l_si2b_)) cuts91 :=
 ⟨cutG_ok (by (repeat intro _); show _ = _; kernel_rfl) (by (repeat intro _); show _ = _; kernel_rfl), trivial⟩
theorem sp91 : SpG T Tryz.prog 91 rb_l_si2b_ pa91 ts17 sr91 F91 :=
 spG (X := X91) tok (sfok_of trivial) mixed 91 32 cuts91 rfl k91 (by (repeat intro _); show _ = _; kernel_rfl)
def pa20 : List VP := [.agg qv00v]
def sr20 : RShape := ⟨.agg qv09v, [.row true [.int .i64], .row true [.int .i64], .row true qv02c, .row true qv01c, .row true [.int .i64], .row true [.int .i64], .row true [.int .i64], .row true [.str, .int .i64, .int .i64, .bool]], none⟩
def rbSx1 : RB (Sx1) [.i, .i, .i, .i, .i, .i, .i, .i, .i, .i, .i, .i, .i, .i, .i, .i, .i, .i, .i, .i, .i, .i, .i, .i, .i, .i, .i, .i, .b, .b, .i, .s, .i, .i, .b, .i, .i, .i, .i, .i, .i, .i, .b, .b, .i, .s, .i, .i, .b, .i, .i, .i, .i, .i, .i, .i, .b, .b, .i, .s, .i, .i, .b, .i, .i, .i, .s, .i, .l [.int .i64], .l [.int .i64], .l qv02c, .l qv01c, .l [.int .i64], .l [.int .i64], .l [.int .i64], .l [.str, .int .i64, .int .i64, .bool]] := ⟨Sx1.mk, fun y => (y.q0, y.q1, y.q2, y.q3, y.q4, y.q5, y.q6, y.q7, y.q8, y.q9, y.q10, y.q11, y.q12, y.q13, y.q14, y.q15, y.q16, y.q17, y.q18, y.q19, y.q20, y.q21, y.q22, y.q23, y.q24, y.q25, y.q26, y.q27, y.q28, y.q29, y.q30, y.q31, y.q32, y.q33, y.q34, y.q35, y.q36, y.q37, y.q38, y.q39, y.q40, y.q41, y.q42, y.q43, y.q44, y.q45, y.q46, y.q47, y.q48, y.q49, y.q50, y.q51, y.q52, y.q53, y.q54, y.q55, y.q56, y.q57, y.q58, y.q59, y.q60, y.q61, y.q62, y.q63, y.q64, y.q65, y.q66, y.q67, y.q68, y.q69, y.q70, y.q71, y.q72, y.q73, y.q74, y.q75, ()), fun _ => rfl⟩
def run20 {R : Type} : SF R := runG rbSx1 pa20 ts3 sr20 false (F20 FUEL)
noncomputable def X20 : Px (Sx1) := ⟨T, Tryz.prog, lkF [(87, run87), (88, run88), (89, run89), (90, run90), (91, run91)], mkCuts 20 [], altN, altN_ok⟩
theorem sp20 : SpG T Tryz.prog 20 rbSx1 pa20 ts3 sr20 F20 :=
 spG (X := X20) tok (sfok_of ⟨okG sp87, okG sp88, okG sp89, okG sp90, okG sp91, trivial⟩) mixed 20 32 [] rfl trivial (by (repeat intro _); show _ = _; kernel_rfl)
def pa71 : List VP := [.agg qv04v]
def sr71 : RShape := ⟨.b, [], none⟩
def run71 {R : Type} : SF R := runG rb_b pa71 ts5 sr71 false (F71 FUEL)
noncomputable def X71 : Px (Bool) := ⟨T, Tryz.prog, lkF [], mkCuts 71 [], altN, altN_ok⟩
theorem sp71 : SpG T Tryz.prog 71 rb_b pa71 ts5 sr71 F71 :=
 spG (X := X71) tok (sfok_of trivial) mixed 71 32 [] rfl trivial (by (repeat intro _); show _ = _; kernel_rfl)
def pa172 : List VP := [.s]
def sr172 : RShape := ⟨.b, [], none⟩
def run172 {R : Type} : SF R := runG rb_b pa172 [.s] sr172 false (F172 FUEL)
noncomputable def X172 : Px (Bool) := ⟨T, Tryz.prog, lkF [], mkCuts 172 [], altN, altN_ok⟩
theorem sp172 : SpG T Tryz.prog 172 rb_b pa172 [.s] sr172 F172 :=
 spG (X := X172) tok (sfok_of trivial) mixed 172 32 [] rfl trivial (by (repeat intro _); show _ = _; kernel_rfl)
def pa173 : List VP := [.i .i64]
def sr173 : RShape := ⟨.b, [], none⟩
def run173 {R : Type} : SF R := runG rb_b pa173 [.i] sr173 false (F173 FUEL)
noncomputable def X173 : Px (Bool) := ⟨T, Tryz.prog, lkF [], mkCuts 173 [], altN, altN_ok⟩
theorem sp173 : SpG T Tryz.prog 173 rb_b pa173 [.i] sr173 F173 :=
 spG (X := X173) tok (sfok_of trivial) mixed 173 32 [] rfl trivial (by (repeat intro _); show _ = _; kernel_rfl)
def pa134 : List VP := [.agg [.s, .i .i64, .i .i64, .b]]
def sr134 : RShape := ⟨.b, [], none⟩
def run134 {R : Type} : SF R := runG rb_b pa134 [.s, .i, .i, .b] sr134 false (F134 FUEL)
noncomputable def X134 : Px (Bool) := ⟨T, Tryz.prog, lkF [(172, run172), (173, run173)], mkCuts 134 [], altN, altN_ok⟩
theorem sp134 : SpG T Tryz.prog 134 rb_b pa134 [.s, .i, .i, .b] sr134 F134 :=
 spG (X := X134) tok (sfok_of ⟨okG sp172, okG sp173, trivial⟩) mixed 134 32 [] rfl trivial (by (repeat intro _); show _ = _; kernel_rfl)
def pa204 : List VP := [.sl false [.int .i64], .i .i64]
def sr204 : RShape := ⟨.i .i64, [], none⟩
def run204 {R : Type} : SF R := runG rb_i pa204 [.l [.int .i64], .i] sr204 false (F204 FUEL)
def sh204_0 : Shape := ⟨[(19, [(0, .sl false [.int .i64]), (1, .i .i64), (7, .i .i64), (8, .i .i64)])], []⟩
def cuts204 : List (List Nat × Cut (Int)) := [([1, 0, 1, 0], cutG sh204_0 [.l [.int .i64], .i, .i, .i] F204_c0)]
noncomputable def X204 : Px (Int) := ⟨T, Tryz.prog, lkF [], mkCuts 204 cuts204, altN, altN_ok⟩
theorem k204 : AllCuts X204 32 204 (endK sr204 (toG rb_i)) cuts204 :=
 ⟨cutG_ok (by (repeat intro _); show _ = _; kernel_rfl) (by (repeat intro _); show _ = _; kernel_rfl), trivial⟩
theorem sp204 : SpG T Tryz.prog 204 rb_i pa204 [.l [.int .i64], .i] sr204 F204 :=
 spG (X := X204) tok (sfok_of trivial) mixed 204 32 cuts204 rfl k204 (by (repeat intro _); show _ = _; kernel_rfl)
def pa193 : List VP := [.sl false [.int .i64], .i .i64]
def sr193 : RShape := ⟨.b, [], none⟩
def run193 {R : Type} : SF R := runG rb_b pa193 [.l [.int .i64], .i] sr193 false (F193 FUEL)
noncomputable def X193 : Px (Bool) := ⟨T, Tryz.prog, lkF [(204, run204)], mkCuts 193 [], altN, altN_ok⟩
theorem sp193 : SpG T Tryz.prog 193 rb_b pa193 [.l [.int .i64], .i] sr193 F193 :=
 spG (X := X193) tok (sfok_of ⟨okG sp204, trivial⟩) mixed 193 32 [] rfl trivial (by (repeat intro _); show _ = _; kernel_rfl)
def pa177 : List VP := [.i .i64, .sl false [.int .i64]]
def sr177 : RShape := ⟨.b, [], none⟩
def run177 {R : Type} : SF R := runG rb_b pa177 [.i, .l [.int .i64]] sr177 false (F177 FUEL)
def sh177_0 : Shape := ⟨[(25, [(0, .i .i64), (1, .sl false [.int .i64]), (7, .sl false [.int .i64]), (8, .i .i64), (9, .i .i64)])], []⟩
def ts19 : List LT := [.i, .l [.int .i64], .l [.int .i64], .i, .i]
def cuts177 : List (List Nat × Cut (Bool)) := [([1, 0, 1, 0], cutG sh177_0 ts19 F177_c0)]
noncomputable def X177 : Px (Bool) := ⟨T, Tryz.prog, lkF [(193, run193)], mkCuts 177 cuts177, altN, altN_ok⟩
theorem k177 : AllCuts X177 32 177 (endK sr177 (toG rb_b)) cuts177 :=
 ⟨cutG_ok (by (repeat intro _); show _ = _; kernel_rfl) (by (repeat intro _); show _ = _; kernel_rfl), trivial⟩
theorem sp177 : SpG T Tryz.prog 177 rb_b pa177 [.i, .l [.int .i64]] sr177 F177 :=
 spG (X := X177) tok (sfok_of ⟨okG sp193, trivial⟩) mixed 177 32 cuts177 rfl k177 (by (repeat intro _); show _ = _; kernel_rfl)
def pa141 : List VP := [.agg qv04v]
def sr141 : RShape := ⟨.b, [], none⟩
def run141 {R : Type} : SF R := runG rb_b pa141 ts5 sr141 false (F141 FUEL)
noncomputable def X141 : Px (Bool) := ⟨T, Tryz.prog, lkF [(134, run134), (172, run172), (177, run177)], mkCuts 141 [], altN, altN_ok⟩
theorem sp141 : SpG T Tryz.prog 141 rb_b pa141 ts5 sr141 F141 :=
 spG (X := X141) tok (sfok_of ⟨okG sp134, okG sp172, okG sp177, trivial⟩) mixed 141 32 [] rfl trivial (by (repeat intro _); show _ = _; kernel_rfl)
def pa143 : List VP := [.i .i64]
def sr143 : RShape := ⟨.b, [], none⟩
def run143 {R : Type} : SF R := runG rb_b pa143 [.i] sr143 false (F143 FUEL)
noncomputable def X143 : Px (Bool) := ⟨T, Tryz.prog, lkF [], mkCuts 143 [], altN, altN_ok⟩
theorem sp143 : SpG T Tryz.prog 143 rb_b pa143 [.i] sr143 F143 :=
 spG (X := X143) tok (sfok_of trivial) mixed 143 32 [] rfl trivial (by (repeat intro _); show _ = _; kernel_rfl)
def pa145 : List VP := [.agg qv04v]
def sr145 : RShape := ⟨.i .i64, [], none⟩
def run145 {R : Type} : SF R := runG rb_i pa145 ts5 sr145 false (F145 FUEL)
noncomputable def X145 : Px (Int) := ⟨T, Tryz.prog, lkF [(71, run71)], mkCuts 145 [], altN, altN_ok⟩
theorem sp145 : SpG T Tryz.prog 145 rb_i pa145 ts5 sr145 F145 :=
 spG (X := X145) tok (sfok_of ⟨okG sp71, trivial⟩) mixed 145 32 [] rfl trivial (by (repeat intro _); show _ = _; kernel_rfl)
def pa144 : List VP := [.i .i64, .i .i64]
def sr144 : RShape := ⟨.b, [], none⟩
def run144 {R : Type} : SF R := runG rb_b pa144 [.i, .i] sr144 false (F144 FUEL)
noncomputable def X144 : Px (Bool) := ⟨T, Tryz.prog, lkF [], mkCuts 144 [], altN, altN_ok⟩
theorem sp144 : SpG T Tryz.prog 144 rb_b pa144 [.i, .i] sr144 F144 :=
 spG (X := X144) tok (sfok_of trivial) mixed 144 32 [] rfl trivial (by (repeat intro _); show _ = _; kernel_rfl)
def pa147 : List VP := [.agg qv011v]
def sr147 : RShape := ⟨.agg qv011v, [], some (.agg qv08v)⟩
def run147 {R : Type} : SF R := runG rbSbi5b2i2si2bi pa147 ts9 sr147 false (F147 FUEL)
noncomputable def X147 : Px (Sbi5b2i2si2bi) := ⟨T, Tryz.prog, lkF [], mkCuts 147 [], altN, altN_ok⟩
theorem sp147 : SpG T Tryz.prog 147 rbSbi5b2i2si2bi pa147 ts9 sr147 F147 :=
 spG (X := X147) tok (sfok_of trivial) mixed 147 32 [] rfl trivial (by (repeat intro _); show _ = _; kernel_rfl)
def pa148 : List VP := [.sl false [.int .i64], .sl false [.int .i64]]
def sr148 : RShape := ⟨.b, [], none⟩
def run148 {R : Type} : SF R := runG rb_b pa148 [.l [.int .i64], .l [.int .i64]] sr148 false (F148 FUEL)
def sh148_0 : Shape := ⟨[(26, [(0, .sl false [.int .i64]), (1, .sl false [.int .i64]), (12, .i .i64), (13, .i .i64)])], []⟩
def ts20 : List LT := [.l [.int .i64], .l [.int .i64], .i, .i]
def cuts148 : List (List Nat × Cut (Bool)) := [([1, 1, 0, 1, 0], cutG sh148_0 ts20 F148_c0)]
noncomputable def X148 : Px (Bool) := ⟨T, Tryz.prog, lkF [], mkCuts 148 cuts148, altN, altN_ok⟩
theorem k148 : AllCuts X148 32 148 (endK sr148 (toG rb_b)) cuts148 :=
 ⟨cutG_ok (by (repeat intro _); show _ = _; kernel_rfl) (by (repeat intro _); show _ = _; kernel_rfl), trivial⟩
theorem sp148 : SpG T Tryz.prog 148 rb_b pa148 [.l [.int .i64], .l [.int .i64]] sr148 F148 :=
 spG (X := X148) tok (sfok_of trivial) mixed 148 32 cuts148 rfl k148 (by (repeat intro _); show _ = _; kernel_rfl)
def pa146 : List VP := [.agg qv04v, .agg qv04v]
def sr146 : RShape := ⟨.b, [], none⟩
def run146 {R : Type} : SF R := runG rb_b pa146 ts10 sr146 false (F146 FUEL)
noncomputable def X146 : Px (Bool) := ⟨T, Tryz.prog, lkF [(148, run148)], mkCuts 146 [], altN, altN_ok⟩
theorem sp146 : SpG T Tryz.prog 146 rb_b pa146 ts10 sr146 F146 :=
 spG (X := X146) tok (sfok_of ⟨okG sp148, trivial⟩) mixed 146 32 [] rfl trivial (by (repeat intro _); show _ = _; kernel_rfl)
def pa72 : List VP := [.agg qv04v]
def sr72 : RShape := ⟨.b, [], none⟩
def run72 {R : Type} : SF R := runG rb_b pa72 ts5 sr72 false (F72 FUEL)
def sh72_0 : Shape := ⟨[(40, [])], []⟩
def sh72_1 : Shape := ⟨[(55, [(0, .yield 7), (44, .sl false [.int .i64]), (45, .i .i64), (46, .i .i64)]), (40, [(1, .ref 0 0)])], [.cells qv04v]⟩
def ts21 : List LT := [.l [.int .i64], .i, .i, .i, .i, .i, .i, .i, .b, .b, .i, .i, .l [.int .i64], .s, .i, .i, .b, .i]
def cuts72 : List (List Nat × Cut (Bool)) := [([1, 10], cutG sh72_0 [] F72_c0), ([1, 0, 1, 0, 1, 0, 356, 1, 1, 0, 1, 1, 1, 1, 1, 0, 1, 1, 0], cutG sh72_1 ts21 F72_c1)]
noncomputable def X72 : Px (Bool) := ⟨T, Tryz.prog, lkF [(141, run141), (143, run143), (145, run145), (144, run144), (147, run147), (146, run146)], mkCuts 72 cuts72, altN, altN_ok⟩
theorem k72 : AllCuts X72 32 72 (endK sr72 (toG rb_b)) cuts72 :=
 ⟨cutG_ok (by (repeat intro _); show _ = _; kernel_rfl) (by (repeat intro _); show _ = _; kernel_rfl), cutG_ok (by (repeat intro _); show _ = _; kernel_rfl) (by (repeat intro _); show _ = _; kernel_rfl), trivial⟩
theorem sp72 : SpG T Tryz.prog 72 rb_b pa72 ts5 sr72 F72 :=
 spG (X := X72) tok (sfok_of ⟨okG sp141, okG sp143, okG sp145, okG sp144, okG sp147, okG sp146, trivial⟩) mixed 72 32 cuts72 rfl k72 (by (repeat intro _); show _ = _; kernel_rfl)
def pa128 : List VP := [.i .i64]
def sr128 : RShape := ⟨.b, [], none⟩
def run128 {R : Type} : SF R := runG rb_b pa128 [.i] sr128 false (F128 FUEL)
noncomputable def X128 : Px (Bool) := ⟨T, Tryz.prog, lkF [], mkCuts 128 [], altN, altN_ok⟩
theorem sp128 : SpG T Tryz.prog 128 rb_b pa128 [.i] sr128 F128 :=
 spG (X := X128) tok (sfok_of trivial) mixed 128 32 [] rfl trivial (by (repeat intro _); show _ = _; kernel_rfl)
def pa129 : List VP := [.sl false [.int .i64]]
def sr129 : RShape := ⟨.b, [], none⟩
def run129 {R : Type} : SF R := runG rb_b pa129 [.l [.int .i64]] sr129 false (F129 FUEL)
def sh129_0 : Shape := ⟨[(37, [(0, .sl false [.int .i64]), (13, .sl false [.int .i64]), (14, .i .i64), (15, .i .i64)])], []⟩
def cuts129 : List (List Nat × Cut (Bool)) := [([1, 1, 0, 1, 0], cutG sh129_0 ts20 F129_c0)]
noncomputable def X129 : Px (Bool) := ⟨T, Tryz.prog, lkF [(128, run128)], mkCuts 129 cuts129, altN, altN_ok⟩
theorem k129 : AllCuts X129 32 129 (endK sr129 (toG rb_b)) cuts129 :=
 ⟨cutG_ok (by (repeat intro _); show _ = _; kernel_rfl) (by (repeat intro _); show _ = _; kernel_rfl), trivial⟩
theorem sp129 : SpG T Tryz.prog 129 rb_b pa129 [.l [.int .i64]] sr129 F129 :=
 spG (X := X129) tok (sfok_of ⟨okG sp128, trivial⟩) mixed 129 32 cuts129 rfl k129 (by (repeat intro _); show _ = _; kernel_rfl)
def pa164 : List VP := [.i .i64]
def sr164 : RShape := ⟨.i .i64, [], none⟩
def run164 {R : Type} : SF R := runG rb_i pa164 [.i] sr164 false (F164 FUEL)
noncomputable def X164 : Px (Int) := ⟨T, Tryz.prog, lkF [], mkCuts 164 [], altN, altN_ok⟩
theorem sp164 : SpG T Tryz.prog 164 rb_i pa164 [.i] sr164 F164 :=
 spG (X := X164) tok (sfok_of trivial) mixed 164 32 [] rfl trivial (by (repeat intro _); show _ = _; kernel_rfl)
def pa166 : List VP := [.i .i64]
def sr166 : RShape := ⟨.b, [], none⟩
def run166 {R : Type} : SF R := runG rb_b pa166 [.i] sr166 false (F166 FUEL)
noncomputable def X166 : Px (Bool) := ⟨T, Tryz.prog, lkF [], mkCuts 166 [], altN, altN_ok⟩
theorem sp166 : SpG T Tryz.prog 166 rb_b pa166 [.i] sr166 F166 :=
 spG (X := X166) tok (sfok_of trivial) mixed 166 32 [] rfl trivial (by (repeat intro _); show _ = _; kernel_rfl)
def pa167 : List VP := [.i .i64, .i .i64]
def sr167 : RShape := ⟨.i .i64, [], none⟩
def run167 {R : Type} : SF R := runG rb_i pa167 [.i, .i] sr167 false (F167 FUEL)
noncomputable def X167 : Px (Int) := ⟨T, Tryz.prog, lkF [(164, run164)], mkCuts 167 [], altN, altN_ok⟩
theorem sp167 : SpG T Tryz.prog 167 rb_i pa167 [.i, .i] sr167 F167 :=
 spG (X := X167) tok (sfok_of ⟨okG sp164, trivial⟩) mixed 167 32 [] rfl trivial (by (repeat intro _); show _ = _; kernel_rfl)
def pa130 : List VP := [.i .i64, .sl false [.int .i64]]
def sr130 : RShape := ⟨.b, [], none⟩
def run130 {R : Type} : SF R := runG rb_b pa130 [.i, .l [.int .i64]] sr130 false (F130 FUEL)
def sh130_0 : Shape := ⟨[(21, [(0, .yield 7), (4, .i .i64), (8, .sl false [.int .i64]), (9, .i .i64), (10, .i .i64)]), (29, [(2, .ref 0 0), (4, .ref 1 0)])], [.cells [.i .i64], .cells [.b]]⟩
def cuts130 : List (List Nat × Cut (Bool)) := [([1, 1, 1, 0, 1, 0, 384, 1, 1, 0], cutG sh130_0 [.i, .l [.int .i64], .i, .i, .i, .b] F130_c0)]
noncomputable def X130 : Px (Bool) := ⟨T, Tryz.prog, lkF [(164, run164), (166, run166), (167, run167)], mkCuts 130 cuts130, altN, altN_ok⟩
theorem k130 : AllCuts X130 32 130 (endK sr130 (toG rb_b)) cuts130 :=
 ⟨cutG_ok (by (repeat intro _); show _ = _; kernel_rfl) (by (repeat intro _); show _ = _; kernel_rfl), trivial⟩
theorem sp130 : SpG T Tryz.prog 130 rb_b pa130 [.i, .l [.int .i64]] sr130 F130 :=
 spG (X := X130) tok (sfok_of ⟨okG sp164, okG sp166, okG sp167, trivial⟩) mixed 130 32 cuts130 rfl k130 (by (repeat intro _); show _ = _; kernel_rfl)
def pa53 : List VP := [.agg qv03v]
def sr53 : RShape := ⟨.b, [], none⟩
def run53 {R : Type} : SF R := runG rb_b pa53 ts0 sr53 false (F53 FUEL)
def sh53_0 : Shape := ⟨[(38, [])], []⟩
def sh53_1 : Shape := ⟨[(20, [(0, .yield 7), (11, .agg qv016v), (12, .i .i64)]), (38, [(1, .ref 0 0)])], [.cells qv03v]⟩
def ts22 : List LT := [.i, .i, .i, .i, .i, .i, .i, .i, .i, .i, .i, .i, .i, .i, .i, .i, .i, .i, .l [.int .i64], .l [.int .i64], .i, .i, .i, .i, .i, .i, .i, .i, .i, .i, .i, .i, .i, .i, .i, .i, .i]
def cuts53 : List (List Nat × Cut (Bool)) := [([1, 10], cutG sh53_0 [] F53_c0), ([1, 0, 1, 0, 1, 0, 336, 1, 1, 0], cutG sh53_1 ts22 F53_c1)]
noncomputable def X53 : Px (Bool) := ⟨T, Tryz.prog, lkF [(128, run128), (129, run129), (130, run130)], mkCuts 53 cuts53, altN, altN_ok⟩
theorem k53 : AllCuts X53 32 53 (endK sr53 (toG rb_b)) cuts53 :=
 ⟨cutG_ok (by (repeat intro _); show _ = _; kernel_rfl) (by (repeat intro _); show _ = _; kernel_rfl), cutG_ok (by (repeat intro _); show _ = _; kernel_rfl) (by (repeat intro _); show _ = _; kernel_rfl), trivial⟩
theorem sp53 : SpG T Tryz.prog 53 rb_b pa53 ts0 sr53 F53 :=
 spG (X := X53) tok (sfok_of ⟨okG sp128, okG sp129, okG sp130, trivial⟩) mixed 53 32 cuts53 rfl k53 (by (repeat intro _); show _ = _; kernel_rfl)
def pa169 : List VP := [.i .i64, .i .i64]
def sr169 : RShape := ⟨.tup [.i .i64, .i .i64], [], none⟩
def rb_i2 : RB (Int × Int) [.i, .i] := ⟨fun x y => (x, y), fun y => (y.1, y.2, ()), fun _ => rfl⟩
def run169 {R : Type} : SF R := runG rb_i2 pa169 [.i, .i] sr169 false (F169 FUEL)
def sh169_0 : Shape := ⟨[(21, [])], []⟩
def cuts169 : List (List Nat × Cut (Int × Int)) := [([1, 10], cutG sh169_0 [] F169_c0)]
noncomputable def X169 : Px (Int × Int) := ⟨T, Tryz.prog, lkF [(143, run143)], mkCuts 169 cuts169, altN, altN_ok⟩
theorem k169 : AllCuts X169 32 169 (endK sr169 (toG rb_i2)) cuts169 :=
 ⟨cutG_ok (by (repeat intro _); show _ = _; kernel_rfl) (by (repeat intro _); show _ = _; kernel_rfl), trivial⟩
theorem sp169 : SpG T Tryz.prog 169 rb_i2 pa169 [.i, .i] sr169 F169 :=
 spG (X := X169) tok (sfok_of ⟨okG sp143, trivial⟩) mixed 169 32 cuts169 rfl k169 (by (repeat intro _); show _ = _; kernel_rfl)
def pa170 : List VP := [.i .i64]
def sr170 : RShape := ⟨.b, [], none⟩
def run170 {R : Type} : SF R := runG rb_b pa170 [.i] sr170 false (F170 FUEL)
noncomputable def X170 : Px (Bool) := ⟨T, Tryz.prog, lkF [], mkCuts 170 [], altN, altN_ok⟩
theorem sp170 : SpG T Tryz.prog 170 rb_b pa170 [.i] sr170 F170 :=
 spG (X := X170) tok (sfok_of trivial) mixed 170 32 [] rfl trivial (by (repeat intro _); show _ = _; kernel_rfl)
def pa132 : List VP := [.agg [.i .i64, .i .i64, .sl false qv02c], .agg qv07v]
def sr132 : RShape := ⟨.b, [], none⟩
def ts23 : List LT := [.i, .i, .l qv02c, .i, .i, .i, .i, .i, .i, .b, .b, .i, .i, .l [.int .i64], .s, .i, .i, .b, .i, .i, .i, .i, .i]
def run132 {R : Type} : SF R := runG rb_b pa132 ts23 sr132 false (F132 FUEL)
noncomputable def X132 : Px (Bool) := ⟨T, Tryz.prog, lkF [(169, run169), (71, run71), (72, run72), (170, run170)], mkCuts 132 [], altN, altN_ok⟩
theorem sp132 : SpG T Tryz.prog 132 rb_b pa132 ts23 sr132 F132 :=
 spG (X := X132) tok (sfok_of ⟨okG sp169, okG sp71, okG sp72, okG sp170, trivial⟩) mixed 132 32 [] rfl trivial (by (repeat intro _); show _ = _; kernel_rfl)
def pa55 : List VP := [.agg [.i .i64, .i .i64, .sl false qv02c]]
def sr55 : RShape := ⟨.b, [], none⟩
def run55 {R : Type} : SF R := runG rb_b pa55 ts1 sr55 false (F55 FUEL)
def sh55_0 : Shape := ⟨[(50, [])], []⟩
def sh55_1 : Shape := ⟨[(50, [(1, .ref 0 0), (3, .i .i64), (31, .sl false qv02c), (32, .i .i64), (33, .i .i64)])], [.cells [.i .i64, .i .i64, .sl false qv02c]]⟩
def ts24 : List LT := [.i, .l qv02c, .i, .i, .i, .i, .l qv02c]
def cuts55 : List (List Nat × Cut (Bool)) := [([1, 10], cutG sh55_0 [] F55_c0), ([1, 0, 1, 1, 0, 1, 0], cutG sh55_1 ts24 F55_c1)]
noncomputable def X55 : Px (Bool) := ⟨T, Tryz.prog, lkF [(132, run132)], mkCuts 55 cuts55, altN, altN_ok⟩
theorem k55 : AllCuts X55 32 55 (endK sr55 (toG rb_b)) cuts55 :=
 ⟨cutG_ok (by (repeat intro _); show _ = _; kernel_rfl) (by (repeat intro _); show _ = _; kernel_rfl), cutG_ok (by (repeat intro _); show _ = _; kernel_rfl) (by (repeat intro _); show _ = _; kernel_rfl), trivial⟩
theorem sp55 : SpG T Tryz.prog 55 rb_b pa55 ts1 sr55 F55 :=
 spG (X := X55) tok (sfok_of ⟨okG sp132, trivial⟩) mixed 55 32 cuts55 rfl k55 (by (repeat intro _); show _ = _; kernel_rfl)
def pa57 : List VP := [.agg [.i .u8, .i .i64]]
def sr57 : RShape := ⟨.b, [], none⟩
def run57 {R : Type} : SF R := runG rb_b pa57 [.i, .i] sr57 false (F57 FUEL)
noncomputable def X57 : Px (Bool) := ⟨T, Tryz.prog, lkF [], mkCuts 57 [], altN, altN_ok⟩
theorem sp57 : SpG T Tryz.prog 57 rb_b pa57 [.i, .i] sr57 F57 :=
 spG (X := X57) tok (sfok_of trivial) mixed 57 32 [] rfl trivial (by (repeat intro _); show _ = _; kernel_rfl)
def pa59 : List VP := [.sl false [.str, .int .i64, .int .i64, .bool]]
def sr59 : RShape := ⟨.b, [], none⟩
def run59 {R : Type} : SF R := runG rb_b pa59 ts17 sr59 false (F59 FUEL)
def sh59_0 : Shape := ⟨[(18, [(0, .yield 6), (5, .sl false [.str, .int .i64, .int .i64, .bool]), (6, .i .i64), (7, .i .i64)]), (30, [(1, .ref 0 0), (2, .ref 1 0)])], [.cells [.sl false [.str, .int .i64, .int .i64, .bool]], .cells [.b]]⟩
def ts25 : List LT := [.l [.str, .int .i64, .int .i64, .bool], .i, .i, .l [.str, .int .i64, .int .i64, .bool], .b]
def cuts59 : List (List Nat × Cut (Bool)) := [([1, 1, 0, 1, 0, 342, 1, 0], cutG sh59_0 ts25 F59_c0)]
noncomputable def X59 : Px (Bool) := ⟨T, Tryz.prog, lkF [(134, run134)], mkCuts 59 cuts59, altN, altN_ok⟩
theorem k59 : AllCuts X59 32 59 (endK sr59 (toG rb_b)) cuts59 :=
 ⟨cutG_ok (by (repeat intro _); show _ = _; kernel_rfl) (by (repeat intro _); show _ = _; kernel_rfl), trivial⟩
theorem sp59 : SpG T Tryz.prog 59 rb_b pa59 ts17 sr59 F59 :=
 spG (X := X59) tok (sfok_of ⟨okG sp134, trivial⟩) mixed 59 32 cuts59 rfl k59 (by (repeat intro _); show _ = _; kernel_rfl)
def pa110 : List VP := [.i .i64, .i .i64]
def sr110 : RShape := ⟨.clos 156 [.ref 0 0, .ref 1 0], [.cells [.i .i64], .cells [.i .i64]], none⟩
def run110 {R : Type} : SF R := runG rb_i2 pa110 [.i, .i] sr110 false (F110 FUEL)
noncomputable def X110 : Px (Int × Int) := ⟨T, Tryz.prog, lkF [], mkCuts 110 [], altN, altN_ok⟩
theorem sp110 : SpG T Tryz.prog 110 rb_i2 pa110 [.i, .i] sr110 F110 :=
 spG (X := X110) tok (sfok_of trivial) mixed 110 32 [] rfl trivial (by (repeat intro _); show _ = _; kernel_rfl)
def pa109 : List VP := [.sl false qv01c, .clos 156 [.ep [.i .i64], .ep [.i .i64]]]
def sr109 : RShape := ⟨.i .i64, [], none⟩
def ts26 : List LT := [.l qv01c, .i, .i]
def run109 {R : Type} : SF R := runG rb_i pa109 ts26 sr109 false (F109 FUEL)
def sh109_0 : Shape := ⟨[(18, [(0, .yield 5), (5, .sl false qv01c), (6, .i .i64), (7, .i .i64)]), (15, [(3, .ref 0 0), (4, .ref 1 0)])], [.cells [.clos 156 [.ep [.i .i64], .ep [.i .i64]]], .cells [.ci .i64 (0)]]⟩
def ts27 : List LT := [.l qv01c, .i, .i, .i, .i]
def cuts109 : List (List Nat × Cut (Int)) := [([1, 0, 1, 0, 348, 1, 0], cutG sh109_0 ts27 F109_c0)]
noncomputable def X109 : Px (Int) := ⟨T, Tryz.prog, lkF [], mkCuts 109 cuts109, altN, altN_ok⟩
theorem k109 : AllCuts X109 32 109 (endK sr109 (toG rb_i)) cuts109 :=
 ⟨cutG_ok (by (repeat intro _); show _ = _; kernel_rfl) (by (repeat intro _); show _ = _; kernel_rfl), trivial⟩
theorem sp109 : SpG T Tryz.prog 109 rb_i pa109 ts26 sr109 F109 :=
 spG (X := X109) tok (sfok_of trivial) mixed 109 32 cuts109 rfl k109 (by (repeat intro _); show _ = _; kernel_rfl)
def pa61 : List VP := [.sl false qv01c]
def sr61 : RShape := ⟨.b, [], none⟩
def run61 {R : Type} : SF R := runG rb_b pa61 ts14 sr61 false (F61 FUEL)
def sh61_0 : Shape := ⟨[(18, [(0, .yield 6), (5, .sl false qv01c), (6, .i .i64), (7, .i .i64)]), (45, [(1, .ref 0 0), (2, .ref 1 0)])], [.cells [.sl false qv01c], .cells [.b]]⟩
def ts28 : List LT := [.l qv01c, .i, .i, .l qv01c, .b]
def cuts61 : List (List Nat × Cut (Bool)) := [([1, 1, 0, 1, 0, 348, 1, 0], cutG sh61_0 ts28 F61_c0)]
noncomputable def X61 : Px (Bool) := ⟨T, Tryz.prog, lkF [(72, run72), (71, run71), (110, run110), (109, run109)], mkCuts 61 cuts61, altN, altN_ok⟩
theorem k61 : AllCuts X61 32 61 (endK sr61 (toG rb_b)) cuts61 :=
 ⟨cutG_ok (by (repeat intro _); show _ = _; kernel_rfl) (by (repeat intro _); show _ = _; kernel_rfl), trivial⟩
theorem sp61 : SpG T Tryz.prog 61 rb_b pa61 ts14 sr61 F61 :=
 spG (X := X61) tok (sfok_of ⟨okG sp72, okG sp71, okG sp110, okG sp109, trivial⟩) mixed 61 32 cuts61 rfl k61 (by (repeat intro _); show _ = _; kernel_rfl)
def pa15 : List VP := [.agg qv00v]
def sr15 : RShape := ⟨.b, [], none⟩
def run15 {R : Type} : SF R := runG rb_b pa15 ts3 sr15 false (F15 FUEL)
def sh15_0 : Shape := ⟨[(19, [(0, .sl false qv01c), (1, .clos 64 [.ref 0 0]), (7, .i .i64), (8, .i .i64)]), (9, []), (7, []), (17, [(0, .yield 9), (5, .asl 1 0 1 9), (6, .ci .i64 (9)), (7, .ci .i64 (8)), (11, .yield 9)]), (9, [(2, .ref 2 0)]), (14, [])], [.cells qv00v, .cells [.clos 49 [.ref 0 0], .clos 50 [.ref 0 0], .clos 51 [.ref 0 0], .clos 52 [.ref 0 0], .clos 54 [.ref 0 0], .clos 56 [.ref 0 0], .clos 58 [.ref 0 0], .clos 60 [.ref 0 0], .clos 62 [.ref 0 0]], .cells [.b]]⟩
def ts29 : List LT := [.l qv01c, .i, .i, .i, .l [.int .i64], .l [.int .i64], .i, .i, .i, .i, .i, .i, .i, .i, .i, .i, .i, .i, .i, .i, .i, .i, .i, .i, .i, .i, .l qv02c, .l qv01c, .i, .i, .i, .i, .i, .i, .i, .b, .b, .i, .s, .i, .i, .b, .i, .l [.int .i64], .i, .i, .i, .i, .i, .i, .b, .b, .i, .s, .i, .i, .b, .i, .l [.int .i64], .i, .i, .i, .i, .i, .i, .b, .b, .i, .s, .i, .i, .b, .i, .l [.int .i64], .i, .i, .s, .l [.str, .int .i64, .int .i64, .bool], .i, .b]
def cuts15 : List (List Nat × Cut (Bool)) := [([1, 0, 10, 96, 1, 0, 1, 0, 326, 1, 0, 5, 5, 5, 5, 5, 5, 5, 5, 0, 1, 1, 0, 0, 1, 0, 2, 124, 1, 0, 3, 126, 1, 0, 2, 272, 1, 0, 1, 0], cutG sh15_0 ts29 F15_c0)]
noncomputable def X15 : Px (Bool) := ⟨T, Tryz.prog, lkF [(53, run53), (55, run55), (57, run57), (59, run59), (61, run61)], mkCuts 15 cuts15, altN, altN_ok⟩
theorem k15 : AllCuts X15 32 15 (endK sr15 (toG rb_b)) cuts15 :=
 ⟨cutG_ok (by (repeat intro _); show _ = _; kernel_rfl) (by (repeat intro _); show _ = _; kernel_rfl), trivial⟩
theorem sp15 : SpG T Tryz.prog 15 rb_b pa15 ts3 sr15 F15 :=
 spG (X := X15) tok (sfok_of ⟨okG sp53, okG sp55, okG sp57, okG sp59, okG sp61, trivial⟩) mixed 15 32 cuts15 rfl k15 (by (repeat intro _); show _ = _; kernel_rfl)
def pa17 : List VP := [.agg qv00v, .agg qv04v]
def sr17 : RShape := ⟨.b, [], none⟩
def ts30 : List LT := [.i, .l [.int .i64], .l [.int .i64], .i, .i, .i, .i, .i, .i, .i, .i, .i, .i, .i, .i, .i, .i, .i, .i, .i, .i, .i, .i, .l qv02c, .l qv01c, .i, .i, .i, .i, .i, .i, .i, .b, .b, .i, .s, .i, .i, .b, .i, .l [.int .i64], .i, .i, .i, .i, .i, .i, .b, .b, .i, .s, .i, .i, .b, .i, .l [.int .i64], .i, .i, .i, .i, .i, .i, .b, .b, .i, .s, .i, .i, .b, .i, .l [.int .i64], .i, .i, .s, .l [.str, .int .i64, .int .i64, .bool], .i, .i, .i, .i, .i, .i, .b, .b, .i, .i, .l [.int .i64], .s, .i, .i, .b, .i]
def run17 {R : Type} : SF R := runG rb_b pa17 ts30 sr17 false (F17 FUEL)
noncomputable def X17 : Px (Bool) := ⟨T, Tryz.prog, lkF [(71, run71), (72, run72), (15, run15)], mkCuts 17 [], altN, altN_ok⟩
theorem sp17 : SpG T Tryz.prog 17 rb_b pa17 ts30 sr17 F17 :=
 spG (X := X17) tok (sfok_of ⟨okG sp71, okG sp72, okG sp15, trivial⟩) mixed 17 32 [] rfl trivial (by (repeat intro _); show _ = _; kernel_rfl)
def pa35 : List VP := [.sl false qv01c, .i .i64, .i .i64]
def sr35 : RShape := ⟨.tup [.agg qv012v, .b], [.row true [.int .i64]], none⟩
def rbSi5b2i2si2bibl : RB (Si5b2i2si2bibl) [.i, .i, .i, .i, .i, .b, .b, .i, .i, .s, .i, .i, .b, .i, .b, .l [.int .i64]] := ⟨Si5b2i2si2bibl.mk, fun y => (y.q0, y.q1, y.q2, y.q3, y.q4, y.q5, y.q6, y.q7, y.q8, y.q9, y.q10, y.q11, y.q12, y.q13, y.q14, y.q15, ()), fun _ => rfl⟩
def run35 {R : Type} : SF R := runG rbSi5b2i2si2bibl pa35 ts26 sr35 false (F35 FUEL)
noncomputable def X35 : Px (Si5b2i2si2bibl) := ⟨T, Tryz.prog, lkF [(110, run110), (109, run109), (38, run38)], mkCuts 35 [], altN, altN_ok⟩
theorem sp35 : SpG T Tryz.prog 35 rbSi5b2i2si2bibl pa35 ts26 sr35 F35 :=
 spG (X := X35) tok (sfok_of ⟨okG sp110, okG sp109, okG sp38, trivial⟩) mixed 35 32 [] rfl trivial (by (repeat intro _); show _ = _; kernel_rfl)
def pa111 : List VP := [.agg qv04v]
def sr111 : RShape := ⟨.agg qv08v, [], none⟩
def run111 {R : Type} : SF R := runG rbSi5b2i2si2bi pa111 ts5 sr111 false (F111 FUEL)
noncomputable def X111 : Px (Si5b2i2si2bi) := ⟨T, Tryz.prog, lkF [(71, run71)], mkCuts 111 [], altN, altN_ok⟩
theorem sp111 : SpG T Tryz.prog 111 rbSi5b2i2si2bi pa111 ts5 sr111 F111 :=
 spG (X := X111) tok (sfok_of ⟨okG sp71, trivial⟩) mixed 111 32 [] rfl trivial (by (repeat intro _); show _ = _; kernel_rfl)
def pa182 : List VP := [.i .i64]
def sr182 : RShape := ⟨.b, [], none⟩
def run182 {R : Type} : SF R := runG rb_b pa182 [.i] sr182 false (F182 FUEL)
noncomputable def X182 : Px (Bool) := ⟨T, Tryz.prog, lkF [], mkCuts 182 [], altN, altN_ok⟩
theorem sp182 : SpG T Tryz.prog 182 rb_b pa182 [.i] sr182 F182 :=
 spG (X := X182) tok (sfok_of trivial) mixed 182 32 [] rfl trivial (by (repeat intro _); show _ = _; kernel_rfl)
def pa183 : List VP := [.i .i64, .i .i64, .i .i64]
def sr183 : RShape := ⟨.b, [], none⟩
def run183 {R : Type} : SF R := runG rb_b pa183 [.i, .i, .i] sr183 false (F183 FUEL)
noncomputable def X183 : Px (Bool) := ⟨T, Tryz.prog, lkF [(167, run167)], mkCuts 183 [], altN, altN_ok⟩
theorem sp183 : SpG T Tryz.prog 183 rb_b pa183 [.i, .i, .i] sr183 F183 :=
 spG (X := X183) tok (sfok_of ⟨okG sp167, trivial⟩) mixed 183 32 [] rfl trivial (by (repeat intro _); show _ = _; kernel_rfl)
def pa116 : List VP := [.agg qv03v, .sl false [.int .i64]]
def sr116 : RShape := ⟨.agg qv010v, [.row true [.int .i64], .row true [.int .i64]], none⟩
def ts31 : List LT := [.i, .l [.int .i64], .l [.int .i64], .i, .i, .i, .i, .i, .i, .i, .i, .i, .i, .i, .i, .i, .i, .i, .i, .i, .l [.int .i64]]
def run116 {R : Type} : SF R := runG rbSi18l2 pa116 ts31 sr116 false (F116 FUEL)
def sh116_0 : Shape := ⟨[(23, [(4, .ref 0 0), (5, .ref 1 0)])], [.cells [.ci .i64 (0), .nil, .nil, .ci .i64 (0), .ci .i64 (0), .ci .i64 (0), .ci .i64 (0), .ci .i64 (0), .ci .i64 (0), .ci .i64 (0), .ci .i64 (0), .ci .i64 (0), .ci .i64 (0), .ci .i64 (0), .ci .i64 (0), .ci .i64 (0), .ci .i64 (0), .ci .i64 (0), .ci .i64 (0), .ci .i64 (0)], .cells qv014v, .row true [.int .i64], .row true [.int .i64]]⟩
def sh116_1 : Shape := ⟨[(16, [(0, .yield 9), (5, .sl false [.int .i64]), (6, .i .i64), (7, .i .i64)]), (23, [(4, .ref 0 0), (5, .ref 1 0), (6, .ref 2 0)])], [.cells [.ci .i64 (0), .nil, .nil, .ci .i64 (0), .ci .i64 (0), .ci .i64 (0), .ci .i64 (0), .ci .i64 (0), .ci .i64 (0), .ci .i64 (0), .ci .i64 (0), .ci .i64 (0), .ci .i64 (0), .ci .i64 (0), .ci .i64 (0), .ci .i64 (0), .ci .i64 (0), .ci .i64 (0), .ci .i64 (0), .ci .i64 (0)], .cells [.i .i64, .row 3, .row 4, .i .i64, .i .i64, .i .i64, .i .i64, .i .i64, .i .i64, .i .i64, .i .i64, .i .i64, .i .i64, .i .i64, .i .i64, .i .i64, .i .i64, .i .i64, .i .i64, .i .i64], .cells [.clos 181 [.ref 5 0]], .row true [.int .i64], .row true [.int .i64], .cells [.ref 1 0]]⟩
def ts32 : List LT := [.i, .i, .i, .i, .i, .i, .i, .i, .i, .i, .i, .i, .i, .i, .i, .i, .i, .i, .l [.int .i64], .l [.int .i64]]
def ts33 : List LT := [.l [.int .i64], .i, .i, .i, .i, .i, .i, .i, .i, .i, .i, .i, .i, .i, .i, .i, .i, .i, .i, .i, .i, .l [.int .i64], .l [.int .i64]]
def cuts116 : List (List Nat × Cut (Si18l2)) := [([1, 10], cutG sh116_0 ts32 F116_c0), ([1, 0, 1, 1, 1, 0, 1, 0, 368, 1, 0], cutG sh116_1 ts33 F116_c1)]
noncomputable def X116 : Px (Si18l2) := ⟨T, Tryz.prog, lkF [(87, run87), (53, run53), (182, run182), (183, run183)], mkCuts 116 cuts116, altN, altN_ok⟩
theorem k116 : AllCuts X116 32 116 (endK sr116 (toG rbSi18l2)) cuts116 :=
 ⟨cutG_ok (by (repeat intro _); show _ = _; kernel_rfl) (by (repeat intro _); show _ = _; kernel_rfl), cutG_ok (by (repeat intro _); show _ = _; kernel_rfl) (by (repeat intro _); show _ = _; kernel_rfl), trivial⟩
theorem sp116 : SpG T Tryz.prog 116 rbSi18l2 pa116 ts31 sr116 F116 :=
 spG (X := X116) tok (sfok_of ⟨okG sp87, okG sp53, okG sp182, okG sp183, trivial⟩) mixed 116 32 cuts116 rfl k116 (by (repeat intro _); show _ = _; kernel_rfl)
def pa196 : List VP := [.sl false [.int .i64]]
def sr196 : RShape := ⟨.tup [.i .i64, .b], [], none⟩
def rb_ib : RB (Int × Bool) [.i, .b] := ⟨fun x y => (x, y), fun y => (y.1, y.2, ()), fun _ => rfl⟩
def run196 {R : Type} : SF R := runG rb_ib pa196 [.l [.int .i64]] sr196 false (F196 FUEL)
def sh196_0 : Shape := ⟨[(16, [(0, .yield 5), (5, .sl false [.int .i64]), (6, .i .i64), (7, .ci .i64 (0))]), (9, [(2, .ref 0 0), (3, .ref 1 0)])], [.cells [.ci .i64 (0)], .cells [.b]]⟩
def cuts196 : List (List Nat × Cut (Int × Bool)) := [([1, 0, 1, 0, 414, 1, 0], cutG sh196_0 [.l [.int .i64], .i, .b] F196_c0)]
noncomputable def X196 : Px (Int × Bool) := ⟨T, Tryz.prog, lkF [], mkCuts 196 cuts196, altN, altN_ok⟩
theorem k196 : AllCuts X196 32 196 (endK sr196 (toG rb_ib)) cuts196 :=
 ⟨cutG_ok (by (repeat intro _); show _ = _; kernel_rfl) (by (repeat intro _); show _ = _; kernel_rfl), trivial⟩
theorem sp196 : SpG T Tryz.prog 196 rb_ib pa196 [.l [.int .i64]] sr196 F196 :=
 spG (X := X196) tok (sfok_of trivial) mixed 196 32 cuts196 rfl k196 (by (repeat intro _); show _ = _; kernel_rfl)
def pa197 : List VP := [.agg qv03v]
def sr197 : RShape := ⟨.i .i64, [], none⟩
def run197 {R : Type} : SF R := runG rb_i pa197 ts0 sr197 false (F197 FUEL)
def sh197_0 : Shape := ⟨[(35, [(1, .ref 0 0), (3, .i .i64), (7, .sl false [.int .i64]), (8, .i .i64), (9, .i .i64)])], [.cells qv03v]⟩
def ts34 : List LT := [.i, .l [.int .i64], .i, .i, .i, .l [.int .i64], .l [.int .i64], .i, .i, .i, .i, .i, .i, .i, .i, .i, .i, .i, .i, .i, .i, .i, .i, .i]
def cuts197 : List (List Nat × Cut (Int)) := [([1, 1, 0, 1, 0], cutG sh197_0 ts34 F197_c0)]
noncomputable def X197 : Px (Int) := ⟨T, Tryz.prog, lkF [(167, run167)], mkCuts 197 cuts197, altN, altN_ok⟩
theorem k197 : AllCuts X197 32 197 (endK sr197 (toG rb_i)) cuts197 :=
 ⟨cutG_ok (by (repeat intro _); show _ = _; kernel_rfl) (by (repeat intro _); show _ = _; kernel_rfl), trivial⟩
theorem sp197 : SpG T Tryz.prog 197 rb_i pa197 ts0 sr197 F197 :=
 spG (X := X197) tok (sfok_of ⟨okG sp167, trivial⟩) mixed 197 32 cuts197 rfl k197 (by (repeat intro _); show _ = _; kernel_rfl)
def pa185 : List VP := [.agg qv03v]
def sr185 : RShape := ⟨.i .i64, [], none⟩
def run185 {R : Type} : SF R := runG rb_i pa185 ts0 sr185 false (F185 FUEL)
noncomputable def X185 : Px (Int) := ⟨T, Tryz.prog, lkF [(53, run53), (196, run196), (197, run197)], mkCuts 185 [], altN, altN_ok⟩
theorem sp185 : SpG T Tryz.prog 185 rb_i pa185 ts0 sr185 F185 :=
 spG (X := X185) tok (sfok_of ⟨okG sp53, okG sp196, okG sp197, trivial⟩) mixed 185 32 [] rfl trivial (by (repeat intro _); show _ = _; kernel_rfl)
def pa186 : List VP := [.i .i64, .i .i64, .i .i64]
def sr186 : RShape := ⟨.b, [], none⟩
def run186 {R : Type} : SF R := runG rb_b pa186 [.i, .i, .i] sr186 false (F186 FUEL)
noncomputable def X186 : Px (Bool) := ⟨T, Tryz.prog, lkF [(183, run183), (164, run164)], mkCuts 186 [], altN, altN_ok⟩
theorem sp186 : SpG T Tryz.prog 186 rb_b pa186 [.i, .i, .i] sr186 F186 :=
 spG (X := X186) tok (sfok_of ⟨okG sp183, okG sp164, trivial⟩) mixed 186 32 [] rfl trivial (by (repeat intro _); show _ = _; kernel_rfl)
def pa159 : List VP := [.agg qv03v, .i .i64, .b]
def sr159 : RShape := ⟨.tup [.i .i64, .b], [], none⟩
def ts35 : List LT := [.i, .l [.int .i64], .l [.int .i64], .i, .i, .i, .i, .i, .i, .i, .i, .i, .i, .i, .i, .i, .i, .i, .i, .i, .i, .b]
def run159 {R : Type} : SF R := runG rb_ib pa159 ts35 sr159 false (F159 FUEL)
def sh159_0 : Shape := ⟨[(38, [(0, .yield 10), (1, .ref 0 0), (13, .sl false [.int .i64]), (14, .i .i64), (15, .i .i64)]), (36, [(6, .ref 1 0), (8, .ref 2 0)])], [.cells qv03v, .cells [.i .i64], .cells [.clos 198 [.ref 3 0, .ref 4 0]], .cells [.i .i64], .cells [.i .i64]]⟩
def sh159_1 : Shape := ⟨[(38, [(0, .yield 10), (25, .agg qv016v), (26, .i .i64)]), (36, [(6, .ref 0 0), (8, .ref 1 0)])], [.cells [.i .i64], .cells [.clos 198 [.ref 2 0, .ref 3 0]], .cells [.i .i64], .cells [.i .i64]]⟩
def ts36 : List LT := [.l [.int .i64], .i, .i, .i, .l [.int .i64], .l [.int .i64], .i, .i, .i, .i, .i, .i, .i, .i, .i, .i, .i, .i, .i, .i, .i, .i, .i, .i, .i, .i]
def ts37 : List LT := [.i, .i, .i, .i, .i, .i, .i, .i, .i, .i, .i, .i, .i, .i, .i, .i, .i, .i, .i, .i]
def cuts159 : List (List Nat × Cut (Int × Bool)) := [([1, 1, 1, 1, 1, 1, 0, 1, 0, 398, 1, 0, 1, 0], cutG sh159_0 ts36 F159_c0), ([1, 1, 1, 1, 1, 1, 0, 1, 0, 398, 1, 1, 1, 0], cutG sh159_1 ts37 F159_c1)]
noncomputable def X159 : Px (Int × Bool) := ⟨T, Tryz.prog, lkF [(53, run53), (185, run185), (186, run186), (183, run183), (167, run167)], mkCuts 159 cuts159, altN, altN_ok⟩
theorem k159 : AllCuts X159 32 159 (endK sr159 (toG rb_ib)) cuts159 :=
 ⟨cutG_ok (by (repeat intro _); show _ = _; kernel_rfl) (by (repeat intro _); show _ = _; kernel_rfl), cutG_ok (by (repeat intro _); show _ = _; kernel_rfl) (by (repeat intro _); show _ = _; kernel_rfl), trivial⟩
theorem sp159 : SpG T Tryz.prog 159 rb_ib pa159 ts35 sr159 F159 :=
 spG (X := X159) tok (sfok_of ⟨okG sp53, okG sp185, okG sp186, okG sp183, okG sp167, trivial⟩) mixed 159 32 cuts159 rfl k159 (by (repeat intro _); show _ = _; kernel_rfl)
def pa118 : List VP := [.agg qv03v, .agg qv04v]
def sr118 : RShape := ⟨.agg qv08v, [], none⟩
def ts38 : List LT := [.i, .l [.int .i64], .l [.int .i64], .i, .i, .i, .i, .i, .i, .i, .i, .i, .i, .i, .i, .i, .i, .i, .i, .i, .i, .i, .i, .i, .i, .b, .b, .i, .i, .l [.int .i64], .s, .i, .i, .b, .i]
def run118 {R : Type} : SF R := runG rbSi5b2i2si2bi pa118 ts38 sr118 false (F118 FUEL)
def sh118_0 : Shape := ⟨[(40, [(4, .ref 0 0), (5, .ref 1 0)])], [.cells [.ci .u8 (0), .ci .i64 (0), .ci .i64 (0), .ci .i64 (0), .ci .i64 (0), .b, .b, .ci .i64 (0), .ci .i64 (0), .nil, .s, .ci .i64 (0), .ci .i64 (0), .b, .ci .i64 (0)], .cells [.ci .u8 (0), .ci .i64 (0), .ci .i64 (0), .ci .i64 (0), .ci .i64 (0), .b, .b, .ci .i64 (0), .ci .i64 (0), .nil, .s, .ci .i64 (0), .ci .i64 (0), .b, .ci .i64 (0)]]⟩
def cuts118 : List (List Nat × Cut (Si5b2i2si2bi)) := [([1, 10], cutG sh118_0 [.b, .b, .s, .b, .b, .b, .s, .b] F118_c0)]
noncomputable def X118 : Px (Si5b2i2si2bi) := ⟨T, Tryz.prog, lkF [(53, run53), (72, run72), (111, run111), (159, run159)], mkCuts 118 cuts118, altN, altN_ok⟩
theorem k118 : AllCuts X118 32 118 (endK sr118 (toG rbSi5b2i2si2bi)) cuts118 :=
 ⟨cutG_ok (by (repeat intro _); show _ = _; kernel_rfl) (by (repeat intro _); show _ = _; kernel_rfl), trivial⟩
theorem sp118 : SpG T Tryz.prog 118 rbSi5b2i2si2bi pa118 ts38 sr118 F118 :=
 spG (X := X118) tok (sfok_of ⟨okG sp53, okG sp72, okG sp111, okG sp159, trivial⟩) mixed 118 32 cuts118 rfl k118 (by (repeat intro _); show _ = _; kernel_rfl)
def pa200 : List VP := [.s]
def sr200 : RShape := ⟨.b, [], none⟩
def run200 {R : Type} : SF R := runG rb_b pa200 [.s] sr200 false (F200 FUEL)
noncomputable def X200 : Px (Bool) := ⟨T, Tryz.prog, lkF [], mkCuts 200 [], altN, altN_ok⟩
theorem sp200 : SpG T Tryz.prog 200 rb_b pa200 [.s] sr200 F200 :=
 spG (X := X200) tok (sfok_of trivial) mixed 200 32 [] rfl trivial (by (repeat intro _); show _ = _; kernel_rfl)
def pa190 : List VP := [.s, .s]
def sr190 : RShape := ⟨.i .i64, [], none⟩
def run190 {R : Type} : SF R := runG rb_i pa190 [.s, .s] sr190 false (F190 FUEL)
noncomputable def X190 : Px (Int) := ⟨T, Tryz.prog, lkF [(200, run200)], mkCuts 190 [], altN, altN_ok⟩
theorem sp190 : SpG T Tryz.prog 190 rb_i pa190 [.s, .s] sr190 F190 :=
 spG (X := X190) tok (sfok_of ⟨okG sp200, trivial⟩) mixed 190 32 [] rfl trivial (by (repeat intro _); show _ = _; kernel_rfl)
def pa160 : List VP := [.sl false [.str, .int .i64, .int .i64, .bool], .s]
def sr160 : RShape := ⟨.tup [.i .i64, .b], [], none⟩
def ts39 : List LT := [.l [.str, .int .i64, .int .i64, .bool], .s]
def run160 {R : Type} : SF R := runG rb_ib pa160 ts39 sr160 false (F160 FUEL)
def sh160_0 : Shape := ⟨[(46, [(0, .sl false [.str, .int .i64, .int .i64, .bool]), (6, .clos 189 [.ref 0 0]), (7, .i .i64), (8, .i .i64)])], [.cells [.s]]⟩
def ts40 : List LT := [.l [.str, .int .i64, .int .i64, .bool], .i, .i, .s]
def cuts160 : List (List Nat × Cut (Int × Bool)) := [([1, 10], cutG sh160_0 ts40 F160_c0)]
noncomputable def X160 : Px (Int × Bool) := ⟨T, Tryz.prog, lkF [(190, run190)], mkCuts 160 cuts160, altN, altN_ok⟩
theorem k160 : AllCuts X160 32 160 (endK sr160 (toG rb_ib)) cuts160 :=
 ⟨cutG_ok (by (repeat intro _); show _ = _; kernel_rfl) (by (repeat intro _); show _ = _; kernel_rfl), trivial⟩
theorem sp160 : SpG T Tryz.prog 160 rb_ib pa160 ts39 sr160 F160 :=
 spG (X := X160) tok (sfok_of ⟨okG sp190, trivial⟩) mixed 160 32 cuts160 rfl k160 (by (repeat intro _); show _ = _; kernel_rfl)
def pa201 : List VP := [.agg [.s, .i .i64, .i .i64, .b]]
def sr201 : RShape := ⟨.agg [.i .i64, .i .i64, .b], [], none⟩
def rb_i2b : RB (Int × Int × Bool) [.i, .i, .b] := ⟨fun x y z => (x, y, z), fun y => (y.1, y.2.1, y.2.2, ()), fun _ => rfl⟩
def run201 {R : Type} : SF R := runG rb_i2b pa201 [.s, .i, .i, .b] sr201 false (F201 FUEL)
noncomputable def X201 : Px (Int × Int × Bool) := ⟨T, Tryz.prog, lkF [], mkCuts 201 [], altN, altN_ok⟩
theorem sp201 : SpG T Tryz.prog 201 rb_i2b pa201 [.s, .i, .i, .b] sr201 F201 :=
 spG (X := X201) tok (sfok_of trivial) mixed 201 32 [] rfl trivial (by (repeat intro _); show _ = _; kernel_rfl)
def pa206 : List VP := [.i .i64]
def sr206 : RShape := ⟨.b, [], none⟩
def run206 {R : Type} : SF R := runG rb_b pa206 [.i] sr206 false (F206 FUEL)
noncomputable def X206 : Px (Bool) := ⟨T, Tryz.prog, lkF [], mkCuts 206 [], altN, altN_ok⟩
theorem sp206 : SpG T Tryz.prog 206 rb_b pa206 [.i] sr206 F206 :=
 spG (X := X206) tok (sfok_of trivial) mixed 206 32 [] rfl trivial (by (repeat intro _); show _ = _; kernel_rfl)
def pa203 : List VP := [.i .i64, .i .i64]
def sr203 : RShape := ⟨.i .i64, [], none⟩
def run203 {R : Type} : SF R := runG rb_i pa203 [.i, .i] sr203 false (F203 FUEL)
noncomputable def X203 : Px (Int) := ⟨T, Tryz.prog, lkF [(206, run206)], mkCuts 203 [], altN, altN_ok⟩
theorem sp203 : SpG T Tryz.prog 203 rb_i pa203 [.i, .i] sr203 F203 :=
 spG (X := X203) tok (sfok_of ⟨okG sp206, trivial⟩) mixed 203 32 [] rfl trivial (by (repeat intro _); show _ = _; kernel_rfl)
def pa202 : List VP := [.sl false [.int .i64]]
def sr202 : RShape := ⟨.i .i64, [], none⟩
def run202 {R : Type} : SF R := runG rb_i pa202 [.l [.int .i64]] sr202 false (F202 FUEL)
def sh202_0 : Shape := ⟨[(18, [(3, .ci .i64 (0)), (6, .sl false [.int .i64]), (7, .i .i64), (8, .i .i64)])], []⟩
def cuts202 : List (List Nat × Cut (Int)) := [([1, 1, 0, 1, 0], cutG sh202_0 [.l [.int .i64], .i, .i] F202_c0)]
noncomputable def X202 : Px (Int) := ⟨T, Tryz.prog, lkF [], mkCuts 202 cuts202, altN, altN_ok⟩
theorem k202 : AllCuts X202 32 202 (endK sr202 (toG rb_i)) cuts202 :=
 ⟨cutG_ok (by (repeat intro _); show _ = _; kernel_rfl) (by (repeat intro _); show _ = _; kernel_rfl), trivial⟩
theorem sp202 : SpG T Tryz.prog 202 rb_i pa202 [.l [.int .i64]] sr202 F202 :=
 spG (X := X202) tok (sfok_of trivial) mixed 202 32 cuts202 rfl k202 (by (repeat intro _); show _ = _; kernel_rfl)
def pa191 : List VP := qv013v
def sr191 : RShape := ⟨.i .i64, [], none⟩
def run191 {R : Type} : SF R := runG rb_i pa191 [.s, .i, .i, .b, .s, .i, .i, .b] sr191 false (F191 FUEL)
noncomputable def X191 : Px (Int) := ⟨T, Tryz.prog, lkF [(201, run201), (203, run203), (202, run202)], mkCuts 191 [], altN, altN_ok⟩
theorem sp191 : SpG T Tryz.prog 191 rb_i pa191 [.s, .i, .i, .b, .s, .i, .i, .b] sr191 F191 :=
 spG (X := X191) tok (sfok_of ⟨okG sp201, okG sp203, okG sp202, trivial⟩) mixed 191 32 [] rfl trivial (by (repeat intro _); show _ = _; kernel_rfl)
def pa161 : List VP := qv013v
def sr161 : RShape := ⟨.b, [], none⟩
def run161 {R : Type} : SF R := runG rb_b pa161 [.s, .i, .i, .b, .s, .i, .i, .b] sr161 false (F161 FUEL)
noncomputable def X161 : Px (Bool) := ⟨T, Tryz.prog, lkF [(191, run191)], mkCuts 161 [], altN, altN_ok⟩
theorem sp161 : SpG T Tryz.prog 161 rb_b pa161 [.s, .i, .i, .b, .s, .i, .i, .b] sr161 F161 :=
 spG (X := X161) tok (sfok_of ⟨okG sp191, trivial⟩) mixed 161 32 [] rfl trivial (by (repeat intro _); show _ = _; kernel_rfl)
def pa120 : List VP := [.sl false [.str, .int .i64, .int .i64, .bool], .agg [.s, .i .i64, .i .i64, .b]]
def sr120 : RShape := ⟨.tup [.row 0, .i .i64], [.row true [.str, .int .i64, .int .i64, .bool]], none⟩
def rb_il_si2b_ : RB (Int × (List (ByteArray × Int × Int × Bool))) [.i, .l [.str, .int .i64, .int .i64, .bool]] := ⟨fun x y => (x, y), fun y => (y.1, y.2, ()), fun _ => rfl⟩
def ts41 : List LT := [.l [.str, .int .i64, .int .i64, .bool], .s, .i, .i, .b]
def run120 {R : Type} : SF R := runG rb_il_si2b_ pa120 ts41 sr120 false (F120 FUEL)
noncomputable def X120 : Px (Int × (List (ByteArray × Int × Int × Bool))) := ⟨T, Tryz.prog, lkF [(59, run59), (91, run91), (134, run134), (160, run160), (161, run161)], mkCuts 120 [], altN, altN_ok⟩
theorem sp120 : SpG T Tryz.prog 120 rb_il_si2b_ pa120 ts41 sr120 F120 :=
 spG (X := X120) tok (sfok_of ⟨okG sp59, okG sp91, okG sp134, okG sp160, okG sp161, trivial⟩) mixed 120 32 [] rfl trivial (by (repeat intro _); show _ = _; kernel_rfl)
def pa122 : List VP := [.sl false [.str, .int .i64, .int .i64, .bool], .s]
def sr122 : RShape := ⟨.tup [.agg [.s, .i .i64, .i .i64, .b], .i .i64], [], none⟩
def rbSsi2bi : RB (Ssi2bi) [.s, .i, .i, .b, .i] := ⟨Ssi2bi.mk, fun y => (y.q0, y.q1, y.q2, y.q3, y.q4, ()), fun _ => rfl⟩
def run122 {R : Type} : SF R := runG rbSsi2bi pa122 ts39 sr122 false (F122 FUEL)
noncomputable def X122 : Px (Ssi2bi) := ⟨T, Tryz.prog, lkF [(59, run59), (160, run160)], mkCuts 122 [], altN, altN_ok⟩
theorem sp122 : SpG T Tryz.prog 122 rbSsi2bi pa122 ts39 sr122 F122 :=
 spG (X := X122) tok (sfok_of ⟨okG sp59, okG sp160, trivial⟩) mixed 122 32 [] rfl trivial (by (repeat intro _); show _ = _; kernel_rfl)
def pa123 : List VP := [.agg qv04v]
def sr123 : RShape := ⟨.tup qv015v, [], none⟩
def rbSi7b2i2lsi2bi2 : RB (Si7b2i2lsi2bi2) [.i, .i, .i, .i, .i, .i, .i, .b, .b, .i, .i, .l [.int .i64], .s, .i, .i, .b, .i, .i] := ⟨Si7b2i2lsi2bi2.mk, fun y => (y.q0, y.q1, y.q2, y.q3, y.q4, y.q5, y.q6, y.q7, y.q8, y.q9, y.q10, y.q11, y.q12, y.q13, y.q14, y.q15, y.q16, y.q17, ()), fun _ => rfl⟩
def run123 {R : Type} : SF R := runG rbSi7b2i2lsi2bi2 pa123 ts5 sr123 false (F123 FUEL)
noncomputable def X123 : Px (Si7b2i2lsi2bi2) := ⟨T, Tryz.prog, lkF [(72, run72), (71, run71), (38, run38)], mkCuts 123 [], altN, altN_ok⟩
theorem sp123 : SpG T Tryz.prog 123 rbSi7b2i2lsi2bi2 pa123 ts5 sr123 F123 :=
 spG (X := X123) tok (sfok_of ⟨okG sp72, okG sp71, okG sp38, trivial⟩) mixed 123 32 [] rfl trivial (by (repeat intro _); show _ = _; kernel_rfl)
def pa37 : List VP := [.sl false qv01c, .sl false qv05c]
def sr37 : RShape := ⟨.sl true qv01c, [], none⟩
def ts42 : List LT := [.l qv01c, .l qv05c]
def run37 {R : Type} : SF R := runG rb_l_i7b2i2lsi2bi_ pa37 ts42 sr37 false (F37 FUEL)
def sh37_0 : Shape := ⟨[(46, [(5, .rsub 0), (12, .sl false qv05c), (13, .i .i64), (14, .i .i64)])], [.row true qv01c]⟩
def sh37_1 : Shape := ⟨[(46, [(5, .rsub 0), (12, .sl false qv05c), (13, .i .i64), (14, .i .i64)])], [.row true qv01c]⟩
def ts43 : List LT := [.n, .n, .l qv05c, .i, .i, .l qv01c]
def cuts37 : List (List Nat × Cut ((List (TY1)))) := [([1, 1, 0, 1, 0], cutG sh37_0 ts43 F37_c0), ([1, 1, 0, 1, 0, 0, 1, 1, 0, 0, 1, 10], cutG sh37_1 ts43 F37_c1)]
noncomputable def X37 : Px ((List (TY1))) := ⟨T, Tryz.prog, lkF [(89, run89), (123, run123), (110, run110), (109, run109)], mkCuts 37 cuts37, altN, altN_ok⟩
theorem k37 : AllCuts X37 32 37 (endK sr37 (toG rb_l_i7b2i2lsi2bi_)) cuts37 :=
 ⟨cutG_ok (by (repeat intro _); show _ = _; kernel_rfl) (by (repeat intro _); show _ = _; kernel_rfl), cutG_ok (by (repeat intro _); show _ = _; kernel_rfl) (by (repeat intro _); show _ = _; kernel_rfl), trivial⟩
theorem sp37 : SpG T Tryz.prog 37 rb_l_i7b2i2lsi2bi_ pa37 ts42 sr37 F37 :=
 spG (X := X37) tok (sfok_of ⟨okG sp89, okG sp123, okG sp110, okG sp109, trivial⟩) mixed 37 32 cuts37 rfl k37 (by (repeat intro _); show _ = _; kernel_rfl)
def pa11 : List VP := [.agg qv00v, .agg qv04v]
def sr11 : RShape := ⟨.tup [.agg [.i .i64, .sl true [.int .i64], .sl true [.int .i64], .i .i64, .i .i64, .i .i64, .i .i64, .i .i64, .i .i64, .i .i64, .i .i64, .i .i64, .i .i64, .i .i64, .i .i64, .i .i64, .i .i64, .i .i64, .i .i64, .i .i64, .i .i64, .i .i64, .i .i64, .row 0, .sl true qv01c, .i .u8, .i .i64, .i .u8, .i .u8, .i .i64, .i .i64, .i .i64, .b, .b, .i .i64, .s, .i .i64, .i .i64, .b, .i .i64, .row 1, .i .i64, .i .u8, .i .u8, .i .i64, .i .i64, .i .i64, .b, .b, .i .i64, .s, .i .i64, .i .i64, .b, .i .i64, .row 2, .i .i64, .i .u8, .i .u8, .i .i64, .i .i64, .i .i64, .b, .b, .i .i64, .s, .i .i64, .i .i64, .b, .i .i64, .row 3, .i .i64, .i .i64, .s, .sl true [.str, .int .i64, .int .i64, .bool], .i .i64], .agg qv017v], [.row true qv02c, .row true [.int .i64], .row true [.int .i64], .row true [.int .i64]], none⟩
def rbSx2 : RB (Sx2) [.i, .l [.int .i64], .l [.int .i64], .i, .i, .i, .i, .i, .i, .i, .i, .i, .i, .i, .i, .i, .i, .i, .i, .i, .i, .i, .i, .l qv01c, .i, .i, .i, .i, .i, .i, .i, .b, .b, .i, .s, .i, .i, .b, .i, .i, .i, .i, .i, .i, .i, .b, .b, .i, .s, .i, .i, .b, .i, .i, .i, .i, .i, .i, .i, .b, .b, .i, .s, .i, .i, .b, .i, .i, .i, .s, .l [.str, .int .i64, .int .i64, .bool], .i, .i, .i, .i, .i, .i, .b, .b, .i, .i, .l [.int .i64], .s, .i, .i, .b, .i, .l qv02c, .l [.int .i64], .l [.int .i64], .l [.int .i64]] := ⟨Sx2.mk, fun y => (y.q0, y.q1, y.q2, y.q3, y.q4, y.q5, y.q6, y.q7, y.q8, y.q9, y.q10, y.q11, y.q12, y.q13, y.q14, y.q15, y.q16, y.q17, y.q18, y.q19, y.q20, y.q21, y.q22, y.q23, y.q24, y.q25, y.q26, y.q27, y.q28, y.q29, y.q30, y.q31, y.q32, y.q33, y.q34, y.q35, y.q36, y.q37, y.q38, y.q39, y.q40, y.q41, y.q42, y.q43, y.q44, y.q45, y.q46, y.q47, y.q48, y.q49, y.q50, y.q51, y.q52, y.q53, y.q54, y.q55, y.q56, y.q57, y.q58, y.q59, y.q60, y.q61, y.q62, y.q63, y.q64, y.q65, y.q66, y.q67, y.q68, y.q69, y.q70, y.q71, y.q72, y.q73, y.q74, y.q75, y.q76, y.q77, y.q78, y.q79, y.q80, y.q81, y.q82, y.q83, y.q84, y.q85, y.q86, y.q87, y.q88, y.q89, y.q90, ()), fun _ => rfl⟩
def run11 {R : Type} : SF R := runG rbSx2 pa11 ts30 sr11 false (F11 FUEL)
def sh11_0 : Shape := ⟨[(50, [(4, .ref 0 0), (5, .ref 1 0), (6, .ref 2 0), (7, .ref 3 0)])], [.cells [.ci .i64 (0), .nil, .nil, .ci .i64 (0), .ci .i64 (0), .ci .i64 (0), .ci .i64 (0), .ci .i64 (0), .ci .i64 (0), .ci .i64 (0), .ci .i64 (0), .ci .i64 (0), .ci .i64 (0), .ci .i64 (0), .ci .i64 (0), .ci .i64 (0), .ci .i64 (0), .ci .i64 (0), .ci .i64 (0), .ci .i64 (0), .ci .i64 (0), .ci .i64 (0), .ci .i64 (0), .nil, .nil, .ci .u8 (0), .ci .i64 (0), .ci .u8 (0), .ci .u8 (0), .ci .i64 (0), .ci .i64 (0), .ci .i64 (0), .b, .b, .ci .i64 (0), .s, .ci .i64 (0), .ci .i64 (0), .b, .ci .i64 (0), .nil, .ci .i64 (0), .ci .u8 (0), .ci .u8 (0), .ci .i64 (0), .ci .i64 (0), .ci .i64 (0), .b, .b, .ci .i64 (0), .s, .ci .i64 (0), .ci .i64 (0), .b, .ci .i64 (0), .nil, .ci .i64 (0), .ci .u8 (0), .ci .u8 (0), .ci .i64 (0), .ci .i64 (0), .ci .i64 (0), .b, .b, .ci .i64 (0), .s, .ci .i64 (0), .ci .i64 (0), .b, .ci .i64 (0), .nil, .ci .i64 (0), .ci .i64 (0), .s, .nil, .ci .i64 (0)], .cells [.ci .u8 (0), .ci .i64 (0), .ci .i64 (0), .ci .i64 (0), .ci .i64 (0), .b, .b, .ci .i64 (0), .ci .i64 (0), .nil, .s, .ci .i64 (0), .ci .i64 (0), .b, .ci .i64 (0)], .cells [.i .i64, .row 4, .row 5, .i .i64, .i .i64, .i .i64, .i .i64, .i .i64, .i .i64, .i .i64, .i .i64, .i .i64, .i .i64, .i .i64, .i .i64, .i .i64, .i .i64, .i .i64, .i .i64, .i .i64, .i .i64, .i .i64, .i .i64, .row 6, .row 7, .i .u8, .i .i64, .i .u8, .i .u8, .i .i64, .i .i64, .i .i64, .b, .b, .i .i64, .s, .i .i64, .i .i64, .b, .i .i64, .row 8, .i .i64, .i .u8, .i .u8, .i .i64, .i .i64, .i .i64, .b, .b, .i .i64, .s, .i .i64, .i .i64, .b, .i .i64, .row 9, .i .i64, .i .u8, .i .u8, .i .i64, .i .i64, .i .i64, .b, .b, .i .i64, .s, .i .i64, .i .i64, .b, .i .i64, .row 10, .i .i64, .i .i64, .s, .row 11, .i .i64], .cells [.i .u8, .i .i64, .i .i64, .i .i64, .i .i64, .b, .b, .i .i64, .i .i64, .row 12, .s, .i .i64, .i .i64, .b, .i .i64], .row true [.int .i64], .row true [.int .i64], .row true qv02c, .row true qv01c, .row true [.int .i64], .row true [.int .i64], .row true [.int .i64], .row true [.str, .int .i64, .int .i64, .bool], .row true [.int .i64]]⟩
def ts44 : List LT := [.b, .b, .s, .b, .b, .b, .s, .b, .b, .b, .s, .b, .s, .b, .b, .s, .b, .i, .i, .i, .i, .i, .i, .i, .i, .i, .i, .i, .i, .i, .i, .i, .i, .i, .i, .i, .i, .i, .i, .i, .i, .i, .i, .i, .i, .b, .b, .i, .s, .i, .i, .b, .i, .i, .i, .i, .i, .i, .i, .b, .b, .i, .s, .i, .i, .b, .i, .i, .i, .i, .i, .i, .i, .b, .b, .i, .s, .i, .i, .b, .i, .i, .i, .s, .i, .i, .i, .i, .i, .i, .b, .b, .i, .i, .s, .i, .i, .b, .i, .l [.int .i64], .l [.int .i64], .l qv02c, .l qv01c, .l [.int .i64], .l [.int .i64], .l [.int .i64], .l [.str, .int .i64, .int .i64, .bool], .l [.int .i64]]
def cuts11 : List (List Nat × Cut (Sx2)) := [([1, 10], cutG sh11_0 ts44 F11_c0)]
noncomputable def X11 : Px (Sx2) := ⟨T, Tryz.prog, lkF [(20, run20), (17, run17), (35, run35), (111, run111), (113, run113), (37, run37), (38, run38), (116, run116), (118, run118), (120, run120), (122, run122)], mkCuts 11 cuts11, altN, altN_ok⟩
theorem k11 : AllCuts X11 32 11 (endK sr11 (toG rbSx2)) cuts11 :=
 ⟨cutG_ok (by (repeat intro _); show _ = _; kernel_rfl) (by (repeat intro _); show _ = _; kernel_rfl), trivial⟩
theorem sp11 : SpG T Tryz.prog 11 rbSx2 pa11 ts30 sr11 F11 :=
 spG (X := X11) tok (sfok_of ⟨okG sp20, okG sp17, okG sp35, okG sp111, okG sp113, okG sp37, okG sp38, okG sp116, okG sp118, okG sp120, okG sp122, trivial⟩) mixed 11 32 cuts11 rfl k11 (by (repeat intro _); show _ = _; kernel_rfl)
def pa125 : List VP := [.sl false [.int .i64], .sl false [.int .i64]]
def sr125 : RShape := ⟨.b, [], none⟩
def run125 {R : Type} : SF R := runG rb_b pa125 [.l [.int .i64], .l [.int .i64]] sr125 false (F125 FUEL)
def sh125_0 : Shape := ⟨[(26, [(0, .sl false [.int .i64]), (1, .sl false [.int .i64]), (5, .i .i64)])], []⟩
def cuts125 : List (List Nat × Cut (Bool)) := [([1, 1, 0, 1, 0], cutG sh125_0 [.l [.int .i64], .l [.int .i64], .i] F125_c0)]
noncomputable def X125 : Px (Bool) := ⟨T, Tryz.prog, lkF [], mkCuts 125 cuts125, altN, altN_ok⟩
theorem k125 : AllCuts X125 32 125 (endK sr125 (toG rb_b)) cuts125 :=
 ⟨cutG_ok (by (repeat intro _); show _ = _; kernel_rfl) (by (repeat intro _); show _ = _; kernel_rfl), trivial⟩
theorem sp125 : SpG T Tryz.prog 125 rb_b pa125 [.l [.int .i64], .l [.int .i64]] sr125 F125 :=
 spG (X := X125) tok (sfok_of trivial) mixed 125 32 cuts125 rfl k125 (by (repeat intro _); show _ = _; kernel_rfl)
def pa44 : List VP := [.agg qv03v, .agg qv03v]
def sr44 : RShape := ⟨.b, [], none⟩
def ts45 : List LT := [.i, .l [.int .i64], .l [.int .i64], .i, .i, .i, .i, .i, .i, .i, .i, .i, .i, .i, .i, .i, .i, .i, .i, .i, .i, .l [.int .i64], .l [.int .i64], .i, .i, .i, .i, .i, .i, .i, .i, .i, .i, .i, .i, .i, .i, .i, .i, .i]
def run44 {R : Type} : SF R := runG rb_b pa44 ts45 sr44 false (F44 FUEL)
noncomputable def X44 : Px (Bool) := ⟨T, Tryz.prog, lkF [(125, run125)], mkCuts 44 [], altN, altN_ok⟩
theorem sp44 : SpG T Tryz.prog 44 rb_b pa44 ts45 sr44 F44 :=
 spG (X := X44) tok (sfok_of ⟨okG sp125, trivial⟩) mixed 44 32 [] rfl trivial (by (repeat intro _); show _ = _; kernel_rfl)
def pa162 : List VP := [.agg qv07v, .agg qv07v]
def sr162 : RShape := ⟨.b, [], none⟩
def ts46 : List LT := [.i, .i, .i, .i, .i, .i, .b, .b, .i, .i, .l [.int .i64], .s, .i, .i, .b, .i, .i, .i, .i, .i, .i, .i, .i, .i, .i, .i, .b, .b, .i, .i, .l [.int .i64], .s, .i, .i, .b, .i, .i, .i, .i, .i]
def run162 {R : Type} : SF R := runG rb_b pa162 ts46 sr162 false (F162 FUEL)
noncomputable def X162 : Px (Bool) := ⟨T, Tryz.prog, lkF [(14, run14)], mkCuts 162 [], altN, altN_ok⟩
theorem sp162 : SpG T Tryz.prog 162 rb_b pa162 ts46 sr162 F162 :=
 spG (X := X162) tok (sfok_of ⟨okG sp14, trivial⟩) mixed 162 32 [] rfl trivial (by (repeat intro _); show _ = _; kernel_rfl)
def pa126 : List VP := [.sl false qv02c, .sl false qv02c]
def sr126 : RShape := ⟨.b, [], none⟩
def ts47 : List LT := [.l qv02c, .l qv02c]
def run126 {R : Type} : SF R := runG rb_b pa126 ts47 sr126 false (F126 FUEL)
def sh126_0 : Shape := ⟨[(27, [(0, .sl false qv02c), (1, .sl false qv02c), (5, .i .i64)])], []⟩
def ts48 : List LT := [.l qv02c, .l qv02c, .i]
def cuts126 : List (List Nat × Cut (Bool)) := [([1, 1, 0, 1, 0], cutG sh126_0 ts48 F126_c0)]
noncomputable def X126 : Px (Bool) := ⟨T, Tryz.prog, lkF [(162, run162)], mkCuts 126 cuts126, altN, altN_ok⟩
theorem k126 : AllCuts X126 32 126 (endK sr126 (toG rb_b)) cuts126 :=
 ⟨cutG_ok (by (repeat intro _); show _ = _; kernel_rfl) (by (repeat intro _); show _ = _; kernel_rfl), trivial⟩
theorem sp126 : SpG T Tryz.prog 126 rb_b pa126 ts47 sr126 F126 :=
 spG (X := X126) tok (sfok_of ⟨okG sp162, trivial⟩) mixed 126 32 cuts126 rfl k126 (by (repeat intro _); show _ = _; kernel_rfl)
def pa45 : List VP := [.agg [.i .i64, .i .i64, .sl false qv02c], .agg [.i .i64, .i .i64, .sl false qv02c]]
def sr45 : RShape := ⟨.b, [], none⟩
def ts49 : List LT := [.i, .i, .l qv02c, .i, .i, .l qv02c]
def run45 {R : Type} : SF R := runG rb_b pa45 ts49 sr45 false (F45 FUEL)
noncomputable def X45 : Px (Bool) := ⟨T, Tryz.prog, lkF [(126, run126)], mkCuts 45 [], altN, altN_ok⟩
theorem sp45 : SpG T Tryz.prog 45 rb_b pa45 ts49 sr45 F45 :=
 spG (X := X45) tok (sfok_of ⟨okG sp126, trivial⟩) mixed 45 32 [] rfl trivial (by (repeat intro _); show _ = _; kernel_rfl)
def pa46 : List VP := [.sl false qv01c, .sl false qv01c]
def sr46 : RShape := ⟨.b, [], none⟩
def ts50 : List LT := [.l qv01c, .l qv01c]
def run46 {R : Type} : SF R := runG rb_b pa46 ts50 sr46 false (F46 FUEL)
def sh46_0 : Shape := ⟨[(55, [(0, .sl false qv01c), (1, .sl false qv01c), (5, .i .i64)])], []⟩
def ts51 : List LT := [.l qv01c, .l qv01c, .i]
def cuts46 : List (List Nat × Cut (Bool)) := [([1, 1, 0, 1, 0], cutG sh46_0 ts51 F46_c0)]
noncomputable def X46 : Px (Bool) := ⟨T, Tryz.prog, lkF [(14, run14)], mkCuts 46 cuts46, altN, altN_ok⟩
theorem k46 : AllCuts X46 32 46 (endK sr46 (toG rb_b)) cuts46 :=
 ⟨cutG_ok (by (repeat intro _); show _ = _; kernel_rfl) (by (repeat intro _); show _ = _; kernel_rfl), trivial⟩
theorem sp46 : SpG T Tryz.prog 46 rb_b pa46 ts50 sr46 F46 :=
 spG (X := X46) tok (sfok_of ⟨okG sp14, trivial⟩) mixed 46 32 cuts46 rfl k46 (by (repeat intro _); show _ = _; kernel_rfl)
def pa47 : List VP := [.agg qv06v, .agg qv06v]
def sr47 : RShape := ⟨.b, [], none⟩
def ts52 : List LT := [.i, .i, .i, .i, .i, .b, .b, .i, .s, .i, .i, .b, .i, .l [.int .i64], .i, .i, .i, .i, .i, .i, .b, .b, .i, .s, .i, .i, .b, .i, .l [.int .i64], .i]
def run47 {R : Type} : SF R := runG rb_b pa47 ts52 sr47 false (F47 FUEL)
def sh47_0 : Shape := ⟨[(71, [(2, .ref 0 0), (3, .ref 1 0), (5, .i .i64)])], [.cells qv06v, .cells qv06v]⟩
def ts53 : List LT := [.i, .i, .i, .i, .i, .i, .b, .b, .i, .s, .i, .i, .b, .i, .l [.int .i64], .i, .i, .i, .i, .i, .i, .b, .b, .i, .s, .i, .i, .b, .i, .l [.int .i64], .i]
def cuts47 : List (List Nat × Cut (Bool)) := [([1, 1, 0, 1, 0], cutG sh47_0 ts53 F47_c0)]
noncomputable def X47 : Px (Bool) := ⟨T, Tryz.prog, lkF [], mkCuts 47 cuts47, altN, altN_ok⟩
theorem k47 : AllCuts X47 32 47 (endK sr47 (toG rb_b)) cuts47 :=
 ⟨cutG_ok (by (repeat intro _); show _ = _; kernel_rfl) (by (repeat intro _); show _ = _; kernel_rfl), trivial⟩
theorem sp47 : SpG T Tryz.prog 47 rb_b pa47 ts52 sr47 F47 :=
 spG (X := X47) tok (sfok_of trivial) mixed 47 32 cuts47 rfl k47 (by (repeat intro _); show _ = _; kernel_rfl)
def pa13 : List VP := [.agg qv00v, .agg qv00v]
def sr13 : RShape := ⟨.b, [], none⟩
def ts54 : List LT := [.i, .l [.int .i64], .l [.int .i64], .i, .i, .i, .i, .i, .i, .i, .i, .i, .i, .i, .i, .i, .i, .i, .i, .i, .i, .i, .i, .l qv02c, .l qv01c, .i, .i, .i, .i, .i, .i, .i, .b, .b, .i, .s, .i, .i, .b, .i, .l [.int .i64], .i, .i, .i, .i, .i, .i, .b, .b, .i, .s, .i, .i, .b, .i, .l [.int .i64], .i, .i, .i, .i, .i, .i, .b, .b, .i, .s, .i, .i, .b, .i, .l [.int .i64], .i, .i, .s, .l [.str, .int .i64, .int .i64, .bool], .i, .i, .l [.int .i64], .l [.int .i64], .i, .i, .i, .i, .i, .i, .i, .i, .i, .i, .i, .i, .i, .i, .i, .i, .i, .i, .i, .i, .l qv02c, .l qv01c, .i, .i, .i, .i, .i, .i, .i, .b, .b, .i, .s, .i, .i, .b, .i, .l [.int .i64], .i, .i, .i, .i, .i, .i, .b, .b, .i, .s, .i, .i, .b, .i, .l [.int .i64], .i, .i, .i, .i, .i, .i, .b, .b, .i, .s, .i, .i, .b, .i, .l [.int .i64], .i, .i, .s, .l [.str, .int .i64, .int .i64, .bool], .i]
def run13 {R : Type} : SF R := runG rb_b pa13 ts54 sr13 false (F13 FUEL)
def sh13_0 : Shape := ⟨[(109, [(2, .ref 0 0), (3, .ref 1 0), (5, .i .i64)])], [.cells qv00v, .cells qv00v]⟩
def ts55 : List LT := [.i, .i, .l [.int .i64], .l [.int .i64], .i, .i, .i, .i, .i, .i, .i, .i, .i, .i, .i, .i, .i, .i, .i, .i, .i, .i, .i, .i, .l qv02c, .l qv01c, .i, .i, .i, .i, .i, .i, .i, .b, .b, .i, .s, .i, .i, .b, .i, .l [.int .i64], .i, .i, .i, .i, .i, .i, .b, .b, .i, .s, .i, .i, .b, .i, .l [.int .i64], .i, .i, .i, .i, .i, .i, .b, .b, .i, .s, .i, .i, .b, .i, .l [.int .i64], .i, .i, .s, .l [.str, .int .i64, .int .i64, .bool], .i, .i, .l [.int .i64], .l [.int .i64], .i, .i, .i, .i, .i, .i, .i, .i, .i, .i, .i, .i, .i, .i, .i, .i, .i, .i, .i, .i, .l qv02c, .l qv01c, .i, .i, .i, .i, .i, .i, .i, .b, .b, .i, .s, .i, .i, .b, .i, .l [.int .i64], .i, .i, .i, .i, .i, .i, .b, .b, .i, .s, .i, .i, .b, .i, .l [.int .i64], .i, .i, .i, .i, .i, .i, .b, .b, .i, .s, .i, .i, .b, .i, .l [.int .i64], .i, .i, .s, .l [.str, .int .i64, .int .i64, .bool], .i]
def cuts13 : List (List Nat × Cut (Bool)) := [([1, 1, 0, 1, 0], cutG sh13_0 ts55 F13_c0)]
noncomputable def X13 : Px (Bool) := ⟨T, Tryz.prog, lkF [(44, run44), (45, run45), (46, run46), (47, run47)], mkCuts 13 cuts13, altN, altN_ok⟩
theorem k13 : AllCuts X13 32 13 (endK sr13 (toG rb_b)) cuts13 :=
 ⟨cutG_ok (by (repeat intro _); show _ = _; kernel_rfl) (by (repeat intro _); show _ = _; kernel_rfl), trivial⟩
theorem sp13 : SpG T Tryz.prog 13 rb_b pa13 ts54 sr13 F13 :=
 spG (X := X13) tok (sfok_of ⟨okG sp44, okG sp45, okG sp46, okG sp47, trivial⟩) mixed 13 32 cuts13 rfl k13 (by (repeat intro _); show _ = _; kernel_rfl)
def pa76 : List VP := [.agg qv03v, .agg qv03v]
def sr76 : RShape := ⟨.b, [], none⟩
def run76 {R : Type} : SF R := runG rb_b pa76 ts45 sr76 false (F76 FUEL)
noncomputable def X76 : Px (Bool) := ⟨T, Tryz.prog, lkF [(148, run148)], mkCuts 76 [], altN, altN_ok⟩
theorem sp76 : SpG T Tryz.prog 76 rb_b pa76 ts45 sr76 F76 :=
 spG (X := X76) tok (sfok_of ⟨okG sp148, trivial⟩) mixed 76 32 [] rfl trivial (by (repeat intro _); show _ = _; kernel_rfl)
def pa78 : List VP := [.sl false [.str, .int .i64, .int .i64, .bool], .sl false [.str, .int .i64, .int .i64, .bool]]
def sr78 : RShape := ⟨.b, [], none⟩
def ts56 : List LT := [.l [.str, .int .i64, .int .i64, .bool], .l [.str, .int .i64, .int .i64, .bool]]
def run78 {R : Type} : SF R := runG rb_b pa78 ts56 sr78 false (F78 FUEL)
def sh78_0 : Shape := ⟨[(26, [(0, .sl false [.str, .int .i64, .int .i64, .bool]), (1, .sl false [.str, .int .i64, .int .i64, .bool]), (12, .i .i64), (13, .i .i64)])], []⟩
def ts57 : List LT := [.l [.str, .int .i64, .int .i64, .bool], .l [.str, .int .i64, .int .i64, .bool], .i, .i]
def cuts78 : List (List Nat × Cut (Bool)) := [([1, 1, 0, 1, 0], cutG sh78_0 ts57 F78_c0)]
noncomputable def X78 : Px (Bool) := ⟨T, Tryz.prog, lkF [], mkCuts 78 cuts78, altN, altN_ok⟩
theorem k78 : AllCuts X78 32 78 (endK sr78 (toG rb_b)) cuts78 :=
 ⟨cutG_ok (by (repeat intro _); show _ = _; kernel_rfl) (by (repeat intro _); show _ = _; kernel_rfl), trivial⟩
theorem sp78 : SpG T Tryz.prog 78 rb_b pa78 ts56 sr78 F78 :=
 spG (X := X78) tok (sfok_of trivial) mixed 78 32 cuts78 rfl k78 (by (repeat intro _); show _ = _; kernel_rfl)
def pa80 : List VP := [.agg qv06v, .agg qv06v]
def sr80 : RShape := ⟨.b, [], none⟩
def run80 {R : Type} : SF R := runG rb_b pa80 ts52 sr80 false (F80 FUEL)
noncomputable def X80 : Px (Bool) := ⟨T, Tryz.prog, lkF [(148, run148)], mkCuts 80 [], altN, altN_ok⟩
theorem sp80 : SpG T Tryz.prog 80 rb_b pa80 ts52 sr80 F80 :=
 spG (X := X80) tok (sfok_of ⟨okG sp148, trivial⟩) mixed 80 32 [] rfl trivial (by (repeat intro _); show _ = _; kernel_rfl)
def pa150 : List VP := [.agg qv07v, .agg qv07v]
def sr150 : RShape := ⟨.b, [], none⟩
def run150 {R : Type} : SF R := runG rb_b pa150 ts46 sr150 false (F150 FUEL)
noncomputable def X150 : Px (Bool) := ⟨T, Tryz.prog, lkF [(146, run146)], mkCuts 150 [], altN, altN_ok⟩
theorem sp150 : SpG T Tryz.prog 150 rb_b pa150 ts46 sr150 F150 :=
 spG (X := X150) tok (sfok_of ⟨okG sp146, trivial⟩) mixed 150 32 [] rfl trivial (by (repeat intro _); show _ = _; kernel_rfl)
def pa84 : List VP := [.agg [.i .i64, .i .i64, .sl false qv02c], .agg [.i .i64, .i .i64, .sl false qv02c]]
def sr84 : RShape := ⟨.b, [], none⟩
def run84 {R : Type} : SF R := runG rb_b pa84 ts49 sr84 false (F84 FUEL)
def sh84_0 : Shape := ⟨[(32, [(1, .sl false qv02c), (2, .clos 150 []), (15, .sl false qv02c), (16, .i .i64), (17, .i .i64)]), (24, [(17, .b)])], []⟩
def ts58 : List LT := [.l qv02c, .l qv02c, .i, .i, .b]
def cuts84 : List (List Nat × Cut (Bool)) := [([1, 0, 17, 298, 1, 1, 0, 1, 0], cutG sh84_0 ts58 F84_c0)]
noncomputable def X84 : Px (Bool) := ⟨T, Tryz.prog, lkF [(150, run150)], mkCuts 84 cuts84, altN, altN_ok⟩
theorem k84 : AllCuts X84 32 84 (endK sr84 (toG rb_b)) cuts84 :=
 ⟨cutG_ok (by (repeat intro _); show _ = _; kernel_rfl) (by (repeat intro _); show _ = _; kernel_rfl), trivial⟩
theorem sp84 : SpG T Tryz.prog 84 rb_b pa84 ts49 sr84 F84 :=
 spG (X := X84) tok (sfok_of ⟨okG sp150, trivial⟩) mixed 84 32 cuts84 rfl k84 (by (repeat intro _); show _ = _; kernel_rfl)
def pa86 : List VP := [.sl false qv01c, .sl false qv01c]
def sr86 : RShape := ⟨.b, [], none⟩
def run86 {R : Type} : SF R := runG rb_b pa86 ts50 sr86 false (F86 FUEL)
def sh86_0 : Shape := ⟨[(18, [(0, .yield 6), (5, .sl false qv01c), (6, .i .i64), (7, .i .i64)]), (45, [(3, .ref 0 0), (4, .ref 1 0)])], [.cells [.sl false qv01c], .cells [.b]]⟩
def cuts86 : List (List Nat × Cut (Bool)) := [([1, 1, 0, 1, 0, 348, 1, 0], cutG sh86_0 ts28 F86_c0)]
noncomputable def X86 : Px (Bool) := ⟨T, Tryz.prog, lkF [(146, run146)], mkCuts 86 cuts86, altN, altN_ok⟩
theorem k86 : AllCuts X86 32 86 (endK sr86 (toG rb_b)) cuts86 :=
 ⟨cutG_ok (by (repeat intro _); show _ = _; kernel_rfl) (by (repeat intro _); show _ = _; kernel_rfl), trivial⟩
theorem sp86 : SpG T Tryz.prog 86 rb_b pa86 ts50 sr86 F86 :=
 spG (X := X86) tok (sfok_of ⟨okG sp146, trivial⟩) mixed 86 32 cuts86 rfl k86 (by (repeat intro _); show _ = _; kernel_rfl)
def pa19 : List VP := [.agg qv00v, .agg qv00v]
def sr19 : RShape := ⟨.b, [], none⟩
def run19 {R : Type} : SF R := runG rb_b pa19 ts54 sr19 false (F19 FUEL)
noncomputable def X19 : Px (Bool) := ⟨T, Tryz.prog, lkF [(76, run76), (78, run78), (80, run80), (84, run84), (86, run86)], mkCuts 19 [], altN, altN_ok⟩
theorem sp19 : SpG T Tryz.prog 19 rb_b pa19 ts54 sr19 F19 :=
 spG (X := X19) tok (sfok_of ⟨okG sp76, okG sp78, okG sp80, okG sp84, okG sp86, trivial⟩) mixed 19 32 [] rfl trivial (by (repeat intro _); show _ = _; kernel_rfl)
def pa10 : List VP := []
def sr10 : RShape := ⟨.b, [], none⟩
def run10 {R : Type} : SF R := runG rb_b pa10 [] sr10 false (F10 FUEL)
noncomputable def X10 : Px (Bool) := ⟨T, Tryz.prog, lkF [(34, run34), (30, run30), (11, run11), (14, run14), (13, run13), (15, run15), (17, run17), (20, run20), (19, run19)], mkCuts 10 [], altN, altN_ok⟩
theorem sp10 : SpG T Tryz.prog 10 rb_b pa10 [] sr10 F10 :=
 spG (X := X10) tok (sfok_of ⟨okG sp34, okG sp30, okG sp11, okG sp14, okG sp13, okG sp15, okG sp17, okG sp20, okG sp19, trivial⟩) mixed 10 32 [] rfl trivial (by (repeat intro _); show _ = _; kernel_rfl)
def pa96 : List VP := [.agg qv03v]
def sr96 : RShape := ⟨.agg qv010v, [.row true [.int .i64], .row true [.int .i64]], none⟩
def run96 {R : Type} : SF R := runG rbSi18l2 pa96 ts0 sr96 false (F96 FUEL)
noncomputable def X96 : Px (Si18l2) := ⟨T, Tryz.prog, lkF [], mkCuts 96 [], altN, altN_ok⟩
theorem sp96 : SpG T Tryz.prog 96 rbSi18l2 pa96 ts0 sr96 F96 :=
 spG (X := X96) tok (sfok_of trivial) mixed 96 32 [] rfl trivial (by (repeat intro _); show _ = _; kernel_rfl)
def pa40 : List VP := [.agg qv04v]
def sr40 : RShape := ⟨.agg qv012v, [.row true [.int .i64]], none⟩
def run40 {R : Type} : SF R := runG rbSi5b2i2si2bil pa40 ts5 sr40 false (F40 FUEL)
noncomputable def X40 : Px (Si5b2i2si2bil) := ⟨T, Tryz.prog, lkF [], mkCuts 40 [], altN, altN_ok⟩
theorem sp40 : SpG T Tryz.prog 40 rbSi5b2i2si2bil pa40 ts5 sr40 F40 :=
 spG (X := X40) tok (sfok_of trivial) mixed 40 32 [] rfl trivial (by (repeat intro _); show _ = _; kernel_rfl)
def pa97 : List VP := [.agg [.i .i64, .i .i64, .sl false qv02c]]
def sr97 : RShape := ⟨.agg [.i .i64, .i .i64, .row 0], [.row true qv02c], none⟩
def run97 {R : Type} : SF R := runG rb_i2l_i6b2i2lsi2bi5_ pa97 ts1 sr97 false (F97 FUEL)
def sh97_0 : Shape := ⟨[(29, [(1, .ref 0 0), (2, .ref 1 0), (3, .row 2), (4, .i .i64)])], [.cells [.i .i64, .i .i64, .sl false qv02c], .cells [.ci .i64 (0), .ci .i64 (0), .nil], .row true qv02c]⟩
def ts59 : List LT := [.i, .i, .i, .l qv02c, .l qv02c]
def cuts97 : List (List Nat × Cut (Int × Int × (List (TY0)))) := [([1, 1, 0, 1, 0], cutG sh97_0 ts59 F97_c0)]
noncomputable def X97 : Px (Int × Int × (List (TY0))) := ⟨T, Tryz.prog, lkF [(40, run40)], mkCuts 97 cuts97, altN, altN_ok⟩
theorem k97 : AllCuts X97 32 97 (endK sr97 (toG rb_i2l_i6b2i2lsi2bi5_)) cuts97 :=
 ⟨cutG_ok (by (repeat intro _); show _ = _; kernel_rfl) (by (repeat intro _); show _ = _; kernel_rfl), trivial⟩
theorem sp97 : SpG T Tryz.prog 97 rb_i2l_i6b2i2lsi2bi5_ pa97 ts1 sr97 F97 :=
 spG (X := X97) tok (sfok_of ⟨okG sp40, trivial⟩) mixed 97 32 cuts97 rfl k97 (by (repeat intro _); show _ = _; kernel_rfl)
def pa98 : List VP := [.sl false qv01c]
def sr98 : RShape := ⟨.row 0, [.row true qv01c], none⟩
def run98 {R : Type} : SF R := runG rb_l_i7b2i2lsi2bi_ pa98 ts14 sr98 false (F98 FUEL)
def sh98_0 : Shape := ⟨[(25, [(0, .sl false qv01c), (3, .row 0), (4, .i .i64)])], [.row true qv01c]⟩
def ts60 : List LT := [.l qv01c, .i, .l qv01c]
def cuts98 : List (List Nat × Cut ((List (TY1)))) := [([1, 1, 0, 1, 0], cutG sh98_0 ts60 F98_c0)]
noncomputable def X98 : Px ((List (TY1))) := ⟨T, Tryz.prog, lkF [(40, run40)], mkCuts 98 cuts98, altN, altN_ok⟩
theorem k98 : AllCuts X98 32 98 (endK sr98 (toG rb_l_i7b2i2lsi2bi_)) cuts98 :=
 ⟨cutG_ok (by (repeat intro _); show _ = _; kernel_rfl) (by (repeat intro _); show _ = _; kernel_rfl), trivial⟩
theorem sp98 : SpG T Tryz.prog 98 rb_l_i7b2i2lsi2bi_ pa98 ts14 sr98 F98 :=
 spG (X := X98) tok (sfok_of ⟨okG sp40, trivial⟩) mixed 98 32 cuts98 rfl k98 (by (repeat intro _); show _ = _; kernel_rfl)
def pa99 : List VP := [.agg qv06v]
def sr99 : RShape := ⟨.agg qv018v, [.row true [.int .i64]], none⟩
def run99 {R : Type} : SF R := runG rbSi5b2isi2bi2l pa99 ts16 sr99 false (F99 FUEL)
noncomputable def X99 : Px (Si5b2isi2bi2l) := ⟨T, Tryz.prog, lkF [], mkCuts 99 [], altN, altN_ok⟩
theorem sp99 : SpG T Tryz.prog 99 rbSi5b2isi2bi2l pa99 ts16 sr99 F99 :=
 spG (X := X99) tok (sfok_of trivial) mixed 99 32 [] rfl trivial (by (repeat intro _); show _ = _; kernel_rfl)
def pa100 : List VP := [.sl false [.str, .int .i64, .int .i64, .bool]]
def sr100 : RShape := ⟨.row 0, [.row true [.str, .int .i64, .int .i64, .bool]], none⟩
def run100 {R : Type} : SF R := runG rb_l_si2b_ pa100 ts17 sr100 false (F100 FUEL)
noncomputable def X100 : Px ((List (ByteArray × Int × Int × Bool))) := ⟨T, Tryz.prog, lkF [], mkCuts 100 [], altN, altN_ok⟩
theorem sp100 : SpG T Tryz.prog 100 rb_l_si2b_ pa100 ts17 sr100 F100 :=
 spG (X := X100) tok (sfok_of trivial) mixed 100 32 [] rfl trivial (by (repeat intro _); show _ = _; kernel_rfl)
def pa24 : List VP := [.agg qv00v]
def sr24 : RShape := ⟨.agg qv09v, [.row true [.int .i64], .row true [.int .i64], .row true qv02c, .row true qv01c, .row true [.int .i64], .row true [.int .i64], .row true [.int .i64], .row true [.str, .int .i64, .int .i64, .bool]], none⟩
def run24 {R : Type} : SF R := runG rbSx1 pa24 ts3 sr24 false (F24 FUEL)
noncomputable def X24 : Px (Sx1) := ⟨T, Tryz.prog, lkF [(96, run96), (97, run97), (98, run98), (99, run99), (100, run100)], mkCuts 24 [], altN, altN_ok⟩
theorem sp24 : SpG T Tryz.prog 24 rbSx1 pa24 ts3 sr24 F24 :=
 spG (X := X24) tok (sfok_of ⟨okG sp96, okG sp97, okG sp98, okG sp99, okG sp100, trivial⟩) mixed 24 32 [] rfl trivial (by (repeat intro _); show _ = _; kernel_rfl)
def pa65 : List VP := [.agg qv00v]
def sr65 : RShape := ⟨.b, [], none⟩
def run65 {R : Type} : SF R := runG rb_b pa65 ts3 sr65 false (F65 FUEL)
def sh65_0 : Shape := ⟨[(22, [(1, .ref 0 0), (3, .i .i64)])], [.cells qv00v]⟩
def cuts65 : List (List Nat × Cut (Bool)) := [([1, 0, 1, 0], cutG sh65_0 ts4 F65_c0)]
noncomputable def X65 : Px (Bool) := ⟨T, Tryz.prog, lkF [], mkCuts 65 cuts65, altN, altN_ok⟩
theorem k65 : AllCuts X65 32 65 (endK sr65 (toG rb_b)) cuts65 :=
 ⟨cutG_ok (by (repeat intro _); show _ = _; kernel_rfl) (by (repeat intro _); show _ = _; kernel_rfl), trivial⟩
theorem sp65 : SpG T Tryz.prog 65 rb_b pa65 ts3 sr65 F65 :=
 spG (X := X65) tok (sfok_of trivial) mixed 65 32 cuts65 rfl k65 (by (repeat intro _); show _ = _; kernel_rfl)
def pa124 : List VP := [.agg qv04v]
def sr124 : RShape := ⟨.tup qv015v, [], none⟩
def run124 {R : Type} : SF R := runG rbSi7b2i2lsi2bi2 pa124 ts5 sr124 false (F124 FUEL)
noncomputable def X124 : Px (Si7b2i2lsi2bi2) := ⟨T, Tryz.prog, lkF [(21, run21), (22, run22), (40, run40)], mkCuts 124 [], altN, altN_ok⟩
theorem sp124 : SpG T Tryz.prog 124 rbSi7b2i2lsi2bi2 pa124 ts5 sr124 F124 :=
 spG (X := X124) tok (sfok_of ⟨okG sp21, okG sp22, okG sp40, trivial⟩) mixed 124 32 [] rfl trivial (by (repeat intro _); show _ = _; kernel_rfl)
def pa39 : List VP := [.sl false qv01c, .i .i64, .i .i64]
def sr39 : RShape := ⟨.tup [.agg qv012v, .b], [.row true [.int .i64]], none⟩
def run39 {R : Type} : SF R := runG rbSi5b2i2si2bibl pa39 ts26 sr39 false (F39 FUEL)
def sh39_0 : Shape := ⟨[(38, [(0, .sl false qv01c), (1, .i .i64), (2, .i .i64), (6, .ref 0 0), (8, .i .i64)])], [.cells [.ci .u8 (0), .ci .i64 (0), .ci .i64 (0), .ci .i64 (0), .ci .i64 (0), .b, .b, .ci .i64 (0), .ci .i64 (0), .nil, .s, .ci .i64 (0), .ci .i64 (0), .b, .ci .i64 (0)]]⟩
def ts61 : List LT := [.l qv01c, .i, .i, .i, .b, .b, .s, .b]
def cuts39 : List (List Nat × Cut (Si5b2i2si2bibl)) := [([1, 0, 1, 0], cutG sh39_0 ts61 F39_c0)]
noncomputable def X39 : Px (Si5b2i2si2bibl) := ⟨T, Tryz.prog, lkF [(40, run40)], mkCuts 39 cuts39, altN, altN_ok⟩
theorem k39 : AllCuts X39 32 39 (endK sr39 (toG rbSi5b2i2si2bibl)) cuts39 :=
 ⟨cutG_ok (by (repeat intro _); show _ = _; kernel_rfl) (by (repeat intro _); show _ = _; kernel_rfl), trivial⟩
theorem sp39 : SpG T Tryz.prog 39 rbSi5b2i2si2bibl pa39 ts26 sr39 F39 :=
 spG (X := X39) tok (sfok_of ⟨okG sp40, trivial⟩) mixed 39 32 cuts39 rfl k39 (by (repeat intro _); show _ = _; kernel_rfl)
def pa68 : List VP := [.sl false qv01c]
def sr68 : RShape := ⟨.b, [], none⟩
def run68 {R : Type} : SF R := runG rb_b pa68 ts14 sr68 false (F68 FUEL)
def sh68_0 : Shape := ⟨[(60, [(0, .sl false qv01c), (3, .i .i64)])], []⟩
def ts62 : List LT := [.l qv01c, .i]
def cuts68 : List (List Nat × Cut (Bool)) := [([1, 0, 1, 0], cutG sh68_0 ts62 F68_c0)]
noncomputable def X68 : Px (Bool) := ⟨T, Tryz.prog, lkF [(124, run124), (39, run39)], mkCuts 68 cuts68, altN, altN_ok⟩
theorem k68 : AllCuts X68 32 68 (endK sr68 (toG rb_b)) cuts68 :=
 ⟨cutG_ok (by (repeat intro _); show _ = _; kernel_rfl) (by (repeat intro _); show _ = _; kernel_rfl), trivial⟩
theorem sp68 : SpG T Tryz.prog 68 rb_b pa68 ts14 sr68 F68 :=
 spG (X := X68) tok (sfok_of ⟨okG sp124, okG sp39, trivial⟩) mixed 68 32 cuts68 rfl k68 (by (repeat intro _); show _ = _; kernel_rfl)
def pa69 : List VP := [.agg [.i .u8, .i .i64]]
def sr69 : RShape := ⟨.b, [], none⟩
def run69 {R : Type} : SF R := runG rb_b pa69 [.i, .i] sr69 false (F69 FUEL)
noncomputable def X69 : Px (Bool) := ⟨T, Tryz.prog, lkF [], mkCuts 69 [], altN, altN_ok⟩
theorem sp69 : SpG T Tryz.prog 69 rb_b pa69 [.i, .i] sr69 F69 :=
 spG (X := X69) tok (sfok_of trivial) mixed 69 32 [] rfl trivial (by (repeat intro _); show _ = _; kernel_rfl)
def pa70 : List VP := [.sl false [.str, .int .i64, .int .i64, .bool]]
def sr70 : RShape := ⟨.b, [], none⟩
def run70 {R : Type} : SF R := runG rb_b pa70 ts17 sr70 false (F70 FUEL)
def sh70_0 : Shape := ⟨[(37, [(0, .sl false [.str, .int .i64, .int .i64, .bool]), (3, .i .i64)])], []⟩
def ts63 : List LT := [.l [.str, .int .i64, .int .i64, .bool], .i]
def cuts70 : List (List Nat × Cut (Bool)) := [([1, 0, 1, 0], cutG sh70_0 ts63 F70_c0)]
noncomputable def X70 : Px (Bool) := ⟨T, Tryz.prog, lkF [(29, run29)], mkCuts 70 cuts70, altN, altN_ok⟩
theorem k70 : AllCuts X70 32 70 (endK sr70 (toG rb_b)) cuts70 :=
 ⟨cutG_ok (by (repeat intro _); show _ = _; kernel_rfl) (by (repeat intro _); show _ = _; kernel_rfl), trivial⟩
theorem sp70 : SpG T Tryz.prog 70 rb_b pa70 ts17 sr70 F70 :=
 spG (X := X70) tok (sfok_of ⟨okG sp29, trivial⟩) mixed 70 32 cuts70 rfl k70 (by (repeat intro _); show _ = _; kernel_rfl)
def pa16 : List VP := [.agg qv00v]
def sr16 : RShape := ⟨.b, [], none⟩
def run16 {R : Type} : SF R := runG rb_b pa16 ts3 sr16 false (F16 FUEL)
noncomputable def X16 : Px (Bool) := ⟨T, Tryz.prog, lkF [(65, run65), (66, run66), (67, run67), (68, run68), (69, run69), (70, run70)], mkCuts 16 [], altN, altN_ok⟩
theorem sp16 : SpG T Tryz.prog 16 rb_b pa16 ts3 sr16 F16 :=
 spG (X := X16) tok (sfok_of ⟨okG sp65, okG sp66, okG sp67, okG sp68, okG sp69, okG sp70, trivial⟩) mixed 16 32 [] rfl trivial (by (repeat intro _); show _ = _; kernel_rfl)
def pa18 : List VP := [.agg qv00v, .agg qv04v]
def sr18 : RShape := ⟨.b, [], none⟩
def run18 {R : Type} : SF R := runG rb_b pa18 ts30 sr18 false (F18 FUEL)
noncomputable def X18 : Px (Bool) := ⟨T, Tryz.prog, lkF [(16, run16), (21, run21), (22, run22)], mkCuts 18 [], altN, altN_ok⟩
theorem sp18 : SpG T Tryz.prog 18 rb_b pa18 ts30 sr18 F18 :=
 spG (X := X18) tok (sfok_of ⟨okG sp16, okG sp21, okG sp22, trivial⟩) mixed 18 32 [] rfl trivial (by (repeat intro _); show _ = _; kernel_rfl)
def pa104 : List VP := [.i .i64, .i .i64, .i .i64]
def sr104 : RShape := ⟨.b, [], none⟩
def run104 {R : Type} : SF R := runG rb_b pa104 [.i, .i, .i] sr104 false (F104 FUEL)
noncomputable def X104 : Px (Bool) := ⟨T, Tryz.prog, lkF [(155, run155), (105, run105)], mkCuts 104 [], altN, altN_ok⟩
theorem sp104 : SpG T Tryz.prog 104 rb_b pa104 [.i, .i, .i] sr104 F104 :=
 spG (X := X104) tok (sfok_of ⟨okG sp155, okG sp105, trivial⟩) mixed 104 32 [] rfl trivial (by (repeat intro _); show _ = _; kernel_rfl)
def pa101 : List VP := [.agg qv03v, .i .i64]
def sr101 : RShape := ⟨.b, [], none⟩
def run101 {R : Type} : SF R := runG rb_b pa101 ts6 sr101 false (F101 FUEL)
noncomputable def X101 : Px (Bool) := ⟨T, Tryz.prog, lkF [(66, run66), (104, run104)], mkCuts 101 [], altN, altN_ok⟩
theorem sp101 : SpG T Tryz.prog 101 rb_b pa101 ts6 sr101 F101 :=
 spG (X := X101) tok (sfok_of ⟨okG sp66, okG sp104, trivial⟩) mixed 101 32 [] rfl trivial (by (repeat intro _); show _ = _; kernel_rfl)
def pa25 : List VP := [.agg qv03v, .sl false [.int .i64]]
def sr25 : RShape := ⟨.agg qv010v, [.row true [.int .i64], .row true [.int .i64]], none⟩
def run25 {R : Type} : SF R := runG rbSi18l2 pa25 ts31 sr25 false (F25 FUEL)
def sh25_0 : Shape := ⟨[(26, [(1, .sl false [.int .i64]), (2, .ref 0 0), (4, .ref 1 0), (5, .i .i64)])], [.cells qv014v, .cells [.ci .i64 (0), .nil, .nil, .ci .i64 (0), .ci .i64 (0), .ci .i64 (0), .ci .i64 (0), .ci .i64 (0), .ci .i64 (0), .ci .i64 (0), .ci .i64 (0), .ci .i64 (0), .ci .i64 (0), .ci .i64 (0), .ci .i64 (0), .ci .i64 (0), .ci .i64 (0), .ci .i64 (0), .ci .i64 (0), .ci .i64 (0)], .row true [.int .i64], .row true [.int .i64]]⟩
def ts64 : List LT := [.l [.int .i64], .i, .i, .i, .i, .i, .i, .i, .i, .i, .i, .i, .i, .i, .i, .i, .i, .i, .i, .i, .l [.int .i64], .l [.int .i64]]
def cuts25 : List (List Nat × Cut (Si18l2)) := [([1, 1, 0, 1, 0], cutG sh25_0 ts64 F25_c0)]
noncomputable def X25 : Px (Si18l2) := ⟨T, Tryz.prog, lkF [(96, run96), (101, run101)], mkCuts 25 cuts25, altN, altN_ok⟩
theorem k25 : AllCuts X25 32 25 (endK sr25 (toG rbSi18l2)) cuts25 :=
 ⟨cutG_ok (by (repeat intro _); show _ = _; kernel_rfl) (by (repeat intro _); show _ = _; kernel_rfl), trivial⟩
theorem sp25 : SpG T Tryz.prog 25 rbSi18l2 pa25 ts31 sr25 F25 :=
 spG (X := X25) tok (sfok_of ⟨okG sp96, okG sp101, trivial⟩) mixed 25 32 cuts25 rfl k25 (by (repeat intro _); show _ = _; kernel_rfl)
def pa180 : List VP := [.sl false [.int .i64], .i .i64]
def sr180 : RShape := ⟨.tup [.i .i64, .b], [], none⟩
def run180 {R : Type} : SF R := runG rb_ib pa180 [.l [.int .i64], .i] sr180 false (F180 FUEL)
def sh180_0 : Shape := ⟨[(37, [(0, .sl false [.int .i64]), (1, .i .i64), (6, .i .i64), (7, .i .i64)])], []⟩
def cuts180 : List (List Nat × Cut (Int × Bool)) := [([1, 1, 1, 0, 1, 0], cutG sh180_0 [.l [.int .i64], .i, .i, .i] F180_c0)]
noncomputable def X180 : Px (Int × Bool) := ⟨T, Tryz.prog, lkF [(155, run155), (105, run105)], mkCuts 180 cuts180, altN, altN_ok⟩
theorem k180 : AllCuts X180 32 180 (endK sr180 (toG rb_ib)) cuts180 :=
 ⟨cutG_ok (by (repeat intro _); show _ = _; kernel_rfl) (by (repeat intro _); show _ = _; kernel_rfl), trivial⟩
theorem sp180 : SpG T Tryz.prog 180 rb_ib pa180 [.l [.int .i64], .i] sr180 F180 :=
 spG (X := X180) tok (sfok_of ⟨okG sp155, okG sp105, trivial⟩) mixed 180 32 cuts180 rfl k180 (by (repeat intro _); show _ = _; kernel_rfl)
def pa154 : List VP := [.agg qv03v]
def sr154 : RShape := ⟨.i .i64, [], none⟩
def run154 {R : Type} : SF R := runG rb_i pa154 ts0 sr154 false (F154 FUEL)
noncomputable def X154 : Px (Int) := ⟨T, Tryz.prog, lkF [(66, run66), (180, run180)], mkCuts 154 [], altN, altN_ok⟩
theorem sp154 : SpG T Tryz.prog 154 rb_i pa154 ts0 sr154 F154 :=
 spG (X := X154) tok (sfok_of ⟨okG sp66, okG sp180, trivial⟩) mixed 154 32 [] rfl trivial (by (repeat intro _); show _ = _; kernel_rfl)
def pa102 : List VP := [.agg qv03v]
def sr102 : RShape := ⟨.i .i64, [], none⟩
def run102 {R : Type} : SF R := runG rb_i pa102 ts0 sr102 false (F102 FUEL)
noncomputable def X102 : Px (Int) := ⟨T, Tryz.prog, lkF [(66, run66), (154, run154)], mkCuts 102 [], altN, altN_ok⟩
theorem sp102 : SpG T Tryz.prog 102 rb_i pa102 ts0 sr102 F102 :=
 spG (X := X102) tok (sfok_of ⟨okG sp66, okG sp154, trivial⟩) mixed 102 32 [] rfl trivial (by (repeat intro _); show _ = _; kernel_rfl)
def pa103 : List VP := [.i .i64, .i .i64, .i .i64]
def sr103 : RShape := ⟨.b, [], none⟩
def run103 {R : Type} : SF R := runG rb_b pa103 [.i, .i, .i] sr103 false (F103 FUEL)
noncomputable def X103 : Px (Bool) := ⟨T, Tryz.prog, lkF [(104, run104), (155, run155)], mkCuts 103 [], altN, altN_ok⟩
theorem sp103 : SpG T Tryz.prog 103 rb_b pa103 [.i, .i, .i] sr103 F103 :=
 spG (X := X103) tok (sfok_of ⟨okG sp104, okG sp155, trivial⟩) mixed 103 32 [] rfl trivial (by (repeat intro _); show _ = _; kernel_rfl)
def pa26 : List VP := [.agg qv03v, .i .i64, .b]
def sr26 : RShape := ⟨.tup [.i .i64, .b], [], none⟩
def run26 {R : Type} : SF R := runG rb_ib pa26 ts35 sr26 false (F26 FUEL)
def sh26_0 : Shape := ⟨[(72, [(1, .i .i64), (3, .ref 0 0), (9, .i .i64), (10, .row 1), (11, .i .i64)])], [.cells qv03v, .row true [.int .i64]]⟩
def ts65 : List LT := [.i, .i, .i, .i, .l [.int .i64], .l [.int .i64], .i, .i, .i, .i, .i, .i, .i, .i, .i, .i, .i, .i, .i, .i, .i, .i, .i, .l [.int .i64]]
def cuts26 : List (List Nat × Cut (Int × Bool)) := [([1, 1, 1, 1, 1, 1, 1, 0, 1, 0], cutG sh26_0 ts65 F26_c0)]
noncomputable def X26 : Px (Int × Bool) := ⟨T, Tryz.prog, lkF [(102, run102), (103, run103), (104, run104), (105, run105)], mkCuts 26 cuts26, altN, altN_ok⟩
theorem k26 : AllCuts X26 32 26 (endK sr26 (toG rb_ib)) cuts26 :=
 ⟨cutG_ok (by (repeat intro _); show _ = _; kernel_rfl) (by (repeat intro _); show _ = _; kernel_rfl), trivial⟩
theorem sp26 : SpG T Tryz.prog 26 rb_ib pa26 ts35 sr26 F26 :=
 spG (X := X26) tok (sfok_of ⟨okG sp102, okG sp103, okG sp104, okG sp105, trivial⟩) mixed 26 32 cuts26 rfl k26 (by (repeat intro _); show _ = _; kernel_rfl)
def pa106 : List VP := qv013v
def sr106 : RShape := ⟨.i .i64, [], none⟩
def run106 {R : Type} : SF R := runG rb_i pa106 [.s, .i, .i, .b, .s, .i, .i, .b] sr106 false (F106 FUEL)
noncomputable def X106 : Px (Int) := ⟨T, Tryz.prog, lkF [], mkCuts 106 [], altN, altN_ok⟩
theorem sp106 : SpG T Tryz.prog 106 rb_i pa106 [.s, .i, .i, .b, .s, .i, .i, .b] sr106 F106 :=
 spG (X := X106) tok (sfok_of trivial) mixed 106 32 [] rfl trivial (by (repeat intro _); show _ = _; kernel_rfl)
def pa31 : List VP := qv013v
def sr31 : RShape := ⟨.b, [], none⟩
def run31 {R : Type} : SF R := runG rb_b pa31 [.s, .i, .i, .b, .s, .i, .i, .b] sr31 false (F31 FUEL)
noncomputable def X31 : Px (Bool) := ⟨T, Tryz.prog, lkF [(106, run106)], mkCuts 31 [], altN, altN_ok⟩
theorem sp31 : SpG T Tryz.prog 31 rb_b pa31 [.s, .i, .i, .b, .s, .i, .i, .b] sr31 F31 :=
 spG (X := X31) tok (sfok_of ⟨okG sp106, trivial⟩) mixed 31 32 [] rfl trivial (by (repeat intro _); show _ = _; kernel_rfl)
def pa27 : List VP := [.sl false [.str, .int .i64, .int .i64, .bool], .agg [.s, .i .i64, .i .i64, .b]]
def sr27 : RShape := ⟨.tup [.row 0, .i .i64], [.row true [.str, .int .i64, .int .i64, .bool]], none⟩
def run27 {R : Type} : SF R := runG rb_il_si2b_ pa27 ts41 sr27 false (F27 FUEL)
def sh27_0 : Shape := ⟨[(75, [(0, .row 0), (3, .ref 1 0), (6, .i .i64)])], [.row true [.str, .int .i64, .int .i64, .bool], .cells [.s, .i .i64, .i .i64, .b]]⟩
def ts66 : List LT := [.i, .l [.str, .int .i64, .int .i64, .bool], .s, .i, .i, .b]
def cuts27 : List (List Nat × Cut (Int × (List (ByteArray × Int × Int × Bool)))) := [([1, 1, 1, 1, 0, 0], cutG sh27_0 ts66 F27_c0)]
noncomputable def X27 : Px (Int × (List (ByteArray × Int × Int × Bool))) := ⟨T, Tryz.prog, lkF [(100, run100), (70, run70), (29, run29), (31, run31)], mkCuts 27 cuts27, altN, altN_ok⟩
theorem k27 : AllCuts X27 32 27 (endK sr27 (toG rb_il_si2b_)) cuts27 :=
 ⟨cutG_ok (by (repeat intro _); show _ = _; kernel_rfl) (by (repeat intro _); show _ = _; kernel_rfl), trivial⟩
theorem sp27 : SpG T Tryz.prog 27 rb_il_si2b_ pa27 ts41 sr27 F27 :=
 spG (X := X27) tok (sfok_of ⟨okG sp100, okG sp70, okG sp29, okG sp31, trivial⟩) mixed 27 32 cuts27 rfl k27 (by (repeat intro _); show _ = _; kernel_rfl)
def pa28 : List VP := [.sl false [.str, .int .i64, .int .i64, .bool], .s]
def sr28 : RShape := ⟨.tup [.agg [.s, .i .i64, .i .i64, .b], .i .i64], [], none⟩
def run28 {R : Type} : SF R := runG rbSsi2bi pa28 ts39 sr28 false (F28 FUEL)
def sh28_0 : Shape := ⟨[(29, [(0, .sl false [.str, .int .i64, .int .i64, .bool]), (1, .s), (4, .ref 0 0), (6, .i .i64)])], [.cells [.s, .ci .i64 (0), .ci .i64 (0), .b]]⟩
def ts67 : List LT := [.l [.str, .int .i64, .int .i64, .bool], .s, .i, .s, .b]
def cuts28 : List (List Nat × Cut (Ssi2bi)) := [([1, 0, 1, 0], cutG sh28_0 ts67 F28_c0)]
noncomputable def X28 : Px (Ssi2bi) := ⟨T, Tryz.prog, lkF [(70, run70)], mkCuts 28 cuts28, altN, altN_ok⟩
theorem k28 : AllCuts X28 32 28 (endK sr28 (toG rbSsi2bi)) cuts28 :=
 ⟨cutG_ok (by (repeat intro _); show _ = _; kernel_rfl) (by (repeat intro _); show _ = _; kernel_rfl), trivial⟩
theorem sp28 : SpG T Tryz.prog 28 rbSsi2bi pa28 ts39 sr28 F28 :=
 spG (X := X28) tok (sfok_of ⟨okG sp70, trivial⟩) mixed 28 32 cuts28 rfl k28 (by (repeat intro _); show _ = _; kernel_rfl)
def pa23 : List VP := [.sl false qv01c, .agg qv04v]
def sr23 : RShape := ⟨.b, [], none⟩
def ts70 : List LT := [.l qv01c, .i, .i, .i, .i, .i, .b, .b, .i, .i, .l [.int .i64], .s, .i, .i, .b, .i]
def run23 {R : Type} : SF R := runG rb_b pa23 ts70 sr23 false (F23 FUEL)
noncomputable def X23 : Px (Bool) := ⟨T, Tryz.prog, lkF [(39, run39), (21, run21), (22, run22)], mkCuts 23 [], altN, altN_ok⟩
theorem sp23 : SpG T Tryz.prog 23 rb_b pa23 ts70 sr23 F23 :=
 spG (X := X23) tok (sfok_of ⟨okG sp39, okG sp21, okG sp22, trivial⟩) mixed 23 32 [] rfl trivial (by (repeat intro _); show _ = _; kernel_rfl)
def pa5 : List VP := [.agg qv00v, .agg qv04v]
def sr5 : RShape := ⟨.b, [], none⟩
noncomputable def X5 : Px (Bool) := ⟨T, Tryz.prog, lkF [(8, run8), (10, run10), (9, run9), (18, run18), (23, run23), (11, run11), (14, run14), (24, run24), (13, run13), (25, run25), (26, run26), (27, run27), (28, run28)], mkCuts 5 [], altN, altN_ok⟩
theorem sp5 : SpG T Tryz.prog 5 rb_b pa5 ts30 sr5 F5 :=
 spG (X := X5) tok (sfok_of ⟨okG sp8, okG sp10, okG sp9, okG sp18, okG sp23, okG sp11, okG sp14, okG sp24, okG sp13, okG sp25, okG sp26, okG sp27, okG sp28, trivial⟩) mixed 5 32 [] rfl trivial (by (repeat intro _); show _ = _; kernel_rfl)
end Go.Proofs.YthjhcmkgadfpmaaGreat
