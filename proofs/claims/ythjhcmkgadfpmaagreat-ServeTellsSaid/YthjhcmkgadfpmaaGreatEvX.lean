/-
 The functions of this program, evaluated; each is as it is evaluated.
-/
import Derived.Test.YthjhcmkgadfpmaaGreatEvR
import Derived.Test.YthjhcmkgadfpmaaGreatEvY
import Derived.Test.YthjhcmkgadfpmaaGreatVsT
import Derived.KernelRfl
namespace Go.Proofs.YthjhcmkgadfpmaaGreat
open Go Go.RowKit
set_option maxRecDepth 100000
theorem jj : Tryz.prog.follows .mixedOrders = true := by kernel_rfl
abbrev qv018v : List VP := [.i .u8, .i .u8, .i .i64, .i .i64, .i .i64, .b, .b, .i .i64, .s, .i .i64, .i .i64, .b, .i .i64, .row 0, .i .i64]
abbrev qv017v : List VP := [.i .u8, .i .i64, .i .i64, .i .i64, .i .i64, .b, .b, .i .i64, .i .i64, .sl true [.int .i64], .s, .i .i64, .i .i64, .b, .i .i64]
abbrev qv016v : List VP := [.i .i64, .i .i64, .i .i64, .i .i64, .i .i64, .i .i64, .i .i64, .i .i64, .i .i64, .i .i64, .i .i64, .i .i64, .i .i64, .i .i64, .i .i64, .i .i64]
abbrev qv015v : List VP := [.agg [.i .i64, .i .i64, .i .u8, .i .i64, .i .i64, .i .i64, .i .i64, .b, .b, .i .i64, .i .i64, .sl true [.int .i64], .s, .i .i64, .i .i64, .b, .i .i64], .i .i64]
abbrev qv014v : List VP := [.i .i64, .row 2, .row 3, .i .i64, .i .i64, .i .i64, .i .i64, .i .i64, .i .i64, .i .i64, .i .i64, .i .i64, .i .i64, .i .i64, .i .i64, .i .i64, .i .i64, .i .i64, .i .i64, .i .i64]
abbrev jqc : List VP := [.agg [.s, .i .i64, .i .i64, .b], .agg [.s, .i .i64, .i .i64, .b]]
abbrev jqd : List VP := [.i .u8, .i .i64, .i .i64, .i .i64, .i .i64, .b, .b, .i .i64, .i .i64, .row 0, .s, .i .i64, .i .i64, .b, .i .i64]
abbrev jqe : List VP := [.i .u8, .i .i64, .i .i64, .i .i64, .i .i64, .b, .b, .i .i64, .i .i64, .opq 0, .s, .i .i64, .i .i64, .b, .i .i64]
abbrev jqf : List VP := [.i .i64, .row 0, .row 1, .i .i64, .i .i64, .i .i64, .i .i64, .i .i64, .i .i64, .i .i64, .i .i64, .i .i64, .i .i64, .i .i64, .i .i64, .i .i64, .i .i64, .i .i64, .i .i64, .i .i64]
abbrev qv09v : List VP := [.i .i64, .row 0, .row 1, .i .i64, .i .i64, .i .i64, .i .i64, .i .i64, .i .i64, .i .i64, .i .i64, .i .i64, .i .i64, .i .i64, .i .i64, .i .i64, .i .i64, .i .i64, .i .i64, .i .i64, .i .i64, .i .i64, .i .i64, .row 2, .row 3, .i .u8, .i .i64, .i .u8, .i .u8, .i .i64, .i .i64, .i .i64, .b, .b, .i .i64, .s, .i .i64, .i .i64, .b, .i .i64, .row 4, .i .i64, .i .u8, .i .u8, .i .i64, .i .i64, .i .i64, .b, .b, .i .i64, .s, .i .i64, .i .i64, .b, .i .i64, .row 5, .i .i64, .i .u8, .i .u8, .i .i64, .i .i64, .i .i64, .b, .b, .i .i64, .s, .i .i64, .i .i64, .b, .i .i64, .row 6, .i .i64, .i .i64, .s, .row 7, .i .i64]
abbrev jnd : List VP := [.i .u8, .i .i64, .i .i64, .i .i64, .i .i64, .b, .b, .i .i64, .i .i64, .nil, .s, .i .i64, .i .i64, .b, .i .i64]
abbrev jsc : List VP := [.i .i64, .i .u8, .i .i64, .i .i64, .i .i64, .i .i64, .b, .b, .i .i64, .i .i64, .sl false [.int .i64], .s, .i .i64, .i .i64, .b, .i .i64, .i .u8, .i .i64, .i .i64, .i .i64]
abbrev jkz : List VP := [.i .u8, .i .u8, .i .i64, .i .i64, .i .i64, .b, .b, .i .i64, .s, .i .i64, .i .i64, .b, .i .i64, .sl false [.int .i64], .i .i64]
abbrev jjj : List CT := [.int .u8, .int .i64, .int .i64, .int .i64, .int .i64, .bool, .bool, .int .i64, .int .i64, .sl [.int .i64], .str, .int .i64, .int .i64, .bool, .int .i64]
abbrev vg : List VP := [.i .u8, .i .i64, .i .i64, .i .i64, .i .i64, .b, .b, .i .i64, .i .i64, .sl false [.int .i64], .s, .i .i64, .i .i64, .b, .i .i64]
abbrev vv : List VP := [.i .i64, .sl false [.int .i64], .sl false [.int .i64], .i .i64, .i .i64, .i .i64, .i .i64, .i .i64, .i .i64, .i .i64, .i .i64, .i .i64, .i .i64, .i .i64, .i .i64, .i .i64, .i .i64, .i .i64, .i .i64, .i .i64]
abbrev qi : List CT := [.int .i64, .int .u8, .int .i64, .int .i64, .int .i64, .int .i64, .bool, .bool, .int .i64, .int .i64, .sl [.int .i64], .str, .int .i64, .int .i64, .bool, .int .i64, .int .u8, .int .i64, .int .i64, .int .i64]
abbrev jx : List CT := [.int .i64, .int .i64, .int .u8, .int .i64, .int .i64, .int .i64, .int .i64, .bool, .bool, .int .i64, .int .i64, .sl [.int .i64], .str, .int .i64, .int .i64, .bool, .int .i64]
abbrev wz : List VP := [.i .i64, .sl false [.int .i64], .sl false [.int .i64], .i .i64, .i .i64, .i .i64, .i .i64, .i .i64, .i .i64, .i .i64, .i .i64, .i .i64, .i .i64, .i .i64, .i .i64, .i .i64, .i .i64, .i .i64, .i .i64, .i .i64, .i .i64, .i .i64, .i .i64, .sl false qi, .sl false jx, .i .u8, .i .i64, .i .u8, .i .u8, .i .i64, .i .i64, .i .i64, .b, .b, .i .i64, .s, .i .i64, .i .i64, .b, .i .i64, .sl false [.int .i64], .i .i64, .i .u8, .i .u8, .i .i64, .i .i64, .i .i64, .b, .b, .i .i64, .s, .i .i64, .i .i64, .b, .i .i64, .sl false [.int .i64], .i .i64, .i .u8, .i .u8, .i .i64, .i .i64, .i .i64, .b, .b, .i .i64, .s, .i .i64, .i .i64, .b, .i .i64, .sl false [.int .i64], .i .i64, .i .i64, .s, .sl false [.str, .int .i64, .int .i64, .bool], .i .i64]
def pa32 : List VP := [.agg vv]
def sr32 : jg := ⟨.b, [], none⟩
def rb_b : RB (Bool) [.b] := ⟨fun x => x, fun y => (y, ()), fun _ => rfl⟩
def ts0 : List LT := [.i, .l [.int .i64], .l [.int .i64], .i, .i, .i, .i, .i, .i, .i, .i, .i, .i, .i, .i, .i, .i, .i, .i, .i]
def run32 {R : Type} : SF R := runG rb_b pa32 ts0 sr32 false (F32 FUEL)
noncomputable def X32 : Px (Bool) := ⟨T, Tryz.prog, lkF [], ji 32 [], altN, jd⟩
theorem sp32 : SpG T Tryz.prog 32 rb_b pa32 ts0 sr32 F32 :=
 spG (X := X32) tok (jb trivial) jj 32 32 [] rfl trivial (by (repeat intro _); show _ = _; kernel_rfl)
def pa33 : List VP := [.agg [.i .i64, .i .i64, .sl false qi]]
def sr33 : jg := ⟨.b, [], none⟩
def ts1 : List LT := [.i, .i, .l qi]
def run33 {R : Type} : SF R := runG rb_b pa33 ts1 sr33 false (F33 FUEL)
def sh33_0 : qd := ⟨[(40, [(1, .ref 0 0), (3, .i .i64)])], [.cells [.i .i64, .i .i64, .sl false qi]]⟩
def ts2 : List LT := [.i, .i, .i, .l qi]
def jya : List (List Nat × Cut (Bool)) := [([1, 0, 1, 0], cutG sh33_0 ts2 jix)]
noncomputable def X33 : Px (Bool) := ⟨T, Tryz.prog, lkF [], ji 33 jya, altN, jd⟩
theorem k33 : AllCuts X33 32 33 (endK sr33 (toG rb_b)) jya :=
 ⟨jm (by (repeat intro _); show _ = _; kernel_rfl) (by (repeat intro _); show _ = _; kernel_rfl), trivial⟩
theorem sp33 : SpG T Tryz.prog 33 rb_b pa33 ts1 sr33 F33 :=
 spG (X := X33) tok (jb trivial) jj 33 32 jya rfl k33 (by (repeat intro _); show _ = _; kernel_rfl)
def pa8 : List VP := [.agg wz]
def sr8 : jg := ⟨.b, [], none⟩
def ts3 : List LT := [.i, .l [.int .i64], .l [.int .i64], .i, .i, .i, .i, .i, .i, .i, .i, .i, .i, .i, .i, .i, .i, .i, .i, .i, .i, .i, .i, .l qi, .l jx, .i, .i, .i, .i, .i, .i, .i, .b, .b, .i, .s, .i, .i, .b, .i, .l [.int .i64], .i, .i, .i, .i, .i, .i, .b, .b, .i, .s, .i, .i, .b, .i, .l [.int .i64], .i, .i, .i, .i, .i, .i, .b, .b, .i, .s, .i, .i, .b, .i, .l [.int .i64], .i, .i, .s, .l [.str, .int .i64, .int .i64, .bool], .i]
def run8 {R : Type} : SF R := runG rb_b pa8 ts3 sr8 false (F8 FUEL)
def sh8_0 : qd := ⟨[(95, [(1, .ref 0 0), (3, .i .i64)])], [.cells wz]⟩
def sh8_1 : qd := ⟨[(95, [(1, .ref 0 0), (4, .i .i64)])], [.cells wz]⟩
def ts4 : List LT := [.i, .i, .l [.int .i64], .l [.int .i64], .i, .i, .i, .i, .i, .i, .i, .i, .i, .i, .i, .i, .i, .i, .i, .i, .i, .i, .i, .i, .l qi, .l jx, .i, .i, .i, .i, .i, .i, .i, .b, .b, .i, .s, .i, .i, .b, .i, .l [.int .i64], .i, .i, .i, .i, .i, .i, .b, .b, .i, .s, .i, .i, .b, .i, .l [.int .i64], .i, .i, .i, .i, .i, .i, .b, .b, .i, .s, .i, .i, .b, .i, .l [.int .i64], .i, .i, .s, .l [.str, .int .i64, .int .i64, .bool], .i]
def cuts8 : List (List Nat × Cut (Bool)) := [([1, 1, 0, 1, 0], cutG sh8_0 ts4 jsy), ([1, 1, 1, 0, 1, 0], cutG sh8_1 ts4 jsx)]
noncomputable def X8 : Px (Bool) := ⟨T, Tryz.prog, lkF [(32, run32), (33, run33)], ji 8 cuts8, altN, jd⟩
theorem k8 : AllCuts X8 32 8 (endK sr8 (toG rb_b)) cuts8 :=
 ⟨jm (by (repeat intro _); show _ = _; kernel_rfl) (by (repeat intro _); show _ = _; kernel_rfl), jm (by (repeat intro _); show _ = _; kernel_rfl) (by (repeat intro _); show _ = _; kernel_rfl), trivial⟩
theorem sp8 : SpG T Tryz.prog 8 rb_b pa8 ts3 sr8 F8 :=
 spG (X := X8) tok (jb ⟨okG sp32, okG sp33, trivial⟩) jj 8 32 cuts8 rfl k8 (by (repeat intro _); show _ = _; kernel_rfl)
def pa9 : List VP := [.agg vg]
def sr9 : jg := ⟨.b, [], none⟩
def ts5 : List LT := [.i, .i, .i, .i, .i, .b, .b, .i, .i, .l [.int .i64], .s, .i, .i, .b, .i]
def run9 {R : Type} : SF R := runG rb_b pa9 ts5 sr9 false (F9 FUEL)
noncomputable def X9 : Px (Bool) := ⟨T, Tryz.prog, lkF [], ji 9 [], altN, jd⟩
theorem sp9 : SpG T Tryz.prog 9 rb_b pa9 ts5 sr9 F9 :=
 spG (X := X9) tok (jb trivial) jj 9 32 [] rfl trivial (by (repeat intro _); show _ = _; kernel_rfl)
def pa137 : List VP := [.i .i64]
def sr137 : jg := ⟨.b, [], none⟩
def run137 {R : Type} : SF R := runG rb_b pa137 [.i] sr137 false (F137 FUEL)
noncomputable def X137 : Px (Bool) := ⟨T, Tryz.prog, lkF [], ji 137 [], altN, jd⟩
theorem sp137 : SpG T Tryz.prog 137 rb_b pa137 [.i] sr137 F137 :=
 spG (X := X137) tok (jb trivial) jj 137 32 [] rfl trivial (by (repeat intro _); show _ = _; kernel_rfl)
def pa175 : List VP := [.i .i64]
def sr175 : jg := ⟨.b, [], none⟩
def run175 {R : Type} : SF R := runG rb_b pa175 [.i] sr175 false (F175 FUEL)
noncomputable def X175 : Px (Bool) := ⟨T, Tryz.prog, lkF [], ji 175 [], altN, jd⟩
theorem sp175 : SpG T Tryz.prog 175 rb_b pa175 [.i] sr175 F175 :=
 spG (X := X175) tok (jb trivial) jj 175 32 [] rfl trivial (by (repeat intro _); show _ = _; kernel_rfl)
def pa155 : List VP := [.i .i64]
def sr155 : jg := ⟨.i .i64, [], none⟩
def rb_i : RB (Int) [.i] := ⟨fun x => x, fun y => (y, ()), fun _ => rfl⟩
def jkt {R : Type} : SF R := runG rb_i pa155 [.i] sr155 false (F155 FUEL)
noncomputable def X155 : Px (Int) := ⟨T, Tryz.prog, lkF [], ji 155 [], altN, jd⟩
theorem jti : SpG T Tryz.prog 155 rb_i pa155 [.i] sr155 F155 :=
 spG (X := X155) tok (jb trivial) jj 155 32 [] rfl trivial (by (repeat intro _); show _ = _; kernel_rfl)
def pa105 : List VP := [.i .i64, .i .i64]
def sr105 : jg := ⟨.i .i64, [], none⟩
def jps {R : Type} : SF R := runG rb_i pa105 [.i, .i] sr105 false (F105 FUEL)
noncomputable def X105 : Px (Int) := ⟨T, Tryz.prog, lkF [(155, jkt)], ji 105 [], altN, jd⟩
theorem jzm : SpG T Tryz.prog 105 rb_i pa105 [.i, .i] sr105 F105 :=
 spG (X := X105) tok (jb ⟨okG jti, trivial⟩) jj 105 32 [] rfl trivial (by (repeat intro _); show _ = _; kernel_rfl)
def pa176 : List VP := [.i .i64, .i .i64, .i .i64]
def sr176 : jg := ⟨.b, [], none⟩
def run176 {R : Type} : SF R := runG rb_b pa176 [.i, .i, .i] sr176 false (F176 FUEL)
noncomputable def X176 : Px (Bool) := ⟨T, Tryz.prog, lkF [(105, jps)], ji 176 [], altN, jd⟩
theorem sp176 : SpG T Tryz.prog 176 rb_b pa176 [.i, .i, .i] sr176 F176 :=
 spG (X := X176) tok (jb ⟨okG jzm, trivial⟩) jj 176 32 [] rfl trivial (by (repeat intro _); show _ = _; kernel_rfl)
def pa138 : List VP := [.i .i64, .sl false [.int .i64]]
def sr138 : jg := ⟨.b, [], none⟩
def run138 {R : Type} : SF R := runG rb_b pa138 [.i, .l [.int .i64]] sr138 false (F138 FUEL)
def sh138_0 : qd := ⟨[(48, [(0, .i .i64), (1, .sl false [.int .i64]), (5, .i .i64)])], []⟩
def joo : List (List Nat × Cut (Bool)) := [([1, 0, 1, 0], cutG sh138_0 [.i, .l [.int .i64], .i] jbj)]
noncomputable def X138 : Px (Bool) := ⟨T, Tryz.prog, lkF [(175, run175), (155, jkt), (176, run176)], ji 138 joo, altN, jd⟩
theorem k138 : AllCuts X138 32 138 (endK sr138 (toG rb_b)) joo :=
 ⟨jm (by (repeat intro _); show _ = _; kernel_rfl) (by (repeat intro _); show _ = _; kernel_rfl), trivial⟩
theorem sp138 : SpG T Tryz.prog 138 rb_b pa138 [.i, .l [.int .i64]] sr138 F138 :=
 spG (X := X138) tok (jb ⟨okG sp175, okG jti, okG sp176, trivial⟩) jj 138 32 joo rfl k138 (by (repeat intro _); show _ = _; kernel_rfl)
def pa139 : List VP := [.agg vv, .i .i64]
def sr139 : jg := ⟨.b, [], none⟩
def ts6 : List LT := [.i, .l [.int .i64], .l [.int .i64], .i, .i, .i, .i, .i, .i, .i, .i, .i, .i, .i, .i, .i, .i, .i, .i, .i, .i]
def run139 {R : Type} : SF R := runG rb_b pa139 ts6 sr139 false (F139 FUEL)
noncomputable def X139 : Px (Bool) := ⟨T, Tryz.prog, lkF [(137, run137)], ji 139 [], altN, jd⟩
theorem sp139 : SpG T Tryz.prog 139 rb_b pa139 ts6 sr139 F139 :=
 spG (X := X139) tok (jb ⟨okG sp137, trivial⟩) jj 139 32 [] rfl trivial (by (repeat intro _); show _ = _; kernel_rfl)
def pa66 : List VP := [.agg vv]
def sr66 : jg := ⟨.b, [], none⟩
def jsa {R : Type} : SF R := runG rb_b pa66 ts0 sr66 false (F66 FUEL)
def sh66_0 : qd := ⟨[(79, [(1, .ref 0 0), (3, .i .i64)])], [.cells vv]⟩
def sh66_1 : qd := ⟨[(79, [(1, .ref 0 0), (4, .i .i64)])], [.cells vv]⟩
def ts7 : List LT := [.i, .i, .l [.int .i64], .l [.int .i64], .i, .i, .i, .i, .i, .i, .i, .i, .i, .i, .i, .i, .i, .i, .i, .i, .i]
def jxp : List (List Nat × Cut (Bool)) := [([1, 1, 0, 1, 0], cutG sh66_0 ts7 jhb), ([1, 1, 1, 0, 1, 0], cutG sh66_1 ts7 jip)]
noncomputable def X66 : Px (Bool) := ⟨T, Tryz.prog, lkF [(137, run137), (138, run138), (139, run139)], ji 66 jxp, altN, jd⟩
theorem k66 : AllCuts X66 32 66 (endK sr66 (toG rb_b)) jxp :=
 ⟨jm (by (repeat intro _); show _ = _; kernel_rfl) (by (repeat intro _); show _ = _; kernel_rfl), jm (by (repeat intro _); show _ = _; kernel_rfl) (by (repeat intro _); show _ = _; kernel_rfl), trivial⟩
theorem sp66 : SpG T Tryz.prog 66 rb_b pa66 ts0 sr66 F66 :=
 spG (X := X66) tok (jb ⟨okG sp137, okG sp138, okG sp139, trivial⟩) jj 66 32 jxp rfl k66 (by (repeat intro _); show _ = _; kernel_rfl)
def pa107 : List VP := [.i .i64, .sl false [.int .i64]]
def sr107 : jg := ⟨.tup [.agg [.i .i64, .row 0, .nil, .i .i64, .i .i64, .i .i64, .i .i64, .i .i64, .i .i64, .i .i64, .i .i64, .i .i64, .i .i64, .i .i64, .i .i64, .i .i64, .i .i64, .i .i64, .i .i64, .i .i64], .i .i64], [.row true [.int .i64]], none⟩
def jnc : RB (jsw) [.i, .i, .i, .i, .i, .i, .i, .i, .i, .i, .i, .i, .i, .i, .i, .i, .i, .i, .i, .l [.int .i64]] := ⟨jsw.mk, fun y => (y.q0, y.q1, y.q2, y.q3, y.q4, y.q5, y.q6, y.q7, y.q8, y.q9, y.q10, y.q11, y.q12, y.q13, y.q14, y.q15, y.q16, y.q17, y.q18, y.q19, ()), fun _ => rfl⟩
def run107 {R : Type} : SF R := runG jnc pa107 [.i, .l [.int .i64]] sr107 false (F107 FUEL)
def sh107_0 : qd := ⟨[(25, [(4, .ref 0 0), (6, .ref 1 0), (7, .i .i64)])], [.cells [.ci .i64 (0), .nil, .nil, .ci .i64 (0), .ci .i64 (0), .ci .i64 (0), .ci .i64 (0), .ci .i64 (0), .ci .i64 (0), .ci .i64 (0), .ci .i64 (0), .ci .i64 (0), .ci .i64 (0), .ci .i64 (0), .ci .i64 (0), .ci .i64 (0), .ci .i64 (0), .ci .i64 (0), .ci .i64 (0), .ci .i64 (0)], .cells [.i .i64, .row 2, .nil, .ci .i64 (-1), .i .i64, .i .i64, .i .i64, .i .i64, .i .i64, .i .i64, .i .i64, .i .i64, .i .i64, .i .i64, .i .i64, .i .i64, .i .i64, .i .i64, .i .i64, .i .i64], .row true [.int .i64]]⟩
def ts8 : List LT := [.i, .i, .i, .i, .i, .i, .i, .i, .i, .i, .i, .i, .i, .i, .i, .i, .i, .i, .l [.int .i64]]
def jow : List (List Nat × Cut (jsw)) := [([1, 1, 0, 1, 0], cutG sh107_0 ts8 jpg)]
noncomputable def X107 : Px (jsw) := ⟨T, Tryz.prog, lkF [(66, jsa)], ji 107 jow, altN, jd⟩
theorem k107 : AllCuts X107 32 107 (endK sr107 (toG jnc)) jow :=
 ⟨jm (by (repeat intro _); show _ = _; kernel_rfl) (by (repeat intro _); show _ = _; kernel_rfl), trivial⟩
theorem sp107 : SpG T Tryz.prog 107 jnc pa107 [.i, .l [.int .i64]] sr107 F107 :=
 spG (X := X107) tok (jb ⟨okG sp66, trivial⟩) jj 107 32 jow rfl k107 (by (repeat intro _); show _ = _; kernel_rfl)
def pa92 : List VP := [.i .i64]
def sr92 : jg := ⟨.b, [], none⟩
def run92 {R : Type} : SF R := runG rb_b pa92 [.i] sr92 false (F92 FUEL)
noncomputable def X92 : Px (Bool) := ⟨T, Tryz.prog, lkF [], ji 92 [], altN, jd⟩
theorem sp92 : SpG T Tryz.prog 92 rb_b pa92 [.i] sr92 F92 :=
 spG (X := X92) tok (jb trivial) jj 92 32 [] rfl trivial (by (repeat intro _); show _ = _; kernel_rfl)
def pa22 : List VP := [.agg vg]
def sr22 : jg := ⟨.b, [], none⟩
def jtv {R : Type} : SF R := runG rb_b pa22 ts5 sr22 false (F22 FUEL)
noncomputable def X22 : Px (Bool) := ⟨T, Tryz.prog, lkF [], ji 22 [], altN, jd⟩
theorem sp22 : SpG T Tryz.prog 22 rb_b pa22 ts5 sr22 F22 :=
 spG (X := X22) tok (jb trivial) jj 22 32 [] rfl trivial (by (repeat intro _); show _ = _; kernel_rfl)
def pa93 : List VP := [.agg vg]
def sr93 : jg := ⟨.i .i64, [], none⟩
def run93 {R : Type} : SF R := runG rb_i pa93 ts5 sr93 false (F93 FUEL)
noncomputable def X93 : Px (Int) := ⟨T, Tryz.prog, lkF [(22, jtv)], ji 93 [], altN, jd⟩
theorem sp93 : SpG T Tryz.prog 93 rb_i pa93 ts5 sr93 F93 :=
 spG (X := X93) tok (jb ⟨okG sp22, trivial⟩) jj 93 32 [] rfl trivial (by (repeat intro _); show _ = _; kernel_rfl)
def pa94 : List VP := [.agg jqe]
def sr94 : jg := ⟨.agg jqe, [], some (.agg jnd)⟩
def vm : RB (uz) [.b, .i, .i, .i, .i, .i, .b, .b, .i, .i, .s, .i, .i, .b, .i] := ⟨uz.mk, fun y => (y.q0, y.q1, y.q2, y.q3, y.q4, y.q5, y.q6, y.q7, y.q8, y.q9, y.q10, y.q11, y.q12, y.q13, y.q14, ()), fun _ => rfl⟩
def ts9 : List LT := [.i, .i, .i, .i, .i, .b, .b, .i, .i, .s, .i, .i, .b, .i]
def run94 {R : Type} : SF R := runG vm pa94 ts9 sr94 false (F94 FUEL)
noncomputable def X94 : Px (uz) := ⟨T, Tryz.prog, lkF [], ji 94 [], altN, jd⟩
theorem sp94 : SpG T Tryz.prog 94 vm pa94 ts9 sr94 F94 :=
 spG (X := X94) tok (jb trivial) jj 94 32 [] rfl trivial (by (repeat intro _); show _ = _; kernel_rfl)
def pa14 : List VP := [.agg vg, .agg vg]
def sr14 : jg := ⟨.b, [], none⟩
def ts10 : List LT := [.i, .i, .i, .i, .i, .b, .b, .i, .i, .l [.int .i64], .s, .i, .i, .b, .i, .i, .i, .i, .i, .i, .b, .b, .i, .i, .l [.int .i64], .s, .i, .i, .b, .i]
def jua {R : Type} : SF R := runG rb_b pa14 ts10 sr14 false (F14 FUEL)
def sh14_0 : qd := ⟨[(106, [(2, .ref 0 0), (3, .ref 1 0), (5, .i .i64)])], [.cells vg, .cells vg]⟩
def ts11 : List LT := [.i, .i, .i, .i, .i, .i, .b, .b, .i, .i, .l [.int .i64], .s, .i, .i, .b, .i, .i, .i, .i, .i, .i, .b, .b, .i, .i, .l [.int .i64], .s, .i, .i, .b, .i]
def jyg : List (List Nat × Cut (Bool)) := [([1, 1, 0, 1, 0], cutG sh14_0 ts11 jiz)]
noncomputable def X14 : Px (Bool) := ⟨T, Tryz.prog, lkF [], ji 14 jyg, altN, jd⟩
theorem k14 : AllCuts X14 32 14 (endK sr14 (toG rb_b)) jyg :=
 ⟨jm (by (repeat intro _); show _ = _; kernel_rfl) (by (repeat intro _); show _ = _; kernel_rfl), trivial⟩
theorem sp14 : SpG T Tryz.prog 14 rb_b pa14 ts10 sr14 F14 :=
 spG (X := X14) tok (jb trivial) jj 14 32 jyg rfl k14 (by (repeat intro _); show _ = _; kernel_rfl)
def pa29 : List VP := [.agg [.s, .i .i64, .i .i64, .b]]
def sr29 : jg := ⟨.b, [], none⟩
def jzr {R : Type} : SF R := runG rb_b pa29 [.s, .i, .i, .b] sr29 false (F29 FUEL)
noncomputable def X29 : Px (Bool) := ⟨T, Tryz.prog, lkF [], ji 29 [], altN, jd⟩
theorem sp29 : SpG T Tryz.prog 29 rb_b pa29 [.s, .i, .i, .b] sr29 F29 :=
 spG (X := X29) tok (jb trivial) jj 29 32 [] rfl trivial (by (repeat intro _); show _ = _; kernel_rfl)
def pa153 : List VP := [.sl false [.int .i64], .i .i64]
def sr153 : jg := ⟨.b, [], none⟩
def run153 {R : Type} : SF R := runG rb_b pa153 [.l [.int .i64], .i] sr153 false (F153 FUEL)
def sh153_0 : qd := ⟨[(44, [(0, .sl false [.int .i64]), (1, .i .i64), (5, .i .i64)])], []⟩
def sh153_1 : qd := ⟨[(44, [(0, .sl false [.int .i64]), (1, .i .i64), (5, .i .i64), (6, .i .i64)])], []⟩
def jom : List (List Nat × Cut (Bool)) := [([1, 0, 1, 0], cutG sh153_0 [.l [.int .i64], .i, .i] wy), ([1, 0, 1, 0, 0, 1, 0, 0, 1, 1, 0], cutG sh153_1 [.l [.int .i64], .i, .i, .i] jaj)]
noncomputable def X153 : Px (Bool) := ⟨T, Tryz.prog, lkF [(92, run92)], ji 153 jom, altN, jd⟩
theorem k153 : AllCuts X153 32 153 (endK sr153 (toG rb_b)) jom :=
 ⟨jm (by (repeat intro _); show _ = _; kernel_rfl) (by (repeat intro _); show _ = _; kernel_rfl), jm (by (repeat intro _); show _ = _; kernel_rfl) (by (repeat intro _); show _ = _; kernel_rfl), trivial⟩
theorem sp153 : SpG T Tryz.prog 153 rb_b pa153 [.l [.int .i64], .i] sr153 F153 :=
 spG (X := X153) tok (jb ⟨okG sp92, trivial⟩) jj 153 32 jom rfl k153 (by (repeat intro _); show _ = _; kernel_rfl)
def pa95 : List VP := [.agg vg]
def sr95 : jg := ⟨.b, [], none⟩
def run95 {R : Type} : SF R := runG rb_b pa95 ts5 sr95 false (F95 FUEL)
noncomputable def X95 : Px (Bool) := ⟨T, Tryz.prog, lkF [(92, run92), (29, jzr), (153, run153)], ji 95 [], altN, jd⟩
theorem sp95 : SpG T Tryz.prog 95 rb_b pa95 ts5 sr95 F95 :=
 spG (X := X95) tok (jb ⟨okG sp92, okG sp29, okG sp153, trivial⟩) jj 95 32 [] rfl trivial (by (repeat intro _); show _ = _; kernel_rfl)
def pa21 : List VP := [.agg vg]
def sr21 : jg := ⟨.b, [], none⟩
def jzs {R : Type} : SF R := runG rb_b pa21 ts5 sr21 false (F21 FUEL)
noncomputable def X21 : Px (Bool) := ⟨T, Tryz.prog, lkF [(92, run92), (93, run93), (94, run94), (14, jua), (95, run95)], ji 21 [], altN, jd⟩
theorem sp21 : SpG T Tryz.prog 21 rb_b pa21 ts5 sr21 F21 :=
 spG (X := X21) tok (jb ⟨okG sp92, okG sp93, okG sp94, okG sp14, okG sp95, trivial⟩) jj 21 32 [] rfl trivial (by (repeat intro _); show _ = _; kernel_rfl)
def pa140 : List VP := [.i .i64]
def sr140 : jg := ⟨.b, [], none⟩
def run140 {R : Type} : SF R := runG rb_b pa140 [.i] sr140 false (F140 FUEL)
noncomputable def X140 : Px (Bool) := ⟨T, Tryz.prog, lkF [], ji 140 [], altN, jd⟩
theorem sp140 : SpG T Tryz.prog 140 rb_b pa140 [.i] sr140 F140 :=
 spG (X := X140) tok (jb trivial) jj 140 32 [] rfl trivial (by (repeat intro _); show _ = _; kernel_rfl)
def pa67 : List VP := [.agg [.i .i64, .i .i64, .sl false qi]]
def sr67 : jg := ⟨.b, [], none⟩
def run67 {R : Type} : SF R := runG rb_b pa67 ts1 sr67 false (F67 FUEL)
def sh67_0 : qd := ⟨[(110, [(1, .ref 0 0), (3, .i .i64)])], [.cells [.i .i64, .i .i64, .sl false qi]]⟩
def jxo : List (List Nat × Cut (Bool)) := [([1, 1, 0, 1, 0], cutG sh67_0 ts2 jha)]
noncomputable def X67 : Px (Bool) := ⟨T, Tryz.prog, lkF [(21, jzs), (22, jtv), (140, run140)], ji 67 jxo, altN, jd⟩
theorem k67 : AllCuts X67 32 67 (endK sr67 (toG rb_b)) jxo :=
 ⟨jm (by (repeat intro _); show _ = _; kernel_rfl) (by (repeat intro _); show _ = _; kernel_rfl), trivial⟩
theorem sp67 : SpG T Tryz.prog 67 rb_b pa67 ts1 sr67 F67 :=
 spG (X := X67) tok (jb ⟨okG sp21, okG sp22, okG sp140, trivial⟩) jj 67 32 jxo rfl k67 (by (repeat intro _); show _ = _; kernel_rfl)
def pa108 : List VP := [.i .i64]
def sr108 : jg := ⟨.tup [.agg [.i .i64, .i .i64, .nil], .i .i64], [], none⟩
def rb_i3 : RB (Int × Int × Int) [.i, .i, .i] := ⟨fun x y z => (x, y, z), fun y => (y.1, y.2.1, y.2.2, ()), fun _ => rfl⟩
def run108 {R : Type} : SF R := runG rb_i3 pa108 [.i] sr108 false (F108 FUEL)
noncomputable def X108 : Px (Int × Int × Int) := ⟨T, Tryz.prog, lkF [(67, run67)], ji 108 [], altN, jd⟩
theorem sp108 : SpG T Tryz.prog 108 rb_i3 pa108 [.i] sr108 F108 :=
 spG (X := X108) tok (jb ⟨okG sp67, trivial⟩) jj 108 32 [] rfl trivial (by (repeat intro _); show _ = _; kernel_rfl)
def pa34 : List VP := [.i .i64, .sl false [.int .i64]]
def sr34 : jg := ⟨.agg [.i .i64, .row 0, .nil, .i .i64, .i .i64, .i .i64, .i .i64, .i .i64, .i .i64, .i .i64, .i .i64, .i .i64, .i .i64, .i .i64, .i .i64, .i .i64, .i .i64, .i .i64, .i .i64, .i .i64, .i .i64, .i .i64, .i .i64, .nil, .nil, .i .u8, .i .i64, .i .u8, .i .u8, .i .i64, .i .i64, .i .i64, .b, .b, .i .i64, .s, .i .i64, .i .i64, .b, .i .i64, .nil, .i .i64, .i .u8, .i .u8, .i .i64, .i .i64, .i .i64, .b, .b, .i .i64, .s, .i .i64, .i .i64, .b, .i .i64, .nil, .i .i64, .i .u8, .i .u8, .i .i64, .i .i64, .i .i64, .b, .b, .i .i64, .s, .i .i64, .i .i64, .b, .i .i64, .nil, .i .i64, .i .i64, .s, .nil, .i .i64], [.row true [.int .i64]], none⟩
def rbSx0 : RB (Sx0) [.i, .i, .i, .i, .i, .i, .i, .i, .i, .i, .i, .i, .i, .i, .i, .i, .i, .i, .i, .i, .i, .i, .i, .i, .i, .i, .i, .i, .b, .b, .i, .s, .i, .i, .b, .i, .i, .i, .i, .i, .i, .i, .b, .b, .i, .s, .i, .i, .b, .i, .i, .i, .i, .i, .i, .i, .b, .b, .i, .s, .i, .i, .b, .i, .i, .i, .s, .i, .l [.int .i64]] := ⟨Sx0.mk, fun y => (y.q0, y.q1, y.q2, y.q3, y.q4, y.q5, y.q6, y.q7, y.q8, y.q9, y.q10, y.q11, y.q12, y.q13, y.q14, y.q15, y.q16, y.q17, y.q18, y.q19, y.q20, y.q21, y.q22, y.q23, y.q24, y.q25, y.q26, y.q27, y.q28, y.q29, y.q30, y.q31, y.q32, y.q33, y.q34, y.q35, y.q36, y.q37, y.q38, y.q39, y.q40, y.q41, y.q42, y.q43, y.q44, y.q45, y.q46, y.q47, y.q48, y.q49, y.q50, y.q51, y.q52, y.q53, y.q54, y.q55, y.q56, y.q57, y.q58, y.q59, y.q60, y.q61, y.q62, y.q63, y.q64, y.q65, y.q66, y.q67, y.q68, ()), fun _ => rfl⟩
def run34 {R : Type} : SF R := runG rbSx0 pa34 [.i, .l [.int .i64]] sr34 false (F34 FUEL)
noncomputable def X34 : Px (Sx0) := ⟨T, Tryz.prog, lkF [(107, run107), (108, run108)], ji 34 [], altN, jd⟩
theorem sp34 : SpG T Tryz.prog 34 rbSx0 pa34 [.i, .l [.int .i64]] sr34 F34 :=
 spG (X := X34) tok (jb ⟨okG sp107, okG sp108, trivial⟩) jj 34 32 [] rfl trivial (by (repeat intro _); show _ = _; kernel_rfl)
def pa30 : List VP := [.i .u8, .i .i64, .i .i64, .i .i64]
def sr30 : jg := ⟨.agg jnd, [], none⟩
def qf : RB (qe) [.i, .i, .i, .i, .i, .b, .b, .i, .i, .s, .i, .i, .b, .i] := ⟨qe.mk, fun y => (y.q0, y.q1, y.q2, y.q3, y.q4, y.q5, y.q6, y.q7, y.q8, y.q9, y.q10, y.q11, y.q12, y.q13, ()), fun _ => rfl⟩
def run30 {R : Type} : SF R := runG qf pa30 [.i, .i, .i, .i] sr30 false (F30 FUEL)
noncomputable def X30 : Px (qe) := ⟨T, Tryz.prog, lkF [], ji 30 [], altN, jd⟩
theorem sp30 : SpG T Tryz.prog 30 qf pa30 [.i, .i, .i, .i] sr30 F30 :=
 spG (X := X30) tok (jb trivial) jj 30 32 [] rfl trivial (by (repeat intro _); show _ = _; kernel_rfl)
def pa113 : List VP := [.sl false [.int .i64]]
def sr113 : jg := ⟨.row 0, [.row true [.int .i64]], none⟩
def rb_l : RB ((List (Int))) [.l [.int .i64]] := ⟨fun x => x, fun y => (y, ()), fun _ => rfl⟩
def juc {R : Type} : SF R := runG rb_l pa113 [.l [.int .i64]] sr113 false (F113 FUEL)
noncomputable def X113 : Px ((List (Int))) := ⟨T, Tryz.prog, lkF [], ji 113 [], altE, altE_ok⟩
theorem sp113 : SpG T Tryz.prog 113 rb_l pa113 [.l [.int .i64]] sr113 F113 :=
 spG (X := X113) tok (jb trivial) jj 113 32 [] rfl trivial (by (repeat intro _); show _ = _; kernel_rfl)
def pa87 : List VP := [.agg vv]
def sr87 : jg := ⟨.agg jqf, [.row true [.int .i64], .row true [.int .i64]], none⟩
def wa : RB (wx) [.i, .i, .i, .i, .i, .i, .i, .i, .i, .i, .i, .i, .i, .i, .i, .i, .i, .i, .l [.int .i64], .l [.int .i64]] := ⟨wx.mk, fun y => (y.q0, y.q1, y.q2, y.q3, y.q4, y.q5, y.q6, y.q7, y.q8, y.q9, y.q10, y.q11, y.q12, y.q13, y.q14, y.q15, y.q16, y.q17, y.q18, y.q19, ()), fun _ => rfl⟩
def run87 {R : Type} : SF R := runG wa pa87 ts0 sr87 false (F87 FUEL)
noncomputable def X87 : Px (wx) := ⟨T, Tryz.prog, lkF [(113, juc)], ji 87 [], altN, jd⟩
theorem sp87 : SpG T Tryz.prog 87 wa pa87 ts0 sr87 F87 :=
 spG (X := X87) tok (jb ⟨okG sp113, trivial⟩) jj 87 32 [] rfl trivial (by (repeat intro _); show _ = _; kernel_rfl)
def pa38 : List VP := [.agg vg]
def sr38 : jg := ⟨.agg jqd, [.row true [.int .i64]], none⟩
def vl : RB (uw) [.i, .i, .i, .i, .i, .b, .b, .i, .i, .s, .i, .i, .b, .i, .l [.int .i64]] := ⟨uw.mk, fun y => (y.q0, y.q1, y.q2, y.q3, y.q4, y.q5, y.q6, y.q7, y.q8, y.q9, y.q10, y.q11, y.q12, y.q13, y.q14, ()), fun _ => rfl⟩
def jtu {R : Type} : SF R := runG vl pa38 ts5 sr38 false (F38 FUEL)
noncomputable def X38 : Px (uw) := ⟨T, Tryz.prog, lkF [], ji 38 [], altN, jd⟩
theorem sp38 : SpG T Tryz.prog 38 vl pa38 ts5 sr38 F38 :=
 spG (X := X38) tok (jb trivial) jj 38 32 [] rfl trivial (by (repeat intro _); show _ = _; kernel_rfl)
def pa195 : List VP := [.agg jsc]
def sr195 : jg := ⟨.agg [.i .i64, .i .u8, .i .i64, .i .i64, .i .i64, .i .i64, .b, .b, .i .i64, .i .i64, .row 0, .s, .i .i64, .i .i64, .b, .i .i64, .i .u8, .i .i64, .i .i64, .i .i64], [.row true [.int .i64]], none⟩
def jal : RB (vc) [.i, .i, .i, .i, .i, .i, .b, .b, .i, .i, .s, .i, .i, .b, .i, .i, .i, .i, .i, .l [.int .i64]] := ⟨vc.mk, fun y => (y.q0, y.q1, y.q2, y.q3, y.q4, y.q5, y.q6, y.q7, y.q8, y.q9, y.q10, y.q11, y.q12, y.q13, y.q14, y.q15, y.q16, y.q17, y.q18, y.q19, ()), fun _ => rfl⟩
def ts12 : List LT := [.i, .i, .i, .i, .i, .i, .b, .b, .i, .i, .l [.int .i64], .s, .i, .i, .b, .i, .i, .i, .i, .i]
def run195 {R : Type} : SF R := runG jal pa195 ts12 sr195 false (F195 FUEL)
noncomputable def X195 : Px (vc) := ⟨T, Tryz.prog, lkF [(38, jtu)], ji 195 [], altN, jd⟩
theorem sp195 : SpG T Tryz.prog 195 jal pa195 ts12 sr195 F195 :=
 spG (X := X195) tok (jb ⟨okG sp38, trivial⟩) jj 195 32 [] rfl trivial (by (repeat intro _); show _ = _; kernel_rfl)
def pa88 : List VP := [.agg [.i .i64, .i .i64, .sl false qi]]
def sr88 : jg := ⟨.agg [.i .i64, .i .i64, .row 0], [.row true qi], none⟩
def qj : RB (Int × Int × (List (TY0))) [.i, .i, .l qi] := ⟨fun x y z => (x, y, z), fun y => (y.1, y.2.1, y.2.2, ()), fun _ => rfl⟩
def run88 {R : Type} : SF R := runG qj pa88 ts1 sr88 false (F88 FUEL)
def sh88_0 : qd := ⟨[(18, [(0, .yield 10), (6, .sl false qi), (7, .i .i64), (8, .i .i64)]), (28, [(3, .ref 0 0), (4, .ref 1 0), (5, .ref 2 0)]), (5, [(2, .ref 3 0)])], [.cells [.clos 152 []], .cells [.ci .i64 (0), .ci .i64 (0), .nil], .cells [.i .i64, .i .i64, .row 4], .cells [.ci .i64 (0), .ci .i64 (0), .nil], .row true qi]⟩
def ts13 : List LT := [.l qi, .i, .i, .i, .i, .l qi]
def jxh : List (List Nat × Cut (Int × Int × (List (TY0)))) := [([1, 0, 1, 302, 1, 1, 0, 1, 0, 388, 1, 0], cutG sh88_0 ts13 jil)]
noncomputable def X88 : Px (Int × Int × (List (TY0))) := ⟨T, Tryz.prog, lkF [(195, run195)], ji 88 jxh, altN, jd⟩
theorem k88 : AllCuts X88 32 88 (endK sr88 (toG qj)) jxh :=
 ⟨jm (by (repeat intro _); show _ = _; kernel_rfl) (by (repeat intro _); show _ = _; kernel_rfl), trivial⟩
theorem sp88 : SpG T Tryz.prog 88 qj pa88 ts1 sr88 F88 :=
 spG (X := X88) tok (jb ⟨okG sp195, trivial⟩) jj 88 32 jxh rfl k88 (by (repeat intro _); show _ = _; kernel_rfl)
def pa89 : List VP := [.sl false jx]
def sr89 : jg := ⟨.row 0, [.row true jx], none⟩
def jt : RB ((List (TY1))) [.l jx] := ⟨fun x => x, fun y => (y, ()), fun _ => rfl⟩
def ts14 : List LT := [.l jx]
def run89 {R : Type} : SF R := runG jt pa89 ts14 sr89 false (F89 FUEL)
def sh89_0 : qd := ⟨[(18, [(0, .yield 6), (5, .sl false jx), (6, .i .i64), (7, .i .i64)]), (19, [(3, .ref 0 0)])], [.cells [.row 1], .row true jx]⟩
def ts15 : List LT := [.l jx, .i, .i, .l jx]
def jxg : List (List Nat × Cut ((List (TY1)))) := [([1, 1, 0, 1, 0, 348, 1, 0], cutG sh89_0 ts15 jij)]
noncomputable def X89 : Px ((List (TY1))) := ⟨T, Tryz.prog, lkF [(38, jtu)], ji 89 jxg, altN, jd⟩
theorem k89 : AllCuts X89 32 89 (endK sr89 (toG jt)) jxg :=
 ⟨jm (by (repeat intro _); show _ = _; kernel_rfl) (by (repeat intro _); show _ = _; kernel_rfl), trivial⟩
theorem sp89 : SpG T Tryz.prog 89 jt pa89 ts14 sr89 F89 :=
 spG (X := X89) tok (jb ⟨okG sp38, trivial⟩) jj 89 32 jxg rfl k89 (by (repeat intro _); show _ = _; kernel_rfl)
def pa90 : List VP := [.agg jkz]
def sr90 : jg := ⟨.agg qv018v, [.row true [.int .i64]], none⟩
def vk : RB (uv) [.i, .i, .i, .i, .i, .b, .b, .i, .s, .i, .i, .b, .i, .i, .l [.int .i64]] := ⟨uv.mk, fun y => (y.q0, y.q1, y.q2, y.q3, y.q4, y.q5, y.q6, y.q7, y.q8, y.q9, y.q10, y.q11, y.q12, y.q13, y.q14, ()), fun _ => rfl⟩
def ts16 : List LT := [.i, .i, .i, .i, .i, .b, .b, .i, .s, .i, .i, .b, .i, .l [.int .i64], .i]
def run90 {R : Type} : SF R := runG vk pa90 ts16 sr90 true (F90 FUEL)
noncomputable def X90 : Px (uv) := ⟨T, Tryz.prog, lkF [(113, juc)], ji 90 [], altN, jd⟩
theorem sp90 : SpG T Tryz.prog 90 vk pa90 ts16 sr90 F90 :=
 spG (X := X90) tok (jb ⟨okG sp113, trivial⟩) jj 90 32 [] rfl trivial (by (repeat intro _); show _ = _; kernel_rfl)
def pa91 : List VP := [.sl false [.str, .int .i64, .int .i64, .bool]]
def sr91 : jg := ⟨.row 0, [.row true [.str, .int .i64, .int .i64, .bool]], none⟩
def zq : RB ((List (ByteArray × Int × Int × Bool))) [.l [.str, .int .i64, .int .i64, .bool]] := ⟨fun x => x, fun y => (y, ()), fun _ => rfl⟩
def ts17 : List LT := [.l [.str, .int .i64, .int .i64, .bool]]
def run91 {R : Type} : SF R := runG zq pa91 ts17 sr91 false (F91 FUEL)
def sh91_0 : qd := ⟨[(18, [(0, .yield 7), (5, .sl false [.str, .int .i64, .int .i64, .bool]), (6, .i .i64), (7, .i .i64)]), (21, [(3, .ref 0 0)])], [.cells [.row 1], .row true [.str, .int .i64, .int .i64, .bool]]⟩
def ts18 : List LT := [.l [.str, .int .i64, .int .i64, .bool], .i, .i, .l [.str, .int .i64, .int .i64, .bool]]
def jxf : List (List Nat × Cut ((List (ByteArray × Int × Int × Bool)))) := [([1, 1, 1, 0, 1, 0, 342, 1, 0], cutG sh91_0 ts18 jii)]
noncomputable def X91 : Px ((List (ByteArray × Int × Int × Bool))) := ⟨T, Tryz.prog, lkF [], ji 91 jxf, altN, jd⟩
theorem k91 : AllCuts X91 32 91 (endK sr91 (toG zq)) jxf :=
 ⟨jm (by (repeat intro _); show _ = _; kernel_rfl) (by (repeat intro _); show _ = _; kernel_rfl), trivial⟩
theorem sp91 : SpG T Tryz.prog 91 zq pa91 ts17 sr91 F91 :=
 spG (X := X91) tok (jb trivial) jj 91 32 jxf rfl k91 (by (repeat intro _); show _ = _; kernel_rfl)
def pa20 : List VP := [.agg wz]
def sr20 : jg := ⟨.agg qv09v, [.row true [.int .i64], .row true [.int .i64], .row true qi, .row true jx, .row true [.int .i64], .row true [.int .i64], .row true [.int .i64], .row true [.str, .int .i64, .int .i64, .bool]], none⟩
def jzz : RB (Sx1) [.i, .i, .i, .i, .i, .i, .i, .i, .i, .i, .i, .i, .i, .i, .i, .i, .i, .i, .i, .i, .i, .i, .i, .i, .i, .i, .i, .i, .b, .b, .i, .s, .i, .i, .b, .i, .i, .i, .i, .i, .i, .i, .b, .b, .i, .s, .i, .i, .b, .i, .i, .i, .i, .i, .i, .i, .b, .b, .i, .s, .i, .i, .b, .i, .i, .i, .s, .i, .l [.int .i64], .l [.int .i64], .l qi, .l jx, .l [.int .i64], .l [.int .i64], .l [.int .i64], .l [.str, .int .i64, .int .i64, .bool]] := ⟨Sx1.mk, fun y => (y.q0, y.q1, y.q2, y.q3, y.q4, y.q5, y.q6, y.q7, y.q8, y.q9, y.q10, y.q11, y.q12, y.q13, y.q14, y.q15, y.q16, y.q17, y.q18, y.q19, y.q20, y.q21, y.q22, y.q23, y.q24, y.q25, y.q26, y.q27, y.q28, y.q29, y.q30, y.q31, y.q32, y.q33, y.q34, y.q35, y.q36, y.q37, y.q38, y.q39, y.q40, y.q41, y.q42, y.q43, y.q44, y.q45, y.q46, y.q47, y.q48, y.q49, y.q50, y.q51, y.q52, y.q53, y.q54, y.q55, y.q56, y.q57, y.q58, y.q59, y.q60, y.q61, y.q62, y.q63, y.q64, y.q65, y.q66, y.q67, y.q68, y.q69, y.q70, y.q71, y.q72, y.q73, y.q74, y.q75, ()), fun _ => rfl⟩
def run20 {R : Type} : SF R := runG jzz pa20 ts3 sr20 false (F20 FUEL)
noncomputable def X20 : Px (Sx1) := ⟨T, Tryz.prog, lkF [(87, run87), (88, run88), (89, run89), (90, run90), (91, run91)], ji 20 [], altN, jd⟩
theorem sp20 : SpG T Tryz.prog 20 jzz pa20 ts3 sr20 F20 :=
 spG (X := X20) tok (jb ⟨okG sp87, okG sp88, okG sp89, okG sp90, okG sp91, trivial⟩) jj 20 32 [] rfl trivial (by (repeat intro _); show _ = _; kernel_rfl)
def pa71 : List VP := [.agg vg]
def sr71 : jg := ⟨.b, [], none⟩
def jrz {R : Type} : SF R := runG rb_b pa71 ts5 sr71 false (F71 FUEL)
noncomputable def X71 : Px (Bool) := ⟨T, Tryz.prog, lkF [], ji 71 [], altN, jd⟩
theorem sp71 : SpG T Tryz.prog 71 rb_b pa71 ts5 sr71 F71 :=
 spG (X := X71) tok (jb trivial) jj 71 32 [] rfl trivial (by (repeat intro _); show _ = _; kernel_rfl)
def pa172 : List VP := [.s]
def sr172 : jg := ⟨.b, [], none⟩
def run172 {R : Type} : SF R := runG rb_b pa172 [.s] sr172 false (F172 FUEL)
noncomputable def X172 : Px (Bool) := ⟨T, Tryz.prog, lkF [], ji 172 [], altN, jd⟩
theorem sp172 : SpG T Tryz.prog 172 rb_b pa172 [.s] sr172 F172 :=
 spG (X := X172) tok (jb trivial) jj 172 32 [] rfl trivial (by (repeat intro _); show _ = _; kernel_rfl)
def pa173 : List VP := [.i .i64]
def sr173 : jg := ⟨.b, [], none⟩
def run173 {R : Type} : SF R := runG rb_b pa173 [.i] sr173 false (F173 FUEL)
noncomputable def X173 : Px (Bool) := ⟨T, Tryz.prog, lkF [], ji 173 [], altN, jd⟩
theorem sp173 : SpG T Tryz.prog 173 rb_b pa173 [.i] sr173 F173 :=
 spG (X := X173) tok (jb trivial) jj 173 32 [] rfl trivial (by (repeat intro _); show _ = _; kernel_rfl)
def pa134 : List VP := [.agg [.s, .i .i64, .i .i64, .b]]
def sr134 : jg := ⟨.b, [], none⟩
def jub {R : Type} : SF R := runG rb_b pa134 [.s, .i, .i, .b] sr134 false (F134 FUEL)
noncomputable def X134 : Px (Bool) := ⟨T, Tryz.prog, lkF [(172, run172), (173, run173)], ji 134 [], altN, jd⟩
theorem sp134 : SpG T Tryz.prog 134 rb_b pa134 [.s, .i, .i, .b] sr134 F134 :=
 spG (X := X134) tok (jb ⟨okG sp172, okG sp173, trivial⟩) jj 134 32 [] rfl trivial (by (repeat intro _); show _ = _; kernel_rfl)
def pa204 : List VP := [.sl false [.int .i64], .i .i64]
def sr204 : jg := ⟨.i .i64, [], none⟩
def run204 {R : Type} : SF R := runG rb_i pa204 [.l [.int .i64], .i] sr204 false (F204 FUEL)
def sh204_0 : qd := ⟨[(19, [(0, .sl false [.int .i64]), (1, .i .i64), (7, .i .i64), (8, .i .i64)])], []⟩
def jod : List (List Nat × Cut (Int)) := [([1, 0, 1, 0], cutG sh204_0 [.l [.int .i64], .i, .i, .i] jcm)]
noncomputable def X204 : Px (Int) := ⟨T, Tryz.prog, lkF [], ji 204 jod, altN, jd⟩
theorem k204 : AllCuts X204 32 204 (endK sr204 (toG rb_i)) jod :=
 ⟨jm (by (repeat intro _); show _ = _; kernel_rfl) (by (repeat intro _); show _ = _; kernel_rfl), trivial⟩
theorem sp204 : SpG T Tryz.prog 204 rb_i pa204 [.l [.int .i64], .i] sr204 F204 :=
 spG (X := X204) tok (jb trivial) jj 204 32 jod rfl k204 (by (repeat intro _); show _ = _; kernel_rfl)
def pa193 : List VP := [.sl false [.int .i64], .i .i64]
def sr193 : jg := ⟨.b, [], none⟩
def run193 {R : Type} : SF R := runG rb_b pa193 [.l [.int .i64], .i] sr193 false (F193 FUEL)
noncomputable def X193 : Px (Bool) := ⟨T, Tryz.prog, lkF [(204, run204)], ji 193 [], altN, jd⟩
theorem sp193 : SpG T Tryz.prog 193 rb_b pa193 [.l [.int .i64], .i] sr193 F193 :=
 spG (X := X193) tok (jb ⟨okG sp204, trivial⟩) jj 193 32 [] rfl trivial (by (repeat intro _); show _ = _; kernel_rfl)
def pa177 : List VP := [.i .i64, .sl false [.int .i64]]
def sr177 : jg := ⟨.b, [], none⟩
def run177 {R : Type} : SF R := runG rb_b pa177 [.i, .l [.int .i64]] sr177 false (F177 FUEL)
def sh177_0 : qd := ⟨[(25, [(0, .i .i64), (1, .sl false [.int .i64]), (7, .sl false [.int .i64]), (8, .i .i64), (9, .i .i64)])], []⟩
def ts19 : List LT := [.i, .l [.int .i64], .l [.int .i64], .i, .i]
def joi : List (List Nat × Cut (Bool)) := [([1, 0, 1, 0], cutG sh177_0 ts19 jeh)]
noncomputable def X177 : Px (Bool) := ⟨T, Tryz.prog, lkF [(193, run193)], ji 177 joi, altN, jd⟩
theorem k177 : AllCuts X177 32 177 (endK sr177 (toG rb_b)) joi :=
 ⟨jm (by (repeat intro _); show _ = _; kernel_rfl) (by (repeat intro _); show _ = _; kernel_rfl), trivial⟩
theorem sp177 : SpG T Tryz.prog 177 rb_b pa177 [.i, .l [.int .i64]] sr177 F177 :=
 spG (X := X177) tok (jb ⟨okG sp193, trivial⟩) jj 177 32 joi rfl k177 (by (repeat intro _); show _ = _; kernel_rfl)
def pa141 : List VP := [.agg vg]
def sr141 : jg := ⟨.b, [], none⟩
def run141 {R : Type} : SF R := runG rb_b pa141 ts5 sr141 false (F141 FUEL)
noncomputable def X141 : Px (Bool) := ⟨T, Tryz.prog, lkF [(134, jub), (172, run172), (177, run177)], ji 141 [], altN, jd⟩
theorem sp141 : SpG T Tryz.prog 141 rb_b pa141 ts5 sr141 F141 :=
 spG (X := X141) tok (jb ⟨okG sp134, okG sp172, okG sp177, trivial⟩) jj 141 32 [] rfl trivial (by (repeat intro _); show _ = _; kernel_rfl)
def pa143 : List VP := [.i .i64]
def sr143 : jg := ⟨.b, [], none⟩
def run143 {R : Type} : SF R := runG rb_b pa143 [.i] sr143 false (F143 FUEL)
noncomputable def X143 : Px (Bool) := ⟨T, Tryz.prog, lkF [], ji 143 [], altN, jd⟩
theorem sp143 : SpG T Tryz.prog 143 rb_b pa143 [.i] sr143 F143 :=
 spG (X := X143) tok (jb trivial) jj 143 32 [] rfl trivial (by (repeat intro _); show _ = _; kernel_rfl)
def pa145 : List VP := [.agg vg]
def sr145 : jg := ⟨.i .i64, [], none⟩
def run145 {R : Type} : SF R := runG rb_i pa145 ts5 sr145 false (F145 FUEL)
noncomputable def X145 : Px (Int) := ⟨T, Tryz.prog, lkF [(71, jrz)], ji 145 [], altN, jd⟩
theorem sp145 : SpG T Tryz.prog 145 rb_i pa145 ts5 sr145 F145 :=
 spG (X := X145) tok (jb ⟨okG sp71, trivial⟩) jj 145 32 [] rfl trivial (by (repeat intro _); show _ = _; kernel_rfl)
def pa144 : List VP := [.i .i64, .i .i64]
def sr144 : jg := ⟨.b, [], none⟩
def run144 {R : Type} : SF R := runG rb_b pa144 [.i, .i] sr144 false (F144 FUEL)
noncomputable def X144 : Px (Bool) := ⟨T, Tryz.prog, lkF [], ji 144 [], altN, jd⟩
theorem sp144 : SpG T Tryz.prog 144 rb_b pa144 [.i, .i] sr144 F144 :=
 spG (X := X144) tok (jb trivial) jj 144 32 [] rfl trivial (by (repeat intro _); show _ = _; kernel_rfl)
def pa147 : List VP := [.agg jqe]
def sr147 : jg := ⟨.agg jqe, [], some (.agg jnd)⟩
def run147 {R : Type} : SF R := runG vm pa147 ts9 sr147 false (F147 FUEL)
noncomputable def X147 : Px (uz) := ⟨T, Tryz.prog, lkF [], ji 147 [], altN, jd⟩
theorem sp147 : SpG T Tryz.prog 147 vm pa147 ts9 sr147 F147 :=
 spG (X := X147) tok (jb trivial) jj 147 32 [] rfl trivial (by (repeat intro _); show _ = _; kernel_rfl)
def pa148 : List VP := [.sl false [.int .i64], .sl false [.int .i64]]
def sr148 : jg := ⟨.b, [], none⟩
def jty {R : Type} : SF R := runG rb_b pa148 [.l [.int .i64], .l [.int .i64]] sr148 false (F148 FUEL)
def sh148_0 : qd := ⟨[(26, [(0, .sl false [.int .i64]), (1, .sl false [.int .i64]), (12, .i .i64), (13, .i .i64)])], []⟩
def ts20 : List LT := [.l [.int .i64], .l [.int .i64], .i, .i]
def jon : List (List Nat × Cut (Bool)) := [([1, 1, 0, 1, 0], cutG sh148_0 ts20 jei)]
noncomputable def X148 : Px (Bool) := ⟨T, Tryz.prog, lkF [], ji 148 jon, altN, jd⟩
theorem k148 : AllCuts X148 32 148 (endK sr148 (toG rb_b)) jon :=
 ⟨jm (by (repeat intro _); show _ = _; kernel_rfl) (by (repeat intro _); show _ = _; kernel_rfl), trivial⟩
theorem sp148 : SpG T Tryz.prog 148 rb_b pa148 [.l [.int .i64], .l [.int .i64]] sr148 F148 :=
 spG (X := X148) tok (jb trivial) jj 148 32 jon rfl k148 (by (repeat intro _); show _ = _; kernel_rfl)
def pa146 : List VP := [.agg vg, .agg vg]
def sr146 : jg := ⟨.b, [], none⟩
def jtz {R : Type} : SF R := runG rb_b pa146 ts10 sr146 false (F146 FUEL)
noncomputable def X146 : Px (Bool) := ⟨T, Tryz.prog, lkF [(148, jty)], ji 146 [], altN, jd⟩
theorem sp146 : SpG T Tryz.prog 146 rb_b pa146 ts10 sr146 F146 :=
 spG (X := X146) tok (jb ⟨okG sp148, trivial⟩) jj 146 32 [] rfl trivial (by (repeat intro _); show _ = _; kernel_rfl)
def pa72 : List VP := [.agg vg]
def sr72 : jg := ⟨.b, [], none⟩
def jtr {R : Type} : SF R := runG rb_b pa72 ts5 sr72 false (F72 FUEL)
def sh72_0 : qd := ⟨[(40, [])], []⟩
def sh72_1 : qd := ⟨[(55, [(0, .yield 7), (44, .sl false [.int .i64]), (45, .i .i64), (46, .i .i64)]), (40, [(1, .ref 0 0)])], [.cells vg]⟩
def ts21 : List LT := [.l [.int .i64], .i, .i, .i, .i, .i, .i, .i, .b, .b, .i, .i, .l [.int .i64], .s, .i, .i, .b, .i]
def jxl : List (List Nat × Cut (Bool)) := [([1, 10], cutG sh72_0 [] vq), ([1, 0, 1, 0, 1, 0, 356, 1, 1, 0, 1, 1, 1, 1, 1, 0, 1, 1, 0], cutG sh72_1 ts21 jdi)]
noncomputable def X72 : Px (Bool) := ⟨T, Tryz.prog, lkF [(141, run141), (143, run143), (145, run145), (144, run144), (147, run147), (146, jtz)], ji 72 jxl, altN, jd⟩
theorem k72 : AllCuts X72 32 72 (endK sr72 (toG rb_b)) jxl :=
 ⟨jm (by (repeat intro _); show _ = _; kernel_rfl) (by (repeat intro _); show _ = _; kernel_rfl), jm (by (repeat intro _); show _ = _; kernel_rfl) (by (repeat intro _); show _ = _; kernel_rfl), trivial⟩
theorem sp72 : SpG T Tryz.prog 72 rb_b pa72 ts5 sr72 F72 :=
 spG (X := X72) tok (jb ⟨okG sp141, okG sp143, okG sp145, okG sp144, okG sp147, okG sp146, trivial⟩) jj 72 32 jxl rfl k72 (by (repeat intro _); show _ = _; kernel_rfl)
def pa128 : List VP := [.i .i64]
def sr128 : jg := ⟨.b, [], none⟩
def run128 {R : Type} : SF R := runG rb_b pa128 [.i] sr128 false (F128 FUEL)
noncomputable def X128 : Px (Bool) := ⟨T, Tryz.prog, lkF [], ji 128 [], altN, jd⟩
theorem sp128 : SpG T Tryz.prog 128 rb_b pa128 [.i] sr128 F128 :=
 spG (X := X128) tok (jb trivial) jj 128 32 [] rfl trivial (by (repeat intro _); show _ = _; kernel_rfl)
def pa129 : List VP := [.sl false [.int .i64]]
def sr129 : jg := ⟨.b, [], none⟩
def run129 {R : Type} : SF R := runG rb_b pa129 [.l [.int .i64]] sr129 false (F129 FUEL)
def sh129_0 : qd := ⟨[(37, [(0, .sl false [.int .i64]), (13, .sl false [.int .i64]), (14, .i .i64), (15, .i .i64)])], []⟩
def joq : List (List Nat × Cut (Bool)) := [([1, 1, 0, 1, 0], cutG sh129_0 ts20 jco)]
noncomputable def X129 : Px (Bool) := ⟨T, Tryz.prog, lkF [(128, run128)], ji 129 joq, altN, jd⟩
theorem k129 : AllCuts X129 32 129 (endK sr129 (toG rb_b)) joq :=
 ⟨jm (by (repeat intro _); show _ = _; kernel_rfl) (by (repeat intro _); show _ = _; kernel_rfl), trivial⟩
theorem sp129 : SpG T Tryz.prog 129 rb_b pa129 [.l [.int .i64]] sr129 F129 :=
 spG (X := X129) tok (jb ⟨okG sp128, trivial⟩) jj 129 32 joq rfl k129 (by (repeat intro _); show _ = _; kernel_rfl)
def pa164 : List VP := [.i .i64]
def sr164 : jg := ⟨.i .i64, [], none⟩
def jtx {R : Type} : SF R := runG rb_i pa164 [.i] sr164 false (F164 FUEL)
noncomputable def X164 : Px (Int) := ⟨T, Tryz.prog, lkF [], ji 164 [], altN, jd⟩
theorem sp164 : SpG T Tryz.prog 164 rb_i pa164 [.i] sr164 F164 :=
 spG (X := X164) tok (jb trivial) jj 164 32 [] rfl trivial (by (repeat intro _); show _ = _; kernel_rfl)
def pa166 : List VP := [.i .i64]
def sr166 : jg := ⟨.b, [], none⟩
def run166 {R : Type} : SF R := runG rb_b pa166 [.i] sr166 false (F166 FUEL)
noncomputable def X166 : Px (Bool) := ⟨T, Tryz.prog, lkF [], ji 166 [], altN, jd⟩
theorem sp166 : SpG T Tryz.prog 166 rb_b pa166 [.i] sr166 F166 :=
 spG (X := X166) tok (jb trivial) jj 166 32 [] rfl trivial (by (repeat intro _); show _ = _; kernel_rfl)
def pa167 : List VP := [.i .i64, .i .i64]
def sr167 : jg := ⟨.i .i64, [], none⟩
def jpr {R : Type} : SF R := runG rb_i pa167 [.i, .i] sr167 false (F167 FUEL)
noncomputable def X167 : Px (Int) := ⟨T, Tryz.prog, lkF [(164, jtx)], ji 167 [], altN, jd⟩
theorem jzl : SpG T Tryz.prog 167 rb_i pa167 [.i, .i] sr167 F167 :=
 spG (X := X167) tok (jb ⟨okG sp164, trivial⟩) jj 167 32 [] rfl trivial (by (repeat intro _); show _ = _; kernel_rfl)
def pa130 : List VP := [.i .i64, .sl false [.int .i64]]
def sr130 : jg := ⟨.b, [], none⟩
def run130 {R : Type} : SF R := runG rb_b pa130 [.i, .l [.int .i64]] sr130 false (F130 FUEL)
def sh130_0 : qd := ⟨[(21, [(0, .yield 7), (4, .i .i64), (8, .sl false [.int .i64]), (9, .i .i64), (10, .i .i64)]), (29, [(2, .ref 0 0), (4, .ref 1 0)])], [.cells [.i .i64], .cells [.b]]⟩
def jop : List (List Nat × Cut (Bool)) := [([1, 1, 1, 0, 1, 0, 384, 1, 1, 0], cutG sh130_0 [.i, .l [.int .i64], .i, .i, .i, .b] jej)]
noncomputable def X130 : Px (Bool) := ⟨T, Tryz.prog, lkF [(164, jtx), (166, run166), (167, jpr)], ji 130 jop, altN, jd⟩
theorem k130 : AllCuts X130 32 130 (endK sr130 (toG rb_b)) jop :=
 ⟨jm (by (repeat intro _); show _ = _; kernel_rfl) (by (repeat intro _); show _ = _; kernel_rfl), trivial⟩
theorem sp130 : SpG T Tryz.prog 130 rb_b pa130 [.i, .l [.int .i64]] sr130 F130 :=
 spG (X := X130) tok (jb ⟨okG sp164, okG sp166, okG jzl, trivial⟩) jj 130 32 jop rfl k130 (by (repeat intro _); show _ = _; kernel_rfl)
def pa53 : List VP := [.agg vv]
def sr53 : jg := ⟨.b, [], none⟩
def jts {R : Type} : SF R := runG rb_b pa53 ts0 sr53 false (F53 FUEL)
def sh53_0 : qd := ⟨[(38, [])], []⟩
def sh53_1 : qd := ⟨[(20, [(0, .yield 7), (11, .agg qv016v), (12, .i .i64)]), (38, [(1, .ref 0 0)])], [.cells vv]⟩
def ts22 : List LT := [.i, .i, .i, .i, .i, .i, .i, .i, .i, .i, .i, .i, .i, .i, .i, .i, .i, .i, .l [.int .i64], .l [.int .i64], .i, .i, .i, .i, .i, .i, .i, .i, .i, .i, .i, .i, .i, .i, .i, .i, .i]
def jxu : List (List Nat × Cut (Bool)) := [([1, 10], cutG sh53_0 [] jdk), ([1, 0, 1, 0, 1, 0, 336, 1, 1, 0], cutG sh53_1 ts22 jet)]
noncomputable def X53 : Px (Bool) := ⟨T, Tryz.prog, lkF [(128, run128), (129, run129), (130, run130)], ji 53 jxu, altN, jd⟩
theorem k53 : AllCuts X53 32 53 (endK sr53 (toG rb_b)) jxu :=
 ⟨jm (by (repeat intro _); show _ = _; kernel_rfl) (by (repeat intro _); show _ = _; kernel_rfl), jm (by (repeat intro _); show _ = _; kernel_rfl) (by (repeat intro _); show _ = _; kernel_rfl), trivial⟩
theorem sp53 : SpG T Tryz.prog 53 rb_b pa53 ts0 sr53 F53 :=
 spG (X := X53) tok (jb ⟨okG sp128, okG sp129, okG sp130, trivial⟩) jj 53 32 jxu rfl k53 (by (repeat intro _); show _ = _; kernel_rfl)
def pa169 : List VP := [.i .i64, .i .i64]
def sr169 : jg := ⟨.tup [.i .i64, .i .i64], [], none⟩
def jum : RB (Int × Int) [.i, .i] := ⟨fun x y => (x, y), fun y => (y.1, y.2, ()), fun _ => rfl⟩
def run169 {R : Type} : SF R := runG jum pa169 [.i, .i] sr169 false (F169 FUEL)
def sh169_0 : qd := ⟨[(21, [])], []⟩
def joj : List (List Nat × Cut (Int × Int)) := [([1, 10], cutG sh169_0 [] jhh)]
noncomputable def X169 : Px (Int × Int) := ⟨T, Tryz.prog, lkF [(143, run143)], ji 169 joj, altN, jd⟩
theorem k169 : AllCuts X169 32 169 (endK sr169 (toG jum)) joj :=
 ⟨jm (by (repeat intro _); show _ = _; kernel_rfl) (by (repeat intro _); show _ = _; kernel_rfl), trivial⟩
theorem sp169 : SpG T Tryz.prog 169 jum pa169 [.i, .i] sr169 F169 :=
 spG (X := X169) tok (jb ⟨okG sp143, trivial⟩) jj 169 32 joj rfl k169 (by (repeat intro _); show _ = _; kernel_rfl)
def pa170 : List VP := [.i .i64]
def sr170 : jg := ⟨.b, [], none⟩
def run170 {R : Type} : SF R := runG rb_b pa170 [.i] sr170 false (F170 FUEL)
noncomputable def X170 : Px (Bool) := ⟨T, Tryz.prog, lkF [], ji 170 [], altN, jd⟩
theorem sp170 : SpG T Tryz.prog 170 rb_b pa170 [.i] sr170 F170 :=
 spG (X := X170) tok (jb trivial) jj 170 32 [] rfl trivial (by (repeat intro _); show _ = _; kernel_rfl)
def pa132 : List VP := [.agg [.i .i64, .i .i64, .sl false qi], .agg jsc]
def sr132 : jg := ⟨.b, [], none⟩
def ts23 : List LT := [.i, .i, .l qi, .i, .i, .i, .i, .i, .i, .b, .b, .i, .i, .l [.int .i64], .s, .i, .i, .b, .i, .i, .i, .i, .i]
def run132 {R : Type} : SF R := runG rb_b pa132 ts23 sr132 false (F132 FUEL)
noncomputable def X132 : Px (Bool) := ⟨T, Tryz.prog, lkF [(169, run169), (71, jrz), (72, jtr), (170, run170)], ji 132 [], altN, jd⟩
theorem sp132 : SpG T Tryz.prog 132 rb_b pa132 ts23 sr132 F132 :=
 spG (X := X132) tok (jb ⟨okG sp169, okG sp71, okG sp72, okG sp170, trivial⟩) jj 132 32 [] rfl trivial (by (repeat intro _); show _ = _; kernel_rfl)
def pa55 : List VP := [.agg [.i .i64, .i .i64, .sl false qi]]
def sr55 : jg := ⟨.b, [], none⟩
def run55 {R : Type} : SF R := runG rb_b pa55 ts1 sr55 false (F55 FUEL)
def sh55_0 : qd := ⟨[(50, [])], []⟩
def sh55_1 : qd := ⟨[(50, [(1, .ref 0 0), (3, .i .i64), (31, .sl false qi), (32, .i .i64), (33, .i .i64)])], [.cells [.i .i64, .i .i64, .sl false qi]]⟩
def ts24 : List LT := [.i, .l qi, .i, .i, .i, .i, .l qi]
def jxt : List (List Nat × Cut (Bool)) := [([1, 10], cutG sh55_0 [] jdj), ([1, 0, 1, 1, 0, 1, 0], cutG sh55_1 ts24 jit)]
noncomputable def X55 : Px (Bool) := ⟨T, Tryz.prog, lkF [(132, run132)], ji 55 jxt, altN, jd⟩
theorem k55 : AllCuts X55 32 55 (endK sr55 (toG rb_b)) jxt :=
 ⟨jm (by (repeat intro _); show _ = _; kernel_rfl) (by (repeat intro _); show _ = _; kernel_rfl), jm (by (repeat intro _); show _ = _; kernel_rfl) (by (repeat intro _); show _ = _; kernel_rfl), trivial⟩
theorem sp55 : SpG T Tryz.prog 55 rb_b pa55 ts1 sr55 F55 :=
 spG (X := X55) tok (jb ⟨okG sp132, trivial⟩) jj 55 32 jxt rfl k55 (by (repeat intro _); show _ = _; kernel_rfl)
def pa57 : List VP := [.agg [.i .u8, .i .i64]]
def sr57 : jg := ⟨.b, [], none⟩
def run57 {R : Type} : SF R := runG rb_b pa57 [.i, .i] sr57 false (F57 FUEL)
noncomputable def X57 : Px (Bool) := ⟨T, Tryz.prog, lkF [], ji 57 [], altN, jd⟩
theorem sp57 : SpG T Tryz.prog 57 rb_b pa57 [.i, .i] sr57 F57 :=
 spG (X := X57) tok (jb trivial) jj 57 32 [] rfl trivial (by (repeat intro _); show _ = _; kernel_rfl)
def pa59 : List VP := [.sl false [.str, .int .i64, .int .i64, .bool]]
def sr59 : jg := ⟨.b, [], none⟩
def run59 {R : Type} : SF R := runG rb_b pa59 ts17 sr59 false (F59 FUEL)
def sh59_0 : qd := ⟨[(18, [(0, .yield 6), (5, .sl false [.str, .int .i64, .int .i64, .bool]), (6, .i .i64), (7, .i .i64)]), (30, [(1, .ref 0 0), (2, .ref 1 0)])], [.cells [.sl false [.str, .int .i64, .int .i64, .bool]], .cells [.b]]⟩
def ts25 : List LT := [.l [.str, .int .i64, .int .i64, .bool], .i, .i, .l [.str, .int .i64, .int .i64, .bool], .b]
def jxs : List (List Nat × Cut (Bool)) := [([1, 1, 0, 1, 0, 342, 1, 0], cutG sh59_0 ts25 jhc)]
noncomputable def X59 : Px (Bool) := ⟨T, Tryz.prog, lkF [(134, jub)], ji 59 jxs, altN, jd⟩
theorem k59 : AllCuts X59 32 59 (endK sr59 (toG rb_b)) jxs :=
 ⟨jm (by (repeat intro _); show _ = _; kernel_rfl) (by (repeat intro _); show _ = _; kernel_rfl), trivial⟩
theorem sp59 : SpG T Tryz.prog 59 rb_b pa59 ts17 sr59 F59 :=
 spG (X := X59) tok (jb ⟨okG sp134, trivial⟩) jj 59 32 jxs rfl k59 (by (repeat intro _); show _ = _; kernel_rfl)
def pa110 : List VP := [.i .i64, .i .i64]
def sr110 : jg := ⟨.clos 156 [.ref 0 0, .ref 1 0], [.cells [.i .i64], .cells [.i .i64]], none⟩
def jud {R : Type} : SF R := runG jum pa110 [.i, .i] sr110 false (F110 FUEL)
noncomputable def X110 : Px (Int × Int) := ⟨T, Tryz.prog, lkF [], ji 110 [], altN, jd⟩
theorem sp110 : SpG T Tryz.prog 110 jum pa110 [.i, .i] sr110 F110 :=
 spG (X := X110) tok (jb trivial) jj 110 32 [] rfl trivial (by (repeat intro _); show _ = _; kernel_rfl)
def pa109 : List VP := [.sl false jx, .clos 156 [.ep [.i .i64], .ep [.i .i64]]]
def sr109 : jg := ⟨.i .i64, [], none⟩
def ts26 : List LT := [.l jx, .i, .i]
def jue {R : Type} : SF R := runG rb_i pa109 ts26 sr109 false (F109 FUEL)
def sh109_0 : qd := ⟨[(18, [(0, .yield 5), (5, .sl false jx), (6, .i .i64), (7, .i .i64)]), (15, [(3, .ref 0 0), (4, .ref 1 0)])], [.cells [.clos 156 [.ep [.i .i64], .ep [.i .i64]]], .cells [.ci .i64 (0)]]⟩
def ts27 : List LT := [.l jx, .i, .i, .i, .i]
def jov : List (List Nat × Cut (Int)) := [([1, 0, 1, 0, 348, 1, 0], cutG sh109_0 ts27 jcp)]
noncomputable def X109 : Px (Int) := ⟨T, Tryz.prog, lkF [], ji 109 jov, altN, jd⟩
theorem k109 : AllCuts X109 32 109 (endK sr109 (toG rb_i)) jov :=
 ⟨jm (by (repeat intro _); show _ = _; kernel_rfl) (by (repeat intro _); show _ = _; kernel_rfl), trivial⟩
theorem sp109 : SpG T Tryz.prog 109 rb_i pa109 ts26 sr109 F109 :=
 spG (X := X109) tok (jb trivial) jj 109 32 jov rfl k109 (by (repeat intro _); show _ = _; kernel_rfl)
def pa61 : List VP := [.sl false jx]
def sr61 : jg := ⟨.b, [], none⟩
def run61 {R : Type} : SF R := runG rb_b pa61 ts14 sr61 false (F61 FUEL)
def sh61_0 : qd := ⟨[(18, [(0, .yield 6), (5, .sl false jx), (6, .i .i64), (7, .i .i64)]), (45, [(1, .ref 0 0), (2, .ref 1 0)])], [.cells [.sl false jx], .cells [.b]]⟩
def ts28 : List LT := [.l jx, .i, .i, .l jx, .b]
def jxr : List (List Nat × Cut (Bool)) := [([1, 1, 0, 1, 0, 348, 1, 0], cutG sh61_0 ts28 jis)]
noncomputable def X61 : Px (Bool) := ⟨T, Tryz.prog, lkF [(72, jtr), (71, jrz), (110, jud), (109, jue)], ji 61 jxr, altN, jd⟩
theorem k61 : AllCuts X61 32 61 (endK sr61 (toG rb_b)) jxr :=
 ⟨jm (by (repeat intro _); show _ = _; kernel_rfl) (by (repeat intro _); show _ = _; kernel_rfl), trivial⟩
theorem sp61 : SpG T Tryz.prog 61 rb_b pa61 ts14 sr61 F61 :=
 spG (X := X61) tok (jb ⟨okG sp72, okG sp71, okG sp110, okG sp109, trivial⟩) jj 61 32 jxr rfl k61 (by (repeat intro _); show _ = _; kernel_rfl)
def pa15 : List VP := [.agg wz]
def sr15 : jg := ⟨.b, [], none⟩
def run15 {R : Type} : SF R := runG rb_b pa15 ts3 sr15 false (F15 FUEL)
def sh15_0 : qd := ⟨[(19, [(0, .sl false jx), (1, .clos 64 [.ref 0 0]), (7, .i .i64), (8, .i .i64)]), (9, []), (7, []), (17, [(0, .yield 9), (5, .asl 1 0 1 9), (6, .ci .i64 (9)), (7, .ci .i64 (8)), (11, .yield 9)]), (9, [(2, .ref 2 0)]), (14, [])], [.cells wz, .cells [.clos 49 [.ref 0 0], .clos 50 [.ref 0 0], .clos 51 [.ref 0 0], .clos 52 [.ref 0 0], .clos 54 [.ref 0 0], .clos 56 [.ref 0 0], .clos 58 [.ref 0 0], .clos 60 [.ref 0 0], .clos 62 [.ref 0 0]], .cells [.b]]⟩
def ts29 : List LT := [.l jx, .i, .i, .i, .l [.int .i64], .l [.int .i64], .i, .i, .i, .i, .i, .i, .i, .i, .i, .i, .i, .i, .i, .i, .i, .i, .i, .i, .i, .i, .l qi, .l jx, .i, .i, .i, .i, .i, .i, .i, .b, .b, .i, .s, .i, .i, .b, .i, .l [.int .i64], .i, .i, .i, .i, .i, .i, .b, .b, .i, .s, .i, .i, .b, .i, .l [.int .i64], .i, .i, .i, .i, .i, .i, .b, .b, .i, .s, .i, .i, .b, .i, .l [.int .i64], .i, .i, .s, .l [.str, .int .i64, .int .i64, .bool], .i, .b]
def jyf : List (List Nat × Cut (Bool)) := [([1, 0, 10, 96, 1, 0, 1, 0, 326, 1, 0, 5, 5, 5, 5, 5, 5, 5, 5, 0, 1, 1, 0, 0, 1, 0, 2, 124, 1, 0, 3, 126, 1, 0, 2, 272, 1, 0, 1, 0], cutG sh15_0 ts29 jhi)]
noncomputable def X15 : Px (Bool) := ⟨T, Tryz.prog, lkF [(53, jts), (55, run55), (57, run57), (59, run59), (61, run61)], ji 15 jyf, altN, jd⟩
theorem k15 : AllCuts X15 32 15 (endK sr15 (toG rb_b)) jyf :=
 ⟨jm (by (repeat intro _); show _ = _; kernel_rfl) (by (repeat intro _); show _ = _; kernel_rfl), trivial⟩
theorem sp15 : SpG T Tryz.prog 15 rb_b pa15 ts3 sr15 F15 :=
 spG (X := X15) tok (jb ⟨okG sp53, okG sp55, okG sp57, okG sp59, okG sp61, trivial⟩) jj 15 32 jyf rfl k15 (by (repeat intro _); show _ = _; kernel_rfl)
def pa17 : List VP := [.agg wz, .agg vg]
def sr17 : jg := ⟨.b, [], none⟩
def ts30 : List LT := [.i, .l [.int .i64], .l [.int .i64], .i, .i, .i, .i, .i, .i, .i, .i, .i, .i, .i, .i, .i, .i, .i, .i, .i, .i, .i, .i, .l qi, .l jx, .i, .i, .i, .i, .i, .i, .i, .b, .b, .i, .s, .i, .i, .b, .i, .l [.int .i64], .i, .i, .i, .i, .i, .i, .b, .b, .i, .s, .i, .i, .b, .i, .l [.int .i64], .i, .i, .i, .i, .i, .i, .b, .b, .i, .s, .i, .i, .b, .i, .l [.int .i64], .i, .i, .s, .l [.str, .int .i64, .int .i64, .bool], .i, .i, .i, .i, .i, .i, .b, .b, .i, .i, .l [.int .i64], .s, .i, .i, .b, .i]
def run17 {R : Type} : SF R := runG rb_b pa17 ts30 sr17 false (F17 FUEL)
noncomputable def X17 : Px (Bool) := ⟨T, Tryz.prog, lkF [(71, jrz), (72, jtr), (15, run15)], ji 17 [], altN, jd⟩
theorem sp17 : SpG T Tryz.prog 17 rb_b pa17 ts30 sr17 F17 :=
 spG (X := X17) tok (jb ⟨okG sp71, okG sp72, okG sp15, trivial⟩) jj 17 32 [] rfl trivial (by (repeat intro _); show _ = _; kernel_rfl)
def pa35 : List VP := [.sl false jx, .i .i64, .i .i64]
def sr35 : jg := ⟨.tup [.agg jqd, .b], [.row true [.int .i64]], none⟩
def uh : RB (qp) [.i, .i, .i, .i, .i, .b, .b, .i, .i, .s, .i, .i, .b, .i, .b, .l [.int .i64]] := ⟨qp.mk, fun y => (y.q0, y.q1, y.q2, y.q3, y.q4, y.q5, y.q6, y.q7, y.q8, y.q9, y.q10, y.q11, y.q12, y.q13, y.q14, y.q15, ()), fun _ => rfl⟩
def run35 {R : Type} : SF R := runG uh pa35 ts26 sr35 false (F35 FUEL)
noncomputable def X35 : Px (qp) := ⟨T, Tryz.prog, lkF [(110, jud), (109, jue), (38, jtu)], ji 35 [], altN, jd⟩
theorem sp35 : SpG T Tryz.prog 35 uh pa35 ts26 sr35 F35 :=
 spG (X := X35) tok (jb ⟨okG sp110, okG sp109, okG sp38, trivial⟩) jj 35 32 [] rfl trivial (by (repeat intro _); show _ = _; kernel_rfl)
def pa111 : List VP := [.agg vg]
def sr111 : jg := ⟨.agg jnd, [], none⟩
def run111 {R : Type} : SF R := runG qf pa111 ts5 sr111 false (F111 FUEL)
noncomputable def X111 : Px (qe) := ⟨T, Tryz.prog, lkF [(71, jrz)], ji 111 [], altN, jd⟩
theorem sp111 : SpG T Tryz.prog 111 qf pa111 ts5 sr111 F111 :=
 spG (X := X111) tok (jb ⟨okG sp71, trivial⟩) jj 111 32 [] rfl trivial (by (repeat intro _); show _ = _; kernel_rfl)
def pa182 : List VP := [.i .i64]
def sr182 : jg := ⟨.b, [], none⟩
def run182 {R : Type} : SF R := runG rb_b pa182 [.i] sr182 false (F182 FUEL)
noncomputable def X182 : Px (Bool) := ⟨T, Tryz.prog, lkF [], ji 182 [], altN, jd⟩
theorem sp182 : SpG T Tryz.prog 182 rb_b pa182 [.i] sr182 F182 :=
 spG (X := X182) tok (jb trivial) jj 182 32 [] rfl trivial (by (repeat intro _); show _ = _; kernel_rfl)
def pa183 : List VP := [.i .i64, .i .i64, .i .i64]
def sr183 : jg := ⟨.b, [], none⟩
def jtw {R : Type} : SF R := runG rb_b pa183 [.i, .i, .i] sr183 false (F183 FUEL)
noncomputable def X183 : Px (Bool) := ⟨T, Tryz.prog, lkF [(167, jpr)], ji 183 [], altN, jd⟩
theorem sp183 : SpG T Tryz.prog 183 rb_b pa183 [.i, .i, .i] sr183 F183 :=
 spG (X := X183) tok (jb ⟨okG jzl, trivial⟩) jj 183 32 [] rfl trivial (by (repeat intro _); show _ = _; kernel_rfl)
def pa116 : List VP := [.agg vv, .sl false [.int .i64]]
def sr116 : jg := ⟨.agg jqf, [.row true [.int .i64], .row true [.int .i64]], none⟩
def ts31 : List LT := [.i, .l [.int .i64], .l [.int .i64], .i, .i, .i, .i, .i, .i, .i, .i, .i, .i, .i, .i, .i, .i, .i, .i, .i, .l [.int .i64]]
def run116 {R : Type} : SF R := runG wa pa116 ts31 sr116 false (F116 FUEL)
def sh116_0 : qd := ⟨[(23, [(4, .ref 0 0), (5, .ref 1 0)])], [.cells [.ci .i64 (0), .nil, .nil, .ci .i64 (0), .ci .i64 (0), .ci .i64 (0), .ci .i64 (0), .ci .i64 (0), .ci .i64 (0), .ci .i64 (0), .ci .i64 (0), .ci .i64 (0), .ci .i64 (0), .ci .i64 (0), .ci .i64 (0), .ci .i64 (0), .ci .i64 (0), .ci .i64 (0), .ci .i64 (0), .ci .i64 (0)], .cells qv014v, .row true [.int .i64], .row true [.int .i64]]⟩
def sh116_1 : qd := ⟨[(16, [(0, .yield 9), (5, .sl false [.int .i64]), (6, .i .i64), (7, .i .i64)]), (23, [(4, .ref 0 0), (5, .ref 1 0), (6, .ref 2 0)])], [.cells [.ci .i64 (0), .nil, .nil, .ci .i64 (0), .ci .i64 (0), .ci .i64 (0), .ci .i64 (0), .ci .i64 (0), .ci .i64 (0), .ci .i64 (0), .ci .i64 (0), .ci .i64 (0), .ci .i64 (0), .ci .i64 (0), .ci .i64 (0), .ci .i64 (0), .ci .i64 (0), .ci .i64 (0), .ci .i64 (0), .ci .i64 (0)], .cells [.i .i64, .row 3, .row 4, .i .i64, .i .i64, .i .i64, .i .i64, .i .i64, .i .i64, .i .i64, .i .i64, .i .i64, .i .i64, .i .i64, .i .i64, .i .i64, .i .i64, .i .i64, .i .i64, .i .i64], .cells [.clos 181 [.ref 5 0]], .row true [.int .i64], .row true [.int .i64], .cells [.ref 1 0]]⟩
def ts32 : List LT := [.i, .i, .i, .i, .i, .i, .i, .i, .i, .i, .i, .i, .i, .i, .i, .i, .i, .i, .l [.int .i64], .l [.int .i64]]
def ts33 : List LT := [.l [.int .i64], .i, .i, .i, .i, .i, .i, .i, .i, .i, .i, .i, .i, .i, .i, .i, .i, .i, .i, .i, .i, .l [.int .i64], .l [.int .i64]]
def jou : List (List Nat × Cut (wx)) := [([1, 10], cutG sh116_0 ts32 jzc), ([1, 0, 1, 1, 1, 0, 1, 0, 368, 1, 0], cutG sh116_1 ts33 zn)]
noncomputable def X116 : Px (wx) := ⟨T, Tryz.prog, lkF [(87, run87), (53, jts), (182, run182), (183, jtw)], ji 116 jou, altN, jd⟩
theorem k116 : AllCuts X116 32 116 (endK sr116 (toG wa)) jou :=
 ⟨jm (by (repeat intro _); show _ = _; kernel_rfl) (by (repeat intro _); show _ = _; kernel_rfl), jm (by (repeat intro _); show _ = _; kernel_rfl) (by (repeat intro _); show _ = _; kernel_rfl), trivial⟩
theorem sp116 : SpG T Tryz.prog 116 wa pa116 ts31 sr116 F116 :=
 spG (X := X116) tok (jb ⟨okG sp87, okG sp53, okG sp182, okG sp183, trivial⟩) jj 116 32 jou rfl k116 (by (repeat intro _); show _ = _; kernel_rfl)
def pa196 : List VP := [.sl false [.int .i64]]
def sr196 : jg := ⟨.tup [.i .i64, .b], [], none⟩
def jce : RB (Int × Bool) [.i, .b] := ⟨fun x y => (x, y), fun y => (y.1, y.2, ()), fun _ => rfl⟩
def run196 {R : Type} : SF R := runG jce pa196 [.l [.int .i64]] sr196 false (F196 FUEL)
def sh196_0 : qd := ⟨[(16, [(0, .yield 5), (5, .sl false [.int .i64]), (6, .i .i64), (7, .ci .i64 (0))]), (9, [(2, .ref 0 0), (3, .ref 1 0)])], [.cells [.ci .i64 (0)], .cells [.b]]⟩
def jog : List (List Nat × Cut (Int × Bool)) := [([1, 0, 1, 0, 414, 1, 0], cutG sh196_0 [.l [.int .i64], .i, .b] jpf)]
noncomputable def X196 : Px (Int × Bool) := ⟨T, Tryz.prog, lkF [], ji 196 jog, altN, jd⟩
theorem k196 : AllCuts X196 32 196 (endK sr196 (toG jce)) jog :=
 ⟨jm (by (repeat intro _); show _ = _; kernel_rfl) (by (repeat intro _); show _ = _; kernel_rfl), trivial⟩
theorem sp196 : SpG T Tryz.prog 196 jce pa196 [.l [.int .i64]] sr196 F196 :=
 spG (X := X196) tok (jb trivial) jj 196 32 jog rfl k196 (by (repeat intro _); show _ = _; kernel_rfl)
def pa197 : List VP := [.agg vv]
def sr197 : jg := ⟨.i .i64, [], none⟩
def run197 {R : Type} : SF R := runG rb_i pa197 ts0 sr197 false (F197 FUEL)
def sh197_0 : qd := ⟨[(35, [(1, .ref 0 0), (3, .i .i64), (7, .sl false [.int .i64]), (8, .i .i64), (9, .i .i64)])], [.cells vv]⟩
def ts34 : List LT := [.i, .l [.int .i64], .i, .i, .i, .l [.int .i64], .l [.int .i64], .i, .i, .i, .i, .i, .i, .i, .i, .i, .i, .i, .i, .i, .i, .i, .i, .i]
def jof : List (List Nat × Cut (Int)) := [([1, 1, 0, 1, 0], cutG sh197_0 ts34 jag)]
noncomputable def X197 : Px (Int) := ⟨T, Tryz.prog, lkF [(167, jpr)], ji 197 jof, altN, jd⟩
theorem k197 : AllCuts X197 32 197 (endK sr197 (toG rb_i)) jof :=
 ⟨jm (by (repeat intro _); show _ = _; kernel_rfl) (by (repeat intro _); show _ = _; kernel_rfl), trivial⟩
theorem sp197 : SpG T Tryz.prog 197 rb_i pa197 ts0 sr197 F197 :=
 spG (X := X197) tok (jb ⟨okG jzl, trivial⟩) jj 197 32 jof rfl k197 (by (repeat intro _); show _ = _; kernel_rfl)
def pa185 : List VP := [.agg vv]
def sr185 : jg := ⟨.i .i64, [], none⟩
def run185 {R : Type} : SF R := runG rb_i pa185 ts0 sr185 false (F185 FUEL)
noncomputable def X185 : Px (Int) := ⟨T, Tryz.prog, lkF [(53, jts), (196, run196), (197, run197)], ji 185 [], altN, jd⟩
theorem sp185 : SpG T Tryz.prog 185 rb_i pa185 ts0 sr185 F185 :=
 spG (X := X185) tok (jb ⟨okG sp53, okG sp196, okG sp197, trivial⟩) jj 185 32 [] rfl trivial (by (repeat intro _); show _ = _; kernel_rfl)
def pa186 : List VP := [.i .i64, .i .i64, .i .i64]
def sr186 : jg := ⟨.b, [], none⟩
def run186 {R : Type} : SF R := runG rb_b pa186 [.i, .i, .i] sr186 false (F186 FUEL)
noncomputable def X186 : Px (Bool) := ⟨T, Tryz.prog, lkF [(183, jtw), (164, jtx)], ji 186 [], altN, jd⟩
theorem sp186 : SpG T Tryz.prog 186 rb_b pa186 [.i, .i, .i] sr186 F186 :=
 spG (X := X186) tok (jb ⟨okG sp183, okG sp164, trivial⟩) jj 186 32 [] rfl trivial (by (repeat intro _); show _ = _; kernel_rfl)
def pa159 : List VP := [.agg vv, .i .i64, .b]
def sr159 : jg := ⟨.tup [.i .i64, .b], [], none⟩
def ts35 : List LT := [.i, .l [.int .i64], .l [.int .i64], .i, .i, .i, .i, .i, .i, .i, .i, .i, .i, .i, .i, .i, .i, .i, .i, .i, .i, .b]
def run159 {R : Type} : SF R := runG jce pa159 ts35 sr159 false (F159 FUEL)
def sh159_0 : qd := ⟨[(38, [(0, .yield 10), (1, .ref 0 0), (13, .sl false [.int .i64]), (14, .i .i64), (15, .i .i64)]), (36, [(6, .ref 1 0), (8, .ref 2 0)])], [.cells vv, .cells [.i .i64], .cells [.clos 198 [.ref 3 0, .ref 4 0]], .cells [.i .i64], .cells [.i .i64]]⟩
def sh159_1 : qd := ⟨[(38, [(0, .yield 10), (25, .agg qv016v), (26, .i .i64)]), (36, [(6, .ref 0 0), (8, .ref 1 0)])], [.cells [.i .i64], .cells [.clos 198 [.ref 2 0, .ref 3 0]], .cells [.i .i64], .cells [.i .i64]]⟩
def ts36 : List LT := [.l [.int .i64], .i, .i, .i, .l [.int .i64], .l [.int .i64], .i, .i, .i, .i, .i, .i, .i, .i, .i, .i, .i, .i, .i, .i, .i, .i, .i, .i, .i, .i]
def ts37 : List LT := [.i, .i, .i, .i, .i, .i, .i, .i, .i, .i, .i, .i, .i, .i, .i, .i, .i, .i, .i, .i]
def jol : List (List Nat × Cut (Int × Bool)) := [([1, 1, 1, 1, 1, 1, 0, 1, 0, 398, 1, 0, 1, 0], cutG sh159_0 ts36 zm), ([1, 1, 1, 1, 1, 1, 0, 1, 0, 398, 1, 1, 1, 0], cutG sh159_1 ts37 jai)]
noncomputable def X159 : Px (Int × Bool) := ⟨T, Tryz.prog, lkF [(53, jts), (185, run185), (186, run186), (183, jtw), (167, jpr)], ji 159 jol, altN, jd⟩
theorem k159 : AllCuts X159 32 159 (endK sr159 (toG jce)) jol :=
 ⟨jm (by (repeat intro _); show _ = _; kernel_rfl) (by (repeat intro _); show _ = _; kernel_rfl), jm (by (repeat intro _); show _ = _; kernel_rfl) (by (repeat intro _); show _ = _; kernel_rfl), trivial⟩
theorem sp159 : SpG T Tryz.prog 159 jce pa159 ts35 sr159 F159 :=
 spG (X := X159) tok (jb ⟨okG sp53, okG sp185, okG sp186, okG sp183, okG jzl, trivial⟩) jj 159 32 jol rfl k159 (by (repeat intro _); show _ = _; kernel_rfl)
def pa118 : List VP := [.agg vv, .agg vg]
def sr118 : jg := ⟨.agg jnd, [], none⟩
def ts38 : List LT := [.i, .l [.int .i64], .l [.int .i64], .i, .i, .i, .i, .i, .i, .i, .i, .i, .i, .i, .i, .i, .i, .i, .i, .i, .i, .i, .i, .i, .i, .b, .b, .i, .i, .l [.int .i64], .s, .i, .i, .b, .i]
def run118 {R : Type} : SF R := runG qf pa118 ts38 sr118 false (F118 FUEL)
def sh118_0 : qd := ⟨[(40, [(4, .ref 0 0), (5, .ref 1 0)])], [.cells [.ci .u8 (0), .ci .i64 (0), .ci .i64 (0), .ci .i64 (0), .ci .i64 (0), .b, .b, .ci .i64 (0), .ci .i64 (0), .nil, .s, .ci .i64 (0), .ci .i64 (0), .b, .ci .i64 (0)], .cells [.ci .u8 (0), .ci .i64 (0), .ci .i64 (0), .ci .i64 (0), .ci .i64 (0), .b, .b, .ci .i64 (0), .ci .i64 (0), .nil, .s, .ci .i64 (0), .ci .i64 (0), .b, .ci .i64 (0)]]⟩
def jot : List (List Nat × Cut (qe)) := [([1, 10], cutG sh118_0 [.b, .b, .s, .b, .b, .b, .s, .b] jem)]
noncomputable def X118 : Px (qe) := ⟨T, Tryz.prog, lkF [(53, jts), (72, jtr), (111, run111), (159, run159)], ji 118 jot, altN, jd⟩
theorem k118 : AllCuts X118 32 118 (endK sr118 (toG qf)) jot :=
 ⟨jm (by (repeat intro _); show _ = _; kernel_rfl) (by (repeat intro _); show _ = _; kernel_rfl), trivial⟩
theorem sp118 : SpG T Tryz.prog 118 qf pa118 ts38 sr118 F118 :=
 spG (X := X118) tok (jb ⟨okG sp53, okG sp72, okG sp111, okG sp159, trivial⟩) jj 118 32 jot rfl k118 (by (repeat intro _); show _ = _; kernel_rfl)
def pa200 : List VP := [.s]
def sr200 : jg := ⟨.b, [], none⟩
def run200 {R : Type} : SF R := runG rb_b pa200 [.s] sr200 false (F200 FUEL)
noncomputable def X200 : Px (Bool) := ⟨T, Tryz.prog, lkF [], ji 200 [], altN, jd⟩
theorem sp200 : SpG T Tryz.prog 200 rb_b pa200 [.s] sr200 F200 :=
 spG (X := X200) tok (jb trivial) jj 200 32 [] rfl trivial (by (repeat intro _); show _ = _; kernel_rfl)
def pa190 : List VP := [.s, .s]
def sr190 : jg := ⟨.i .i64, [], none⟩
def run190 {R : Type} : SF R := runG rb_i pa190 [.s, .s] sr190 false (F190 FUEL)
noncomputable def X190 : Px (Int) := ⟨T, Tryz.prog, lkF [(200, run200)], ji 190 [], altN, jd⟩
theorem sp190 : SpG T Tryz.prog 190 rb_i pa190 [.s, .s] sr190 F190 :=
 spG (X := X190) tok (jb ⟨okG sp200, trivial⟩) jj 190 32 [] rfl trivial (by (repeat intro _); show _ = _; kernel_rfl)
def pa160 : List VP := [.sl false [.str, .int .i64, .int .i64, .bool], .s]
def sr160 : jg := ⟨.tup [.i .i64, .b], [], none⟩
def ts39 : List LT := [.l [.str, .int .i64, .int .i64, .bool], .s]
def run160 {R : Type} : SF R := runG jce pa160 ts39 sr160 false (F160 FUEL)
def sh160_0 : qd := ⟨[(46, [(0, .sl false [.str, .int .i64, .int .i64, .bool]), (6, .clos 189 [.ref 0 0]), (7, .i .i64), (8, .i .i64)])], [.cells [.s]]⟩
def ts40 : List LT := [.l [.str, .int .i64, .int .i64, .bool], .i, .i, .s]
def jok : List (List Nat × Cut (Int × Bool)) := [([1, 10], cutG sh160_0 ts40 jah)]
noncomputable def X160 : Px (Int × Bool) := ⟨T, Tryz.prog, lkF [(190, run190)], ji 160 jok, altN, jd⟩
theorem k160 : AllCuts X160 32 160 (endK sr160 (toG jce)) jok :=
 ⟨jm (by (repeat intro _); show _ = _; kernel_rfl) (by (repeat intro _); show _ = _; kernel_rfl), trivial⟩
theorem sp160 : SpG T Tryz.prog 160 jce pa160 ts39 sr160 F160 :=
 spG (X := X160) tok (jb ⟨okG sp190, trivial⟩) jj 160 32 jok rfl k160 (by (repeat intro _); show _ = _; kernel_rfl)
def pa201 : List VP := [.agg [.s, .i .i64, .i .i64, .b]]
def sr201 : jg := ⟨.agg [.i .i64, .i .i64, .b], [], none⟩
def rb_i2b : RB (Int × Int × Bool) [.i, .i, .b] := ⟨fun x y z => (x, y, z), fun y => (y.1, y.2.1, y.2.2, ()), fun _ => rfl⟩
def run201 {R : Type} : SF R := runG rb_i2b pa201 [.s, .i, .i, .b] sr201 false (F201 FUEL)
noncomputable def X201 : Px (Int × Int × Bool) := ⟨T, Tryz.prog, lkF [], ji 201 [], altN, jd⟩
theorem sp201 : SpG T Tryz.prog 201 rb_i2b pa201 [.s, .i, .i, .b] sr201 F201 :=
 spG (X := X201) tok (jb trivial) jj 201 32 [] rfl trivial (by (repeat intro _); show _ = _; kernel_rfl)
def pa206 : List VP := [.i .i64]
def sr206 : jg := ⟨.b, [], none⟩
def run206 {R : Type} : SF R := runG rb_b pa206 [.i] sr206 false (F206 FUEL)
noncomputable def X206 : Px (Bool) := ⟨T, Tryz.prog, lkF [], ji 206 [], altN, jd⟩
theorem sp206 : SpG T Tryz.prog 206 rb_b pa206 [.i] sr206 F206 :=
 spG (X := X206) tok (jb trivial) jj 206 32 [] rfl trivial (by (repeat intro _); show _ = _; kernel_rfl)
def pa203 : List VP := [.i .i64, .i .i64]
def sr203 : jg := ⟨.i .i64, [], none⟩
def run203 {R : Type} : SF R := runG rb_i pa203 [.i, .i] sr203 false (F203 FUEL)
noncomputable def X203 : Px (Int) := ⟨T, Tryz.prog, lkF [(206, run206)], ji 203 [], altN, jd⟩
theorem sp203 : SpG T Tryz.prog 203 rb_i pa203 [.i, .i] sr203 F203 :=
 spG (X := X203) tok (jb ⟨okG sp206, trivial⟩) jj 203 32 [] rfl trivial (by (repeat intro _); show _ = _; kernel_rfl)
def pa202 : List VP := [.sl false [.int .i64]]
def sr202 : jg := ⟨.i .i64, [], none⟩
def run202 {R : Type} : SF R := runG rb_i pa202 [.l [.int .i64]] sr202 false (F202 FUEL)
def sh202_0 : qd := ⟨[(18, [(3, .ci .i64 (0)), (6, .sl false [.int .i64]), (7, .i .i64), (8, .i .i64)])], []⟩
def joe : List (List Nat × Cut (Int)) := [([1, 1, 0, 1, 0], cutG sh202_0 [.l [.int .i64], .i, .i] jkl)]
noncomputable def X202 : Px (Int) := ⟨T, Tryz.prog, lkF [], ji 202 joe, altN, jd⟩
theorem k202 : AllCuts X202 32 202 (endK sr202 (toG rb_i)) joe :=
 ⟨jm (by (repeat intro _); show _ = _; kernel_rfl) (by (repeat intro _); show _ = _; kernel_rfl), trivial⟩
theorem sp202 : SpG T Tryz.prog 202 rb_i pa202 [.l [.int .i64]] sr202 F202 :=
 spG (X := X202) tok (jb trivial) jj 202 32 joe rfl k202 (by (repeat intro _); show _ = _; kernel_rfl)
def pa191 : List VP := jqc
def sr191 : jg := ⟨.i .i64, [], none⟩
def run191 {R : Type} : SF R := runG rb_i pa191 [.s, .i, .i, .b, .s, .i, .i, .b] sr191 false (F191 FUEL)
noncomputable def X191 : Px (Int) := ⟨T, Tryz.prog, lkF [(201, run201), (203, run203), (202, run202)], ji 191 [], altN, jd⟩
theorem sp191 : SpG T Tryz.prog 191 rb_i pa191 [.s, .i, .i, .b, .s, .i, .i, .b] sr191 F191 :=
 spG (X := X191) tok (jb ⟨okG sp201, okG sp203, okG sp202, trivial⟩) jj 191 32 [] rfl trivial (by (repeat intro _); show _ = _; kernel_rfl)
def pa161 : List VP := jqc
def sr161 : jg := ⟨.b, [], none⟩
def run161 {R : Type} : SF R := runG rb_b pa161 [.s, .i, .i, .b, .s, .i, .i, .b] sr161 false (F161 FUEL)
noncomputable def X161 : Px (Bool) := ⟨T, Tryz.prog, lkF [(191, run191)], ji 161 [], altN, jd⟩
theorem sp161 : SpG T Tryz.prog 161 rb_b pa161 [.s, .i, .i, .b, .s, .i, .i, .b] sr161 F161 :=
 spG (X := X161) tok (jb ⟨okG sp191, trivial⟩) jj 161 32 [] rfl trivial (by (repeat intro _); show _ = _; kernel_rfl)
def pa120 : List VP := [.sl false [.str, .int .i64, .int .i64, .bool], .agg [.s, .i .i64, .i .i64, .b]]
def sr120 : jg := ⟨.tup [.row 0, .i .i64], [.row true [.str, .int .i64, .int .i64, .bool]], none⟩
def wr : RB (Int × (List (ByteArray × Int × Int × Bool))) [.i, .l [.str, .int .i64, .int .i64, .bool]] := ⟨fun x y => (x, y), fun y => (y.1, y.2, ()), fun _ => rfl⟩
def ts41 : List LT := [.l [.str, .int .i64, .int .i64, .bool], .s, .i, .i, .b]
def run120 {R : Type} : SF R := runG wr pa120 ts41 sr120 false (F120 FUEL)
noncomputable def X120 : Px (Int × (List (ByteArray × Int × Int × Bool))) := ⟨T, Tryz.prog, lkF [(59, run59), (91, run91), (134, jub), (160, run160), (161, run161)], ji 120 [], altN, jd⟩
theorem sp120 : SpG T Tryz.prog 120 wr pa120 ts41 sr120 F120 :=
 spG (X := X120) tok (jb ⟨okG sp59, okG sp91, okG sp134, okG sp160, okG sp161, trivial⟩) jj 120 32 [] rfl trivial (by (repeat intro _); show _ = _; kernel_rfl)
def pa122 : List VP := [.sl false [.str, .int .i64, .int .i64, .bool], .s]
def sr122 : jg := ⟨.tup [.agg [.s, .i .i64, .i .i64, .b], .i .i64], [], none⟩
def jcy : RB (jdh) [.s, .i, .i, .b, .i] := ⟨jdh.mk, fun y => (y.q0, y.q1, y.q2, y.q3, y.q4, ()), fun _ => rfl⟩
def run122 {R : Type} : SF R := runG jcy pa122 ts39 sr122 false (F122 FUEL)
noncomputable def X122 : Px (jdh) := ⟨T, Tryz.prog, lkF [(59, run59), (160, run160)], ji 122 [], altN, jd⟩
theorem sp122 : SpG T Tryz.prog 122 jcy pa122 ts39 sr122 F122 :=
 spG (X := X122) tok (jb ⟨okG sp59, okG sp160, trivial⟩) jj 122 32 [] rfl trivial (by (repeat intro _); show _ = _; kernel_rfl)
def pa123 : List VP := [.agg vg]
def sr123 : jg := ⟨.tup qv015v, [], none⟩
def ve : RB (ui) [.i, .i, .i, .i, .i, .i, .i, .b, .b, .i, .i, .l [.int .i64], .s, .i, .i, .b, .i, .i] := ⟨ui.mk, fun y => (y.q0, y.q1, y.q2, y.q3, y.q4, y.q5, y.q6, y.q7, y.q8, y.q9, y.q10, y.q11, y.q12, y.q13, y.q14, y.q15, y.q16, y.q17, ()), fun _ => rfl⟩
def run123 {R : Type} : SF R := runG ve pa123 ts5 sr123 false (F123 FUEL)
noncomputable def X123 : Px (ui) := ⟨T, Tryz.prog, lkF [(72, jtr), (71, jrz), (38, jtu)], ji 123 [], altN, jd⟩
theorem sp123 : SpG T Tryz.prog 123 ve pa123 ts5 sr123 F123 :=
 spG (X := X123) tok (jb ⟨okG sp72, okG sp71, okG sp38, trivial⟩) jj 123 32 [] rfl trivial (by (repeat intro _); show _ = _; kernel_rfl)
def pa37 : List VP := [.sl false jx, .sl false jjj]
def sr37 : jg := ⟨.sl true jx, [], none⟩
def ts42 : List LT := [.l jx, .l jjj]
def run37 {R : Type} : SF R := runG jt pa37 ts42 sr37 false (F37 FUEL)
def sh37_0 : qd := ⟨[(46, [(5, .rsub 0), (12, .sl false jjj), (13, .i .i64), (14, .i .i64)])], [.row true jx]⟩
def sh37_1 : qd := ⟨[(46, [(5, .rsub 0), (12, .sl false jjj), (13, .i .i64), (14, .i .i64)])], [.row true jx]⟩
def ts43 : List LT := [.n, .n, .l jjj, .i, .i, .l jx]
def jxz : List (List Nat × Cut ((List (TY1)))) := [([1, 1, 0, 1, 0], cutG sh37_0 ts43 jbi), ([1, 1, 0, 1, 0, 0, 1, 1, 0, 0, 1, 10], cutG sh37_1 ts43 jhe)]
noncomputable def X37 : Px ((List (TY1))) := ⟨T, Tryz.prog, lkF [(89, run89), (123, run123), (110, jud), (109, jue)], ji 37 jxz, altN, jd⟩
theorem k37 : AllCuts X37 32 37 (endK sr37 (toG jt)) jxz :=
 ⟨jm (by (repeat intro _); show _ = _; kernel_rfl) (by (repeat intro _); show _ = _; kernel_rfl), jm (by (repeat intro _); show _ = _; kernel_rfl) (by (repeat intro _); show _ = _; kernel_rfl), trivial⟩
theorem sp37 : SpG T Tryz.prog 37 jt pa37 ts42 sr37 F37 :=
 spG (X := X37) tok (jb ⟨okG sp89, okG sp123, okG sp110, okG sp109, trivial⟩) jj 37 32 jxz rfl k37 (by (repeat intro _); show _ = _; kernel_rfl)
def pa11 : List VP := [.agg wz, .agg vg]
def sr11 : jg := ⟨.tup [.agg [.i .i64, .sl true [.int .i64], .sl true [.int .i64], .i .i64, .i .i64, .i .i64, .i .i64, .i .i64, .i .i64, .i .i64, .i .i64, .i .i64, .i .i64, .i .i64, .i .i64, .i .i64, .i .i64, .i .i64, .i .i64, .i .i64, .i .i64, .i .i64, .i .i64, .row 0, .sl true jx, .i .u8, .i .i64, .i .u8, .i .u8, .i .i64, .i .i64, .i .i64, .b, .b, .i .i64, .s, .i .i64, .i .i64, .b, .i .i64, .row 1, .i .i64, .i .u8, .i .u8, .i .i64, .i .i64, .i .i64, .b, .b, .i .i64, .s, .i .i64, .i .i64, .b, .i .i64, .row 2, .i .i64, .i .u8, .i .u8, .i .i64, .i .i64, .i .i64, .b, .b, .i .i64, .s, .i .i64, .i .i64, .b, .i .i64, .row 3, .i .i64, .i .i64, .s, .sl true [.str, .int .i64, .int .i64, .bool], .i .i64], .agg qv017v], [.row true qi, .row true [.int .i64], .row true [.int .i64], .row true [.int .i64]], none⟩
def rbSx2 : RB (Sx2) [.i, .l [.int .i64], .l [.int .i64], .i, .i, .i, .i, .i, .i, .i, .i, .i, .i, .i, .i, .i, .i, .i, .i, .i, .i, .i, .i, .l jx, .i, .i, .i, .i, .i, .i, .i, .b, .b, .i, .s, .i, .i, .b, .i, .i, .i, .i, .i, .i, .i, .b, .b, .i, .s, .i, .i, .b, .i, .i, .i, .i, .i, .i, .i, .b, .b, .i, .s, .i, .i, .b, .i, .i, .i, .s, .l [.str, .int .i64, .int .i64, .bool], .i, .i, .i, .i, .i, .i, .b, .b, .i, .i, .l [.int .i64], .s, .i, .i, .b, .i, .l qi, .l [.int .i64], .l [.int .i64], .l [.int .i64]] := ⟨Sx2.mk, fun y => (y.q0, y.q1, y.q2, y.q3, y.q4, y.q5, y.q6, y.q7, y.q8, y.q9, y.q10, y.q11, y.q12, y.q13, y.q14, y.q15, y.q16, y.q17, y.q18, y.q19, y.q20, y.q21, y.q22, y.q23, y.q24, y.q25, y.q26, y.q27, y.q28, y.q29, y.q30, y.q31, y.q32, y.q33, y.q34, y.q35, y.q36, y.q37, y.q38, y.q39, y.q40, y.q41, y.q42, y.q43, y.q44, y.q45, y.q46, y.q47, y.q48, y.q49, y.q50, y.q51, y.q52, y.q53, y.q54, y.q55, y.q56, y.q57, y.q58, y.q59, y.q60, y.q61, y.q62, y.q63, y.q64, y.q65, y.q66, y.q67, y.q68, y.q69, y.q70, y.q71, y.q72, y.q73, y.q74, y.q75, y.q76, y.q77, y.q78, y.q79, y.q80, y.q81, y.q82, y.q83, y.q84, y.q85, y.q86, y.q87, y.q88, y.q89, y.q90, ()), fun _ => rfl⟩
def run11 {R : Type} : SF R := runG rbSx2 pa11 ts30 sr11 false (F11 FUEL)
def sh11_0 : qd := ⟨[(50, [(4, .ref 0 0), (5, .ref 1 0), (6, .ref 2 0), (7, .ref 3 0)])], [.cells [.ci .i64 (0), .nil, .nil, .ci .i64 (0), .ci .i64 (0), .ci .i64 (0), .ci .i64 (0), .ci .i64 (0), .ci .i64 (0), .ci .i64 (0), .ci .i64 (0), .ci .i64 (0), .ci .i64 (0), .ci .i64 (0), .ci .i64 (0), .ci .i64 (0), .ci .i64 (0), .ci .i64 (0), .ci .i64 (0), .ci .i64 (0), .ci .i64 (0), .ci .i64 (0), .ci .i64 (0), .nil, .nil, .ci .u8 (0), .ci .i64 (0), .ci .u8 (0), .ci .u8 (0), .ci .i64 (0), .ci .i64 (0), .ci .i64 (0), .b, .b, .ci .i64 (0), .s, .ci .i64 (0), .ci .i64 (0), .b, .ci .i64 (0), .nil, .ci .i64 (0), .ci .u8 (0), .ci .u8 (0), .ci .i64 (0), .ci .i64 (0), .ci .i64 (0), .b, .b, .ci .i64 (0), .s, .ci .i64 (0), .ci .i64 (0), .b, .ci .i64 (0), .nil, .ci .i64 (0), .ci .u8 (0), .ci .u8 (0), .ci .i64 (0), .ci .i64 (0), .ci .i64 (0), .b, .b, .ci .i64 (0), .s, .ci .i64 (0), .ci .i64 (0), .b, .ci .i64 (0), .nil, .ci .i64 (0), .ci .i64 (0), .s, .nil, .ci .i64 (0)], .cells [.ci .u8 (0), .ci .i64 (0), .ci .i64 (0), .ci .i64 (0), .ci .i64 (0), .b, .b, .ci .i64 (0), .ci .i64 (0), .nil, .s, .ci .i64 (0), .ci .i64 (0), .b, .ci .i64 (0)], .cells [.i .i64, .row 4, .row 5, .i .i64, .i .i64, .i .i64, .i .i64, .i .i64, .i .i64, .i .i64, .i .i64, .i .i64, .i .i64, .i .i64, .i .i64, .i .i64, .i .i64, .i .i64, .i .i64, .i .i64, .i .i64, .i .i64, .i .i64, .row 6, .row 7, .i .u8, .i .i64, .i .u8, .i .u8, .i .i64, .i .i64, .i .i64, .b, .b, .i .i64, .s, .i .i64, .i .i64, .b, .i .i64, .row 8, .i .i64, .i .u8, .i .u8, .i .i64, .i .i64, .i .i64, .b, .b, .i .i64, .s, .i .i64, .i .i64, .b, .i .i64, .row 9, .i .i64, .i .u8, .i .u8, .i .i64, .i .i64, .i .i64, .b, .b, .i .i64, .s, .i .i64, .i .i64, .b, .i .i64, .row 10, .i .i64, .i .i64, .s, .row 11, .i .i64], .cells [.i .u8, .i .i64, .i .i64, .i .i64, .i .i64, .b, .b, .i .i64, .i .i64, .row 12, .s, .i .i64, .i .i64, .b, .i .i64], .row true [.int .i64], .row true [.int .i64], .row true qi, .row true jx, .row true [.int .i64], .row true [.int .i64], .row true [.int .i64], .row true [.str, .int .i64, .int .i64, .bool], .row true [.int .i64]]⟩
def ts44 : List LT := [.b, .b, .s, .b, .b, .b, .s, .b, .b, .b, .s, .b, .s, .b, .b, .s, .b, .i, .i, .i, .i, .i, .i, .i, .i, .i, .i, .i, .i, .i, .i, .i, .i, .i, .i, .i, .i, .i, .i, .i, .i, .i, .i, .i, .i, .b, .b, .i, .s, .i, .i, .b, .i, .i, .i, .i, .i, .i, .i, .b, .b, .i, .s, .i, .i, .b, .i, .i, .i, .i, .i, .i, .i, .b, .b, .i, .s, .i, .i, .b, .i, .i, .i, .s, .i, .i, .i, .i, .i, .i, .b, .b, .i, .i, .s, .i, .i, .b, .i, .l [.int .i64], .l [.int .i64], .l qi, .l jx, .l [.int .i64], .l [.int .i64], .l [.int .i64], .l [.str, .int .i64, .int .i64, .bool], .l [.int .i64]]
def jyi : List (List Nat × Cut (Sx2)) := [([1, 10], cutG sh11_0 ts44 jmo)]
noncomputable def X11 : Px (Sx2) := ⟨T, Tryz.prog, lkF [(20, run20), (17, run17), (35, run35), (111, run111), (113, juc), (37, run37), (38, jtu), (116, run116), (118, run118), (120, run120), (122, run122)], ji 11 jyi, altN, jd⟩
theorem k11 : AllCuts X11 32 11 (endK sr11 (toG rbSx2)) jyi :=
 ⟨jm (by (repeat intro _); show _ = _; kernel_rfl) (by (repeat intro _); show _ = _; kernel_rfl), trivial⟩
theorem sp11 : SpG T Tryz.prog 11 rbSx2 pa11 ts30 sr11 F11 :=
 spG (X := X11) tok (jb ⟨okG sp20, okG sp17, okG sp35, okG sp111, okG sp113, okG sp37, okG sp38, okG sp116, okG sp118, okG sp120, okG sp122, trivial⟩) jj 11 32 jyi rfl k11 (by (repeat intro _); show _ = _; kernel_rfl)
def pa125 : List VP := [.sl false [.int .i64], .sl false [.int .i64]]
def sr125 : jg := ⟨.b, [], none⟩
def run125 {R : Type} : SF R := runG rb_b pa125 [.l [.int .i64], .l [.int .i64]] sr125 false (F125 FUEL)
def sh125_0 : qd := ⟨[(26, [(0, .sl false [.int .i64]), (1, .sl false [.int .i64]), (5, .i .i64)])], []⟩
def jos : List (List Nat × Cut (Bool)) := [([1, 1, 0, 1, 0], cutG sh125_0 [.l [.int .i64], .l [.int .i64], .i] jel)]
noncomputable def X125 : Px (Bool) := ⟨T, Tryz.prog, lkF [], ji 125 jos, altN, jd⟩
theorem k125 : AllCuts X125 32 125 (endK sr125 (toG rb_b)) jos :=
 ⟨jm (by (repeat intro _); show _ = _; kernel_rfl) (by (repeat intro _); show _ = _; kernel_rfl), trivial⟩
theorem sp125 : SpG T Tryz.prog 125 rb_b pa125 [.l [.int .i64], .l [.int .i64]] sr125 F125 :=
 spG (X := X125) tok (jb trivial) jj 125 32 jos rfl k125 (by (repeat intro _); show _ = _; kernel_rfl)
def pa44 : List VP := [.agg vv, .agg vv]
def sr44 : jg := ⟨.b, [], none⟩
def ts45 : List LT := [.i, .l [.int .i64], .l [.int .i64], .i, .i, .i, .i, .i, .i, .i, .i, .i, .i, .i, .i, .i, .i, .i, .i, .i, .i, .l [.int .i64], .l [.int .i64], .i, .i, .i, .i, .i, .i, .i, .i, .i, .i, .i, .i, .i, .i, .i, .i, .i]
def run44 {R : Type} : SF R := runG rb_b pa44 ts45 sr44 false (F44 FUEL)
noncomputable def X44 : Px (Bool) := ⟨T, Tryz.prog, lkF [(125, run125)], ji 44 [], altN, jd⟩
theorem sp44 : SpG T Tryz.prog 44 rb_b pa44 ts45 sr44 F44 :=
 spG (X := X44) tok (jb ⟨okG sp125, trivial⟩) jj 44 32 [] rfl trivial (by (repeat intro _); show _ = _; kernel_rfl)
def pa162 : List VP := [.agg jsc, .agg jsc]
def sr162 : jg := ⟨.b, [], none⟩
def ts46 : List LT := [.i, .i, .i, .i, .i, .i, .b, .b, .i, .i, .l [.int .i64], .s, .i, .i, .b, .i, .i, .i, .i, .i, .i, .i, .i, .i, .i, .i, .b, .b, .i, .i, .l [.int .i64], .s, .i, .i, .b, .i, .i, .i, .i, .i]
def run162 {R : Type} : SF R := runG rb_b pa162 ts46 sr162 false (F162 FUEL)
noncomputable def X162 : Px (Bool) := ⟨T, Tryz.prog, lkF [(14, jua)], ji 162 [], altN, jd⟩
theorem sp162 : SpG T Tryz.prog 162 rb_b pa162 ts46 sr162 F162 :=
 spG (X := X162) tok (jb ⟨okG sp14, trivial⟩) jj 162 32 [] rfl trivial (by (repeat intro _); show _ = _; kernel_rfl)
def pa126 : List VP := [.sl false qi, .sl false qi]
def sr126 : jg := ⟨.b, [], none⟩
def ts47 : List LT := [.l qi, .l qi]
def run126 {R : Type} : SF R := runG rb_b pa126 ts47 sr126 false (F126 FUEL)
def sh126_0 : qd := ⟨[(27, [(0, .sl false qi), (1, .sl false qi), (5, .i .i64)])], []⟩
def ts48 : List LT := [.l qi, .l qi, .i]
def jor : List (List Nat × Cut (Bool)) := [([1, 1, 0, 1, 0], cutG sh126_0 ts48 jek)]
noncomputable def X126 : Px (Bool) := ⟨T, Tryz.prog, lkF [(162, run162)], ji 126 jor, altN, jd⟩
theorem k126 : AllCuts X126 32 126 (endK sr126 (toG rb_b)) jor :=
 ⟨jm (by (repeat intro _); show _ = _; kernel_rfl) (by (repeat intro _); show _ = _; kernel_rfl), trivial⟩
theorem sp126 : SpG T Tryz.prog 126 rb_b pa126 ts47 sr126 F126 :=
 spG (X := X126) tok (jb ⟨okG sp162, trivial⟩) jj 126 32 jor rfl k126 (by (repeat intro _); show _ = _; kernel_rfl)
def pa45 : List VP := [.agg [.i .i64, .i .i64, .sl false qi], .agg [.i .i64, .i .i64, .sl false qi]]
def sr45 : jg := ⟨.b, [], none⟩
def ts49 : List LT := [.i, .i, .l qi, .i, .i, .l qi]
def run45 {R : Type} : SF R := runG rb_b pa45 ts49 sr45 false (F45 FUEL)
noncomputable def X45 : Px (Bool) := ⟨T, Tryz.prog, lkF [(126, run126)], ji 45 [], altN, jd⟩
theorem sp45 : SpG T Tryz.prog 45 rb_b pa45 ts49 sr45 F45 :=
 spG (X := X45) tok (jb ⟨okG sp126, trivial⟩) jj 45 32 [] rfl trivial (by (repeat intro _); show _ = _; kernel_rfl)
def pa46 : List VP := [.sl false jx, .sl false jx]
def sr46 : jg := ⟨.b, [], none⟩
def ts50 : List LT := [.l jx, .l jx]
def run46 {R : Type} : SF R := runG rb_b pa46 ts50 sr46 false (F46 FUEL)
def sh46_0 : qd := ⟨[(55, [(0, .sl false jx), (1, .sl false jx), (5, .i .i64)])], []⟩
def ts51 : List LT := [.l jx, .l jx, .i]
def jxw : List (List Nat × Cut (Bool)) := [([1, 1, 0, 1, 0], cutG sh46_0 ts51 jiw)]
noncomputable def X46 : Px (Bool) := ⟨T, Tryz.prog, lkF [(14, jua)], ji 46 jxw, altN, jd⟩
theorem k46 : AllCuts X46 32 46 (endK sr46 (toG rb_b)) jxw :=
 ⟨jm (by (repeat intro _); show _ = _; kernel_rfl) (by (repeat intro _); show _ = _; kernel_rfl), trivial⟩
theorem sp46 : SpG T Tryz.prog 46 rb_b pa46 ts50 sr46 F46 :=
 spG (X := X46) tok (jb ⟨okG sp14, trivial⟩) jj 46 32 jxw rfl k46 (by (repeat intro _); show _ = _; kernel_rfl)
def pa47 : List VP := [.agg jkz, .agg jkz]
def sr47 : jg := ⟨.b, [], none⟩
def ts52 : List LT := [.i, .i, .i, .i, .i, .b, .b, .i, .s, .i, .i, .b, .i, .l [.int .i64], .i, .i, .i, .i, .i, .i, .b, .b, .i, .s, .i, .i, .b, .i, .l [.int .i64], .i]
def run47 {R : Type} : SF R := runG rb_b pa47 ts52 sr47 false (F47 FUEL)
def sh47_0 : qd := ⟨[(71, [(2, .ref 0 0), (3, .ref 1 0), (5, .i .i64)])], [.cells jkz, .cells jkz]⟩
def ts53 : List LT := [.i, .i, .i, .i, .i, .i, .b, .b, .i, .s, .i, .i, .b, .i, .l [.int .i64], .i, .i, .i, .i, .i, .i, .b, .b, .i, .s, .i, .i, .b, .i, .l [.int .i64], .i]
def jxv : List (List Nat × Cut (Bool)) := [([1, 1, 0, 1, 0], cutG sh47_0 ts53 jiu)]
noncomputable def X47 : Px (Bool) := ⟨T, Tryz.prog, lkF [], ji 47 jxv, altN, jd⟩
theorem k47 : AllCuts X47 32 47 (endK sr47 (toG rb_b)) jxv :=
 ⟨jm (by (repeat intro _); show _ = _; kernel_rfl) (by (repeat intro _); show _ = _; kernel_rfl), trivial⟩
theorem sp47 : SpG T Tryz.prog 47 rb_b pa47 ts52 sr47 F47 :=
 spG (X := X47) tok (jb trivial) jj 47 32 jxv rfl k47 (by (repeat intro _); show _ = _; kernel_rfl)
def pa13 : List VP := [.agg wz, .agg wz]
def sr13 : jg := ⟨.b, [], none⟩
def ts54 : List LT := [.i, .l [.int .i64], .l [.int .i64], .i, .i, .i, .i, .i, .i, .i, .i, .i, .i, .i, .i, .i, .i, .i, .i, .i, .i, .i, .i, .l qi, .l jx, .i, .i, .i, .i, .i, .i, .i, .b, .b, .i, .s, .i, .i, .b, .i, .l [.int .i64], .i, .i, .i, .i, .i, .i, .b, .b, .i, .s, .i, .i, .b, .i, .l [.int .i64], .i, .i, .i, .i, .i, .i, .b, .b, .i, .s, .i, .i, .b, .i, .l [.int .i64], .i, .i, .s, .l [.str, .int .i64, .int .i64, .bool], .i, .i, .l [.int .i64], .l [.int .i64], .i, .i, .i, .i, .i, .i, .i, .i, .i, .i, .i, .i, .i, .i, .i, .i, .i, .i, .i, .i, .l qi, .l jx, .i, .i, .i, .i, .i, .i, .i, .b, .b, .i, .s, .i, .i, .b, .i, .l [.int .i64], .i, .i, .i, .i, .i, .i, .b, .b, .i, .s, .i, .i, .b, .i, .l [.int .i64], .i, .i, .i, .i, .i, .i, .b, .b, .i, .s, .i, .i, .b, .i, .l [.int .i64], .i, .i, .s, .l [.str, .int .i64, .int .i64, .bool], .i]
def run13 {R : Type} : SF R := runG rb_b pa13 ts54 sr13 false (F13 FUEL)
def sh13_0 : qd := ⟨[(109, [(2, .ref 0 0), (3, .ref 1 0), (5, .i .i64)])], [.cells wz, .cells wz]⟩
def ts55 : List LT := [.i, .i, .l [.int .i64], .l [.int .i64], .i, .i, .i, .i, .i, .i, .i, .i, .i, .i, .i, .i, .i, .i, .i, .i, .i, .i, .i, .i, .l qi, .l jx, .i, .i, .i, .i, .i, .i, .i, .b, .b, .i, .s, .i, .i, .b, .i, .l [.int .i64], .i, .i, .i, .i, .i, .i, .b, .b, .i, .s, .i, .i, .b, .i, .l [.int .i64], .i, .i, .i, .i, .i, .i, .b, .b, .i, .s, .i, .i, .b, .i, .l [.int .i64], .i, .i, .s, .l [.str, .int .i64, .int .i64, .bool], .i, .i, .l [.int .i64], .l [.int .i64], .i, .i, .i, .i, .i, .i, .i, .i, .i, .i, .i, .i, .i, .i, .i, .i, .i, .i, .i, .i, .l qi, .l jx, .i, .i, .i, .i, .i, .i, .i, .b, .b, .i, .s, .i, .i, .b, .i, .l [.int .i64], .i, .i, .i, .i, .i, .i, .b, .b, .i, .s, .i, .i, .b, .i, .l [.int .i64], .i, .i, .i, .i, .i, .i, .b, .b, .i, .s, .i, .i, .b, .i, .l [.int .i64], .i, .i, .s, .l [.str, .int .i64, .int .i64, .bool], .i]
def jyh : List (List Nat × Cut (Bool)) := [([1, 1, 0, 1, 0], cutG sh13_0 ts55 jhj)]
noncomputable def X13 : Px (Bool) := ⟨T, Tryz.prog, lkF [(44, run44), (45, run45), (46, run46), (47, run47)], ji 13 jyh, altN, jd⟩
theorem k13 : AllCuts X13 32 13 (endK sr13 (toG rb_b)) jyh :=
 ⟨jm (by (repeat intro _); show _ = _; kernel_rfl) (by (repeat intro _); show _ = _; kernel_rfl), trivial⟩
theorem sp13 : SpG T Tryz.prog 13 rb_b pa13 ts54 sr13 F13 :=
 spG (X := X13) tok (jb ⟨okG sp44, okG sp45, okG sp46, okG sp47, trivial⟩) jj 13 32 jyh rfl k13 (by (repeat intro _); show _ = _; kernel_rfl)
def pa76 : List VP := [.agg vv, .agg vv]
def sr76 : jg := ⟨.b, [], none⟩
def run76 {R : Type} : SF R := runG rb_b pa76 ts45 sr76 false (F76 FUEL)
noncomputable def X76 : Px (Bool) := ⟨T, Tryz.prog, lkF [(148, jty)], ji 76 [], altN, jd⟩
theorem sp76 : SpG T Tryz.prog 76 rb_b pa76 ts45 sr76 F76 :=
 spG (X := X76) tok (jb ⟨okG sp148, trivial⟩) jj 76 32 [] rfl trivial (by (repeat intro _); show _ = _; kernel_rfl)
def pa78 : List VP := [.sl false [.str, .int .i64, .int .i64, .bool], .sl false [.str, .int .i64, .int .i64, .bool]]
def sr78 : jg := ⟨.b, [], none⟩
def ts56 : List LT := [.l [.str, .int .i64, .int .i64, .bool], .l [.str, .int .i64, .int .i64, .bool]]
def run78 {R : Type} : SF R := runG rb_b pa78 ts56 sr78 false (F78 FUEL)
def sh78_0 : qd := ⟨[(26, [(0, .sl false [.str, .int .i64, .int .i64, .bool]), (1, .sl false [.str, .int .i64, .int .i64, .bool]), (12, .i .i64), (13, .i .i64)])], []⟩
def ts57 : List LT := [.l [.str, .int .i64, .int .i64, .bool], .l [.str, .int .i64, .int .i64, .bool], .i, .i]
def jxk : List (List Nat × Cut (Bool)) := [([1, 1, 0, 1, 0], cutG sh78_0 ts57 jin)]
noncomputable def X78 : Px (Bool) := ⟨T, Tryz.prog, lkF [], ji 78 jxk, altN, jd⟩
theorem k78 : AllCuts X78 32 78 (endK sr78 (toG rb_b)) jxk :=
 ⟨jm (by (repeat intro _); show _ = _; kernel_rfl) (by (repeat intro _); show _ = _; kernel_rfl), trivial⟩
theorem sp78 : SpG T Tryz.prog 78 rb_b pa78 ts56 sr78 F78 :=
 spG (X := X78) tok (jb trivial) jj 78 32 jxk rfl k78 (by (repeat intro _); show _ = _; kernel_rfl)
def pa80 : List VP := [.agg jkz, .agg jkz]
def sr80 : jg := ⟨.b, [], none⟩
def run80 {R : Type} : SF R := runG rb_b pa80 ts52 sr80 false (F80 FUEL)
noncomputable def X80 : Px (Bool) := ⟨T, Tryz.prog, lkF [(148, jty)], ji 80 [], altN, jd⟩
theorem sp80 : SpG T Tryz.prog 80 rb_b pa80 ts52 sr80 F80 :=
 spG (X := X80) tok (jb ⟨okG sp148, trivial⟩) jj 80 32 [] rfl trivial (by (repeat intro _); show _ = _; kernel_rfl)
def pa150 : List VP := [.agg jsc, .agg jsc]
def sr150 : jg := ⟨.b, [], none⟩
def run150 {R : Type} : SF R := runG rb_b pa150 ts46 sr150 false (F150 FUEL)
noncomputable def X150 : Px (Bool) := ⟨T, Tryz.prog, lkF [(146, jtz)], ji 150 [], altN, jd⟩
theorem sp150 : SpG T Tryz.prog 150 rb_b pa150 ts46 sr150 F150 :=
 spG (X := X150) tok (jb ⟨okG sp146, trivial⟩) jj 150 32 [] rfl trivial (by (repeat intro _); show _ = _; kernel_rfl)
def pa84 : List VP := [.agg [.i .i64, .i .i64, .sl false qi], .agg [.i .i64, .i .i64, .sl false qi]]
def sr84 : jg := ⟨.b, [], none⟩
def run84 {R : Type} : SF R := runG rb_b pa84 ts49 sr84 false (F84 FUEL)
def sh84_0 : qd := ⟨[(32, [(1, .sl false qi), (2, .clos 150 []), (15, .sl false qi), (16, .i .i64), (17, .i .i64)]), (24, [(17, .b)])], []⟩
def ts58 : List LT := [.l qi, .l qi, .i, .i, .b]
def jxj : List (List Nat × Cut (Bool)) := [([1, 0, 17, 298, 1, 1, 0, 1, 0], cutG sh84_0 ts58 jgy)]
noncomputable def X84 : Px (Bool) := ⟨T, Tryz.prog, lkF [(150, run150)], ji 84 jxj, altN, jd⟩
theorem k84 : AllCuts X84 32 84 (endK sr84 (toG rb_b)) jxj :=
 ⟨jm (by (repeat intro _); show _ = _; kernel_rfl) (by (repeat intro _); show _ = _; kernel_rfl), trivial⟩
theorem sp84 : SpG T Tryz.prog 84 rb_b pa84 ts49 sr84 F84 :=
 spG (X := X84) tok (jb ⟨okG sp150, trivial⟩) jj 84 32 jxj rfl k84 (by (repeat intro _); show _ = _; kernel_rfl)
def pa86 : List VP := [.sl false jx, .sl false jx]
def sr86 : jg := ⟨.b, [], none⟩
def run86 {R : Type} : SF R := runG rb_b pa86 ts50 sr86 false (F86 FUEL)
def sh86_0 : qd := ⟨[(18, [(0, .yield 6), (5, .sl false jx), (6, .i .i64), (7, .i .i64)]), (45, [(3, .ref 0 0), (4, .ref 1 0)])], [.cells [.sl false jx], .cells [.b]]⟩
def jxi : List (List Nat × Cut (Bool)) := [([1, 1, 0, 1, 0, 348, 1, 0], cutG sh86_0 ts28 jim)]
noncomputable def X86 : Px (Bool) := ⟨T, Tryz.prog, lkF [(146, jtz)], ji 86 jxi, altN, jd⟩
theorem k86 : AllCuts X86 32 86 (endK sr86 (toG rb_b)) jxi :=
 ⟨jm (by (repeat intro _); show _ = _; kernel_rfl) (by (repeat intro _); show _ = _; kernel_rfl), trivial⟩
theorem sp86 : SpG T Tryz.prog 86 rb_b pa86 ts50 sr86 F86 :=
 spG (X := X86) tok (jb ⟨okG sp146, trivial⟩) jj 86 32 jxi rfl k86 (by (repeat intro _); show _ = _; kernel_rfl)
def pa19 : List VP := [.agg wz, .agg wz]
def sr19 : jg := ⟨.b, [], none⟩
def run19 {R : Type} : SF R := runG rb_b pa19 ts54 sr19 false (F19 FUEL)
noncomputable def X19 : Px (Bool) := ⟨T, Tryz.prog, lkF [(76, run76), (78, run78), (80, run80), (84, run84), (86, run86)], ji 19 [], altN, jd⟩
theorem sp19 : SpG T Tryz.prog 19 rb_b pa19 ts54 sr19 F19 :=
 spG (X := X19) tok (jb ⟨okG sp76, okG sp78, okG sp80, okG sp84, okG sp86, trivial⟩) jj 19 32 [] rfl trivial (by (repeat intro _); show _ = _; kernel_rfl)
def pa10 : List VP := []
def sr10 : jg := ⟨.b, [], none⟩
def run10 {R : Type} : SF R := runG rb_b pa10 [] sr10 false (F10 FUEL)
noncomputable def X10 : Px (Bool) := ⟨T, Tryz.prog, lkF [(34, run34), (30, run30), (11, run11), (14, jua), (13, run13), (15, run15), (17, run17), (20, run20), (19, run19)], ji 10 [], altN, jd⟩
theorem sp10 : SpG T Tryz.prog 10 rb_b pa10 [] sr10 F10 :=
 spG (X := X10) tok (jb ⟨okG sp34, okG sp30, okG sp11, okG sp14, okG sp13, okG sp15, okG sp17, okG sp20, okG sp19, trivial⟩) jj 10 32 [] rfl trivial (by (repeat intro _); show _ = _; kernel_rfl)
def pa96 : List VP := [.agg vv]
def sr96 : jg := ⟨.agg jqf, [.row true [.int .i64], .row true [.int .i64]], none⟩
def run96 {R : Type} : SF R := runG wa pa96 ts0 sr96 false (F96 FUEL)
noncomputable def X96 : Px (wx) := ⟨T, Tryz.prog, lkF [], ji 96 [], altN, jd⟩
theorem sp96 : SpG T Tryz.prog 96 wa pa96 ts0 sr96 F96 :=
 spG (X := X96) tok (jb trivial) jj 96 32 [] rfl trivial (by (repeat intro _); show _ = _; kernel_rfl)
def pa40 : List VP := [.agg vg]
def sr40 : jg := ⟨.agg jqd, [.row true [.int .i64]], none⟩
def jtt {R : Type} : SF R := runG vl pa40 ts5 sr40 false (F40 FUEL)
noncomputable def X40 : Px (uw) := ⟨T, Tryz.prog, lkF [], ji 40 [], altN, jd⟩
theorem sp40 : SpG T Tryz.prog 40 vl pa40 ts5 sr40 F40 :=
 spG (X := X40) tok (jb trivial) jj 40 32 [] rfl trivial (by (repeat intro _); show _ = _; kernel_rfl)
def pa97 : List VP := [.agg [.i .i64, .i .i64, .sl false qi]]
def sr97 : jg := ⟨.agg [.i .i64, .i .i64, .row 0], [.row true qi], none⟩
def run97 {R : Type} : SF R := runG qj pa97 ts1 sr97 false (F97 FUEL)
def sh97_0 : qd := ⟨[(29, [(1, .ref 0 0), (2, .ref 1 0), (3, .row 2), (4, .i .i64)])], [.cells [.i .i64, .i .i64, .sl false qi], .cells [.ci .i64 (0), .ci .i64 (0), .nil], .row true qi]⟩
def ts59 : List LT := [.i, .i, .i, .l qi, .l qi]
def jxe : List (List Nat × Cut (Int × Int × (List (TY0)))) := [([1, 1, 0, 1, 0], cutG sh97_0 ts59 jih)]
noncomputable def X97 : Px (Int × Int × (List (TY0))) := ⟨T, Tryz.prog, lkF [(40, jtt)], ji 97 jxe, altN, jd⟩
theorem k97 : AllCuts X97 32 97 (endK sr97 (toG qj)) jxe :=
 ⟨jm (by (repeat intro _); show _ = _; kernel_rfl) (by (repeat intro _); show _ = _; kernel_rfl), trivial⟩
theorem sp97 : SpG T Tryz.prog 97 qj pa97 ts1 sr97 F97 :=
 spG (X := X97) tok (jb ⟨okG sp40, trivial⟩) jj 97 32 jxe rfl k97 (by (repeat intro _); show _ = _; kernel_rfl)
def pa98 : List VP := [.sl false jx]
def sr98 : jg := ⟨.row 0, [.row true jx], none⟩
def run98 {R : Type} : SF R := runG jt pa98 ts14 sr98 false (F98 FUEL)
def sh98_0 : qd := ⟨[(25, [(0, .sl false jx), (3, .row 0), (4, .i .i64)])], [.row true jx]⟩
def ts60 : List LT := [.l jx, .i, .l jx]
def jxd : List (List Nat × Cut ((List (TY1)))) := [([1, 1, 0, 1, 0], cutG sh98_0 ts60 jif)]
noncomputable def X98 : Px ((List (TY1))) := ⟨T, Tryz.prog, lkF [(40, jtt)], ji 98 jxd, altN, jd⟩
theorem k98 : AllCuts X98 32 98 (endK sr98 (toG jt)) jxd :=
 ⟨jm (by (repeat intro _); show _ = _; kernel_rfl) (by (repeat intro _); show _ = _; kernel_rfl), trivial⟩
theorem sp98 : SpG T Tryz.prog 98 jt pa98 ts14 sr98 F98 :=
 spG (X := X98) tok (jb ⟨okG sp40, trivial⟩) jj 98 32 jxd rfl k98 (by (repeat intro _); show _ = _; kernel_rfl)
def pa99 : List VP := [.agg jkz]
def sr99 : jg := ⟨.agg qv018v, [.row true [.int .i64]], none⟩
def run99 {R : Type} : SF R := runG vk pa99 ts16 sr99 false (F99 FUEL)
noncomputable def X99 : Px (uv) := ⟨T, Tryz.prog, lkF [], ji 99 [], altN, jd⟩
theorem sp99 : SpG T Tryz.prog 99 vk pa99 ts16 sr99 F99 :=
 spG (X := X99) tok (jb trivial) jj 99 32 [] rfl trivial (by (repeat intro _); show _ = _; kernel_rfl)
def pa100 : List VP := [.sl false [.str, .int .i64, .int .i64, .bool]]
def sr100 : jg := ⟨.row 0, [.row true [.str, .int .i64, .int .i64, .bool]], none⟩
def run100 {R : Type} : SF R := runG zq pa100 ts17 sr100 false (F100 FUEL)
noncomputable def X100 : Px ((List (ByteArray × Int × Int × Bool))) := ⟨T, Tryz.prog, lkF [], ji 100 [], altN, jd⟩
theorem sp100 : SpG T Tryz.prog 100 zq pa100 ts17 sr100 F100 :=
 spG (X := X100) tok (jb trivial) jj 100 32 [] rfl trivial (by (repeat intro _); show _ = _; kernel_rfl)
def pa24 : List VP := [.agg wz]
def sr24 : jg := ⟨.agg qv09v, [.row true [.int .i64], .row true [.int .i64], .row true qi, .row true jx, .row true [.int .i64], .row true [.int .i64], .row true [.int .i64], .row true [.str, .int .i64, .int .i64, .bool]], none⟩
def run24 {R : Type} : SF R := runG jzz pa24 ts3 sr24 false (F24 FUEL)
noncomputable def X24 : Px (Sx1) := ⟨T, Tryz.prog, lkF [(96, run96), (97, run97), (98, run98), (99, run99), (100, run100)], ji 24 [], altN, jd⟩
theorem sp24 : SpG T Tryz.prog 24 jzz pa24 ts3 sr24 F24 :=
 spG (X := X24) tok (jb ⟨okG sp96, okG sp97, okG sp98, okG sp99, okG sp100, trivial⟩) jj 24 32 [] rfl trivial (by (repeat intro _); show _ = _; kernel_rfl)
def pa65 : List VP := [.agg wz]
def sr65 : jg := ⟨.b, [], none⟩
def run65 {R : Type} : SF R := runG rb_b pa65 ts3 sr65 false (F65 FUEL)
def sh65_0 : qd := ⟨[(22, [(1, .ref 0 0), (3, .i .i64)])], [.cells wz]⟩
def jxq : List (List Nat × Cut (Bool)) := [([1, 0, 1, 0], cutG sh65_0 ts4 jiq)]
noncomputable def X65 : Px (Bool) := ⟨T, Tryz.prog, lkF [], ji 65 jxq, altN, jd⟩
theorem k65 : AllCuts X65 32 65 (endK sr65 (toG rb_b)) jxq :=
 ⟨jm (by (repeat intro _); show _ = _; kernel_rfl) (by (repeat intro _); show _ = _; kernel_rfl), trivial⟩
theorem sp65 : SpG T Tryz.prog 65 rb_b pa65 ts3 sr65 F65 :=
 spG (X := X65) tok (jb trivial) jj 65 32 jxq rfl k65 (by (repeat intro _); show _ = _; kernel_rfl)
def pa124 : List VP := [.agg vg]
def sr124 : jg := ⟨.tup qv015v, [], none⟩
def run124 {R : Type} : SF R := runG ve pa124 ts5 sr124 false (F124 FUEL)
noncomputable def X124 : Px (ui) := ⟨T, Tryz.prog, lkF [(21, jzs), (22, jtv), (40, jtt)], ji 124 [], altN, jd⟩
theorem sp124 : SpG T Tryz.prog 124 ve pa124 ts5 sr124 F124 :=
 spG (X := X124) tok (jb ⟨okG sp21, okG sp22, okG sp40, trivial⟩) jj 124 32 [] rfl trivial (by (repeat intro _); show _ = _; kernel_rfl)
def pa39 : List VP := [.sl false jx, .i .i64, .i .i64]
def sr39 : jg := ⟨.tup [.agg jqd, .b], [.row true [.int .i64]], none⟩
def run39 {R : Type} : SF R := runG uh pa39 ts26 sr39 false (F39 FUEL)
def sh39_0 : qd := ⟨[(38, [(0, .sl false jx), (1, .i .i64), (2, .i .i64), (6, .ref 0 0), (8, .i .i64)])], [.cells [.ci .u8 (0), .ci .i64 (0), .ci .i64 (0), .ci .i64 (0), .ci .i64 (0), .b, .b, .ci .i64 (0), .ci .i64 (0), .nil, .s, .ci .i64 (0), .ci .i64 (0), .b, .ci .i64 (0)]]⟩
def ts61 : List LT := [.l jx, .i, .i, .i, .b, .b, .s, .b]
def jxy : List (List Nat × Cut (qp)) := [([1, 0, 1, 0], cutG sh39_0 ts61 jhd)]
noncomputable def X39 : Px (qp) := ⟨T, Tryz.prog, lkF [(40, jtt)], ji 39 jxy, altN, jd⟩
theorem k39 : AllCuts X39 32 39 (endK sr39 (toG uh)) jxy :=
 ⟨jm (by (repeat intro _); show _ = _; kernel_rfl) (by (repeat intro _); show _ = _; kernel_rfl), trivial⟩
theorem sp39 : SpG T Tryz.prog 39 uh pa39 ts26 sr39 F39 :=
 spG (X := X39) tok (jb ⟨okG sp40, trivial⟩) jj 39 32 jxy rfl k39 (by (repeat intro _); show _ = _; kernel_rfl)
def pa68 : List VP := [.sl false jx]
def sr68 : jg := ⟨.b, [], none⟩
def run68 {R : Type} : SF R := runG rb_b pa68 ts14 sr68 false (F68 FUEL)
def sh68_0 : qd := ⟨[(60, [(0, .sl false jx), (3, .i .i64)])], []⟩
def ts62 : List LT := [.l jx, .i]
def jxn : List (List Nat × Cut (Bool)) := [([1, 0, 1, 0], cutG sh68_0 ts62 jio)]
noncomputable def X68 : Px (Bool) := ⟨T, Tryz.prog, lkF [(124, run124), (39, run39)], ji 68 jxn, altN, jd⟩
theorem k68 : AllCuts X68 32 68 (endK sr68 (toG rb_b)) jxn :=
 ⟨jm (by (repeat intro _); show _ = _; kernel_rfl) (by (repeat intro _); show _ = _; kernel_rfl), trivial⟩
theorem sp68 : SpG T Tryz.prog 68 rb_b pa68 ts14 sr68 F68 :=
 spG (X := X68) tok (jb ⟨okG sp124, okG sp39, trivial⟩) jj 68 32 jxn rfl k68 (by (repeat intro _); show _ = _; kernel_rfl)
def pa69 : List VP := [.agg [.i .u8, .i .i64]]
def sr69 : jg := ⟨.b, [], none⟩
def run69 {R : Type} : SF R := runG rb_b pa69 [.i, .i] sr69 false (F69 FUEL)
noncomputable def X69 : Px (Bool) := ⟨T, Tryz.prog, lkF [], ji 69 [], altN, jd⟩
theorem sp69 : SpG T Tryz.prog 69 rb_b pa69 [.i, .i] sr69 F69 :=
 spG (X := X69) tok (jb trivial) jj 69 32 [] rfl trivial (by (repeat intro _); show _ = _; kernel_rfl)
def pa70 : List VP := [.sl false [.str, .int .i64, .int .i64, .bool]]
def sr70 : jg := ⟨.b, [], none⟩
def run70 {R : Type} : SF R := runG rb_b pa70 ts17 sr70 false (F70 FUEL)
def sh70_0 : qd := ⟨[(37, [(0, .sl false [.str, .int .i64, .int .i64, .bool]), (3, .i .i64)])], []⟩
def ts63 : List LT := [.l [.str, .int .i64, .int .i64, .bool], .i]
def jxm : List (List Nat × Cut (Bool)) := [([1, 0, 1, 0], cutG sh70_0 ts63 jgz)]
noncomputable def X70 : Px (Bool) := ⟨T, Tryz.prog, lkF [(29, jzr)], ji 70 jxm, altN, jd⟩
theorem k70 : AllCuts X70 32 70 (endK sr70 (toG rb_b)) jxm :=
 ⟨jm (by (repeat intro _); show _ = _; kernel_rfl) (by (repeat intro _); show _ = _; kernel_rfl), trivial⟩
theorem sp70 : SpG T Tryz.prog 70 rb_b pa70 ts17 sr70 F70 :=
 spG (X := X70) tok (jb ⟨okG sp29, trivial⟩) jj 70 32 jxm rfl k70 (by (repeat intro _); show _ = _; kernel_rfl)
def pa16 : List VP := [.agg wz]
def sr16 : jg := ⟨.b, [], none⟩
def run16 {R : Type} : SF R := runG rb_b pa16 ts3 sr16 false (F16 FUEL)
noncomputable def X16 : Px (Bool) := ⟨T, Tryz.prog, lkF [(65, run65), (66, jsa), (67, run67), (68, run68), (69, run69), (70, run70)], ji 16 [], altN, jd⟩
theorem sp16 : SpG T Tryz.prog 16 rb_b pa16 ts3 sr16 F16 :=
 spG (X := X16) tok (jb ⟨okG sp65, okG sp66, okG sp67, okG sp68, okG sp69, okG sp70, trivial⟩) jj 16 32 [] rfl trivial (by (repeat intro _); show _ = _; kernel_rfl)
def pa18 : List VP := [.agg wz, .agg vg]
def sr18 : jg := ⟨.b, [], none⟩
def run18 {R : Type} : SF R := runG rb_b pa18 ts30 sr18 false (F18 FUEL)
noncomputable def X18 : Px (Bool) := ⟨T, Tryz.prog, lkF [(16, run16), (21, jzs), (22, jtv)], ji 18 [], altN, jd⟩
theorem sp18 : SpG T Tryz.prog 18 rb_b pa18 ts30 sr18 F18 :=
 spG (X := X18) tok (jb ⟨okG sp16, okG sp21, okG sp22, trivial⟩) jj 18 32 [] rfl trivial (by (repeat intro _); show _ = _; kernel_rfl)
def pa41 : List VP := [.agg vg]
def sr41 : jg := ⟨.agg jnd, [], none⟩
def run41 {R : Type} : SF R := runG qf pa41 ts5 sr41 false (F41 FUEL)
noncomputable def X41 : Px (qe) := ⟨T, Tryz.prog, lkF [(22, jtv)], ji 41 [], altN, jd⟩
theorem sp41 : SpG T Tryz.prog 41 qf pa41 ts5 sr41 F41 :=
 spG (X := X41) tok (jb ⟨okG sp22, trivial⟩) jj 41 32 [] rfl trivial (by (repeat intro _); show _ = _; kernel_rfl)
def pa104 : List VP := [.i .i64, .i .i64, .i .i64]
def sr104 : jg := ⟨.b, [], none⟩
def juf {R : Type} : SF R := runG rb_b pa104 [.i, .i, .i] sr104 false (F104 FUEL)
noncomputable def X104 : Px (Bool) := ⟨T, Tryz.prog, lkF [(155, jkt), (105, jps)], ji 104 [], altN, jd⟩
theorem sp104 : SpG T Tryz.prog 104 rb_b pa104 [.i, .i, .i] sr104 F104 :=
 spG (X := X104) tok (jb ⟨okG jti, okG jzm, trivial⟩) jj 104 32 [] rfl trivial (by (repeat intro _); show _ = _; kernel_rfl)
def pa101 : List VP := [.agg vv, .i .i64]
def sr101 : jg := ⟨.b, [], none⟩
def run101 {R : Type} : SF R := runG rb_b pa101 ts6 sr101 false (F101 FUEL)
noncomputable def X101 : Px (Bool) := ⟨T, Tryz.prog, lkF [(66, jsa), (104, juf)], ji 101 [], altN, jd⟩
theorem sp101 : SpG T Tryz.prog 101 rb_b pa101 ts6 sr101 F101 :=
 spG (X := X101) tok (jb ⟨okG sp66, okG sp104, trivial⟩) jj 101 32 [] rfl trivial (by (repeat intro _); show _ = _; kernel_rfl)
def pa25 : List VP := [.agg vv, .sl false [.int .i64]]
def sr25 : jg := ⟨.agg jqf, [.row true [.int .i64], .row true [.int .i64]], none⟩
def run25 {R : Type} : SF R := runG wa pa25 ts31 sr25 false (F25 FUEL)
def sh25_0 : qd := ⟨[(26, [(1, .sl false [.int .i64]), (2, .ref 0 0), (4, .ref 1 0), (5, .i .i64)])], [.cells qv014v, .cells [.ci .i64 (0), .nil, .nil, .ci .i64 (0), .ci .i64 (0), .ci .i64 (0), .ci .i64 (0), .ci .i64 (0), .ci .i64 (0), .ci .i64 (0), .ci .i64 (0), .ci .i64 (0), .ci .i64 (0), .ci .i64 (0), .ci .i64 (0), .ci .i64 (0), .ci .i64 (0), .ci .i64 (0), .ci .i64 (0), .ci .i64 (0)], .row true [.int .i64], .row true [.int .i64]]⟩
def ts64 : List LT := [.l [.int .i64], .i, .i, .i, .i, .i, .i, .i, .i, .i, .i, .i, .i, .i, .i, .i, .i, .i, .i, .i, .l [.int .i64], .l [.int .i64]]
def jye : List (List Nat × Cut (wx)) := [([1, 1, 0, 1, 0], cutG sh25_0 ts64 jhg)]
noncomputable def X25 : Px (wx) := ⟨T, Tryz.prog, lkF [(96, run96), (101, run101)], ji 25 jye, altN, jd⟩
theorem k25 : AllCuts X25 32 25 (endK sr25 (toG wa)) jye :=
 ⟨jm (by (repeat intro _); show _ = _; kernel_rfl) (by (repeat intro _); show _ = _; kernel_rfl), trivial⟩
theorem sp25 : SpG T Tryz.prog 25 wa pa25 ts31 sr25 F25 :=
 spG (X := X25) tok (jb ⟨okG sp96, okG sp101, trivial⟩) jj 25 32 jye rfl k25 (by (repeat intro _); show _ = _; kernel_rfl)
def pa180 : List VP := [.sl false [.int .i64], .i .i64]
def sr180 : jg := ⟨.tup [.i .i64, .b], [], none⟩
def run180 {R : Type} : SF R := runG jce pa180 [.l [.int .i64], .i] sr180 false (F180 FUEL)
def sh180_0 : qd := ⟨[(37, [(0, .sl false [.int .i64]), (1, .i .i64), (6, .i .i64), (7, .i .i64)])], []⟩
def joh : List (List Nat × Cut (Int × Bool)) := [([1, 1, 1, 0, 1, 0], cutG sh180_0 [.l [.int .i64], .i, .i, .i] jcn)]
noncomputable def X180 : Px (Int × Bool) := ⟨T, Tryz.prog, lkF [(155, jkt), (105, jps)], ji 180 joh, altN, jd⟩
theorem k180 : AllCuts X180 32 180 (endK sr180 (toG jce)) joh :=
 ⟨jm (by (repeat intro _); show _ = _; kernel_rfl) (by (repeat intro _); show _ = _; kernel_rfl), trivial⟩
theorem sp180 : SpG T Tryz.prog 180 jce pa180 [.l [.int .i64], .i] sr180 F180 :=
 spG (X := X180) tok (jb ⟨okG jti, okG jzm, trivial⟩) jj 180 32 joh rfl k180 (by (repeat intro _); show _ = _; kernel_rfl)
def pa154 : List VP := [.agg vv]
def sr154 : jg := ⟨.i .i64, [], none⟩
def run154 {R : Type} : SF R := runG rb_i pa154 ts0 sr154 false (F154 FUEL)
noncomputable def X154 : Px (Int) := ⟨T, Tryz.prog, lkF [(66, jsa), (180, run180)], ji 154 [], altN, jd⟩
theorem sp154 : SpG T Tryz.prog 154 rb_i pa154 ts0 sr154 F154 :=
 spG (X := X154) tok (jb ⟨okG sp66, okG sp180, trivial⟩) jj 154 32 [] rfl trivial (by (repeat intro _); show _ = _; kernel_rfl)
def pa102 : List VP := [.agg vv]
def sr102 : jg := ⟨.i .i64, [], none⟩
def run102 {R : Type} : SF R := runG rb_i pa102 ts0 sr102 false (F102 FUEL)
noncomputable def X102 : Px (Int) := ⟨T, Tryz.prog, lkF [(66, jsa), (154, run154)], ji 102 [], altN, jd⟩
theorem sp102 : SpG T Tryz.prog 102 rb_i pa102 ts0 sr102 F102 :=
 spG (X := X102) tok (jb ⟨okG sp66, okG sp154, trivial⟩) jj 102 32 [] rfl trivial (by (repeat intro _); show _ = _; kernel_rfl)
def pa103 : List VP := [.i .i64, .i .i64, .i .i64]
def sr103 : jg := ⟨.b, [], none⟩
def run103 {R : Type} : SF R := runG rb_b pa103 [.i, .i, .i] sr103 false (F103 FUEL)
noncomputable def X103 : Px (Bool) := ⟨T, Tryz.prog, lkF [(104, juf), (155, jkt)], ji 103 [], altN, jd⟩
theorem sp103 : SpG T Tryz.prog 103 rb_b pa103 [.i, .i, .i] sr103 F103 :=
 spG (X := X103) tok (jb ⟨okG sp104, okG jti, trivial⟩) jj 103 32 [] rfl trivial (by (repeat intro _); show _ = _; kernel_rfl)
def pa26 : List VP := [.agg vv, .i .i64, .b]
def sr26 : jg := ⟨.tup [.i .i64, .b], [], none⟩
def run26 {R : Type} : SF R := runG jce pa26 ts35 sr26 false (F26 FUEL)
def sh26_0 : qd := ⟨[(72, [(1, .i .i64), (3, .ref 0 0), (9, .i .i64), (10, .row 1), (11, .i .i64)])], [.cells vv, .row true [.int .i64]]⟩
def ts65 : List LT := [.i, .i, .i, .i, .l [.int .i64], .l [.int .i64], .i, .i, .i, .i, .i, .i, .i, .i, .i, .i, .i, .i, .i, .i, .i, .i, .i, .l [.int .i64]]
def jyd : List (List Nat × Cut (Int × Bool)) := [([1, 1, 1, 1, 1, 1, 1, 0, 1, 0], cutG sh26_0 ts65 jdm)]
noncomputable def X26 : Px (Int × Bool) := ⟨T, Tryz.prog, lkF [(102, run102), (103, run103), (104, juf), (105, jps)], ji 26 jyd, altN, jd⟩
theorem k26 : AllCuts X26 32 26 (endK sr26 (toG jce)) jyd :=
 ⟨jm (by (repeat intro _); show _ = _; kernel_rfl) (by (repeat intro _); show _ = _; kernel_rfl), trivial⟩
theorem sp26 : SpG T Tryz.prog 26 jce pa26 ts35 sr26 F26 :=
 spG (X := X26) tok (jb ⟨okG sp102, okG sp103, okG sp104, okG jzm, trivial⟩) jj 26 32 jyd rfl k26 (by (repeat intro _); show _ = _; kernel_rfl)
def pa42 : List VP := [.agg vv, .agg vg]
def sr42 : jg := ⟨.agg jnd, [], none⟩
def run42 {R : Type} : SF R := runG qf pa42 ts38 sr42 false (F42 FUEL)
noncomputable def X42 : Px (qe) := ⟨T, Tryz.prog, lkF [(66, jsa), (21, jzs), (41, run41), (26, run26)], ji 42 [], altN, jd⟩
theorem sp42 : SpG T Tryz.prog 42 qf pa42 ts38 sr42 F42 :=
 spG (X := X42) tok (jb ⟨okG sp66, okG sp21, okG sp41, okG sp26, trivial⟩) jj 42 32 [] rfl trivial (by (repeat intro _); show _ = _; kernel_rfl)
def pa106 : List VP := jqc
def sr106 : jg := ⟨.i .i64, [], none⟩
def run106 {R : Type} : SF R := runG rb_i pa106 [.s, .i, .i, .b, .s, .i, .i, .b] sr106 false (F106 FUEL)
noncomputable def X106 : Px (Int) := ⟨T, Tryz.prog, lkF [], ji 106 [], altN, jd⟩
theorem sp106 : SpG T Tryz.prog 106 rb_i pa106 [.s, .i, .i, .b, .s, .i, .i, .b] sr106 F106 :=
 spG (X := X106) tok (jb trivial) jj 106 32 [] rfl trivial (by (repeat intro _); show _ = _; kernel_rfl)
def pa31 : List VP := jqc
def sr31 : jg := ⟨.b, [], none⟩
def run31 {R : Type} : SF R := runG rb_b pa31 [.s, .i, .i, .b, .s, .i, .i, .b] sr31 false (F31 FUEL)
noncomputable def X31 : Px (Bool) := ⟨T, Tryz.prog, lkF [(106, run106)], ji 31 [], altN, jd⟩
theorem sp31 : SpG T Tryz.prog 31 rb_b pa31 [.s, .i, .i, .b, .s, .i, .i, .b] sr31 F31 :=
 spG (X := X31) tok (jb ⟨okG sp106, trivial⟩) jj 31 32 [] rfl trivial (by (repeat intro _); show _ = _; kernel_rfl)
def pa27 : List VP := [.sl false [.str, .int .i64, .int .i64, .bool], .agg [.s, .i .i64, .i .i64, .b]]
def sr27 : jg := ⟨.tup [.row 0, .i .i64], [.row true [.str, .int .i64, .int .i64, .bool]], none⟩
def run27 {R : Type} : SF R := runG wr pa27 ts41 sr27 false (F27 FUEL)
def sh27_0 : qd := ⟨[(75, [(0, .row 0), (3, .ref 1 0), (6, .i .i64)])], [.row true [.str, .int .i64, .int .i64, .bool], .cells [.s, .i .i64, .i .i64, .b]]⟩
def ts66 : List LT := [.i, .l [.str, .int .i64, .int .i64, .bool], .s, .i, .i, .b]
def jyc : List (List Nat × Cut (Int × (List (ByteArray × Int × Int × Bool)))) := [([1, 1, 1, 1, 0, 0], cutG sh27_0 ts66 jhf)]
noncomputable def X27 : Px (Int × (List (ByteArray × Int × Int × Bool))) := ⟨T, Tryz.prog, lkF [(100, run100), (70, run70), (29, jzr), (31, run31)], ji 27 jyc, altN, jd⟩
theorem k27 : AllCuts X27 32 27 (endK sr27 (toG wr)) jyc :=
 ⟨jm (by (repeat intro _); show _ = _; kernel_rfl) (by (repeat intro _); show _ = _; kernel_rfl), trivial⟩
theorem sp27 : SpG T Tryz.prog 27 wr pa27 ts41 sr27 F27 :=
 spG (X := X27) tok (jb ⟨okG sp100, okG sp70, okG sp29, okG sp31, trivial⟩) jj 27 32 jyc rfl k27 (by (repeat intro _); show _ = _; kernel_rfl)
def pa28 : List VP := [.sl false [.str, .int .i64, .int .i64, .bool], .s]
def sr28 : jg := ⟨.tup [.agg [.s, .i .i64, .i .i64, .b], .i .i64], [], none⟩
def run28 {R : Type} : SF R := runG jcy pa28 ts39 sr28 false (F28 FUEL)
def sh28_0 : qd := ⟨[(29, [(0, .sl false [.str, .int .i64, .int .i64, .bool]), (1, .s), (4, .ref 0 0), (6, .i .i64)])], [.cells [.s, .ci .i64 (0), .ci .i64 (0), .b]]⟩
def ts67 : List LT := [.l [.str, .int .i64, .int .i64, .bool], .s, .i, .s, .b]
def jyb : List (List Nat × Cut (jdh)) := [([1, 0, 1, 0], cutG sh28_0 ts67 jiy)]
noncomputable def X28 : Px (jdh) := ⟨T, Tryz.prog, lkF [(70, run70)], ji 28 jyb, altN, jd⟩
theorem k28 : AllCuts X28 32 28 (endK sr28 (toG jcy)) jyb :=
 ⟨jm (by (repeat intro _); show _ = _; kernel_rfl) (by (repeat intro _); show _ = _; kernel_rfl), trivial⟩
theorem sp28 : SpG T Tryz.prog 28 jcy pa28 ts39 sr28 F28 :=
 spG (X := X28) tok (jb ⟨okG sp70, trivial⟩) jj 28 32 jyb rfl k28 (by (repeat intro _); show _ = _; kernel_rfl)
def pa43 : List VP := [.sl false jx, .sl false jjj]
def sr43 : jg := ⟨.sl true jx, [], none⟩
def run43 {R : Type} : SF R := runG jt pa43 ts42 sr43 false (F43 FUEL)
def sh43_0 : qd := ⟨[(51, [(1, .sl false jjj), (5, .rsub 0), (6, .i .i64)])], [.row true jx]⟩
def sh43_1 : qd := ⟨[(51, [(1, .sl false jjj), (5, .rsub 0), (6, .i .i64)])], [.row true jx]⟩
def ts68 : List LT := [.l jjj, .n, .n, .i, .l jx]
def jxx : List (List Nat × Cut ((List (TY1)))) := [([1, 1, 0, 1, 0], cutG sh43_0 ts68 jbw), ([1, 1, 0, 1, 0, 0, 1, 0, 0, 1, 1, 1, 1, 0], cutG sh43_1 ts68 jdl)]
noncomputable def X43 : Px ((List (TY1))) := ⟨T, Tryz.prog, lkF [(98, run98), (124, run124), (39, run39)], ji 43 jxx, altN, jd⟩
theorem k43 : AllCuts X43 32 43 (endK sr43 (toG jt)) jxx :=
 ⟨jm (by (repeat intro _); show _ = _; kernel_rfl) (by (repeat intro _); show _ = _; kernel_rfl), jm (by (repeat intro _); show _ = _; kernel_rfl) (by (repeat intro _); show _ = _; kernel_rfl), trivial⟩
theorem sp43 : SpG T Tryz.prog 43 jt pa43 ts42 sr43 F43 :=
 spG (X := X43) tok (jb ⟨okG sp98, okG sp124, okG sp39, trivial⟩) jj 43 32 jxx rfl k43 (by (repeat intro _); show _ = _; kernel_rfl)
def pa12 : List VP := [.agg wz, .agg vg]
def sr12 : jg := ⟨.tup [.agg [.i .i64, .row 0, .row 1, .i .i64, .i .i64, .i .i64, .i .i64, .i .i64, .i .i64, .i .i64, .i .i64, .i .i64, .i .i64, .i .i64, .i .i64, .i .i64, .i .i64, .i .i64, .i .i64, .i .i64, .i .i64, .i .i64, .i .i64, .row 2, .sl true jx, .i .u8, .i .i64, .i .u8, .i .u8, .i .i64, .i .i64, .i .i64, .b, .b, .i .i64, .s, .i .i64, .i .i64, .b, .i .i64, .row 3, .i .i64, .i .u8, .i .u8, .i .i64, .i .i64, .i .i64, .b, .b, .i .i64, .s, .i .i64, .i .i64, .b, .i .i64, .row 4, .i .i64, .i .u8, .i .u8, .i .i64, .i .i64, .i .i64, .b, .b, .i .i64, .s, .i .i64, .i .i64, .b, .i .i64, .row 5, .i .i64, .i .i64, .s, .row 6, .i .i64], .agg qv017v], [.row true [.int .i64], .row true [.int .i64], .row true qi, .row true [.int .i64], .row true [.int .i64], .row true [.int .i64], .row true [.str, .int .i64, .int .i64, .bool]], none⟩
def rbSx3 : RB (Sx3) [.i, .i, .i, .i, .i, .i, .i, .i, .i, .i, .i, .i, .i, .i, .i, .i, .i, .i, .i, .i, .i, .l jx, .i, .i, .i, .i, .i, .i, .i, .b, .b, .i, .s, .i, .i, .b, .i, .i, .i, .i, .i, .i, .i, .b, .b, .i, .s, .i, .i, .b, .i, .i, .i, .i, .i, .i, .i, .b, .b, .i, .s, .i, .i, .b, .i, .i, .i, .s, .i, .i, .i, .i, .i, .i, .b, .b, .i, .i, .l [.int .i64], .s, .i, .i, .b, .i, .l [.int .i64], .l [.int .i64], .l qi, .l [.int .i64], .l [.int .i64], .l [.int .i64], .l [.str, .int .i64, .int .i64, .bool]] := ⟨Sx3.mk, fun y => (y.q0, y.q1, y.q2, y.q3, y.q4, y.q5, y.q6, y.q7, y.q8, y.q9, y.q10, y.q11, y.q12, y.q13, y.q14, y.q15, y.q16, y.q17, y.q18, y.q19, y.q20, y.q21, y.q22, y.q23, y.q24, y.q25, y.q26, y.q27, y.q28, y.q29, y.q30, y.q31, y.q32, y.q33, y.q34, y.q35, y.q36, y.q37, y.q38, y.q39, y.q40, y.q41, y.q42, y.q43, y.q44, y.q45, y.q46, y.q47, y.q48, y.q49, y.q50, y.q51, y.q52, y.q53, y.q54, y.q55, y.q56, y.q57, y.q58, y.q59, y.q60, y.q61, y.q62, y.q63, y.q64, y.q65, y.q66, y.q67, y.q68, y.q69, y.q70, y.q71, y.q72, y.q73, y.q74, y.q75, y.q76, y.q77, y.q78, y.q79, y.q80, y.q81, y.q82, y.q83, y.q84, y.q85, y.q86, y.q87, y.q88, y.q89, y.q90, ()), fun _ => rfl⟩
def run12 {R : Type} : SF R := runG rbSx3 pa12 ts30 sr12 false (F12 FUEL)
noncomputable def X12 : Px (Sx3) := ⟨T, Tryz.prog, lkF [(24, run24), (18, run18), (39, run39), (40, jtt), (41, run41), (43, run43), (25, run25), (42, run42), (27, run27), (28, run28)], ji 12 [], altN, jd⟩
theorem sp12 : SpG T Tryz.prog 12 rbSx3 pa12 ts30 sr12 F12 :=
 spG (X := X12) tok (jb ⟨okG sp24, okG sp18, okG sp39, okG sp40, okG sp41, okG sp43, okG sp25, okG sp42, okG sp27, okG sp28, trivial⟩) jj 12 32 [] rfl trivial (by (repeat intro _); show _ = _; kernel_rfl)
def pa3 : List VP := [.agg wz, .agg wz, .agg vg]
def sr3 : jg := ⟨.b, [], none⟩
def ts69 : List LT := [.i, .l [.int .i64], .l [.int .i64], .i, .i, .i, .i, .i, .i, .i, .i, .i, .i, .i, .i, .i, .i, .i, .i, .i, .i, .i, .i, .l qi, .l jx, .i, .i, .i, .i, .i, .i, .i, .b, .b, .i, .s, .i, .i, .b, .i, .l [.int .i64], .i, .i, .i, .i, .i, .i, .b, .b, .i, .s, .i, .i, .b, .i, .l [.int .i64], .i, .i, .i, .i, .i, .i, .b, .b, .i, .s, .i, .i, .b, .i, .l [.int .i64], .i, .i, .s, .l [.str, .int .i64, .int .i64, .bool], .i, .i, .l [.int .i64], .l [.int .i64], .i, .i, .i, .i, .i, .i, .i, .i, .i, .i, .i, .i, .i, .i, .i, .i, .i, .i, .i, .i, .l qi, .l jx, .i, .i, .i, .i, .i, .i, .i, .b, .b, .i, .s, .i, .i, .b, .i, .l [.int .i64], .i, .i, .i, .i, .i, .i, .b, .b, .i, .s, .i, .i, .b, .i, .l [.int .i64], .i, .i, .i, .i, .i, .i, .b, .b, .i, .s, .i, .i, .b, .i, .l [.int .i64], .i, .i, .s, .l [.str, .int .i64, .int .i64, .bool], .i, .i, .i, .i, .i, .i, .b, .b, .i, .i, .l [.int .i64], .s, .i, .i, .b, .i]
noncomputable def X3 : Px (Bool) := ⟨T, Tryz.prog, lkF [(8, run8), (10, run10), (9, run9), (11, run11), (12, run12), (13, run13), (14, jua), (15, run15), (16, run16), (17, run17), (18, run18), (19, run19), (20, run20)], ji 3 [], altN, jd⟩
theorem sp3 : SpG T Tryz.prog 3 rb_b pa3 ts69 sr3 F3 :=
 spG (X := X3) tok (jb ⟨okG sp8, okG sp10, okG sp9, okG sp11, okG sp12, okG sp13, okG sp14, okG sp15, okG sp16, okG sp17, okG sp18, okG sp19, okG sp20, trivial⟩) jj 3 32 [] rfl trivial (by (repeat intro _); show _ = _; kernel_rfl)
def pa23 : List VP := [.sl false jx, .agg vg]
def sr23 : jg := ⟨.b, [], none⟩
def ts70 : List LT := [.l jx, .i, .i, .i, .i, .i, .b, .b, .i, .i, .l [.int .i64], .s, .i, .i, .b, .i]
def run23 {R : Type} : SF R := runG rb_b pa23 ts70 sr23 false (F23 FUEL)
end Go.Proofs.YthjhcmkgadfpmaaGreat
