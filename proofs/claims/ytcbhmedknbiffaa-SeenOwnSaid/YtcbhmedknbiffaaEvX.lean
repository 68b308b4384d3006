/-
  The functions of this program, evaluated; each is as it is evaluated.
-/
import Derived.Test.YtcbhmedknbiffaaEvR
import Derived.Test.YtcbhmedknbiffaaEvY
import Derived.Test.YtcbhmedknbiffaaVsT
import Derived.KernelRfl
namespace Go.Proofs.Ytcbhmedknbiffaa
open Go Go.RowKit
set_option maxRecDepth 100000
theorem mixed : Try.prog.follows .mixedOrders = true := by kernel_rfl
def pa8 : List VP := [.sl false [.int .i64, .int .i64, .int .u8, .int .i64, .int .i64, .int .i64, .int .i64, .bool, .bool, .int .i64, .int .i64, .sl [.int .i64], .str, .int .i64, .int .i64, .bool, .int .i64]]
def sr8 : RShape := ⟨.b, [], none⟩
def rb_b : RB (Bool) [.b] := ⟨fun x => x, fun y => (y, ()), fun _ => rfl⟩
def ts0 : List LT := [.l [.int .i64, .int .i64, .int .u8, .int .i64, .int .i64, .int .i64, .int .i64, .bool, .bool, .int .i64, .int .i64, .sl [.int .i64], .str, .int .i64, .int .i64, .bool, .int .i64]]
def run8 {R : Type} : SF R := runG rb_b pa8 ts0 sr8 false (F8 FUEL)
def sh8_0 : Shape := ⟨[(36, [(0, .sl false [.int .i64, .int .i64, .int .u8, .int .i64, .int .i64, .int .i64, .int .i64, .bool, .bool, .int .i64, .int .i64, .sl [.int .i64], .str, .int .i64, .int .i64, .bool, .int .i64]), (3, .i .i64)])], []⟩
def ts1 : List LT := [.l [.int .i64, .int .i64, .int .u8, .int .i64, .int .i64, .int .i64, .int .i64, .bool, .bool, .int .i64, .int .i64, .sl [.int .i64], .str, .int .i64, .int .i64, .bool, .int .i64], .i]
def cuts8 : List (List Nat × Cut (Bool)) := [([1, 0, 1, 0], cutG sh8_0 ts1 F8_c0)]
noncomputable def X8 : Px (Bool) := ⟨T, Try.prog, lkF [], mkCuts 8 cuts8, altN, altN_ok, false⟩
theorem k8 : AllCuts X8 8 8 (endK sr8 (toG rb_b)) cuts8 :=
  ⟨cutG_ok (by (repeat intro _); show _ = _; kernel_rfl) (by (repeat intro _); show _ = _; kernel_rfl), trivial⟩
theorem sp8 : SpG T Try.prog 8 rb_b pa8 ts0 sr8 F8 :=
  spG (X := X8) tok (sfok_of trivial) mixed 8 8 cuts8 rfl k8 (by (repeat intro _); show _ = _; kernel_rfl)
theorem ok8 {R : Type} : SFone T Try.prog 8 (run8 : SF R) := okG sp8
def pa35 : List VP := [.i .i64, .i .i64]
def sr35 : RShape := ⟨.clos 48 [.ref 0 0, .ref 1 0], [.cells [.i .i64], .cells [.i .i64]], none⟩
def rb_i2 : RB (Int × Int) [.i, .i] := ⟨fun x y => (x, y), fun y => (y.1, y.2, ()), fun _ => rfl⟩
def run35 {R : Type} : SF R := runG rb_i2 pa35 [.i, .i] sr35 false (F35 FUEL)
noncomputable def X35 : Px (Int × Int) := ⟨T, Try.prog, lkF [], mkCuts 35 [], altN, altN_ok, false⟩
theorem sp35 : SpG T Try.prog 35 rb_i2 pa35 [.i, .i] sr35 F35 :=
  spG (X := X35) tok (sfok_of trivial) mixed 35 8 [] rfl trivial (by (repeat intro _); show _ = _; kernel_rfl)
theorem ok35 {R : Type} : SFone T Try.prog 35 (run35 : SF R) := okG sp35
def pa34 : List VP := [.sl false [.int .i64, .int .i64, .int .u8, .int .i64, .int .i64, .int .i64, .int .i64, .bool, .bool, .int .i64, .int .i64, .sl [.int .i64], .str, .int .i64, .int .i64, .bool, .int .i64], .clos 48 [.ep [.i .i64], .ep [.i .i64]]]
def sr34 : RShape := ⟨.i .i64, [], none⟩
def rb_i : RB (Int) [.i] := ⟨fun x => x, fun y => (y, ()), fun _ => rfl⟩
def ts2 : List LT := [.l [.int .i64, .int .i64, .int .u8, .int .i64, .int .i64, .int .i64, .int .i64, .bool, .bool, .int .i64, .int .i64, .sl [.int .i64], .str, .int .i64, .int .i64, .bool, .int .i64], .i, .i]
def run34 {R : Type} : SF R := runG rb_i pa34 ts2 sr34 false (F34 FUEL)
def sh34_0 : Shape := ⟨[(18, [(0, .yield 5), (5, .sl false [.int .i64, .int .i64, .int .u8, .int .i64, .int .i64, .int .i64, .int .i64, .bool, .bool, .int .i64, .int .i64, .sl [.int .i64], .str, .int .i64, .int .i64, .bool, .int .i64]), (6, .i .i64), (7, .i .i64)]), (15, [(3, .ref 0 0), (4, .ref 1 0)])], [.cells [.clos 48 [.ep [.i .i64], .ep [.i .i64]]], .cells [.i .i64]]⟩
def ts3 : List LT := [.l [.int .i64, .int .i64, .int .u8, .int .i64, .int .i64, .int .i64, .int .i64, .bool, .bool, .int .i64, .int .i64, .sl [.int .i64], .str, .int .i64, .int .i64, .bool, .int .i64], .i, .i, .i, .i, .i]
def cuts34 : List (List Nat × Cut (Int)) := [([1, 0, 1, 0, 98, 1, 0], cutG sh34_0 ts3 F34_c0)]
noncomputable def X34 : Px (Int) := ⟨T, Try.prog, lkF [], mkCuts 34 cuts34, altN, altN_ok, false⟩
theorem k34 : AllCuts X34 8 34 (endK sr34 (toG rb_i)) cuts34 :=
  ⟨cutG_ok (by (repeat intro _); show _ = _; kernel_rfl) (by (repeat intro _); show _ = _; kernel_rfl), trivial⟩
theorem sp34 : SpG T Try.prog 34 rb_i pa34 ts2 sr34 F34 :=
  spG (X := X34) tok (sfok_of trivial) mixed 34 8 cuts34 rfl k34 (by (repeat intro _); show _ = _; kernel_rfl)
theorem ok34 {R : Type} : SFone T Try.prog 34 (run34 : SF R) := okG sp34
def pa32 : List VP := [.agg [.i .u8, .i .i64, .i .i64, .i .i64, .i .i64, .b, .b, .i .i64, .i .i64, .sl false [.int .i64], .s, .i .i64, .i .i64, .b, .i .i64]]
def sr32 : RShape := ⟨.agg [.i .u8, .i .i64, .i .i64, .i .i64, .i .i64, .b, .b, .i .i64, .i .i64, .row 0, .s, .i .i64, .i .i64, .b, .i .i64], [.row true [.int .i64]], none⟩
def rbSi5b2i2si2bil : RB (Si5b2i2si2bil) [.i, .i, .i, .i, .i, .b, .b, .i, .i, .s, .i, .i, .b, .i, .l [.int .i64]] := ⟨Si5b2i2si2bil.mk, fun y => (y.q0, y.q1, y.q2, y.q3, y.q4, y.q5, y.q6, y.q7, y.q8, y.q9, y.q10, y.q11, y.q12, y.q13, y.q14, ()), fun _ => rfl⟩
def ts4 : List LT := [.i, .i, .i, .i, .i, .b, .b, .i, .i, .l [.int .i64], .s, .i, .i, .b, .i]
def run32 {R : Type} : SF R := runG rbSi5b2i2si2bil pa32 ts4 sr32 false (F32 FUEL)
noncomputable def X32 : Px (Si5b2i2si2bil) := ⟨T, Try.prog, lkF [], mkCuts 32 [], altN, altN_ok, false⟩
theorem sp32 : SpG T Try.prog 32 rbSi5b2i2si2bil pa32 ts4 sr32 F32 :=
  spG (X := X32) tok (sfok_of trivial) mixed 32 8 [] rfl trivial (by (repeat intro _); show _ = _; kernel_rfl)
theorem ok32 {R : Type} : SFone T Try.prog 32 (run32 : SF R) := okG sp32
def pa13 : List VP := [.sl false [.int .i64, .int .i64, .int .u8, .int .i64, .int .i64, .int .i64, .int .i64, .bool, .bool, .int .i64, .int .i64, .sl [.int .i64], .str, .int .i64, .int .i64, .bool, .int .i64], .i .i64, .i .i64]
def sr13 : RShape := ⟨.tup [.agg [.i .u8, .i .i64, .i .i64, .i .i64, .i .i64, .b, .b, .i .i64, .i .i64, .row 0, .s, .i .i64, .i .i64, .b, .i .i64], .b], [.row true [.int .i64]], none⟩
def rbSi5b2i2si2bibl : RB (Si5b2i2si2bibl) [.i, .i, .i, .i, .i, .b, .b, .i, .i, .s, .i, .i, .b, .i, .b, .l [.int .i64]] := ⟨Si5b2i2si2bibl.mk, fun y => (y.q0, y.q1, y.q2, y.q3, y.q4, y.q5, y.q6, y.q7, y.q8, y.q9, y.q10, y.q11, y.q12, y.q13, y.q14, y.q15, ()), fun _ => rfl⟩
def run13 {R : Type} : SF R := runG rbSi5b2i2si2bibl pa13 ts2 sr13 true (F13 FUEL)
noncomputable def X13 : Px (Si5b2i2si2bibl) := ⟨T, Try.prog, lkF [(35, run35), (34, run34), (32, run32)], mkCuts 13 [], altN, altN_ok, false⟩
theorem sp13 : SpG T Try.prog 13 rbSi5b2i2si2bibl pa13 ts2 sr13 F13 :=
  spG (X := X13) tok (sfok_of ⟨ok35, ok34, ok32, trivial⟩) mixed 13 8 [] rfl trivial (by (repeat intro _); show _ = _; kernel_rfl)
theorem ok13 {R : Type} : SFone T Try.prog 13 (run13 : SF R) := okG sp13
def pa29 : List VP := [.i .i64]
def sr29 : RShape := ⟨.agg [.i .u8, .i .i64, .i .i64, .i .i64, .i .i64, .b, .b, .i .i64, .i .i64, .nil, .s, .i .i64, .i .i64, .b, .i .i64], [], none⟩
def rbSi5b2i2si2bi : RB (Si5b2i2si2bi) [.i, .i, .i, .i, .i, .b, .b, .i, .i, .s, .i, .i, .b, .i] := ⟨Si5b2i2si2bi.mk, fun y => (y.q0, y.q1, y.q2, y.q3, y.q4, y.q5, y.q6, y.q7, y.q8, y.q9, y.q10, y.q11, y.q12, y.q13, ()), fun _ => rfl⟩
def run29 {R : Type} : SF R := runG rbSi5b2i2si2bi pa29 [.i] sr29 false (F29 FUEL)
noncomputable def X29 : Px (Si5b2i2si2bi) := ⟨T, Try.prog, lkF [], mkCuts 29 [], altN, altN_ok, false⟩
theorem sp29 : SpG T Try.prog 29 rbSi5b2i2si2bi pa29 [.i] sr29 F29 :=
  spG (X := X29) tok (sfok_of trivial) mixed 29 8 [] rfl trivial (by (repeat intro _); show _ = _; kernel_rfl)
theorem ok29 {R : Type} : SFone T Try.prog 29 (run29 : SF R) := okG sp29
def pa26 : List VP := [.agg [.i .u8, .i .i64, .i .i64, .i .i64, .i .i64, .b, .b, .i .i64, .i .i64, .sl false [.int .i64], .s, .i .i64, .i .i64, .b, .i .i64]]
def sr26 : RShape := ⟨.b, [], none⟩
def run26 {R : Type} : SF R := runG rb_b pa26 ts4 sr26 false (F26 FUEL)
noncomputable def X26 : Px (Bool) := ⟨T, Try.prog, lkF [], mkCuts 26 [], altN, altN_ok, false⟩
theorem sp26 : SpG T Try.prog 26 rb_b pa26 ts4 sr26 F26 :=
  spG (X := X26) tok (sfok_of trivial) mixed 26 8 [] rfl trivial (by (repeat intro _); show _ = _; kernel_rfl)
theorem ok26 {R : Type} : SFone T Try.prog 26 (run26 : SF R) := okG sp26
def pa27 : List VP := [.agg [.i .u8, .i .i64, .i .i64, .i .i64, .i .i64, .b, .b, .i .i64, .i .i64, .sl false [.int .i64], .s, .i .i64, .i .i64, .b, .i .i64]]
def sr27 : RShape := ⟨.agg [.i .u8, .i .i64, .i .i64, .i .i64, .i .i64, .b, .b, .i .i64, .i .i64, .nil, .s, .i .i64, .i .i64, .b, .i .i64], [], none⟩
def run27 {R : Type} : SF R := runG rbSi5b2i2si2bi pa27 ts4 sr27 false (F27 FUEL)
noncomputable def X27 : Px (Si5b2i2si2bi) := ⟨T, Try.prog, lkF [(26, run26)], mkCuts 27 [], altN, altN_ok, false⟩
theorem sp27 : SpG T Try.prog 27 rbSi5b2i2si2bi pa27 ts4 sr27 F27 :=
  spG (X := X27) tok (sfok_of ⟨ok26, trivial⟩) mixed 27 8 [] rfl trivial (by (repeat intro _); show _ = _; kernel_rfl)
theorem ok27 {R : Type} : SFone T Try.prog 27 (run27 : SF R) := okG sp27
def pa24 : List VP := [.sl false [.int .i64, .int .i64, .int .u8, .int .i64, .int .i64, .int .i64, .int .i64, .bool, .bool, .int .i64, .int .i64, .sl [.int .i64], .str, .int .i64, .int .i64, .bool, .int .i64]]
def sr24 : RShape := ⟨.row 0, [.row true [.int .i64, .int .i64, .int .u8, .int .i64, .int .i64, .int .i64, .int .i64, .bool, .bool, .int .i64, .int .i64, .sl [.int .i64], .str, .int .i64, .int .i64, .bool, .int .i64]], none⟩
def rb_l_i7b2i2lsi2bi_ : RB ((List (Int × Int × Int × Int × Int × Int × Int × Bool × Bool × Int × Int × (List (Int)) × ByteArray × Int × Int × Bool × Int))) [.l [.int .i64, .int .i64, .int .u8, .int .i64, .int .i64, .int .i64, .int .i64, .bool, .bool, .int .i64, .int .i64, .sl [.int .i64], .str, .int .i64, .int .i64, .bool, .int .i64]] := ⟨fun x => x, fun y => (y, ()), fun _ => rfl⟩
def run24 {R : Type} : SF R := runG rb_l_i7b2i2lsi2bi_ pa24 ts0 sr24 false (F24 FUEL)
def sh24_0 : Shape := ⟨[(18, [(0, .yield 6), (5, .sl false [.int .i64, .int .i64, .int .u8, .int .i64, .int .i64, .int .i64, .int .i64, .bool, .bool, .int .i64, .int .i64, .sl [.int .i64], .str, .int .i64, .int .i64, .bool, .int .i64]), (6, .i .i64), (7, .i .i64)]), (19, [(3, .ref 0 0)])], [.cells [.row 1], .row true [.int .i64, .int .i64, .int .u8, .int .i64, .int .i64, .int .i64, .int .i64, .bool, .bool, .int .i64, .int .i64, .sl [.int .i64], .str, .int .i64, .int .i64, .bool, .int .i64]]⟩
def ts5 : List LT := [.l [.int .i64, .int .i64, .int .u8, .int .i64, .int .i64, .int .i64, .int .i64, .bool, .bool, .int .i64, .int .i64, .sl [.int .i64], .str, .int .i64, .int .i64, .bool, .int .i64], .i, .i, .l [.int .i64, .int .i64, .int .u8, .int .i64, .int .i64, .int .i64, .int .i64, .bool, .bool, .int .i64, .int .i64, .sl [.int .i64], .str, .int .i64, .int .i64, .bool, .int .i64]]
def cuts24 : List (List Nat × Cut ((List (Int × Int × Int × Int × Int × Int × Int × Bool × Bool × Int × Int × (List (Int)) × ByteArray × Int × Int × Bool × Int)))) := [([1, 1, 0, 1, 0, 98, 1, 0], cutG sh24_0 ts5 F24_c0)]
noncomputable def X24 : Px ((List (Int × Int × Int × Int × Int × Int × Int × Bool × Bool × Int × Int × (List (Int)) × ByteArray × Int × Int × Bool × Int))) := ⟨T, Try.prog, lkF [(32, run32)], mkCuts 24 cuts24, altN, altN_ok, false⟩
theorem k24 : AllCuts X24 8 24 (endK sr24 (toG rb_l_i7b2i2lsi2bi_)) cuts24 :=
  ⟨cutG_ok (by (repeat intro _); show _ = _; kernel_rfl) (by (repeat intro _); show _ = _; kernel_rfl), trivial⟩
theorem sp24 : SpG T Try.prog 24 rb_l_i7b2i2lsi2bi_ pa24 ts0 sr24 F24 :=
  spG (X := X24) tok (sfok_of ⟨ok32, trivial⟩) mixed 24 8 cuts24 rfl k24 (by (repeat intro _); show _ = _; kernel_rfl)
theorem ok24 {R : Type} : SFone T Try.prog 24 (run24 : SF R) := okG sp24
def pa54 : List VP := [.s]
def sr54 : RShape := ⟨.b, [], none⟩
def run54 {R : Type} : SF R := runG rb_b pa54 [.s] sr54 false (F54 FUEL)
noncomputable def X54 : Px (Bool) := ⟨T, Try.prog, lkF [], mkCuts 54 [], altN, altN_ok, false⟩
theorem sp54 : SpG T Try.prog 54 rb_b pa54 [.s] sr54 F54 :=
  spG (X := X54) tok (sfok_of trivial) mixed 54 8 [] rfl trivial (by (repeat intro _); show _ = _; kernel_rfl)
theorem ok54 {R : Type} : SFone T Try.prog 54 (run54 : SF R) := okG sp54
def pa57 : List VP := [.i .i64]
def sr57 : RShape := ⟨.b, [], none⟩
def run57 {R : Type} : SF R := runG rb_b pa57 [.i] sr57 false (F57 FUEL)
noncomputable def X57 : Px (Bool) := ⟨T, Try.prog, lkF [], mkCuts 57 [], altN, altN_ok, false⟩
theorem sp57 : SpG T Try.prog 57 rb_b pa57 [.i] sr57 F57 :=
  spG (X := X57) tok (sfok_of trivial) mixed 57 8 [] rfl trivial (by (repeat intro _); show _ = _; kernel_rfl)
theorem ok57 {R : Type} : SFone T Try.prog 57 (run57 : SF R) := okG sp57
def pa53 : List VP := [.agg [.s, .i .i64, .i .i64, .b]]
def sr53 : RShape := ⟨.b, [], none⟩
def run53 {R : Type} : SF R := runG rb_b pa53 [.s, .i, .i, .b] sr53 false (F53 FUEL)
noncomputable def X53 : Px (Bool) := ⟨T, Try.prog, lkF [(54, run54), (57, run57)], mkCuts 53 [], altN, altN_ok, false⟩
theorem sp53 : SpG T Try.prog 53 rb_b pa53 [.s, .i, .i, .b] sr53 F53 :=
  spG (X := X53) tok (sfok_of ⟨ok54, ok57, trivial⟩) mixed 53 8 [] rfl trivial (by (repeat intro _); show _ = _; kernel_rfl)
theorem ok53 {R : Type} : SFone T Try.prog 53 (run53 : SF R) := okG sp53
def pa59 : List VP := [.sl false [.int .i64], .i .i64]
def sr59 : RShape := ⟨.i .i64, [], none⟩
def run59 {R : Type} : SF R := runG rb_i pa59 [.l [.int .i64], .i] sr59 false (F59 FUEL)
def sh59_0 : Shape := ⟨[(19, [(0, .sl false [.int .i64]), (1, .i .i64), (7, .i .i64), (8, .i .i64)])], []⟩
def cuts59 : List (List Nat × Cut (Int)) := [([1, 0, 1, 0], cutG sh59_0 [.l [.int .i64], .i, .i, .i] F59_c0)]
noncomputable def X59 : Px (Int) := ⟨T, Try.prog, lkF [], mkCuts 59 cuts59, altN, altN_ok, false⟩
theorem k59 : AllCuts X59 8 59 (endK sr59 (toG rb_i)) cuts59 :=
  ⟨cutG_ok (by (repeat intro _); show _ = _; kernel_rfl) (by (repeat intro _); show _ = _; kernel_rfl), trivial⟩
theorem sp59 : SpG T Try.prog 59 rb_i pa59 [.l [.int .i64], .i] sr59 F59 :=
  spG (X := X59) tok (sfok_of trivial) mixed 59 8 cuts59 rfl k59 (by (repeat intro _); show _ = _; kernel_rfl)
theorem ok59 {R : Type} : SFone T Try.prog 59 (run59 : SF R) := okG sp59
def pa58 : List VP := [.sl false [.int .i64], .i .i64]
def sr58 : RShape := ⟨.b, [], none⟩
def run58 {R : Type} : SF R := runG rb_b pa58 [.l [.int .i64], .i] sr58 false (F58 FUEL)
noncomputable def X58 : Px (Bool) := ⟨T, Try.prog, lkF [(59, run59)], mkCuts 58 [], altN, altN_ok, false⟩
theorem sp58 : SpG T Try.prog 58 rb_b pa58 [.l [.int .i64], .i] sr58 F58 :=
  spG (X := X58) tok (sfok_of ⟨ok59, trivial⟩) mixed 58 8 [] rfl trivial (by (repeat intro _); show _ = _; kernel_rfl)
theorem ok58 {R : Type} : SFone T Try.prog 58 (run58 : SF R) := okG sp58
def pa55 : List VP := [.i .i64, .sl false [.int .i64]]
def sr55 : RShape := ⟨.b, [], none⟩
def run55 {R : Type} : SF R := runG rb_b pa55 [.i, .l [.int .i64]] sr55 false (F55 FUEL)
def sh55_0 : Shape := ⟨[(25, [(0, .i .i64), (1, .sl false [.int .i64]), (7, .sl false [.int .i64]), (8, .i .i64), (9, .i .i64)])], []⟩
def ts6 : List LT := [.i, .l [.int .i64], .l [.int .i64], .i, .i]
def cuts55 : List (List Nat × Cut (Bool)) := [([1, 0, 1, 0], cutG sh55_0 ts6 F55_c0)]
noncomputable def X55 : Px (Bool) := ⟨T, Try.prog, lkF [(58, run58)], mkCuts 55 cuts55, altN, altN_ok, false⟩
theorem k55 : AllCuts X55 8 55 (endK sr55 (toG rb_b)) cuts55 :=
  ⟨cutG_ok (by (repeat intro _); show _ = _; kernel_rfl) (by (repeat intro _); show _ = _; kernel_rfl), trivial⟩
theorem sp55 : SpG T Try.prog 55 rb_b pa55 [.i, .l [.int .i64]] sr55 F55 :=
  spG (X := X55) tok (sfok_of ⟨ok58, trivial⟩) mixed 55 8 cuts55 rfl k55 (by (repeat intro _); show _ = _; kernel_rfl)
theorem ok55 {R : Type} : SFone T Try.prog 55 (run55 : SF R) := okG sp55
def pa42 : List VP := [.agg [.i .u8, .i .i64, .i .i64, .i .i64, .i .i64, .b, .b, .i .i64, .i .i64, .sl false [.int .i64], .s, .i .i64, .i .i64, .b, .i .i64]]
def sr42 : RShape := ⟨.b, [], none⟩
def run42 {R : Type} : SF R := runG rb_b pa42 ts4 sr42 false (F42 FUEL)
noncomputable def X42 : Px (Bool) := ⟨T, Try.prog, lkF [(53, run53), (54, run54), (55, run55)], mkCuts 42 [], altN, altN_ok, false⟩
theorem sp42 : SpG T Try.prog 42 rb_b pa42 ts4 sr42 F42 :=
  spG (X := X42) tok (sfok_of ⟨ok53, ok54, ok55, trivial⟩) mixed 42 8 [] rfl trivial (by (repeat intro _); show _ = _; kernel_rfl)
theorem ok42 {R : Type} : SFone T Try.prog 42 (run42 : SF R) := okG sp42
def pa44 : List VP := [.i .i64]
def sr44 : RShape := ⟨.b, [], none⟩
def run44 {R : Type} : SF R := runG rb_b pa44 [.i] sr44 false (F44 FUEL)
noncomputable def X44 : Px (Bool) := ⟨T, Try.prog, lkF [], mkCuts 44 [], altN, altN_ok, false⟩
theorem sp44 : SpG T Try.prog 44 rb_b pa44 [.i] sr44 F44 :=
  spG (X := X44) tok (sfok_of trivial) mixed 44 8 [] rfl trivial (by (repeat intro _); show _ = _; kernel_rfl)
theorem ok44 {R : Type} : SFone T Try.prog 44 (run44 : SF R) := okG sp44
def pa31 : List VP := [.agg [.i .u8, .i .i64, .i .i64, .i .i64, .i .i64, .b, .b, .i .i64, .i .i64, .sl false [.int .i64], .s, .i .i64, .i .i64, .b, .i .i64]]
def sr31 : RShape := ⟨.b, [], none⟩
def run31 {R : Type} : SF R := runG rb_b pa31 ts4 sr31 false (F31 FUEL)
noncomputable def X31 : Px (Bool) := ⟨T, Try.prog, lkF [], mkCuts 31 [], altN, altN_ok, false⟩
theorem sp31 : SpG T Try.prog 31 rb_b pa31 ts4 sr31 F31 :=
  spG (X := X31) tok (sfok_of trivial) mixed 31 8 [] rfl trivial (by (repeat intro _); show _ = _; kernel_rfl)
theorem ok31 {R : Type} : SFone T Try.prog 31 (run31 : SF R) := okG sp31
def pa46 : List VP := [.agg [.i .u8, .i .i64, .i .i64, .i .i64, .i .i64, .b, .b, .i .i64, .i .i64, .sl false [.int .i64], .s, .i .i64, .i .i64, .b, .i .i64]]
def sr46 : RShape := ⟨.i .i64, [], none⟩
def run46 {R : Type} : SF R := runG rb_i pa46 ts4 sr46 false (F46 FUEL)
noncomputable def X46 : Px (Int) := ⟨T, Try.prog, lkF [(31, run31)], mkCuts 46 [], altN, altN_ok, false⟩
theorem sp46 : SpG T Try.prog 46 rb_i pa46 ts4 sr46 F46 :=
  spG (X := X46) tok (sfok_of ⟨ok31, trivial⟩) mixed 46 8 [] rfl trivial (by (repeat intro _); show _ = _; kernel_rfl)
theorem ok46 {R : Type} : SFone T Try.prog 46 (run46 : SF R) := okG sp46
def pa45 : List VP := [.i .i64, .i .i64]
def sr45 : RShape := ⟨.b, [], none⟩
def run45 {R : Type} : SF R := runG rb_b pa45 [.i, .i] sr45 false (F45 FUEL)
noncomputable def X45 : Px (Bool) := ⟨T, Try.prog, lkF [], mkCuts 45 [], altN, altN_ok, false⟩
theorem sp45 : SpG T Try.prog 45 rb_b pa45 [.i, .i] sr45 F45 :=
  spG (X := X45) tok (sfok_of trivial) mixed 45 8 [] rfl trivial (by (repeat intro _); show _ = _; kernel_rfl)
theorem ok45 {R : Type} : SFone T Try.prog 45 (run45 : SF R) := okG sp45
def pa47 : List VP := [.agg [.i .u8, .i .i64, .i .i64, .i .i64, .i .i64, .b, .b, .i .i64, .i .i64, .opq 0, .s, .i .i64, .i .i64, .b, .i .i64]]
def sr47 : RShape := ⟨.agg [.i .u8, .i .i64, .i .i64, .i .i64, .i .i64, .b, .b, .i .i64, .i .i64, .opq 0, .s, .i .i64, .i .i64, .b, .i .i64], [], some (.agg [.i .u8, .i .i64, .i .i64, .i .i64, .i .i64, .b, .b, .i .i64, .i .i64, .nil, .s, .i .i64, .i .i64, .b, .i .i64])⟩
def rbSbi5b2i2si2bi : RB (Sbi5b2i2si2bi) [.b, .i, .i, .i, .i, .i, .b, .b, .i, .i, .s, .i, .i, .b, .i] := ⟨Sbi5b2i2si2bi.mk, fun y => (y.q0, y.q1, y.q2, y.q3, y.q4, y.q5, y.q6, y.q7, y.q8, y.q9, y.q10, y.q11, y.q12, y.q13, y.q14, ()), fun _ => rfl⟩
def ts7 : List LT := [.i, .i, .i, .i, .i, .b, .b, .i, .i, .s, .i, .i, .b, .i]
def run47 {R : Type} : SF R := runG rbSbi5b2i2si2bi pa47 ts7 sr47 false (F47 FUEL)
noncomputable def X47 : Px (Sbi5b2i2si2bi) := ⟨T, Try.prog, lkF [], mkCuts 47 [], altN, altN_ok, false⟩
theorem sp47 : SpG T Try.prog 47 rbSbi5b2i2si2bi pa47 ts7 sr47 F47 :=
  spG (X := X47) tok (sfok_of trivial) mixed 47 8 [] rfl trivial (by (repeat intro _); show _ = _; kernel_rfl)
theorem ok47 {R : Type} : SFone T Try.prog 47 (run47 : SF R) := okG sp47
def pa50 : List VP := [.sl false [.int .i64], .sl false [.int .i64]]
def sr50 : RShape := ⟨.b, [], none⟩
def run50 {R : Type} : SF R := runG rb_b pa50 [.l [.int .i64], .l [.int .i64]] sr50 false (F50 FUEL)
def sh50_0 : Shape := ⟨[(26, [(0, .sl false [.int .i64]), (1, .sl false [.int .i64]), (12, .i .i64), (13, .i .i64)])], []⟩
def ts8 : List LT := [.l [.int .i64], .l [.int .i64], .i, .i]
def cuts50 : List (List Nat × Cut (Bool)) := [([1, 1, 0, 1, 0], cutG sh50_0 ts8 F50_c0)]
noncomputable def X50 : Px (Bool) := ⟨T, Try.prog, lkF [], mkCuts 50 cuts50, altN, altN_ok, false⟩
theorem k50 : AllCuts X50 8 50 (endK sr50 (toG rb_b)) cuts50 :=
  ⟨cutG_ok (by (repeat intro _); show _ = _; kernel_rfl) (by (repeat intro _); show _ = _; kernel_rfl), trivial⟩
theorem sp50 : SpG T Try.prog 50 rb_b pa50 [.l [.int .i64], .l [.int .i64]] sr50 F50 :=
  spG (X := X50) tok (sfok_of trivial) mixed 50 8 cuts50 rfl k50 (by (repeat intro _); show _ = _; kernel_rfl)
theorem ok50 {R : Type} : SFone T Try.prog 50 (run50 : SF R) := okG sp50
def pa37 : List VP := [.agg [.i .u8, .i .i64, .i .i64, .i .i64, .i .i64, .b, .b, .i .i64, .i .i64, .sl false [.int .i64], .s, .i .i64, .i .i64, .b, .i .i64], .agg [.i .u8, .i .i64, .i .i64, .i .i64, .i .i64, .b, .b, .i .i64, .i .i64, .sl false [.int .i64], .s, .i .i64, .i .i64, .b, .i .i64]]
def sr37 : RShape := ⟨.b, [], none⟩
def ts9 : List LT := [.i, .i, .i, .i, .i, .b, .b, .i, .i, .l [.int .i64], .s, .i, .i, .b, .i, .i, .i, .i, .i, .i, .b, .b, .i, .i, .l [.int .i64], .s, .i, .i, .b, .i]
def run37 {R : Type} : SF R := runG rb_b pa37 ts9 sr37 false (F37 FUEL)
noncomputable def X37 : Px (Bool) := ⟨T, Try.prog, lkF [(50, run50)], mkCuts 37 [], altN, altN_ok, false⟩
theorem sp37 : SpG T Try.prog 37 rb_b pa37 ts9 sr37 F37 :=
  spG (X := X37) tok (sfok_of ⟨ok50, trivial⟩) mixed 37 8 [] rfl trivial (by (repeat intro _); show _ = _; kernel_rfl)
theorem ok37 {R : Type} : SFone T Try.prog 37 (run37 : SF R) := okG sp37
def pa30 : List VP := [.agg [.i .u8, .i .i64, .i .i64, .i .i64, .i .i64, .b, .b, .i .i64, .i .i64, .sl false [.int .i64], .s, .i .i64, .i .i64, .b, .i .i64]]
def sr30 : RShape := ⟨.b, [], none⟩
def run30 {R : Type} : SF R := runG rb_b pa30 ts4 sr30 false (F30 FUEL)
def sh30_0 : Shape := ⟨[(40, [])], []⟩
def sh30_1 : Shape := ⟨[(55, [(0, .yield 7), (44, .sl false [.int .i64]), (45, .i .i64), (46, .i .i64)]), (40, [(1, .ref 0 0)])], [.cells [.i .u8, .i .i64, .i .i64, .i .i64, .i .i64, .b, .b, .i .i64, .i .i64, .sl false [.int .i64], .s, .i .i64, .i .i64, .b, .i .i64]]⟩
def ts10 : List LT := [.l [.int .i64], .i, .i, .i, .i, .i, .i, .i, .b, .b, .i, .i, .l [.int .i64], .s, .i, .i, .b, .i]
def cuts30 : List (List Nat × Cut (Bool)) := [([1, 10], cutG sh30_0 [] F30_c0), ([1, 0, 1, 0, 1, 0, 112, 1, 1, 0, 1, 1, 1, 1, 1, 0, 1, 1, 0], cutG sh30_1 ts10 F30_c1)]
noncomputable def X30 : Px (Bool) := ⟨T, Try.prog, lkF [(42, run42), (44, run44), (46, run46), (45, run45), (47, run47), (37, run37)], mkCuts 30 cuts30, altN, altN_ok, false⟩
theorem k30 : AllCuts X30 8 30 (endK sr30 (toG rb_b)) cuts30 :=
  ⟨cutG_ok (by (repeat intro _); show _ = _; kernel_rfl) (by (repeat intro _); show _ = _; kernel_rfl), cutG_ok (by (repeat intro _); show _ = _; kernel_rfl) (by (repeat intro _); show _ = _; kernel_rfl), trivial⟩
theorem sp30 : SpG T Try.prog 30 rb_b pa30 ts4 sr30 F30 :=
  spG (X := X30) tok (sfok_of ⟨ok42, ok44, ok46, ok45, ok47, ok37, trivial⟩) mixed 30 8 cuts30 rfl k30 (by (repeat intro _); show _ = _; kernel_rfl)
theorem ok30 {R : Type} : SFone T Try.prog 30 (run30 : SF R) := okG sp30
def pa11 : List VP := [.agg [.i .u8, .i .i64, .i .i64, .i .i64, .i .i64, .b, .b, .i .i64, .i .i64, .sl false [.int .i64], .s, .i .i64, .i .i64, .b, .i .i64]]
def sr11 : RShape := ⟨.tup [.agg [.i .i64, .i .i64, .i .u8, .i .i64, .i .i64, .i .i64, .i .i64, .b, .b, .i .i64, .i .i64, .sl true [.int .i64], .s, .i .i64, .i .i64, .b, .i .i64], .i .i64], [], none⟩
def rbSi7b2i2lsi2bi2 : RB (Si7b2i2lsi2bi2) [.i, .i, .i, .i, .i, .i, .i, .b, .b, .i, .i, .l [.int .i64], .s, .i, .i, .b, .i, .i] := ⟨Si7b2i2lsi2bi2.mk, fun y => (y.q0, y.q1, y.q2, y.q3, y.q4, y.q5, y.q6, y.q7, y.q8, y.q9, y.q10, y.q11, y.q12, y.q13, y.q14, y.q15, y.q16, y.q17, ()), fun _ => rfl⟩
def run11 {R : Type} : SF R := runG rbSi7b2i2lsi2bi2 pa11 ts4 sr11 false (F11 FUEL)
noncomputable def X11 : Px (Si7b2i2lsi2bi2) := ⟨T, Try.prog, lkF [(30, run30), (31, run31), (32, run32)], mkCuts 11 [], altN, altN_ok, false⟩
theorem sp11 : SpG T Try.prog 11 rbSi7b2i2lsi2bi2 pa11 ts4 sr11 F11 :=
  spG (X := X11) tok (sfok_of ⟨ok30, ok31, ok32, trivial⟩) mixed 11 8 [] rfl trivial (by (repeat intro _); show _ = _; kernel_rfl)
theorem ok11 {R : Type} : SFone T Try.prog 11 (run11 : SF R) := okG sp11
def pa19 : List VP := [.sl false [.int .i64, .int .i64, .int .u8, .int .i64, .int .i64, .int .i64, .int .i64, .bool, .bool, .int .i64, .int .i64, .sl [.int .i64], .str, .int .i64, .int .i64, .bool, .int .i64], .sl false [.int .u8, .int .i64, .int .i64, .int .i64, .int .i64, .bool, .bool, .int .i64, .int .i64, .sl [.int .i64], .str, .int .i64, .int .i64, .bool, .int .i64]]
def sr19 : RShape := ⟨.sl true [.int .i64, .int .i64, .int .u8, .int .i64, .int .i64, .int .i64, .int .i64, .bool, .bool, .int .i64, .int .i64, .sl [.int .i64], .str, .int .i64, .int .i64, .bool, .int .i64], [], none⟩
def ts11 : List LT := [.l [.int .i64, .int .i64, .int .u8, .int .i64, .int .i64, .int .i64, .int .i64, .bool, .bool, .int .i64, .int .i64, .sl [.int .i64], .str, .int .i64, .int .i64, .bool, .int .i64], .l [.int .u8, .int .i64, .int .i64, .int .i64, .int .i64, .bool, .bool, .int .i64, .int .i64, .sl [.int .i64], .str, .int .i64, .int .i64, .bool, .int .i64]]
def run19 {R : Type} : SF R := runG rb_l_i7b2i2lsi2bi_ pa19 ts11 sr19 false (F19 FUEL)
def sh19_0 : Shape := ⟨[(46, [(5, .rsub 0), (12, .sl false [.int .u8, .int .i64, .int .i64, .int .i64, .int .i64, .bool, .bool, .int .i64, .int .i64, .sl [.int .i64], .str, .int .i64, .int .i64, .bool, .int .i64]), (13, .i .i64), (14, .i .i64)])], [.row true [.int .i64, .int .i64, .int .u8, .int .i64, .int .i64, .int .i64, .int .i64, .bool, .bool, .int .i64, .int .i64, .sl [.int .i64], .str, .int .i64, .int .i64, .bool, .int .i64]]⟩
def sh19_1 : Shape := ⟨[(46, [(5, .rsub 0), (12, .sl false [.int .u8, .int .i64, .int .i64, .int .i64, .int .i64, .bool, .bool, .int .i64, .int .i64, .sl [.int .i64], .str, .int .i64, .int .i64, .bool, .int .i64]), (13, .i .i64), (14, .i .i64)])], [.row true [.int .i64, .int .i64, .int .u8, .int .i64, .int .i64, .int .i64, .int .i64, .bool, .bool, .int .i64, .int .i64, .sl [.int .i64], .str, .int .i64, .int .i64, .bool, .int .i64]]⟩
def ts12 : List LT := [.n, .n, .l [.int .u8, .int .i64, .int .i64, .int .i64, .int .i64, .bool, .bool, .int .i64, .int .i64, .sl [.int .i64], .str, .int .i64, .int .i64, .bool, .int .i64], .i, .i, .l [.int .i64, .int .i64, .int .u8, .int .i64, .int .i64, .int .i64, .int .i64, .bool, .bool, .int .i64, .int .i64, .sl [.int .i64], .str, .int .i64, .int .i64, .bool, .int .i64]]
def cuts19 : List (List Nat × Cut ((List (Int × Int × Int × Int × Int × Int × Int × Bool × Bool × Int × Int × (List (Int)) × ByteArray × Int × Int × Bool × Int)))) := [([1, 1, 0, 1, 0], cutG sh19_0 ts12 F19_c0), ([1, 1, 0, 1, 0, 0, 1, 1, 0, 0, 1, 10], cutG sh19_1 ts12 F19_c1)]
noncomputable def X19 : Px ((List (Int × Int × Int × Int × Int × Int × Int × Bool × Bool × Int × Int × (List (Int)) × ByteArray × Int × Int × Bool × Int))) := ⟨T, Try.prog, lkF [(24, run24), (11, run11), (35, run35), (34, run34)], mkCuts 19 cuts19, altN, altN_ok, false⟩
theorem k19 : AllCuts X19 8 19 (endK sr19 (toG rb_l_i7b2i2lsi2bi_)) cuts19 :=
  ⟨cutG_ok (by (repeat intro _); show _ = _; kernel_rfl) (by (repeat intro _); show _ = _; kernel_rfl), cutG_ok (by (repeat intro _); show _ = _; kernel_rfl) (by (repeat intro _); show _ = _; kernel_rfl), trivial⟩
theorem sp19 : SpG T Try.prog 19 rb_l_i7b2i2lsi2bi_ pa19 ts11 sr19 F19 :=
  spG (X := X19) tok (sfok_of ⟨ok24, ok11, ok35, ok34, trivial⟩) mixed 19 8 cuts19 rfl k19 (by (repeat intro _); show _ = _; kernel_rfl)
theorem ok19 {R : Type} : SFone T Try.prog 19 (run19 : SF R) := okG sp19
def pa15 : List VP := [.agg [.i .u8, .i .i64, .i .i64, .i .i64, .i .i64, .b, .b, .i .i64, .i .i64, .sl false [.int .i64], .s, .i .i64, .i .i64, .b, .i .i64], .agg [.i .u8, .i .i64, .i .i64, .i .i64, .i .i64, .b, .b, .i .i64, .i .i64, .sl false [.int .i64], .s, .i .i64, .i .i64, .b, .i .i64]]
def sr15 : RShape := ⟨.b, [], none⟩
def run15 {R : Type} : SF R := runG rb_b pa15 ts9 sr15 false (F15 FUEL)
def sh15_0 : Shape := ⟨[(106, [(2, .ref 0 0), (3, .ref 1 0), (5, .i .i64)])], [.cells [.i .u8, .i .i64, .i .i64, .i .i64, .i .i64, .b, .b, .i .i64, .i .i64, .sl false [.int .i64], .s, .i .i64, .i .i64, .b, .i .i64], .cells [.i .u8, .i .i64, .i .i64, .i .i64, .i .i64, .b, .b, .i .i64, .i .i64, .sl false [.int .i64], .s, .i .i64, .i .i64, .b, .i .i64]]⟩
def ts13 : List LT := [.i, .i, .i, .i, .i, .i, .b, .b, .i, .i, .l [.int .i64], .s, .i, .i, .b, .i, .i, .i, .i, .i, .i, .b, .b, .i, .i, .l [.int .i64], .s, .i, .i, .b, .i]
def cuts15 : List (List Nat × Cut (Bool)) := [([1, 1, 0, 1, 0], cutG sh15_0 ts13 F15_c0)]
noncomputable def X15 : Px (Bool) := ⟨T, Try.prog, lkF [], mkCuts 15 cuts15, altN, altN_ok, false⟩
theorem k15 : AllCuts X15 8 15 (endK sr15 (toG rb_b)) cuts15 :=
  ⟨cutG_ok (by (repeat intro _); show _ = _; kernel_rfl) (by (repeat intro _); show _ = _; kernel_rfl), trivial⟩
theorem sp15 : SpG T Try.prog 15 rb_b pa15 ts9 sr15 F15 :=
  spG (X := X15) tok (sfok_of trivial) mixed 15 8 cuts15 rfl k15 (by (repeat intro _); show _ = _; kernel_rfl)
theorem ok15 {R : Type} : SFone T Try.prog 15 (run15 : SF R) := okG sp15
def pa21 : List VP := [.sl false [.int .i64, .int .i64, .int .u8, .int .i64, .int .i64, .int .i64, .int .i64, .bool, .bool, .int .i64, .int .i64, .sl [.int .i64], .str, .int .i64, .int .i64, .bool, .int .i64], .agg [.i .u8, .i .i64, .i .i64, .i .i64, .i .i64, .b, .b, .i .i64, .i .i64, .sl false [.int .i64], .s, .i .i64, .i .i64, .b, .i .i64]]
def sr21 : RShape := ⟨.b, [], none⟩
def ts14 : List LT := [.l [.int .i64, .int .i64, .int .u8, .int .i64, .int .i64, .int .i64, .int .i64, .bool, .bool, .int .i64, .int .i64, .sl [.int .i64], .str, .int .i64, .int .i64, .bool, .int .i64], .i, .i, .i, .i, .i, .b, .b, .i, .i, .l [.int .i64], .s, .i, .i, .b, .i]
def run21 {R : Type} : SF R := runG rb_b pa21 ts14 sr21 false (F21 FUEL)
noncomputable def X21 : Px (Bool) := ⟨T, Try.prog, lkF [(30, run30), (31, run31), (35, run35), (34, run34)], mkCuts 21 [], altN, altN_ok, false⟩
theorem sp21 : SpG T Try.prog 21 rb_b pa21 ts14 sr21 F21 :=
  spG (X := X21) tok (sfok_of ⟨ok30, ok31, ok35, ok34, trivial⟩) mixed 21 8 [] rfl trivial (by (repeat intro _); show _ = _; kernel_rfl)
theorem ok21 {R : Type} : SFone T Try.prog 21 (run21 : SF R) := okG sp21
def pa16 : List VP := [.sl false [.int .i64, .int .i64, .int .u8, .int .i64, .int .i64, .int .i64, .int .i64, .bool, .bool, .int .i64, .int .i64, .sl [.int .i64], .str, .int .i64, .int .i64, .bool, .int .i64]]
def sr16 : RShape := ⟨.b, [], none⟩
def run16 {R : Type} : SF R := runG rb_b pa16 ts0 sr16 false (F16 FUEL)
def sh16_0 : Shape := ⟨[(18, [(0, .yield 6), (5, .sl false [.int .i64, .int .i64, .int .u8, .int .i64, .int .i64, .int .i64, .int .i64, .bool, .bool, .int .i64, .int .i64, .sl [.int .i64], .str, .int .i64, .int .i64, .bool, .int .i64]), (6, .i .i64), (7, .i .i64)]), (45, [(1, .ref 0 0), (2, .ref 1 0)])], [.cells [.sl false [.int .i64, .int .i64, .int .u8, .int .i64, .int .i64, .int .i64, .int .i64, .bool, .bool, .int .i64, .int .i64, .sl [.int .i64], .str, .int .i64, .int .i64, .bool, .int .i64]], .cells [.b]]⟩
def ts15 : List LT := [.l [.int .i64, .int .i64, .int .u8, .int .i64, .int .i64, .int .i64, .int .i64, .bool, .bool, .int .i64, .int .i64, .sl [.int .i64], .str, .int .i64, .int .i64, .bool, .int .i64], .i, .i, .l [.int .i64, .int .i64, .int .u8, .int .i64, .int .i64, .int .i64, .int .i64, .bool, .bool, .int .i64, .int .i64, .sl [.int .i64], .str, .int .i64, .int .i64, .bool, .int .i64], .b]
def cuts16 : List (List Nat × Cut (Bool)) := [([1, 1, 0, 1, 0, 98, 1, 0], cutG sh16_0 ts15 F16_c0)]
noncomputable def X16 : Px (Bool) := ⟨T, Try.prog, lkF [(30, run30), (31, run31), (35, run35), (34, run34)], mkCuts 16 cuts16, altN, altN_ok, false⟩
theorem k16 : AllCuts X16 8 16 (endK sr16 (toG rb_b)) cuts16 :=
  ⟨cutG_ok (by (repeat intro _); show _ = _; kernel_rfl) (by (repeat intro _); show _ = _; kernel_rfl), trivial⟩
theorem sp16 : SpG T Try.prog 16 rb_b pa16 ts0 sr16 F16 :=
  spG (X := X16) tok (sfok_of ⟨ok30, ok31, ok35, ok34, trivial⟩) mixed 16 8 cuts16 rfl k16 (by (repeat intro _); show _ = _; kernel_rfl)
theorem ok16 {R : Type} : SFone T Try.prog 16 (run16 : SF R) := okG sp16
def pa23 : List VP := [.sl false [.int .i64, .int .i64, .int .u8, .int .i64, .int .i64, .int .i64, .int .i64, .bool, .bool, .int .i64, .int .i64, .sl [.int .i64], .str, .int .i64, .int .i64, .bool, .int .i64], .sl false [.int .i64, .int .i64, .int .u8, .int .i64, .int .i64, .int .i64, .int .i64, .bool, .bool, .int .i64, .int .i64, .sl [.int .i64], .str, .int .i64, .int .i64, .bool, .int .i64]]
def sr23 : RShape := ⟨.b, [], none⟩
def ts16 : List LT := [.l [.int .i64, .int .i64, .int .u8, .int .i64, .int .i64, .int .i64, .int .i64, .bool, .bool, .int .i64, .int .i64, .sl [.int .i64], .str, .int .i64, .int .i64, .bool, .int .i64], .l [.int .i64, .int .i64, .int .u8, .int .i64, .int .i64, .int .i64, .int .i64, .bool, .bool, .int .i64, .int .i64, .sl [.int .i64], .str, .int .i64, .int .i64, .bool, .int .i64]]
def run23 {R : Type} : SF R := runG rb_b pa23 ts16 sr23 false (F23 FUEL)
def sh23_0 : Shape := ⟨[(18, [(0, .yield 6), (5, .sl false [.int .i64, .int .i64, .int .u8, .int .i64, .int .i64, .int .i64, .int .i64, .bool, .bool, .int .i64, .int .i64, .sl [.int .i64], .str, .int .i64, .int .i64, .bool, .int .i64]), (6, .i .i64), (7, .i .i64)]), (45, [(3, .ref 0 0), (4, .ref 1 0)])], [.cells [.sl false [.int .i64, .int .i64, .int .u8, .int .i64, .int .i64, .int .i64, .int .i64, .bool, .bool, .int .i64, .int .i64, .sl [.int .i64], .str, .int .i64, .int .i64, .bool, .int .i64]], .cells [.b]]⟩
def cuts23 : List (List Nat × Cut (Bool)) := [([1, 1, 0, 1, 0, 98, 1, 0], cutG sh23_0 ts15 F23_c0)]
noncomputable def X23 : Px (Bool) := ⟨T, Try.prog, lkF [(37, run37)], mkCuts 23 cuts23, altN, altN_ok, false⟩
theorem k23 : AllCuts X23 8 23 (endK sr23 (toG rb_b)) cuts23 :=
  ⟨cutG_ok (by (repeat intro _); show _ = _; kernel_rfl) (by (repeat intro _); show _ = _; kernel_rfl), trivial⟩
theorem sp23 : SpG T Try.prog 23 rb_b pa23 ts16 sr23 F23 :=
  spG (X := X23) tok (sfok_of ⟨ok37, trivial⟩) mixed 23 8 cuts23 rfl k23 (by (repeat intro _); show _ = _; kernel_rfl)
theorem ok23 {R : Type} : SFone T Try.prog 23 (run23 : SF R) := okG sp23
def pa10 : List VP := []
def sr10 : RShape := ⟨.b, [], none⟩
def run10 {R : Type} : SF R := runG rb_b pa10 [] sr10 false (F10 FUEL)
def sh10_0 : Shape := ⟨[(95, [(2, .b), (3, .sl true [.int .i64, .int .i64, .int .u8, .int .i64, .int .i64, .int .i64, .int .i64, .bool, .bool, .int .i64, .int .i64, .sl [.int .i64], .str, .int .i64, .int .i64, .bool, .int .i64]), (4, .i .i64)])], []⟩
def ts17 : List LT := [.b, .l [.int .i64, .int .i64, .int .u8, .int .i64, .int .i64, .int .i64, .int .i64, .bool, .bool, .int .i64, .int .i64, .sl [.int .i64], .str, .int .i64, .int .i64, .bool, .int .i64], .i]
def cuts10 : List (List Nat × Cut (Bool)) := [([1, 1, 1, 0, 1, 0], cutG sh10_0 ts17 F10_c0)]
noncomputable def X10 : Px (Bool) := ⟨T, Try.prog, lkF [(13, run13), (29, run29), (27, run27), (19, run19), (11, run11), (15, run15), (21, run21), (16, run16), (24, run24), (23, run23)], mkCuts 10 cuts10, altN, altN_ok, false⟩
theorem k10 : AllCuts X10 8 10 (endK sr10 (toG rb_b)) cuts10 :=
  ⟨cutG_ok (by (repeat intro _); show _ = _; kernel_rfl) (by (repeat intro _); show _ = _; kernel_rfl), trivial⟩
theorem sp10 : SpG T Try.prog 10 rb_b pa10 [] sr10 F10 :=
  spG (X := X10) tok (sfok_of ⟨ok13, ok29, ok27, ok19, ok11, ok15, ok21, ok16, ok24, ok23, trivial⟩) mixed 10 8 cuts10 rfl k10 (by (repeat intro _); show _ = _; kernel_rfl)
theorem ok10 {R : Type} : SFone T Try.prog 10 (run10 : SF R) := okG sp10
def pa33 : List VP := [.agg [.i .u8, .i .i64, .i .i64, .i .i64, .i .i64, .b, .b, .i .i64, .i .i64, .sl false [.int .i64], .s, .i .i64, .i .i64, .b, .i .i64]]
def sr33 : RShape := ⟨.agg [.i .u8, .i .i64, .i .i64, .i .i64, .i .i64, .b, .b, .i .i64, .i .i64, .row 0, .s, .i .i64, .i .i64, .b, .i .i64], [.row true [.int .i64]], none⟩
def run33 {R : Type} : SF R := runG rbSi5b2i2si2bil pa33 ts4 sr33 false (F33 FUEL)
noncomputable def X33 : Px (Si5b2i2si2bil) := ⟨T, Try.prog, lkF [], mkCuts 33 [], altN, altN_ok, false⟩
theorem sp33 : SpG T Try.prog 33 rbSi5b2i2si2bil pa33 ts4 sr33 F33 :=
  spG (X := X33) tok (sfok_of trivial) mixed 33 8 [] rfl trivial (by (repeat intro _); show _ = _; kernel_rfl)
theorem ok33 {R : Type} : SFone T Try.prog 33 (run33 : SF R) := okG sp33
def pa28 : List VP := [.sl false [.int .i64, .int .i64, .int .u8, .int .i64, .int .i64, .int .i64, .int .i64, .bool, .bool, .int .i64, .int .i64, .sl [.int .i64], .str, .int .i64, .int .i64, .bool, .int .i64]]
def sr28 : RShape := ⟨.row 0, [.row true [.int .i64, .int .i64, .int .u8, .int .i64, .int .i64, .int .i64, .int .i64, .bool, .bool, .int .i64, .int .i64, .sl [.int .i64], .str, .int .i64, .int .i64, .bool, .int .i64]], none⟩
def run28 {R : Type} : SF R := runG rb_l_i7b2i2lsi2bi_ pa28 ts0 sr28 false (F28 FUEL)
def sh28_0 : Shape := ⟨[(25, [(0, .sl false [.int .i64, .int .i64, .int .u8, .int .i64, .int .i64, .int .i64, .int .i64, .bool, .bool, .int .i64, .int .i64, .sl [.int .i64], .str, .int .i64, .int .i64, .bool, .int .i64]), (3, .row 0), (4, .i .i64)])], [.row true [.int .i64, .int .i64, .int .u8, .int .i64, .int .i64, .int .i64, .int .i64, .bool, .bool, .int .i64, .int .i64, .sl [.int .i64], .str, .int .i64, .int .i64, .bool, .int .i64]]⟩
def ts18 : List LT := [.l [.int .i64, .int .i64, .int .u8, .int .i64, .int .i64, .int .i64, .int .i64, .bool, .bool, .int .i64, .int .i64, .sl [.int .i64], .str, .int .i64, .int .i64, .bool, .int .i64], .i, .l [.int .i64, .int .i64, .int .u8, .int .i64, .int .i64, .int .i64, .int .i64, .bool, .bool, .int .i64, .int .i64, .sl [.int .i64], .str, .int .i64, .int .i64, .bool, .int .i64]]
def cuts28 : List (List Nat × Cut ((List (Int × Int × Int × Int × Int × Int × Int × Bool × Bool × Int × Int × (List (Int)) × ByteArray × Int × Int × Bool × Int)))) := [([1, 1, 0, 1, 0], cutG sh28_0 ts18 F28_c0)]
noncomputable def X28 : Px ((List (Int × Int × Int × Int × Int × Int × Int × Bool × Bool × Int × Int × (List (Int)) × ByteArray × Int × Int × Bool × Int))) := ⟨T, Try.prog, lkF [(33, run33)], mkCuts 28 cuts28, altN, altN_ok, false⟩
theorem k28 : AllCuts X28 8 28 (endK sr28 (toG rb_l_i7b2i2lsi2bi_)) cuts28 :=
  ⟨cutG_ok (by (repeat intro _); show _ = _; kernel_rfl) (by (repeat intro _); show _ = _; kernel_rfl), trivial⟩
theorem sp28 : SpG T Try.prog 28 rb_l_i7b2i2lsi2bi_ pa28 ts0 sr28 F28 :=
  spG (X := X28) tok (sfok_of ⟨ok33, trivial⟩) mixed 28 8 cuts28 rfl k28 (by (repeat intro _); show _ = _; kernel_rfl)
theorem ok28 {R : Type} : SFone T Try.prog 28 (run28 : SF R) := okG sp28
def pa18 : List VP := [.sl false [.int .i64, .int .i64, .int .u8, .int .i64, .int .i64, .int .i64, .int .i64, .bool, .bool, .int .i64, .int .i64, .sl [.int .i64], .str, .int .i64, .int .i64, .bool, .int .i64], .sl false [.int .i64, .int .i64, .int .u8, .int .i64, .int .i64, .int .i64, .int .i64, .bool, .bool, .int .i64, .int .i64, .sl [.int .i64], .str, .int .i64, .int .i64, .bool, .int .i64]]
def sr18 : RShape := ⟨.b, [], none⟩
def run18 {R : Type} : SF R := runG rb_b pa18 ts16 sr18 false (F18 FUEL)
def sh18_0 : Shape := ⟨[(55, [(0, .sl false [.int .i64, .int .i64, .int .u8, .int .i64, .int .i64, .int .i64, .int .i64, .bool, .bool, .int .i64, .int .i64, .sl [.int .i64], .str, .int .i64, .int .i64, .bool, .int .i64]), (1, .sl false [.int .i64, .int .i64, .int .u8, .int .i64, .int .i64, .int .i64, .int .i64, .bool, .bool, .int .i64, .int .i64, .sl [.int .i64], .str, .int .i64, .int .i64, .bool, .int .i64]), (5, .i .i64)])], []⟩
def ts19 : List LT := [.l [.int .i64, .int .i64, .int .u8, .int .i64, .int .i64, .int .i64, .int .i64, .bool, .bool, .int .i64, .int .i64, .sl [.int .i64], .str, .int .i64, .int .i64, .bool, .int .i64], .l [.int .i64, .int .i64, .int .u8, .int .i64, .int .i64, .int .i64, .int .i64, .bool, .bool, .int .i64, .int .i64, .sl [.int .i64], .str, .int .i64, .int .i64, .bool, .int .i64], .i]
def cuts18 : List (List Nat × Cut (Bool)) := [([1, 1, 0, 1, 0], cutG sh18_0 ts19 F18_c0)]
noncomputable def X18 : Px (Bool) := ⟨T, Try.prog, lkF [(15, run15)], mkCuts 18 cuts18, altN, altN_ok, false⟩
theorem k18 : AllCuts X18 8 18 (endK sr18 (toG rb_b)) cuts18 :=
  ⟨cutG_ok (by (repeat intro _); show _ = _; kernel_rfl) (by (repeat intro _); show _ = _; kernel_rfl), trivial⟩
theorem sp18 : SpG T Try.prog 18 rb_b pa18 ts16 sr18 F18 :=
  spG (X := X18) tok (sfok_of ⟨ok15, trivial⟩) mixed 18 8 cuts18 rfl k18 (by (repeat intro _); show _ = _; kernel_rfl)
theorem ok18 {R : Type} : SFone T Try.prog 18 (run18 : SF R) := okG sp18
def pa7 : List VP := [.sl false [.int .i64, .int .i64, .int .u8, .int .i64, .int .i64, .int .i64, .int .i64, .bool, .bool, .int .i64, .int .i64, .sl [.int .i64], .str, .int .i64, .int .i64, .bool, .int .i64], .sl false [.int .i64, .int .i64, .int .u8, .int .i64, .int .i64, .int .i64, .int .i64, .bool, .bool, .int .i64, .int .i64, .sl [.int .i64], .str, .int .i64, .int .i64, .bool, .int .i64]]
def sr7 : RShape := ⟨.b, [], none⟩
def sh7_0 : Shape := ⟨[(18, [(0, .yield 12), (5, .sl false [.int .i64, .int .i64, .int .u8, .int .i64, .int .i64, .int .i64, .int .i64, .bool, .bool, .int .i64, .int .i64, .sl [.int .i64], .str, .int .i64, .int .i64, .bool, .int .i64]), (6, .i .i64), (7, .i .i64)]), (19, [(3, .ref 0 0)]), (123, [(0, .sl false [.int .i64, .int .i64, .int .u8, .int .i64, .int .i64, .int .i64, .int .i64, .bool, .bool, .int .i64, .int .i64, .sl [.int .i64], .str, .int .i64, .int .i64, .bool, .int .i64]), (1, .sl false [.int .i64, .int .i64, .int .u8, .int .i64, .int .i64, .int .i64, .int .i64, .bool, .bool, .int .i64, .int .i64, .sl [.int .i64], .str, .int .i64, .int .i64, .bool, .int .i64]), (5, .row 1)])], [.cells [.row 2], .row true [.int .i64, .int .i64, .int .u8, .int .i64, .int .i64, .int .i64, .int .i64, .bool, .bool, .int .i64, .int .i64, .sl [.int .i64], .str, .int .i64, .int .i64, .bool, .int .i64], .pv [.int .i64, .int .i64, .int .u8, .int .i64, .int .i64, .int .i64, .int .i64, .bool, .bool, .int .i64, .int .i64, .sl [.int .i64], .str, .int .i64, .int .i64, .bool, .int .i64]]⟩
def sh7_1 : Shape := ⟨[(123, [(0, .sl false [.int .i64, .int .i64, .int .u8, .int .i64, .int .i64, .int .i64, .int .i64, .bool, .bool, .int .i64, .int .i64, .sl [.int .i64], .str, .int .i64, .int .i64, .bool, .int .i64]), (1, .sl false [.int .i64, .int .i64, .int .u8, .int .i64, .int .i64, .int .i64, .int .i64, .bool, .bool, .int .i64, .int .i64, .sl [.int .i64], .str, .int .i64, .int .i64, .bool, .int .i64]), (5, .row 0), (6, .row 1), (7, .i .i64)])], [.row true [.int .i64, .int .i64, .int .u8, .int .i64, .int .i64, .int .i64, .int .i64, .bool, .bool, .int .i64, .int .i64, .sl [.int .i64], .str, .int .i64, .int .i64, .bool, .int .i64], .pv [.int .i64, .int .i64, .int .u8, .int .i64, .int .i64, .int .i64, .int .i64, .bool, .bool, .int .i64, .int .i64, .sl [.int .i64], .str, .int .i64, .int .i64, .bool, .int .i64]]⟩
def sh7_2 : Shape := ⟨[(123, [(0, .sl false [.int .i64, .int .i64, .int .u8, .int .i64, .int .i64, .int .i64, .int .i64, .bool, .bool, .int .i64, .int .i64, .sl [.int .i64], .str, .int .i64, .int .i64, .bool, .int .i64]), (1, .sl false [.int .i64, .int .i64, .int .u8, .int .i64, .int .i64, .int .i64, .int .i64, .bool, .bool, .int .i64, .int .i64, .sl [.int .i64], .str, .int .i64, .int .i64, .bool, .int .i64]), (5, .row 0), (6, .row 1), (7, .i .i64), (8, .i .i64)])], [.row true [.int .i64, .int .i64, .int .u8, .int .i64, .int .i64, .int .i64, .int .i64, .bool, .bool, .int .i64, .int .i64, .sl [.int .i64], .str, .int .i64, .int .i64, .bool, .int .i64], .pv [.int .i64, .int .i64, .int .u8, .int .i64, .int .i64, .int .i64, .int .i64, .bool, .bool, .int .i64, .int .i64, .sl [.int .i64], .str, .int .i64, .int .i64, .bool, .int .i64]]⟩
def sh7_3 : Shape := ⟨[(123, [(0, .sl false [.int .i64, .int .i64, .int .u8, .int .i64, .int .i64, .int .i64, .int .i64, .bool, .bool, .int .i64, .int .i64, .sl [.int .i64], .str, .int .i64, .int .i64, .bool, .int .i64]), (1, .sl false [.int .i64, .int .i64, .int .u8, .int .i64, .int .i64, .int .i64, .int .i64, .bool, .bool, .int .i64, .int .i64, .sl [.int .i64], .str, .int .i64, .int .i64, .bool, .int .i64]), (5, .row 0), (9, .i .i64)])], [.row true [.int .i64, .int .i64, .int .u8, .int .i64, .int .i64, .int .i64, .int .i64, .bool, .bool, .int .i64, .int .i64, .sl [.int .i64], .str, .int .i64, .int .i64, .bool, .int .i64]]⟩
def sh7_4 : Shape := ⟨[(123, [(0, .sl false [.int .i64, .int .i64, .int .u8, .int .i64, .int .i64, .int .i64, .int .i64, .bool, .bool, .int .i64, .int .i64, .sl [.int .i64], .str, .int .i64, .int .i64, .bool, .int .i64]), (1, .sl false [.int .i64, .int .i64, .int .u8, .int .i64, .int .i64, .int .i64, .int .i64, .bool, .bool, .int .i64, .int .i64, .sl [.int .i64], .str, .int .i64, .int .i64, .bool, .int .i64]), (5, .row 0), (9, .i .i64), (10, .ref 1 0), (12, .i .i64)])], [.row true [.int .i64, .int .i64, .int .u8, .int .i64, .int .i64, .int .i64, .int .i64, .bool, .bool, .int .i64, .int .i64, .sl [.int .i64], .str, .int .i64, .int .i64, .bool, .int .i64], .cells [.i .u8, .i .i64, .i .i64, .i .i64, .i .i64, .b, .b, .i .i64, .i .i64, .row 2, .s, .i .i64, .i .i64, .b, .i .i64], .row true [.int .i64]]⟩
def ts20 : List LT := [.l [.int .i64, .int .i64, .int .u8, .int .i64, .int .i64, .int .i64, .int .i64, .bool, .bool, .int .i64, .int .i64, .sl [.int .i64], .str, .int .i64, .int .i64, .bool, .int .i64], .i, .i, .l [.int .i64, .int .i64, .int .u8, .int .i64, .int .i64, .int .i64, .int .i64, .bool, .bool, .int .i64, .int .i64, .sl [.int .i64], .str, .int .i64, .int .i64, .bool, .int .i64], .l [.int .i64, .int .i64, .int .u8, .int .i64, .int .i64, .int .i64, .int .i64, .bool, .bool, .int .i64, .int .i64, .sl [.int .i64], .str, .int .i64, .int .i64, .bool, .int .i64], .l [.int .i64, .int .i64, .int .u8, .int .i64, .int .i64, .int .i64, .int .i64, .bool, .bool, .int .i64, .int .i64, .sl [.int .i64], .str, .int .i64, .int .i64, .bool, .int .i64], .l [.int .i64]]
def ts21 : List LT := [.l [.int .i64, .int .i64, .int .u8, .int .i64, .int .i64, .int .i64, .int .i64, .bool, .bool, .int .i64, .int .i64, .sl [.int .i64], .str, .int .i64, .int .i64, .bool, .int .i64], .l [.int .i64, .int .i64, .int .u8, .int .i64, .int .i64, .int .i64, .int .i64, .bool, .bool, .int .i64, .int .i64, .sl [.int .i64], .str, .int .i64, .int .i64, .bool, .int .i64], .i, .l [.int .i64, .int .i64, .int .u8, .int .i64, .int .i64, .int .i64, .int .i64, .bool, .bool, .int .i64, .int .i64, .sl [.int .i64], .str, .int .i64, .int .i64, .bool, .int .i64], .l [.int .i64]]
def ts22 : List LT := [.l [.int .i64, .int .i64, .int .u8, .int .i64, .int .i64, .int .i64, .int .i64, .bool, .bool, .int .i64, .int .i64, .sl [.int .i64], .str, .int .i64, .int .i64, .bool, .int .i64], .l [.int .i64, .int .i64, .int .u8, .int .i64, .int .i64, .int .i64, .int .i64, .bool, .bool, .int .i64, .int .i64, .sl [.int .i64], .str, .int .i64, .int .i64, .bool, .int .i64], .i, .i, .l [.int .i64, .int .i64, .int .u8, .int .i64, .int .i64, .int .i64, .int .i64, .bool, .bool, .int .i64, .int .i64, .sl [.int .i64], .str, .int .i64, .int .i64, .bool, .int .i64], .l [.int .i64]]
def ts23 : List LT := [.l [.int .i64, .int .i64, .int .u8, .int .i64, .int .i64, .int .i64, .int .i64, .bool, .bool, .int .i64, .int .i64, .sl [.int .i64], .str, .int .i64, .int .i64, .bool, .int .i64], .l [.int .i64, .int .i64, .int .u8, .int .i64, .int .i64, .int .i64, .int .i64, .bool, .bool, .int .i64, .int .i64, .sl [.int .i64], .str, .int .i64, .int .i64, .bool, .int .i64], .i, .l [.int .i64, .int .i64, .int .u8, .int .i64, .int .i64, .int .i64, .int .i64, .bool, .bool, .int .i64, .int .i64, .sl [.int .i64], .str, .int .i64, .int .i64, .bool, .int .i64]]
def ts24 : List LT := [.l [.int .i64, .int .i64, .int .u8, .int .i64, .int .i64, .int .i64, .int .i64, .bool, .bool, .int .i64, .int .i64, .sl [.int .i64], .str, .int .i64, .int .i64, .bool, .int .i64], .l [.int .i64, .int .i64, .int .u8, .int .i64, .int .i64, .int .i64, .int .i64, .bool, .bool, .int .i64, .int .i64, .sl [.int .i64], .str, .int .i64, .int .i64, .bool, .int .i64], .i, .i, .l [.int .i64, .int .i64, .int .u8, .int .i64, .int .i64, .int .i64, .int .i64, .bool, .bool, .int .i64, .int .i64, .sl [.int .i64], .str, .int .i64, .int .i64, .bool, .int .i64], .i, .i, .i, .i, .i, .b, .b, .i, .i, .s, .i, .i, .b, .i, .l [.int .i64]]
def cuts7 : List (List Nat × Cut (Bool)) := [([1, 1, 1, 0, 1, 48, 1, 1, 0, 1, 0, 98, 1, 0], cutG sh7_0 ts20 F7_c0), ([1, 1, 1, 1, 0, 1, 0], cutG sh7_1 ts21 F7_c1), ([1, 1, 1, 1, 0, 1, 0, 0, 1, 0, 0, 0, 1, 0], cutG sh7_2 ts22 F7_c2), ([1, 1, 1, 1, 1, 0, 1, 0], cutG sh7_3 ts23 F7_c3), ([1, 1, 1, 1, 1, 0, 1, 0, 0, 1, 0, 0, 1, 1, 1, 0], cutG sh7_4 ts24 F7_c4)]
noncomputable def X7 : Px (Bool) := ⟨T, Try.prog, lkF [(8, run8), (10, run10), (28, run28), (32, run32), (13, run13), (18, run18), (23, run23)], mkCuts 7 cuts7, altN, altN_ok, true⟩
theorem k7 : AllCuts X7 8 7 (endK sr7 (toG rb_b)) cuts7 :=
  ⟨cutG_ok (by (repeat intro _); show _ = _; kernel_rfl) (by (repeat intro _); show _ = _; kernel_rfl), cutG_ok (by (repeat intro _); show _ = _; kernel_rfl) (by (repeat intro _); show _ = _; kernel_rfl), cutG_ok (by (repeat intro _); show _ = _; kernel_rfl) (by (repeat intro _); show _ = _; kernel_rfl), cutG_ok (by (repeat intro _); show _ = _; kernel_rfl) (by (repeat intro _); show _ = _; kernel_rfl), cutG_ok (by (repeat intro _); show _ = _; kernel_rfl) (by (repeat intro _); show _ = _; kernel_rfl), trivial⟩
theorem sp7 : SpG T Try.prog 7 rb_b pa7 ts16 sr7 F7 :=
  spG (X := X7) tok (sfok_of ⟨ok8, ok10, ok28, ok32, ok13, ok18, ok23, trivial⟩) mixed 7 8 cuts7 rfl k7 (by (repeat intro _); show _ = _; kernel_rfl)
end Go.Proofs.Ytcbhmedknbiffaa
