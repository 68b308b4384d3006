/-
  The functions of this program, evaluated; each is as it is evaluated.
-/
import Derived.Test.YtlcbbjcehaahlaaEvR
import Derived.Test.YtlcbbjcehaahlaaEvY
import Derived.Test.YtlcbbjcehaahlaaVsT
import Derived.KernelRfl
namespace Go.Proofs.Ytlcbbjcehaahlaa
open Go Go.RowKit
set_option maxRecDepth 100000

theorem mixed : Try.prog.follows .mixedOrders = true := by kernel_rfl


/-! ### garland/garlandref15.Great -/
def pa4 : List VP := [.agg [.i .i64, .sl false [.int .i64], .sl false [.int .i64], .i .i64, .i .i64, .i .i64, .i .i64, .i .i64, .i .i64, .i .i64, .i .i64, .i .i64, .i .i64, .i .i64, .i .i64, .i .i64, .i .i64, .i .i64, .i .i64, .i .i64]]
def sr4 : RShape := ⟨.b, [], none⟩
def rb_b : RB (Bool) [.b] := ⟨fun x => x, fun y => (y, ()), fun _ => rfl⟩
def ts0 : List LT := [.i, .l [.int .i64], .l [.int .i64], .i, .i, .i, .i, .i, .i, .i, .i, .i, .i, .i, .i, .i, .i, .i, .i, .i]
def run4 {R : Type} : SF R := runG rb_b pa4 ts0 sr4 false (F4 FUEL)
noncomputable def X4 : Px (Bool) := ⟨T, Try.prog, lkF [], mkCuts 4 [], altN, altN_ok⟩
theorem sp4 : SpG T Try.prog 4 rb_b pa4 ts0 sr4 F4 :=
  spG (X := X4) tok (sfok_of trivial) mixed 4 8 [] rfl trivial (by (repeat intro _); show _ = _; kernel_rfl)
theorem ok4 {R : Type} : SFone T Try.prog 4 (run4 : SF R) := okG sp4

/-! ### garland/garlandref13.place -/
def pa8 : List VP := [.i .i64]
def sr8 : RShape := ⟨.b, [], none⟩
def run8 {R : Type} : SF R := runG rb_b pa8 [.i] sr8 false (F8 FUEL)
noncomputable def X8 : Px (Bool) := ⟨T, Try.prog, lkF [], mkCuts 8 [], altN, altN_ok⟩
theorem sp8 : SpG T Try.prog 8 rb_b pa8 [.i] sr8 F8 :=
  spG (X := X8) tok (sfok_of trivial) mixed 8 8 [] rfl trivial (by (repeat intro _); show _ = _; kernel_rfl)
theorem ok8 {R : Type} : SFone T Try.prog 8 (run8 : SF R) := okG sp8

/-! ### garland/garlandref12.place -/
def pa21 : List VP := [.i .i64]
def sr21 : RShape := ⟨.b, [], none⟩
def run21 {R : Type} : SF R := runG rb_b pa21 [.i] sr21 false (F21 FUEL)
noncomputable def X21 : Px (Bool) := ⟨T, Try.prog, lkF [], mkCuts 21 [], altN, altN_ok⟩
theorem sp21 : SpG T Try.prog 21 rb_b pa21 [.i] sr21 F21 :=
  spG (X := X21) tok (sfok_of trivial) mixed 21 8 [] rfl trivial (by (repeat intro _); show _ = _; kernel_rfl)
theorem ok21 {R : Type} : SFone T Try.prog 21 (run21 : SF R) := okG sp21

/-! ### garland/garlandref03.Place -/
def pa22 : List VP := [.i .i64]
def sr22 : RShape := ⟨.i .i64, [], none⟩
def rb_i : RB (Int) [.i] := ⟨fun x => x, fun y => (y, ()), fun _ => rfl⟩
def run22 {R : Type} : SF R := runG rb_i pa22 [.i] sr22 false (F22 FUEL)
noncomputable def X22 : Px (Int) := ⟨T, Try.prog, lkF [], mkCuts 22 [], altN, altN_ok⟩
theorem sp22 : SpG T Try.prog 22 rb_i pa22 [.i] sr22 F22 :=
  spG (X := X22) tok (sfok_of trivial) mixed 22 8 [] rfl trivial (by (repeat intro _); show _ = _; kernel_rfl)
theorem ok22 {R : Type} : SFone T Try.prog 22 (run22 : SF R) := okG sp22

/-! ### garland/garlandref03.Far -/
def pa43 : List VP := [.i .i64, .i .i64]
def sr43 : RShape := ⟨.i .i64, [], none⟩
def run43 {R : Type} : SF R := runG rb_i pa43 [.i, .i] sr43 false (F43 FUEL)
noncomputable def X43 : Px (Int) := ⟨T, Try.prog, lkF [(22, run22)], mkCuts 43 [], altN, altN_ok⟩
theorem sp43 : SpG T Try.prog 43 rb_i pa43 [.i, .i] sr43 F43 :=
  spG (X := X43) tok (sfok_of ⟨ok22, trivial⟩) mixed 43 8 [] rfl trivial (by (repeat intro _); show _ = _; kernel_rfl)
theorem ok43 {R : Type} : SFone T Try.prog 43 (run43 : SF R) := okG sp43

/-! ### garland/garlandref12.farther -/
def pa23 : List VP := [.i .i64, .i .i64, .i .i64]
def sr23 : RShape := ⟨.b, [], none⟩
def run23 {R : Type} : SF R := runG rb_b pa23 [.i, .i, .i] sr23 false (F23 FUEL)
noncomputable def X23 : Px (Bool) := ⟨T, Try.prog, lkF [(43, run43)], mkCuts 23 [], altN, altN_ok⟩
theorem sp23 : SpG T Try.prog 23 rb_b pa23 [.i, .i, .i] sr23 F23 :=
  spG (X := X23) tok (sfok_of ⟨ok43, trivial⟩) mixed 23 8 [] rfl trivial (by (repeat intro _); show _ = _; kernel_rfl)
theorem ok23 {R : Type} : SFone T Try.prog 23 (run23 : SF R) := okG sp23

/-! ### garland/garlandref12.Right -/
def pa9 : List VP := [.i .i64, .sl false [.int .i64]]
def sr9 : RShape := ⟨.b, [], none⟩
def run9 {R : Type} : SF R := runG rb_b pa9 [.i, .l [.int .i64]] sr9 false (F9 FUEL)
def sh9_0 : Shape := ⟨[(48, [(0, .i .i64), (1, .sl false [.int .i64]), (5, .i .i64)])], []⟩
def cuts9 : List (List Nat × Cut (Bool)) := [([1, 0, 1, 0], cutG sh9_0 [.i, .l [.int .i64], .i] F9_c0)]
noncomputable def X9 : Px (Bool) := ⟨T, Try.prog, lkF [(21, run21), (22, run22), (23, run23)], mkCuts 9 cuts9, altN, altN_ok⟩
theorem k9 : AllCuts X9 8 9 (endK sr9 (toG rb_b)) cuts9 :=
  ⟨cutG_ok (by (repeat intro _); show _ = _; kernel_rfl) (by (repeat intro _); show _ = _; kernel_rfl), trivial⟩
theorem sp9 : SpG T Try.prog 9 rb_b pa9 [.i, .l [.int .i64]] sr9 F9 :=
  spG (X := X9) tok (sfok_of ⟨ok21, ok22, ok23, trivial⟩) mixed 9 8 cuts9 rfl k9 (by (repeat intro _); show _ = _; kernel_rfl)
theorem ok9 {R : Type} : SFone T Try.prog 9 (run9 : SF R) := okG sp9

/-! ### garland/garlandref13.other -/
def pa10 : List VP := [.agg [.i .i64, .sl false [.int .i64], .sl false [.int .i64], .i .i64, .i .i64, .i .i64, .i .i64, .i .i64, .i .i64, .i .i64, .i .i64, .i .i64, .i .i64, .i .i64, .i .i64, .i .i64, .i .i64, .i .i64, .i .i64, .i .i64], .i .i64]
def sr10 : RShape := ⟨.b, [], none⟩
def ts1 : List LT := [.i, .l [.int .i64], .l [.int .i64], .i, .i, .i, .i, .i, .i, .i, .i, .i, .i, .i, .i, .i, .i, .i, .i, .i, .i]
def run10 {R : Type} : SF R := runG rb_b pa10 ts1 sr10 false (F10 FUEL)
noncomputable def X10 : Px (Bool) := ⟨T, Try.prog, lkF [(8, run8)], mkCuts 10 [], altN, altN_ok⟩
theorem sp10 : SpG T Try.prog 10 rb_b pa10 ts1 sr10 F10 :=
  spG (X := X10) tok (sfok_of ⟨ok8, trivial⟩) mixed 10 8 [] rfl trivial (by (repeat intro _); show _ = _; kernel_rfl)
theorem ok10 {R : Type} : SFone T Try.prog 10 (run10 : SF R) := okG sp10

/-! ### garland/garlandref13.Right -/
def pa5 : List VP := [.agg [.i .i64, .sl false [.int .i64], .sl false [.int .i64], .i .i64, .i .i64, .i .i64, .i .i64, .i .i64, .i .i64, .i .i64, .i .i64, .i .i64, .i .i64, .i .i64, .i .i64, .i .i64, .i .i64, .i .i64, .i .i64, .i .i64]]
def sr5 : RShape := ⟨.b, [], none⟩
def run5 {R : Type} : SF R := runG rb_b pa5 ts0 sr5 false (F5 FUEL)
def sh5_0 : Shape := ⟨[(79, [(1, .ref 0 0), (3, .i .i64)])], [.cells [.i .i64, .sl false [.int .i64], .sl false [.int .i64], .i .i64, .i .i64, .i .i64, .i .i64, .i .i64, .i .i64, .i .i64, .i .i64, .i .i64, .i .i64, .i .i64, .i .i64, .i .i64, .i .i64, .i .i64, .i .i64, .i .i64]]⟩
def sh5_1 : Shape := ⟨[(79, [(1, .ref 0 0), (4, .i .i64)])], [.cells [.i .i64, .sl false [.int .i64], .sl false [.int .i64], .i .i64, .i .i64, .i .i64, .i .i64, .i .i64, .i .i64, .i .i64, .i .i64, .i .i64, .i .i64, .i .i64, .i .i64, .i .i64, .i .i64, .i .i64, .i .i64, .i .i64]]⟩
def ts2 : List LT := [.i, .i, .l [.int .i64], .l [.int .i64], .i, .i, .i, .i, .i, .i, .i, .i, .i, .i, .i, .i, .i, .i, .i, .i, .i]
def cuts5 : List (List Nat × Cut (Bool)) := [([1, 1, 0, 1, 0], cutG sh5_0 ts2 F5_c0), ([1, 1, 1, 0, 1, 0], cutG sh5_1 ts2 F5_c1)]
noncomputable def X5 : Px (Bool) := ⟨T, Try.prog, lkF [(8, run8), (9, run9), (10, run10)], mkCuts 5 cuts5, altN, altN_ok⟩
theorem k5 : AllCuts X5 8 5 (endK sr5 (toG rb_b)) cuts5 :=
  ⟨cutG_ok (by (repeat intro _); show _ = _; kernel_rfl) (by (repeat intro _); show _ = _; kernel_rfl), cutG_ok (by (repeat intro _); show _ = _; kernel_rfl) (by (repeat intro _); show _ = _; kernel_rfl), trivial⟩
theorem sp5 : SpG T Try.prog 5 rb_b pa5 ts0 sr5 F5 :=
  spG (X := X5) tok (sfok_of ⟨ok8, ok9, ok10, trivial⟩) mixed 5 8 cuts5 rfl k5 (by (repeat intro _); show _ = _; kernel_rfl)
theorem ok5 {R : Type} : SFone T Try.prog 5 (run5 : SF R) := okG sp5

/-! ### garland/garlandref13.New -/
def pa24 : List VP := [.i .i64, .sl false [.int .i64]]
def sr24 : RShape := ⟨.tup [.agg [.i .i64, .row 0, .nil, .i .i64, .i .i64, .i .i64, .i .i64, .i .i64, .i .i64, .i .i64, .i .i64, .i .i64, .i .i64, .i .i64, .i .i64, .i .i64, .i .i64, .i .i64, .i .i64, .i .i64], .i .i64], [.row true [.int .i64]], none⟩
def rbSi19l : RB (Si19l) [.i, .i, .i, .i, .i, .i, .i, .i, .i, .i, .i, .i, .i, .i, .i, .i, .i, .i, .i, .l [.int .i64]] := ⟨Si19l.mk, fun y => (y.q0, y.q1, y.q2, y.q3, y.q4, y.q5, y.q6, y.q7, y.q8, y.q9, y.q10, y.q11, y.q12, y.q13, y.q14, y.q15, y.q16, y.q17, y.q18, y.q19, ()), fun _ => rfl⟩
def run24 {R : Type} : SF R := runG rbSi19l pa24 [.i, .l [.int .i64]] sr24 false (F24 FUEL)
def sh24_0 : Shape := ⟨[(25, [(4, .ref 0 0), (6, .ref 1 0), (7, .i .i64)])], [.cells [.i .i64, .nil, .nil, .i .i64, .i .i64, .i .i64, .i .i64, .i .i64, .i .i64, .i .i64, .i .i64, .i .i64, .i .i64, .i .i64, .i .i64, .i .i64, .i .i64, .i .i64, .i .i64, .i .i64], .cells [.i .i64, .row 2, .nil, .i .i64, .i .i64, .i .i64, .i .i64, .i .i64, .i .i64, .i .i64, .i .i64, .i .i64, .i .i64, .i .i64, .i .i64, .i .i64, .i .i64, .i .i64, .i .i64, .i .i64], .row true [.int .i64]]⟩
def ts3 : List LT := [.i, .i, .i, .i, .i, .i, .i, .i, .i, .i, .i, .i, .i, .i, .i, .i, .i, .i, .i, .i, .i, .i, .i, .i, .i, .i, .i, .i, .i, .i, .i, .i, .i, .i, .i, .i, .i, .l [.int .i64]]
def cuts24 : List (List Nat × Cut (Si19l)) := [([1, 1, 0, 1, 0], cutG sh24_0 ts3 F24_c0)]
noncomputable def X24 : Px (Si19l) := ⟨T, Try.prog, lkF [(5, run5)], mkCuts 24 cuts24, altN, altN_ok⟩
theorem k24 : AllCuts X24 8 24 (endK sr24 (toG rbSi19l)) cuts24 :=
  ⟨cutG_ok (by (repeat intro _); show _ = _; kernel_rfl) (by (repeat intro _); show _ = _; kernel_rfl), trivial⟩
theorem sp24 : SpG T Try.prog 24 rbSi19l pa24 [.i, .l [.int .i64]] sr24 F24 :=
  spG (X := X24) tok (sfok_of ⟨ok5, trivial⟩) mixed 24 8 cuts24 rfl k24 (by (repeat intro _); show _ = _; kernel_rfl)
theorem ok24 {R : Type} : SFone T Try.prog 24 (run24 : SF R) := okG sp24

/-! ### garland/garlandref13.Own -/
def pa44 : List VP := [.agg [.i .i64, .sl false [.int .i64], .sl false [.int .i64], .i .i64, .i .i64, .i .i64, .i .i64, .i .i64, .i .i64, .i .i64, .i .i64, .i .i64, .i .i64, .i .i64, .i .i64, .i .i64, .i .i64, .i .i64, .i .i64, .i .i64]]
def sr44 : RShape := ⟨.agg [.i .i64, .row 0, .row 1, .i .i64, .i .i64, .i .i64, .i .i64, .i .i64, .i .i64, .i .i64, .i .i64, .i .i64, .i .i64, .i .i64, .i .i64, .i .i64, .i .i64, .i .i64, .i .i64, .i .i64], [.row true [.int .i64], .row true [.int .i64]], none⟩
def rbSi18l2 : RB (Si18l2) [.i, .i, .i, .i, .i, .i, .i, .i, .i, .i, .i, .i, .i, .i, .i, .i, .i, .i, .l [.int .i64], .l [.int .i64]] := ⟨Si18l2.mk, fun y => (y.q0, y.q1, y.q2, y.q3, y.q4, y.q5, y.q6, y.q7, y.q8, y.q9, y.q10, y.q11, y.q12, y.q13, y.q14, y.q15, y.q16, y.q17, y.q18, y.q19, ()), fun _ => rfl⟩
def run44 {R : Type} : SF R := runG rbSi18l2 pa44 ts0 sr44 false (F44 FUEL)
noncomputable def X44 : Px (Si18l2) := ⟨T, Try.prog, lkF [], mkCuts 44 [], altN, altN_ok⟩
theorem sp44 : SpG T Try.prog 44 rbSi18l2 pa44 ts0 sr44 F44 :=
  spG (X := X44) tok (sfok_of trivial) mixed 44 8 [] rfl trivial (by (repeat intro _); show _ = _; kernel_rfl)
theorem ok44 {R : Type} : SFone T Try.prog 44 (run44 : SF R) := okG sp44

/-! ### garland/garlandref13.Listed -/
def pa25 : List VP := [.agg [.i .i64, .sl false [.int .i64], .sl false [.int .i64], .i .i64, .i .i64, .i .i64, .i .i64, .i .i64, .i .i64, .i .i64, .i .i64, .i .i64, .i .i64, .i .i64, .i .i64, .i .i64, .i .i64, .i .i64, .i .i64, .i .i64], .sl false [.int .i64]]
def sr25 : RShape := ⟨.agg [.i .i64, .row 0, .row 1, .i .i64, .i .i64, .i .i64, .i .i64, .i .i64, .i .i64, .i .i64, .i .i64, .i .i64, .i .i64, .i .i64, .i .i64, .i .i64, .i .i64, .i .i64, .i .i64, .i .i64], [.row true [.int .i64], .row true [.int .i64]], none⟩
def ts4 : List LT := [.i, .l [.int .i64], .l [.int .i64], .i, .i, .i, .i, .i, .i, .i, .i, .i, .i, .i, .i, .i, .i, .i, .i, .i, .l [.int .i64]]
def run25 {R : Type} : SF R := runG rbSi18l2 pa25 ts4 sr25 false (F25 FUEL)
noncomputable def X25 : Px (Si18l2) := ⟨T, Try.prog, lkF [(44, run44), (5, run5), (9, run9)], mkCuts 25 [], altN, altN_ok⟩
theorem sp25 : SpG T Try.prog 25 rbSi18l2 pa25 ts4 sr25 F25 :=
  spG (X := X25) tok (sfok_of ⟨ok44, ok5, ok9, trivial⟩) mixed 25 8 [] rfl trivial (by (repeat intro _); show _ = _; kernel_rfl)
theorem ok25 {R : Type} : SFone T Try.prog 25 (run25 : SF R) := okG sp25

/-! ### garland/garlandlaw21.nine -/
def pa11 : List VP := []
def sr11 : RShape := ⟨.agg [.i .i64, .row 0, .row 1, .i .i64, .i .i64, .i .i64, .i .i64, .i .i64, .i .i64, .i .i64, .i .i64, .i .i64, .i .i64, .i .i64, .i .i64, .i .i64, .i .i64, .i .i64, .i .i64, .i .i64], [.row true [.int .i64], .row true [.int .i64]], none⟩
def run11 {R : Type} : SF R := runG rbSi18l2 pa11 [] sr11 false (F11 FUEL)
noncomputable def X11 : Px (Si18l2) := ⟨T, Try.prog, lkF [(24, run24), (25, run25)], mkCuts 11 [], altN, altN_ok⟩
theorem sp11 : SpG T Try.prog 11 rbSi18l2 pa11 [] sr11 F11 :=
  spG (X := X11) tok (sfok_of ⟨ok24, ok25, trivial⟩) mixed 11 8 [] rfl trivial (by (repeat intro _); show _ = _; kernel_rfl)
theorem ok11 {R : Type} : SFone T Try.prog 11 (run11 : SF R) := okG sp11

/-! ### garland/mix.rest -/
def pa82 : List VP := [.i .i64]
def sr82 : RShape := ⟨.i .i64, [], none⟩
def run82 {R : Type} : SF R := runG rb_i pa82 [.i] sr82 false (F82 FUEL)
noncomputable def X82 : Px (Int) := ⟨T, Try.prog, lkF [], mkCuts 82 [], altN, altN_ok⟩
theorem sp82 : SpG T Try.prog 82 rb_i pa82 [.i] sr82 F82 :=
  spG (X := X82) tok (sfok_of trivial) mixed 82 8 [] rfl trivial (by (repeat intro _); show _ = _; kernel_rfl)
theorem ok82 {R : Type} : SFone T Try.prog 82 (run82 : SF R) := okG sp82

/-! ### garland/mix.Next -/
def pa84 : List VP := [.i .i64, .i .u8]
def sr84 : RShape := ⟨.i .i64, [], none⟩
def run84 {R : Type} : SF R := runG rb_i pa84 [.i, .i] sr84 false (F84 FUEL)
noncomputable def X84 : Px (Int) := ⟨T, Try.prog, lkF [(82, run82)], mkCuts 84 [], altN, altN_ok⟩
theorem sp84 : SpG T Try.prog 84 rb_i pa84 [.i, .i] sr84 F84 :=
  spG (X := X84) tok (sfok_of ⟨ok82, trivial⟩) mixed 84 8 [] rfl trivial (by (repeat intro _); show _ = _; kernel_rfl)
theorem ok84 {R : Type} : SFone T Try.prog 84 (run84 : SF R) := okG sp84

/-! ### garland/mix.Go -/
def pa62 : List VP := [.i .i64, .s]
def sr62 : RShape := ⟨.i .i64, [], none⟩
def run62 {R : Type} : SF R := runG rb_i pa62 [.i, .s] sr62 false (F62 FUEL)
def sh62_0 : Shape := ⟨[(16, [(0, .yield 6), (1, .ref 0 0), (5, .i .i64), (6, .i .i64)]), (15, [(2, .ref 1 0)])], [.cells [.s], .cells [.i .i64]]⟩
def cuts62 : List (List Nat × Cut (Int)) := [([1, 1, 0, 1, 0, 190, 1, 0], cutG sh62_0 [.i, .i, .s, .i] F62_c0)]
noncomputable def X62 : Px (Int) := ⟨T, Try.prog, lkF [(82, run82), (84, run84)], mkCuts 62 cuts62, altN, altN_ok⟩
theorem k62 : AllCuts X62 8 62 (endK sr62 (toG rb_i)) cuts62 :=
  ⟨cutG_ok (by (repeat intro _); show _ = _; kernel_rfl) (by (repeat intro _); show _ = _; kernel_rfl), trivial⟩
theorem sp62 : SpG T Try.prog 62 rb_i pa62 [.i, .s] sr62 F62 :=
  spG (X := X62) tok (sfok_of ⟨ok82, ok84, trivial⟩) mixed 62 8 cuts62 rfl k62 (by (repeat intro _); show _ = _; kernel_rfl)
theorem ok62 {R : Type} : SFone T Try.prog 62 (run62 : SF R) := okG sp62

/-! ### garland/mix.Of -/
def pa31 : List VP := [.s]
def sr31 : RShape := ⟨.tup [.i .i64, .i .i64], [], none⟩
def rb_i2 : RB (Int × Int) [.i, .i] := ⟨fun x y => (x, y), fun y => (y.1, y.2, ()), fun _ => rfl⟩
def run31 {R : Type} : SF R := runG rb_i2 pa31 [.s] sr31 false (F31 FUEL)
def sh31_0 : Shape := ⟨[(14, [])], []⟩
def cuts31 : List (List Nat × Cut (Int × Int)) := [([1, 10], cutG sh31_0 [] F31_c0)]
noncomputable def X31 : Px (Int × Int) := ⟨T, Try.prog, lkF [(62, run62)], mkCuts 31 cuts31, altN, altN_ok⟩
theorem k31 : AllCuts X31 8 31 (endK sr31 (toG rb_i2)) cuts31 :=
  ⟨cutG_ok (by (repeat intro _); show _ = _; kernel_rfl) (by (repeat intro _); show _ = _; kernel_rfl), trivial⟩
theorem sp31 : SpG T Try.prog 31 rb_i2 pa31 [.s] sr31 F31 :=
  spG (X := X31) tok (sfok_of ⟨ok62, trivial⟩) mixed 31 8 cuts31 rfl k31 (by (repeat intro _); show _ = _; kernel_rfl)
theorem ok31 {R : Type} : SFone T Try.prog 31 (run31 : SF R) := okG sp31

/-! ### garland/msg.isKey -/
def pa63 : List VP := [.s]
def sr63 : RShape := ⟨.b, [], none⟩
def run63 {R : Type} : SF R := runG rb_b pa63 [.s] sr63 false (F63 FUEL)
noncomputable def X63 : Px (Bool) := ⟨T, Try.prog, lkF [], mkCuts 63 [], altN, altN_ok⟩
theorem sp63 : SpG T Try.prog 63 rb_b pa63 [.s] sr63 F63 :=
  spG (X := X63) tok (sfok_of trivial) mixed 63 8 [] rfl trivial (by (repeat intro _); show _ = _; kernel_rfl)
theorem ok63 {R : Type} : SFone T Try.prog 63 (run63 : SF R) := okG sp63

/-! ### garland/msg.isValue -/
def pa64 : List VP := [.i .i64]
def sr64 : RShape := ⟨.b, [], none⟩
def run64 {R : Type} : SF R := runG rb_b pa64 [.i] sr64 false (F64 FUEL)
noncomputable def X64 : Px (Bool) := ⟨T, Try.prog, lkF [], mkCuts 64 [], altN, altN_ok⟩
theorem sp64 : SpG T Try.prog 64 rb_b pa64 [.i] sr64 F64 :=
  spG (X := X64) tok (sfok_of trivial) mixed 64 8 [] rfl trivial (by (repeat intro _); show _ = _; kernel_rfl)
theorem ok64 {R : Type} : SFone T Try.prog 64 (run64 : SF R) := okG sp64

/-! ### garland/msg.Pair -/
def pa32 : List VP := [.agg [.s, .i .i64, .i .i64, .b]]
def sr32 : RShape := ⟨.b, [], none⟩
def run32 {R : Type} : SF R := runG rb_b pa32 [.s, .i, .i, .b] sr32 false (F32 FUEL)
noncomputable def X32 : Px (Bool) := ⟨T, Try.prog, lkF [(63, run63), (64, run64)], mkCuts 32 [], altN, altN_ok⟩
theorem sp32 : SpG T Try.prog 32 rb_b pa32 [.s, .i, .i, .b] sr32 F32 :=
  spG (X := X32) tok (sfok_of ⟨ok63, ok64, trivial⟩) mixed 32 8 [] rfl trivial (by (repeat intro _); show _ = _; kernel_rfl)
theorem ok32 {R : Type} : SFone T Try.prog 32 (run32 : SF R) := okG sp32

/-! ### garland/job.begun -/
def pa17 : List VP := [.i .u8, .i .i64, .agg [.s, .i .i64, .i .i64, .b]]
def sr17 : RShape := ⟨.tup [.i .i64, .agg [.s, .i .i64, .i .i64, .b], .b], [], none⟩
def rbSisi2b2 : RB (Sisi2b2) [.i, .s, .i, .i, .b, .b] := ⟨Sisi2b2.mk, fun y => (y.q0, y.q1, y.q2, y.q3, y.q4, y.q5, ()), fun _ => rfl⟩
def run17 {R : Type} : SF R := runG rbSisi2b2 pa17 [.i, .i, .s, .i, .i, .b] sr17 false (F17 FUEL)
noncomputable def X17 : Px (Sisi2b2) := ⟨T, Try.prog, lkF [(31, run31), (32, run32)], mkCuts 17 [], altN, altN_ok⟩
theorem sp17 : SpG T Try.prog 17 rbSisi2b2 pa17 [.i, .i, .s, .i, .i, .b] sr17 F17 :=
  spG (X := X17) tok (sfok_of ⟨ok31, ok32, trivial⟩) mixed 17 8 [] rfl trivial (by (repeat intro _); show _ = _; kernel_rfl)
theorem ok17 {R : Type} : SFone T Try.prog 17 (run17 : SF R) := okG sp17

/-! ### garland/view.isPlace -/
def pa33 : List VP := [.i .i64]
def sr33 : RShape := ⟨.b, [], none⟩
def run33 {R : Type} : SF R := runG rb_b pa33 [.i] sr33 false (F33 FUEL)
noncomputable def X33 : Px (Bool) := ⟨T, Try.prog, lkF [], mkCuts 33 [], altN, altN_ok⟩
theorem sp33 : SpG T Try.prog 33 rb_b pa33 [.i] sr33 F33 :=
  spG (X := X33) tok (sfok_of trivial) mixed 33 8 [] rfl trivial (by (repeat intro _); show _ = _; kernel_rfl)
theorem ok33 {R : Type} : SFone T Try.prog 33 (run33 : SF R) := okG sp33

/-! ### garland/view.rightBase -/
def pa34 : List VP := [.sl false [.int .i64]]
def sr34 : RShape := ⟨.b, [], none⟩
def run34 {R : Type} : SF R := runG rb_b pa34 [.l [.int .i64]] sr34 false (F34 FUEL)
def sh34_0 : Shape := ⟨[(37, [(0, .sl false [.int .i64]), (13, .sl false [.int .i64]), (14, .i .i64), (15, .i .i64)])], []⟩
def ts5 : List LT := [.l [.int .i64], .l [.int .i64], .i, .i]
def cuts34 : List (List Nat × Cut (Bool)) := [([1, 1, 0, 1, 0], cutG sh34_0 ts5 F34_c0)]
noncomputable def X34 : Px (Bool) := ⟨T, Try.prog, lkF [(33, run33)], mkCuts 34 cuts34, altN, altN_ok⟩
theorem k34 : AllCuts X34 8 34 (endK sr34 (toG rb_b)) cuts34 :=
  ⟨cutG_ok (by (repeat intro _); show _ = _; kernel_rfl) (by (repeat intro _); show _ = _; kernel_rfl), trivial⟩
theorem sp34 : SpG T Try.prog 34 rb_b pa34 [.l [.int .i64]] sr34 F34 :=
  spG (X := X34) tok (sfok_of ⟨ok33, trivial⟩) mixed 34 8 cuts34 rfl k34 (by (repeat intro _); show _ = _; kernel_rfl)
theorem ok34 {R : Type} : SFone T Try.prog 34 (run34 : SF R) := okG sp34

/-! ### garland/arc.Place -/
def pa37 : List VP := [.i .i64]
def sr37 : RShape := ⟨.i .i64, [], none⟩
def run37 {R : Type} : SF R := runG rb_i pa37 [.i] sr37 false (F37 FUEL)
noncomputable def X37 : Px (Int) := ⟨T, Try.prog, lkF [], mkCuts 37 [], altN, altN_ok⟩
theorem sp37 : SpG T Try.prog 37 rb_i pa37 [.i] sr37 F37 :=
  spG (X := X37) tok (sfok_of trivial) mixed 37 8 [] rfl trivial (by (repeat intro _); show _ = _; kernel_rfl)
theorem ok37 {R : Type} : SFone T Try.prog 37 (run37 : SF R) := okG sp37

/-! ### garland/list.isPlace -/
def pa66 : List VP := [.i .i64]
def sr66 : RShape := ⟨.b, [], none⟩
def run66 {R : Type} : SF R := runG rb_b pa66 [.i] sr66 false (F66 FUEL)
noncomputable def X66 : Px (Bool) := ⟨T, Try.prog, lkF [], mkCuts 66 [], altN, altN_ok⟩
theorem sp66 : SpG T Try.prog 66 rb_b pa66 [.i] sr66 F66 :=
  spG (X := X66) tok (sfok_of trivial) mixed 66 8 [] rfl trivial (by (repeat intro _); show _ = _; kernel_rfl)
theorem ok66 {R : Type} : SFone T Try.prog 66 (run66 : SF R) := okG sp66

/-! ### garland/arc.Far -/
def pa67 : List VP := [.i .i64, .i .i64]
def sr67 : RShape := ⟨.i .i64, [], none⟩
def run67 {R : Type} : SF R := runG rb_i pa67 [.i, .i] sr67 false (F67 FUEL)
noncomputable def X67 : Px (Int) := ⟨T, Try.prog, lkF [(37, run37)], mkCuts 67 [], altN, altN_ok⟩
theorem sp67 : SpG T Try.prog 67 rb_i pa67 [.i, .i] sr67 F67 :=
  spG (X := X67) tok (sfok_of ⟨ok37, trivial⟩) mixed 67 8 [] rfl trivial (by (repeat intro _); show _ = _; kernel_rfl)
theorem ok67 {R : Type} : SFone T Try.prog 67 (run67 : SF R) := okG sp67

/-! ### garland/list.Right -/
def pa35 : List VP := [.i .i64, .sl false [.int .i64]]
def sr35 : RShape := ⟨.b, [], none⟩
def run35 {R : Type} : SF R := runG rb_b pa35 [.i, .l [.int .i64]] sr35 false (F35 FUEL)
def sh35_0 : Shape := ⟨[(21, [(0, .yield 7), (4, .i .i64), (8, .sl false [.int .i64]), (9, .i .i64), (10, .i .i64)]), (29, [(2, .ref 0 0), (4, .ref 1 0)])], [.cells [.i .i64], .cells [.b]]⟩
def cuts35 : List (List Nat × Cut (Bool)) := [([1, 1, 1, 0, 1, 0, 170, 1, 1, 0], cutG sh35_0 [.i, .l [.int .i64], .i, .i, .i, .b] F35_c0)]
noncomputable def X35 : Px (Bool) := ⟨T, Try.prog, lkF [(37, run37), (66, run66), (67, run67)], mkCuts 35 cuts35, altN, altN_ok⟩
theorem k35 : AllCuts X35 8 35 (endK sr35 (toG rb_b)) cuts35 :=
  ⟨cutG_ok (by (repeat intro _); show _ = _; kernel_rfl) (by (repeat intro _); show _ = _; kernel_rfl), trivial⟩
theorem sp35 : SpG T Try.prog 35 rb_b pa35 [.i, .l [.int .i64]] sr35 F35 :=
  spG (X := X35) tok (sfok_of ⟨ok37, ok66, ok67, trivial⟩) mixed 35 8 cuts35 rfl k35 (by (repeat intro _); show _ = _; kernel_rfl)
theorem ok35 {R : Type} : SFone T Try.prog 35 (run35 : SF R) := okG sp35

/-! ### garland/view.Right -/
def pa18 : List VP := [.agg [.i .i64, .sl false [.int .i64], .sl false [.int .i64], .i .i64, .i .i64, .i .i64, .i .i64, .i .i64, .i .i64, .i .i64, .i .i64, .i .i64, .i .i64, .i .i64, .i .i64, .i .i64, .i .i64, .i .i64, .i .i64, .i .i64]]
def sr18 : RShape := ⟨.b, [], none⟩
def run18 {R : Type} : SF R := runG rb_b pa18 ts0 sr18 false (F18 FUEL)
def sh18_0 : Shape := ⟨[(38, [])], []⟩
def sh18_1 : Shape := ⟨[(20, [(0, .yield 7), (11, .agg [.i .i64, .i .i64, .i .i64, .i .i64, .i .i64, .i .i64, .i .i64, .i .i64, .i .i64, .i .i64, .i .i64, .i .i64, .i .i64, .i .i64, .i .i64, .i .i64]), (12, .i .i64)]), (38, [(1, .ref 0 0)])], [.cells [.i .i64, .sl false [.int .i64], .sl false [.int .i64], .i .i64, .i .i64, .i .i64, .i .i64, .i .i64, .i .i64, .i .i64, .i .i64, .i .i64, .i .i64, .i .i64, .i .i64, .i .i64, .i .i64, .i .i64, .i .i64, .i .i64]]⟩
def ts6 : List LT := [.i, .i, .i, .i, .i, .i, .i, .i, .i, .i, .i, .i, .i, .i, .i, .i, .i, .i, .l [.int .i64], .l [.int .i64], .i, .i, .i, .i, .i, .i, .i, .i, .i, .i, .i, .i, .i, .i, .i, .i, .i]
def cuts18 : List (List Nat × Cut (Bool)) := [([1, 10], cutG sh18_0 [] F18_c0), ([1, 0, 1, 0, 1, 0, 136, 1, 1, 0], cutG sh18_1 ts6 F18_c1)]
noncomputable def X18 : Px (Bool) := ⟨T, Try.prog, lkF [(33, run33), (34, run34), (35, run35)], mkCuts 18 cuts18, altN, altN_ok⟩
theorem k18 : AllCuts X18 8 18 (endK sr18 (toG rb_b)) cuts18 :=
  ⟨cutG_ok (by (repeat intro _); show _ = _; kernel_rfl) (by (repeat intro _); show _ = _; kernel_rfl), cutG_ok (by (repeat intro _); show _ = _; kernel_rfl) (by (repeat intro _); show _ = _; kernel_rfl), trivial⟩
theorem sp18 : SpG T Try.prog 18 rb_b pa18 ts0 sr18 F18 :=
  spG (X := X18) tok (sfok_of ⟨ok33, ok34, ok35, trivial⟩) mixed 18 8 cuts18 rfl k18 (by (repeat intro _); show _ = _; kernel_rfl)
theorem ok18 {R : Type} : SFone T Try.prog 18 (run18 : SF R) := okG sp18

/-! ### garland/list.First -/
def pa96 : List VP := [.sl false [.int .i64]]
def sr96 : RShape := ⟨.tup [.i .i64, .b], [], none⟩
def rb_ib : RB (Int × Bool) [.i, .b] := ⟨fun x y => (x, y), fun y => (y.1, y.2, ()), fun _ => rfl⟩
def run96 {R : Type} : SF R := runG rb_ib pa96 [.l [.int .i64]] sr96 false (F96 FUEL)
def sh96_0 : Shape := ⟨[(16, [(0, .yield 5), (5, .sl false [.int .i64]), (6, .i .i64), (7, .i .i64)]), (9, [(2, .ref 0 0), (3, .ref 1 0)])], [.cells [.i .i64], .cells [.b]]⟩
def cuts96 : List (List Nat × Cut (Int × Bool)) := [([1, 0, 1, 0, 204, 1, 0], cutG sh96_0 [.l [.int .i64], .i, .i, .i, .b] F96_c0)]
noncomputable def X96 : Px (Int × Bool) := ⟨T, Try.prog, lkF [], mkCuts 96 cuts96, altN, altN_ok⟩
theorem k96 : AllCuts X96 8 96 (endK sr96 (toG rb_ib)) cuts96 :=
  ⟨cutG_ok (by (repeat intro _); show _ = _; kernel_rfl) (by (repeat intro _); show _ = _; kernel_rfl), trivial⟩
theorem sp96 : SpG T Try.prog 96 rb_ib pa96 [.l [.int .i64]] sr96 F96 :=
  spG (X := X96) tok (sfok_of trivial) mixed 96 8 cuts96 rfl k96 (by (repeat intro _); show _ = _; kernel_rfl)
theorem ok96 {R : Type} : SFone T Try.prog 96 (run96 : SF R) := okG sp96

/-! ### garland/view.anchor -/
def pa97 : List VP := [.agg [.i .i64, .sl false [.int .i64], .sl false [.int .i64], .i .i64, .i .i64, .i .i64, .i .i64, .i .i64, .i .i64, .i .i64, .i .i64, .i .i64, .i .i64, .i .i64, .i .i64, .i .i64, .i .i64, .i .i64, .i .i64, .i .i64]]
def sr97 : RShape := ⟨.i .i64, [], none⟩
def run97 {R : Type} : SF R := runG rb_i pa97 ts0 sr97 false (F97 FUEL)
def sh97_0 : Shape := ⟨[(35, [(1, .ref 0 0), (3, .i .i64), (7, .sl false [.int .i64]), (8, .i .i64), (9, .i .i64)])], [.cells [.i .i64, .sl false [.int .i64], .sl false [.int .i64], .i .i64, .i .i64, .i .i64, .i .i64, .i .i64, .i .i64, .i .i64, .i .i64, .i .i64, .i .i64, .i .i64, .i .i64, .i .i64, .i .i64, .i .i64, .i .i64, .i .i64]]⟩
def ts7 : List LT := [.i, .l [.int .i64], .i, .i, .i, .l [.int .i64], .l [.int .i64], .i, .i, .i, .i, .i, .i, .i, .i, .i, .i, .i, .i, .i, .i, .i, .i, .i]
def cuts97 : List (List Nat × Cut (Int)) := [([1, 1, 0, 1, 0], cutG sh97_0 ts7 F97_c0)]
noncomputable def X97 : Px (Int) := ⟨T, Try.prog, lkF [(67, run67)], mkCuts 97 cuts97, altN, altN_ok⟩
theorem k97 : AllCuts X97 8 97 (endK sr97 (toG rb_i)) cuts97 :=
  ⟨cutG_ok (by (repeat intro _); show _ = _; kernel_rfl) (by (repeat intro _); show _ = _; kernel_rfl), trivial⟩
theorem sp97 : SpG T Try.prog 97 rb_i pa97 ts0 sr97 F97 :=
  spG (X := X97) tok (sfok_of ⟨ok67, trivial⟩) mixed 97 8 cuts97 rfl k97 (by (repeat intro _); show _ = _; kernel_rfl)
theorem ok97 {R : Type} : SFone T Try.prog 97 (run97 : SF R) := okG sp97

/-! ### garland/view.First -/
def pa86 : List VP := [.agg [.i .i64, .sl false [.int .i64], .sl false [.int .i64], .i .i64, .i .i64, .i .i64, .i .i64, .i .i64, .i .i64, .i .i64, .i .i64, .i .i64, .i .i64, .i .i64, .i .i64, .i .i64, .i .i64, .i .i64, .i .i64, .i .i64]]
def sr86 : RShape := ⟨.i .i64, [], none⟩
def run86 {R : Type} : SF R := runG rb_i pa86 ts0 sr86 false (F86 FUEL)
noncomputable def X86 : Px (Int) := ⟨T, Try.prog, lkF [(18, run18), (96, run96), (97, run97)], mkCuts 86 [], altN, altN_ok⟩
theorem sp86 : SpG T Try.prog 86 rb_i pa86 ts0 sr86 F86 :=
  spG (X := X86) tok (sfok_of ⟨ok18, ok96, ok97, trivial⟩) mixed 86 8 [] rfl trivial (by (repeat intro _); show _ = _; kernel_rfl)
theorem ok86 {R : Type} : SFone T Try.prog 86 (run86 : SF R) := okG sp86

/-! ### garland/arc.In -/
def pa98 : List VP := [.i .i64, .i .i64, .i .i64]
def sr98 : RShape := ⟨.b, [], none⟩
def run98 {R : Type} : SF R := runG rb_b pa98 [.i, .i, .i] sr98 false (F98 FUEL)
noncomputable def X98 : Px (Bool) := ⟨T, Try.prog, lkF [(67, run67)], mkCuts 98 [], altN, altN_ok⟩
theorem sp98 : SpG T Try.prog 98 rb_b pa98 [.i, .i, .i] sr98 F98 :=
  spG (X := X98) tok (sfok_of ⟨ok67, trivial⟩) mixed 98 8 [] rfl trivial (by (repeat intro _); show _ = _; kernel_rfl)
theorem ok98 {R : Type} : SFone T Try.prog 98 (run98 : SF R) := okG sp98

/-! ### garland/arc.UpTo -/
def pa87 : List VP := [.i .i64, .i .i64, .i .i64]
def sr87 : RShape := ⟨.b, [], none⟩
def run87 {R : Type} : SF R := runG rb_b pa87 [.i, .i, .i] sr87 false (F87 FUEL)
noncomputable def X87 : Px (Bool) := ⟨T, Try.prog, lkF [(98, run98), (37, run37)], mkCuts 87 [], altN, altN_ok⟩
theorem sp87 : SpG T Try.prog 87 rb_b pa87 [.i, .i, .i] sr87 F87 :=
  spG (X := X87) tok (sfok_of ⟨ok98, ok37, trivial⟩) mixed 87 8 [] rfl trivial (by (repeat intro _); show _ = _; kernel_rfl)
theorem ok87 {R : Type} : SFone T Try.prog 87 (run87 : SF R) := okG sp87

/-! ### garland/hop.Next -/
def pa70 : List VP := [.agg [.i .i64, .sl false [.int .i64], .sl false [.int .i64], .i .i64, .i .i64, .i .i64, .i .i64, .i .i64, .i .i64, .i .i64, .i .i64, .i .i64, .i .i64, .i .i64, .i .i64, .i .i64, .i .i64, .i .i64, .i .i64, .i .i64], .i .i64, .b]
def sr70 : RShape := ⟨.tup [.i .i64, .b], [], none⟩
def ts8 : List LT := [.i, .l [.int .i64], .l [.int .i64], .i, .i, .i, .i, .i, .i, .i, .i, .i, .i, .i, .i, .i, .i, .i, .i, .i, .i, .b]
def run70 {R : Type} : SF R := runG rb_ib pa70 ts8 sr70 false (F70 FUEL)
def sh70_0 : Shape := ⟨[(38, [(0, .yield 10), (1, .ref 0 0), (13, .sl false [.int .i64]), (14, .i .i64), (15, .i .i64)]), (36, [(6, .ref 1 0), (8, .ref 2 0)])], [.cells [.i .i64, .sl false [.int .i64], .sl false [.int .i64], .i .i64, .i .i64, .i .i64, .i .i64, .i .i64, .i .i64, .i .i64, .i .i64, .i .i64, .i .i64, .i .i64, .i .i64, .i .i64, .i .i64, .i .i64, .i .i64, .i .i64], .cells [.i .i64], .cells [.clos 99 [.ref 3 0, .ref 4 0]], .cells [.i .i64], .cells [.i .i64]]⟩
def sh70_1 : Shape := ⟨[(38, [(0, .yield 10), (25, .agg [.i .i64, .i .i64, .i .i64, .i .i64, .i .i64, .i .i64, .i .i64, .i .i64, .i .i64, .i .i64, .i .i64, .i .i64, .i .i64, .i .i64, .i .i64, .i .i64]), (26, .i .i64)]), (36, [(6, .ref 0 0), (8, .ref 1 0)])], [.cells [.i .i64], .cells [.clos 99 [.ref 2 0, .ref 3 0]], .cells [.i .i64], .cells [.i .i64]]⟩
def ts9 : List LT := [.l [.int .i64], .i, .i, .i, .l [.int .i64], .l [.int .i64], .i, .i, .i, .i, .i, .i, .i, .i, .i, .i, .i, .i, .i, .i, .i, .i, .i, .i, .i, .i]
def ts10 : List LT := [.i, .i, .i, .i, .i, .i, .i, .i, .i, .i, .i, .i, .i, .i, .i, .i, .i, .i, .i, .i]
def cuts70 : List (List Nat × Cut (Int × Bool)) := [([1, 1, 1, 1, 1, 1, 0, 1, 0, 200, 1, 0, 1, 0], cutG sh70_0 ts9 F70_c0), ([1, 1, 1, 1, 1, 1, 0, 1, 0, 200, 1, 1, 1, 0], cutG sh70_1 ts10 F70_c1)]
noncomputable def X70 : Px (Int × Bool) := ⟨T, Try.prog, lkF [(18, run18), (86, run86), (87, run87), (98, run98), (67, run67)], mkCuts 70 cuts70, altN, altN_ok⟩
theorem k70 : AllCuts X70 8 70 (endK sr70 (toG rb_ib)) cuts70 :=
  ⟨cutG_ok (by (repeat intro _); show _ = _; kernel_rfl) (by (repeat intro _); show _ = _; kernel_rfl), cutG_ok (by (repeat intro _); show _ = _; kernel_rfl) (by (repeat intro _); show _ = _; kernel_rfl), trivial⟩
theorem sp70 : SpG T Try.prog 70 rb_ib pa70 ts8 sr70 F70 :=
  spG (X := X70) tok (sfok_of ⟨ok18, ok86, ok87, ok98, ok67, trivial⟩) mixed 70 8 cuts70 rfl k70 (by (repeat intro _); show _ = _; kernel_rfl)
theorem ok70 {R : Type} : SFone T Try.prog 70 (run70 : SF R) := okG sp70

/-! ### garland/look.Begin -/
def pa19 : List VP := [.agg [.i .i64, .sl false [.int .i64], .sl false [.int .i64], .i .i64, .i .i64, .i .i64, .i .i64, .i .i64, .i .i64, .i .i64, .i .i64, .i .i64, .i .i64, .i .i64, .i .i64, .i .i64, .i .i64, .i .i64, .i .i64, .i .i64], .i .i64]
def sr19 : RShape := ⟨.agg [.i .i64, .i .i64, .i .i64, .b, .b, .i .i64], [], none⟩
def rbSi3b2i : RB (Si3b2i) [.i, .i, .i, .b, .b, .i] := ⟨Si3b2i.mk, fun y => (y.q0, y.q1, y.q2, y.q3, y.q4, y.q5, ()), fun _ => rfl⟩
def run19 {R : Type} : SF R := runG rbSi3b2i pa19 ts1 sr19 false (F19 FUEL)
noncomputable def X19 : Px (Si3b2i) := ⟨T, Try.prog, lkF [(18, run18), (37, run37), (70, run70)], mkCuts 19 [], altN, altN_ok⟩
theorem sp19 : SpG T Try.prog 19 rbSi3b2i pa19 ts1 sr19 F19 :=
  spG (X := X19) tok (sfok_of ⟨ok18, ok37, ok70, trivial⟩) mixed 19 8 [] rfl trivial (by (repeat intro _); show _ = _; kernel_rfl)
theorem ok19 {R : Type} : SFone T Try.prog 19 (run19 : SF R) := okG sp19

/-! ### garland/look.Over -/
def pa71 : List VP := [.agg [.i .i64, .i .i64, .i .i64, .b, .b, .i .i64]]
def sr71 : RShape := ⟨.b, [], none⟩
def run71 {R : Type} : SF R := runG rb_b pa71 [.i, .i, .i, .b, .b, .i] sr71 false (F71 FUEL)
noncomputable def X71 : Px (Bool) := ⟨T, Try.prog, lkF [], mkCuts 71 [], altN, altN_ok⟩
theorem sp71 : SpG T Try.prog 71 rb_b pa71 [.i, .i, .i, .b, .b, .i] sr71 F71 :=
  spG (X := X71) tok (sfok_of trivial) mixed 71 8 [] rfl trivial (by (repeat intro _); show _ = _; kernel_rfl)
theorem ok71 {R : Type} : SFone T Try.prog 71 (run71 : SF R) := okG sp71

/-! ### garland/look.isPlace -/
def pa90 : List VP := [.i .i64]
def sr90 : RShape := ⟨.b, [], none⟩
def run90 {R : Type} : SF R := runG rb_b pa90 [.i] sr90 false (F90 FUEL)
noncomputable def X90 : Px (Bool) := ⟨T, Try.prog, lkF [], mkCuts 90 [], altN, altN_ok⟩
theorem sp90 : SpG T Try.prog 90 rb_b pa90 [.i] sr90 F90 :=
  spG (X := X90) tok (sfok_of trivial) mixed 90 8 [] rfl trivial (by (repeat intro _); show _ = _; kernel_rfl)
theorem ok90 {R : Type} : SFone T Try.prog 90 (run90 : SF R) := okG sp90

/-! ### garland/look.Right -/
def pa72 : List VP := [.agg [.i .i64, .i .i64, .i .i64, .b, .b, .i .i64]]
def sr72 : RShape := ⟨.b, [], none⟩
def run72 {R : Type} : SF R := runG rb_b pa72 [.i, .i, .i, .b, .b, .i] sr72 false (F72 FUEL)
noncomputable def X72 : Px (Bool) := ⟨T, Try.prog, lkF [(90, run90)], mkCuts 72 [], altN, altN_ok⟩
theorem sp72 : SpG T Try.prog 72 rb_b pa72 [.i, .i, .i, .b, .b, .i] sr72 F72 :=
  spG (X := X72) tok (sfok_of ⟨ok90, trivial⟩) mixed 72 8 [] rfl trivial (by (repeat intro _); show _ = _; kernel_rfl)
theorem ok72 {R : Type} : SFone T Try.prog 72 (run72 : SF R) := okG sp72

/-! ### garland/look.Ask -/
def pa39 : List VP := [.agg [.i .i64, .i .i64, .i .i64, .b, .b, .i .i64]]
def sr39 : RShape := ⟨.tup [.agg [.i .u8, .i .i64, .i .i64, .i .i64, .i .i64, .b, .b, .i .i64, .i .i64, .nil, .s, .i .i64, .i .i64, .b, .i .i64], .b], [], none⟩
def rbSi5b2i2si2bib : RB (Si5b2i2si2bib) [.i, .i, .i, .i, .i, .b, .b, .i, .i, .s, .i, .i, .b, .i, .b] := ⟨Si5b2i2si2bib.mk, fun y => (y.q0, y.q1, y.q2, y.q3, y.q4, y.q5, y.q6, y.q7, y.q8, y.q9, y.q10, y.q11, y.q12, y.q13, y.q14, ()), fun _ => rfl⟩
def run39 {R : Type} : SF R := runG rbSi5b2i2si2bib pa39 [.i, .i, .i, .b, .b, .i] sr39 false (F39 FUEL)
noncomputable def X39 : Px (Si5b2i2si2bib) := ⟨T, Try.prog, lkF [(71, run71), (72, run72)], mkCuts 39 [], altN, altN_ok⟩
theorem sp39 : SpG T Try.prog 39 rbSi5b2i2si2bib pa39 [.i, .i, .i, .b, .b, .i] sr39 F39 :=
  spG (X := X39) tok (sfok_of ⟨ok71, ok72, trivial⟩) mixed 39 8 [] rfl trivial (by (repeat intro _); show _ = _; kernel_rfl)
theorem ok39 {R : Type} : SFone T Try.prog 39 (run39 : SF R) := okG sp39

/-! ### slices.Index[[]int,int] -/
def pa93 : List VP := [.sl false [.int .i64], .i .i64]
def sr93 : RShape := ⟨.i .i64, [], none⟩
def run93 {R : Type} : SF R := runG rb_i pa93 [.l [.int .i64], .i] sr93 false (F93 FUEL)
def sh93_0 : Shape := ⟨[(19, [(0, .sl false [.int .i64]), (1, .i .i64), (7, .i .i64), (8, .i .i64)])], []⟩
def cuts93 : List (List Nat × Cut (Int)) := [([1, 0, 1, 0], cutG sh93_0 [.l [.int .i64], .i, .i, .i] F93_c0)]
noncomputable def X93 : Px (Int) := ⟨T, Try.prog, lkF [], mkCuts 93 cuts93, altN, altN_ok⟩
theorem k93 : AllCuts X93 8 93 (endK sr93 (toG rb_i)) cuts93 :=
  ⟨cutG_ok (by (repeat intro _); show _ = _; kernel_rfl) (by (repeat intro _); show _ = _; kernel_rfl), trivial⟩
theorem sp93 : SpG T Try.prog 93 rb_i pa93 [.l [.int .i64], .i] sr93 F93 :=
  spG (X := X93) tok (sfok_of trivial) mixed 93 8 cuts93 rfl k93 (by (repeat intro _); show _ = _; kernel_rfl)
theorem ok93 {R : Type} : SFone T Try.prog 93 (run93 : SF R) := okG sp93

/-! ### slices.Contains[[]int,int] -/
def pa79 : List VP := [.sl false [.int .i64], .i .i64]
def sr79 : RShape := ⟨.b, [], none⟩
def run79 {R : Type} : SF R := runG rb_b pa79 [.l [.int .i64], .i] sr79 false (F79 FUEL)
noncomputable def X79 : Px (Bool) := ⟨T, Try.prog, lkF [(93, run93)], mkCuts 79 [], altN, altN_ok⟩
theorem sp79 : SpG T Try.prog 79 rb_b pa79 [.l [.int .i64], .i] sr79 F79 :=
  spG (X := X79) tok (sfok_of ⟨ok93, trivial⟩) mixed 79 8 [] rfl trivial (by (repeat intro _); show _ = _; kernel_rfl)
theorem ok79 {R : Type} : SFone T Try.prog 79 (run79 : SF R) := okG sp79

/-! ### garland/job.Begin -/
def pa7 : List VP := [.agg [.i .i64, .sl false [.int .i64], .sl false [.int .i64], .i .i64, .i .i64, .i .i64, .i .i64, .i .i64, .i .i64, .i .i64, .i .i64, .i .i64, .i .i64, .i .i64, .i .i64, .i .i64, .i .i64, .i .i64, .i .i64, .i .i64], .i .u8, .i .i64, .agg [.s, .i .i64, .i .i64, .b]]
def sr7 : RShape := ⟨.tup [.agg [.i .u8, .i .u8, .i .i64, .i .i64, .i .i64, .b, .b, .i .i64, .s, .i .i64, .i .i64, .b, .i .i64, .row 0, .i .i64], .row 1, .b], [.row true [.int .i64], .row true [.int .u8, .int .i64, .int .i64, .int .i64, .int .i64, .bool, .bool, .int .i64, .int .i64, .sl [.int .i64], .str, .int .i64, .int .i64, .bool, .int .i64]], none⟩
def rbSi5b2isi2bi2bll_i5b2i2lsi2bi_ : RB (Si5b2isi2bi2bll_i5b2i2lsi2bi_) [.i, .i, .i, .i, .i, .b, .b, .i, .s, .i, .i, .b, .i, .i, .b, .l [.int .i64], .l [.int .u8, .int .i64, .int .i64, .int .i64, .int .i64, .bool, .bool, .int .i64, .int .i64, .sl [.int .i64], .str, .int .i64, .int .i64, .bool, .int .i64]] := ⟨Si5b2isi2bi2bll_i5b2i2lsi2bi_.mk, fun y => (y.q0, y.q1, y.q2, y.q3, y.q4, y.q5, y.q6, y.q7, y.q8, y.q9, y.q10, y.q11, y.q12, y.q13, y.q14, y.q15, y.q16, ()), fun _ => rfl⟩
def ts11 : List LT := [.i, .l [.int .i64], .l [.int .i64], .i, .i, .i, .i, .i, .i, .i, .i, .i, .i, .i, .i, .i, .i, .i, .i, .i, .i, .i, .s, .i, .i, .b]
def run7 {R : Type} : SF R := runG rbSi5b2isi2bi2bll_i5b2i2lsi2bi_ pa7 ts11 sr7 false (F7 FUEL)
def sh7_0 : Shape := ⟨[(136, [(0, .ref 0 0)]), (49, [(8, .ref 1 0), (14, .ref 0 0)])], [.cells [.i .i64, .sl false [.int .i64], .sl false [.int .i64], .i .i64, .i .i64, .i .i64, .i .i64, .i .i64, .i .i64, .i .i64, .i .i64, .i .i64, .i .i64, .i .i64, .i .i64, .i .i64, .i .i64, .i .i64, .i .i64, .i .i64, .i .u8, .i .u8, .i .i64, .i .i64, .i .i64, .b, .b, .i .i64, .s, .i .i64, .i .i64, .b, .i .i64, .nil, .i .i64, .nil, .b], .cells [.i .u8, .i .u8, .i .i64, .i .i64, .i .i64, .b, .b, .i .i64, .s, .i .i64, .i .i64, .b, .i .i64, .nil, .i .i64]]⟩
def sh7_1 : Shape := ⟨[(136, [(0, .ref 0 0), (2, .ref 0 20)]), (49, [(8, .ref 1 0), (14, .ref 0 0)])], [.cells [.i .i64, .sl false [.int .i64], .sl false [.int .i64], .i .i64, .i .i64, .i .i64, .i .i64, .i .i64, .i .i64, .i .i64, .i .i64, .i .i64, .i .i64, .i .i64, .i .i64, .i .i64, .i .i64, .i .i64, .i .i64, .i .i64, .i .u8, .i .u8, .i .i64, .i .i64, .i .i64, .b, .b, .i .i64, .s, .i .i64, .i .i64, .b, .i .i64, .nil, .i .i64, .nil, .b], .cells [.i .u8, .i .u8, .i .i64, .i .i64, .i .i64, .b, .b, .i .i64, .s, .i .i64, .i .i64, .b, .i .i64, .nil, .i .i64]]⟩
def sh7_2 : Shape := ⟨[(136, [(0, .ref 0 0), (2, .ref 0 20)]), (49, [(8, .ref 1 0), (14, .ref 0 0)])], [.cells [.i .i64, .sl false [.int .i64], .sl false [.int .i64], .i .i64, .i .i64, .i .i64, .i .i64, .i .i64, .i .i64, .i .i64, .i .i64, .i .i64, .i .i64, .i .i64, .i .i64, .i .i64, .i .i64, .i .i64, .i .i64, .i .i64, .i .u8, .i .u8, .i .i64, .i .i64, .i .i64, .b, .b, .i .i64, .s, .i .i64, .i .i64, .b, .i .i64, .nil, .i .i64, .nil, .b], .cells [.i .u8, .i .u8, .i .i64, .i .i64, .i .i64, .b, .b, .i .i64, .s, .i .i64, .i .i64, .b, .i .i64, .nil, .i .i64]]⟩
def sh7_3 : Shape := ⟨[(32, [(0, .yield 29), (1, .ref 0 0), (12, .rsub 1), (13, .i .i64), (14, .i .i64)]), (61, [(3, .ref 2 0), (6, .ref 3 0)]), (136, [(136, .b)]), (49, [(8, .ref 4 0), (14, .ref 5 0)])], [.cells [.rsub 1], .row true [.int .i64], .cells [.ref 5 0], .cells [.ref 5 20], .cells [.i .u8, .i .u8, .i .i64, .i .i64, .i .i64, .b, .b, .i .i64, .s, .i .i64, .i .i64, .b, .i .i64, .nil, .i .i64], .cells [.i .i64, .sl false [.int .i64], .sl false [.int .i64], .i .i64, .i .i64, .i .i64, .i .i64, .i .i64, .i .i64, .i .i64, .i .i64, .i .i64, .i .i64, .i .i64, .i .i64, .i .i64, .i .i64, .i .i64, .i .i64, .i .i64, .i .u8, .i .u8, .i .i64, .i .i64, .i .i64, .b, .b, .i .i64, .s, .i .i64, .i .i64, .b, .i .i64, .row 6, .i .i64, .row 7, .b], .row true [.int .i64], .row true [.int .u8, .int .i64, .int .i64, .int .i64, .int .i64, .bool, .bool, .int .i64, .int .i64, .sl [.int .i64], .str, .int .i64, .int .i64, .bool, .int .i64]]⟩
def ts12 : List LT := [.i, .l [.int .i64], .l [.int .i64], .i, .i, .i, .i, .i, .i, .i, .i, .i, .i, .i, .i, .i, .i, .i, .i, .i, .i, .i, .i, .i, .i, .b, .b, .i, .s, .i, .i, .b, .i, .i, .b, .i, .i, .i, .i, .i, .b, .b, .i, .s, .i, .i, .b, .i, .i]
def ts13 : List LT := [.n, .n, .i, .i, .b, .n, .n, .l [.int .i64], .i, .i, .i, .i, .i, .b, .b, .i, .s, .i, .i, .b, .i, .i, .i, .l [.int .i64], .l [.int .i64], .i, .i, .i, .i, .i, .i, .i, .i, .i, .i, .i, .i, .i, .i, .i, .i, .i, .i, .i, .i, .i, .i, .b, .b, .i, .s, .i, .i, .b, .i, .i, .b, .l [.int .i64], .l [.int .u8, .int .i64, .int .i64, .int .i64, .int .i64, .bool, .bool, .int .i64, .int .i64, .sl [.int .i64], .str, .int .i64, .int .i64, .bool, .int .i64]]
def cuts7 : List (List Nat × Cut (Si5b2isi2bi2bll_i5b2i2lsi2bi_)) := [([1, 1, 1, 1, 1, 0, 0, 40, 10], cutG sh7_0 ts12 F7_c0), ([1, 1, 1, 1, 1, 0, 0, 40, 11], cutG sh7_1 ts12 F7_c1), ([1, 1, 1, 1, 1, 0, 0, 40, 12], cutG sh7_2 ts12 F7_c2), ([1, 1, 1, 1, 1, 0, 0, 40, 11, 0, 1, 1, 0, 0, 1, 1, 1, 0, 0, 10, 82, 1, 1, 1, 1, 0, 1, 0, 182, 1, 1, 0], cutG sh7_3 ts13 F7_c3)]
noncomputable def X7 : Px (Si5b2isi2bi2bll_i5b2i2lsi2bi_) := ⟨T, Try.prog, lkF [(17, run17), (18, run18), (19, run19), (39, run39), (79, run79)], mkCuts 7 cuts7, altN, altN_ok⟩
theorem k7 : AllCuts X7 8 7 (endK sr7 (toG rbSi5b2isi2bi2bll_i5b2i2lsi2bi_)) cuts7 :=
  ⟨cutG_ok (by (repeat intro _); show _ = _; kernel_rfl) (by (repeat intro _); show _ = _; kernel_rfl), cutG_ok (by (repeat intro _); show _ = _; kernel_rfl) (by (repeat intro _); show _ = _; kernel_rfl), cutG_ok (by (repeat intro _); show _ = _; kernel_rfl) (by (repeat intro _); show _ = _; kernel_rfl), cutG_ok (by (repeat intro _); show _ = _; kernel_rfl) (by (repeat intro _); show _ = _; kernel_rfl), trivial⟩
theorem sp7 : SpG T Try.prog 7 rbSi5b2isi2bi2bll_i5b2i2lsi2bi_ pa7 ts11 sr7 F7 :=
  spG (X := X7) tok (sfok_of ⟨ok17, ok18, ok19, ok39, ok79, trivial⟩) mixed 7 8 cuts7 rfl k7 (by (repeat intro _); show _ = _; kernel_rfl)
theorem ok7 {R : Type} : SFone T Try.prog 7 (run7 : SF R) := okG sp7

/-! ### garland/garlandlaw21.said -/
def pa13 : List VP := [.i .u8, .i .i64, .i .i64, .b, .i .i64]
def sr13 : RShape := ⟨.agg [.i .u8, .i .i64, .i .i64, .i .i64, .i .i64, .b, .b, .i .i64, .i .i64, .row 0, .s, .i .i64, .i .i64, .b, .i .i64], [.row true [.int .i64]], none⟩
def rbSi5b2i2si2bil : RB (Si5b2i2si2bil) [.i, .i, .i, .i, .i, .b, .b, .i, .i, .s, .i, .i, .b, .i, .l [.int .i64]] := ⟨Si5b2i2si2bil.mk, fun y => (y.q0, y.q1, y.q2, y.q3, y.q4, y.q5, y.q6, y.q7, y.q8, y.q9, y.q10, y.q11, y.q12, y.q13, y.q14, ()), fun _ => rfl⟩
def run13 {R : Type} : SF R := runG rbSi5b2i2si2bil pa13 [.i, .i, .i, .b, .i] sr13 false (F13 FUEL)
noncomputable def X13 : Px (Si5b2i2si2bil) := ⟨T, Try.prog, lkF [], mkCuts 13 [], altN, altN_ok⟩
theorem sp13 : SpG T Try.prog 13 rbSi5b2i2si2bil pa13 [.i, .i, .i, .b, .i] sr13 F13 :=
  spG (X := X13) tok (sfok_of trivial) mixed 13 8 [] rfl trivial (by (repeat intro _); show _ = _; kernel_rfl)
theorem ok13 {R : Type} : SFone T Try.prog 13 (run13 : SF R) := okG sp13

/-! ### slices.Clone[[]int,int] -/
def pa30 : List VP := [.sl false [.int .i64]]
def sr30 : RShape := ⟨.row 0, [.row true [.int .i64]], none⟩
def rb_l : RB ((List (Int))) [.l [.int .i64]] := ⟨fun x => x, fun y => (y, ()), fun _ => rfl⟩
def run30 {R : Type} : SF R := runG rb_l pa30 [.l [.int .i64]] sr30 false (F30 FUEL)
noncomputable def X30 : Px ((List (Int))) := ⟨T, Try.prog, lkF [], mkCuts 30 [], altE, altE_ok⟩
theorem sp30 : SpG T Try.prog 30 rb_l pa30 [.l [.int .i64]] sr30 F30 :=
  spG (X := X30) tok (sfok_of trivial) mixed 30 8 [] rfl trivial (by (repeat intro _); show _ = _; kernel_rfl)
theorem ok30 {R : Type} : SFone T Try.prog 30 (run30 : SF R) := okG sp30

/-! ### garland/job.Own -/
def pa16 : List VP := [.agg [.i .u8, .i .u8, .i .i64, .i .i64, .i .i64, .b, .b, .i .i64, .s, .i .i64, .i .i64, .b, .i .i64, .sl false [.int .i64], .i .i64]]
def sr16 : RShape := ⟨.agg [.i .u8, .i .u8, .i .i64, .i .i64, .i .i64, .b, .b, .i .i64, .s, .i .i64, .i .i64, .b, .i .i64, .row 0, .i .i64], [.row true [.int .i64]], none⟩
def rbSi5b2isi2bi2l : RB (Si5b2isi2bi2l) [.i, .i, .i, .i, .i, .b, .b, .i, .s, .i, .i, .b, .i, .i, .l [.int .i64]] := ⟨Si5b2isi2bi2l.mk, fun y => (y.q0, y.q1, y.q2, y.q3, y.q4, y.q5, y.q6, y.q7, y.q8, y.q9, y.q10, y.q11, y.q12, y.q13, y.q14, ()), fun _ => rfl⟩
def ts14 : List LT := [.i, .i, .i, .i, .i, .b, .b, .i, .s, .i, .i, .b, .i, .l [.int .i64], .i]
def run16 {R : Type} : SF R := runG rbSi5b2isi2bi2l pa16 ts14 sr16 true (F16 FUEL)
noncomputable def X16 : Px (Si5b2isi2bi2l) := ⟨T, Try.prog, lkF [(30, run30)], mkCuts 16 [], altN, altN_ok⟩
theorem sp16 : SpG T Try.prog 16 rbSi5b2isi2bi2l pa16 ts14 sr16 F16 :=
  spG (X := X16) tok (sfok_of ⟨ok30, trivial⟩) mixed 16 8 [] rfl trivial (by (repeat intro _); show _ = _; kernel_rfl)
theorem ok16 {R : Type} : SFone T Try.prog 16 (run16 : SF R) := okG sp16

/-! ### garland/msg.apart -/
def pa74 : List VP := [.i .i64, .sl false [.int .i64]]
def sr74 : RShape := ⟨.b, [], none⟩
def run74 {R : Type} : SF R := runG rb_b pa74 [.i, .l [.int .i64]] sr74 false (F74 FUEL)
def sh74_0 : Shape := ⟨[(25, [(0, .i .i64), (1, .sl false [.int .i64]), (7, .sl false [.int .i64]), (8, .i .i64), (9, .i .i64)])], []⟩
def ts15 : List LT := [.i, .l [.int .i64], .l [.int .i64], .i, .i]
def cuts74 : List (List Nat × Cut (Bool)) := [([1, 0, 1, 0], cutG sh74_0 ts15 F74_c0)]
noncomputable def X74 : Px (Bool) := ⟨T, Try.prog, lkF [(79, run79)], mkCuts 74 cuts74, altN, altN_ok⟩
theorem k74 : AllCuts X74 8 74 (endK sr74 (toG rb_b)) cuts74 :=
  ⟨cutG_ok (by (repeat intro _); show _ = _; kernel_rfl) (by (repeat intro _); show _ = _; kernel_rfl), trivial⟩
theorem sp74 : SpG T Try.prog 74 rb_b pa74 [.i, .l [.int .i64]] sr74 F74 :=
  spG (X := X74) tok (sfok_of ⟨ok79, trivial⟩) mixed 74 8 cuts74 rfl k74 (by (repeat intro _); show _ = _; kernel_rfl)
theorem ok74 {R : Type} : SFone T Try.prog 74 (run74 : SF R) := okG sp74

/-! ### garland/msg.holds -/
def pa45 : List VP := [.agg [.i .u8, .i .i64, .i .i64, .i .i64, .i .i64, .b, .b, .i .i64, .i .i64, .sl false [.int .i64], .s, .i .i64, .i .i64, .b, .i .i64]]
def sr45 : RShape := ⟨.b, [], none⟩
def ts16 : List LT := [.i, .i, .i, .i, .i, .b, .b, .i, .i, .l [.int .i64], .s, .i, .i, .b, .i]
def run45 {R : Type} : SF R := runG rb_b pa45 ts16 sr45 false (F45 FUEL)
noncomputable def X45 : Px (Bool) := ⟨T, Try.prog, lkF [(32, run32), (63, run63), (74, run74)], mkCuts 45 [], altN, altN_ok⟩
theorem sp45 : SpG T Try.prog 45 rb_b pa45 ts16 sr45 F45 :=
  spG (X := X45) tok (sfok_of ⟨ok32, ok63, ok74, trivial⟩) mixed 45 8 [] rfl trivial (by (repeat intro _); show _ = _; kernel_rfl)
theorem ok45 {R : Type} : SFone T Try.prog 45 (run45 : SF R) := okG sp45

/-! ### garland/msg.isPlace -/
def pa47 : List VP := [.i .i64]
def sr47 : RShape := ⟨.b, [], none⟩
def run47 {R : Type} : SF R := runG rb_b pa47 [.i] sr47 false (F47 FUEL)
noncomputable def X47 : Px (Bool) := ⟨T, Try.prog, lkF [], mkCuts 47 [], altN, altN_ok⟩
theorem sp47 : SpG T Try.prog 47 rb_b pa47 [.i] sr47 F47 :=
  spG (X := X47) tok (sfok_of trivial) mixed 47 8 [] rfl trivial (by (repeat intro _); show _ = _; kernel_rfl)
theorem ok47 {R : Type} : SFone T Try.prog 47 (run47 : SF R) := okG sp47

/-! ### garland/msg.Asks -/
def pa76 : List VP := [.agg [.i .u8, .i .i64, .i .i64, .i .i64, .i .i64, .b, .b, .i .i64, .i .i64, .sl false [.int .i64], .s, .i .i64, .i .i64, .b, .i .i64]]
def sr76 : RShape := ⟨.b, [], none⟩
def run76 {R : Type} : SF R := runG rb_b pa76 ts16 sr76 false (F76 FUEL)
noncomputable def X76 : Px (Bool) := ⟨T, Try.prog, lkF [], mkCuts 76 [], altN, altN_ok⟩
theorem sp76 : SpG T Try.prog 76 rb_b pa76 ts16 sr76 F76 :=
  spG (X := X76) tok (sfok_of trivial) mixed 76 8 [] rfl trivial (by (repeat intro _); show _ = _; kernel_rfl)
theorem ok76 {R : Type} : SFone T Try.prog 76 (run76 : SF R) := okG sp76

/-! ### garland/msg.Asker -/
def pa49 : List VP := [.agg [.i .u8, .i .i64, .i .i64, .i .i64, .i .i64, .b, .b, .i .i64, .i .i64, .sl false [.int .i64], .s, .i .i64, .i .i64, .b, .i .i64]]
def sr49 : RShape := ⟨.i .i64, [], none⟩
def run49 {R : Type} : SF R := runG rb_i pa49 ts16 sr49 false (F49 FUEL)
noncomputable def X49 : Px (Int) := ⟨T, Try.prog, lkF [(76, run76)], mkCuts 49 [], altN, altN_ok⟩
theorem sp49 : SpG T Try.prog 49 rb_i pa49 ts16 sr49 F49 :=
  spG (X := X49) tok (sfok_of ⟨ok76, trivial⟩) mixed 49 8 [] rfl trivial (by (repeat intro _); show _ = _; kernel_rfl)
theorem ok49 {R : Type} : SFone T Try.prog 49 (run49 : SF R) := okG sp49

/-! ### garland/msg.isCall -/
def pa48 : List VP := [.i .i64, .i .i64]
def sr48 : RShape := ⟨.b, [], none⟩
def run48 {R : Type} : SF R := runG rb_b pa48 [.i, .i] sr48 false (F48 FUEL)
noncomputable def X48 : Px (Bool) := ⟨T, Try.prog, lkF [], mkCuts 48 [], altN, altN_ok⟩
theorem sp48 : SpG T Try.prog 48 rb_b pa48 [.i, .i] sr48 F48 :=
  spG (X := X48) tok (sfok_of trivial) mixed 48 8 [] rfl trivial (by (repeat intro _); show _ = _; kernel_rfl)
theorem ok48 {R : Type} : SFone T Try.prog 48 (run48 : SF R) := okG sp48

/-! ### garland/msg.beside -/
def pa51 : List VP := [.agg [.i .u8, .i .i64, .i .i64, .i .i64, .i .i64, .b, .b, .i .i64, .i .i64, .opq 0, .s, .i .i64, .i .i64, .b, .i .i64]]
def sr51 : RShape := ⟨.agg [.i .u8, .i .i64, .i .i64, .i .i64, .i .i64, .b, .b, .i .i64, .i .i64, .opq 0, .s, .i .i64, .i .i64, .b, .i .i64], [], some (.agg [.i .u8, .i .i64, .i .i64, .i .i64, .i .i64, .b, .b, .i .i64, .i .i64, .nil, .s, .i .i64, .i .i64, .b, .i .i64])⟩
def rbSbi5b2i2si2bi : RB (Sbi5b2i2si2bi) [.b, .i, .i, .i, .i, .i, .b, .b, .i, .i, .s, .i, .i, .b, .i] := ⟨Sbi5b2i2si2bi.mk, fun y => (y.q0, y.q1, y.q2, y.q3, y.q4, y.q5, y.q6, y.q7, y.q8, y.q9, y.q10, y.q11, y.q12, y.q13, y.q14, ()), fun _ => rfl⟩
def ts17 : List LT := [.i, .i, .i, .i, .i, .b, .b, .i, .i, .s, .i, .i, .b, .i]
def run51 {R : Type} : SF R := runG rbSbi5b2i2si2bi pa51 ts17 sr51 false (F51 FUEL)
noncomputable def X51 : Px (Sbi5b2i2si2bi) := ⟨T, Try.prog, lkF [], mkCuts 51 [], altN, altN_ok⟩
theorem sp51 : SpG T Try.prog 51 rbSbi5b2i2si2bi pa51 ts17 sr51 F51 :=
  spG (X := X51) tok (sfok_of trivial) mixed 51 8 [] rfl trivial (by (repeat intro _); show _ = _; kernel_rfl)
theorem ok51 {R : Type} : SFone T Try.prog 51 (run51 : SF R) := okG sp51

/-! ### slices.Equal[[]int,int] -/
def pa29 : List VP := [.sl false [.int .i64], .sl false [.int .i64]]
def sr29 : RShape := ⟨.b, [], none⟩
def run29 {R : Type} : SF R := runG rb_b pa29 [.l [.int .i64], .l [.int .i64]] sr29 false (F29 FUEL)
def sh29_0 : Shape := ⟨[(26, [(0, .sl false [.int .i64]), (1, .sl false [.int .i64]), (12, .i .i64), (13, .i .i64)])], []⟩
def cuts29 : List (List Nat × Cut (Bool)) := [([1, 1, 0, 1, 0], cutG sh29_0 ts5 F29_c0)]
noncomputable def X29 : Px (Bool) := ⟨T, Try.prog, lkF [], mkCuts 29 cuts29, altN, altN_ok⟩
theorem k29 : AllCuts X29 8 29 (endK sr29 (toG rb_b)) cuts29 :=
  ⟨cutG_ok (by (repeat intro _); show _ = _; kernel_rfl) (by (repeat intro _); show _ = _; kernel_rfl), trivial⟩
theorem sp29 : SpG T Try.prog 29 rb_b pa29 [.l [.int .i64], .l [.int .i64]] sr29 F29 :=
  spG (X := X29) tok (sfok_of trivial) mixed 29 8 cuts29 rfl k29 (by (repeat intro _); show _ = _; kernel_rfl)
theorem ok29 {R : Type} : SFone T Try.prog 29 (run29 : SF R) := okG sp29

/-! ### garland/msg.Same -/
def pa50 : List VP := [.agg [.i .u8, .i .i64, .i .i64, .i .i64, .i .i64, .b, .b, .i .i64, .i .i64, .sl false [.int .i64], .s, .i .i64, .i .i64, .b, .i .i64], .agg [.i .u8, .i .i64, .i .i64, .i .i64, .i .i64, .b, .b, .i .i64, .i .i64, .sl false [.int .i64], .s, .i .i64, .i .i64, .b, .i .i64]]
def sr50 : RShape := ⟨.b, [], none⟩
def ts18 : List LT := [.i, .i, .i, .i, .i, .b, .b, .i, .i, .l [.int .i64], .s, .i, .i, .b, .i, .i, .i, .i, .i, .i, .b, .b, .i, .i, .l [.int .i64], .s, .i, .i, .b, .i]
def run50 {R : Type} : SF R := runG rb_b pa50 ts18 sr50 false (F50 FUEL)
noncomputable def X50 : Px (Bool) := ⟨T, Try.prog, lkF [(29, run29)], mkCuts 50 [], altN, altN_ok⟩
theorem sp50 : SpG T Try.prog 50 rb_b pa50 ts18 sr50 F50 :=
  spG (X := X50) tok (sfok_of ⟨ok29, trivial⟩) mixed 50 8 [] rfl trivial (by (repeat intro _); show _ = _; kernel_rfl)
theorem ok50 {R : Type} : SFone T Try.prog 50 (run50 : SF R) := okG sp50

/-! ### garland/msg.Right -/
def pa26 : List VP := [.agg [.i .u8, .i .i64, .i .i64, .i .i64, .i .i64, .b, .b, .i .i64, .i .i64, .sl false [.int .i64], .s, .i .i64, .i .i64, .b, .i .i64]]
def sr26 : RShape := ⟨.b, [], none⟩
def run26 {R : Type} : SF R := runG rb_b pa26 ts16 sr26 false (F26 FUEL)
def sh26_0 : Shape := ⟨[(40, [])], []⟩
def sh26_1 : Shape := ⟨[(55, [(0, .yield 7), (44, .sl false [.int .i64]), (45, .i .i64), (46, .i .i64)]), (40, [(1, .ref 0 0)])], [.cells [.i .u8, .i .i64, .i .i64, .i .i64, .i .i64, .b, .b, .i .i64, .i .i64, .sl false [.int .i64], .s, .i .i64, .i .i64, .b, .i .i64]]⟩
def ts19 : List LT := [.l [.int .i64], .i, .i, .i, .i, .i, .i, .i, .b, .b, .i, .i, .l [.int .i64], .s, .i, .i, .b, .i]
def cuts26 : List (List Nat × Cut (Bool)) := [([1, 10], cutG sh26_0 [] F26_c0), ([1, 0, 1, 0, 1, 0, 150, 1, 1, 0, 1, 1, 1, 1, 1, 0, 1, 1, 0], cutG sh26_1 ts19 F26_c1)]
noncomputable def X26 : Px (Bool) := ⟨T, Try.prog, lkF [(45, run45), (47, run47), (49, run49), (48, run48), (51, run51), (50, run50)], mkCuts 26 cuts26, altN, altN_ok⟩
theorem k26 : AllCuts X26 8 26 (endK sr26 (toG rb_b)) cuts26 :=
  ⟨cutG_ok (by (repeat intro _); show _ = _; kernel_rfl) (by (repeat intro _); show _ = _; kernel_rfl), cutG_ok (by (repeat intro _); show _ = _; kernel_rfl) (by (repeat intro _); show _ = _; kernel_rfl), trivial⟩
theorem sp26 : SpG T Try.prog 26 rb_b pa26 ts16 sr26 F26 :=
  spG (X := X26) tok (sfok_of ⟨ok45, ok47, ok49, ok48, ok51, ok50, trivial⟩) mixed 26 8 cuts26 rfl k26 (by (repeat intro _); show _ = _; kernel_rfl)
theorem ok26 {R : Type} : SFone T Try.prog 26 (run26 : SF R) := okG sp26

/-! ### garland/look.hopped -/
def pa78 : List VP := [.agg [.i .i64, .i .i64, .i .i64, .b, .b, .i .i64]]
def sr78 : RShape := ⟨.tup [.agg [.i .i64, .i .i64, .i .i64, .b, .b, .i .i64], .b], [], none⟩
def rbSi3b2ib : RB (Si3b2ib) [.i, .i, .i, .b, .b, .i, .b] := ⟨Si3b2ib.mk, fun y => (y.q0, y.q1, y.q2, y.q3, y.q4, y.q5, y.q6, ()), fun _ => rfl⟩
def run78 {R : Type} : SF R := runG rbSi3b2ib pa78 [.i, .i, .i, .b, .b, .i] sr78 false (F78 FUEL)
noncomputable def X78 : Px (Si3b2ib) := ⟨T, Try.prog, lkF [], mkCuts 78 [], altN, altN_ok⟩
theorem sp78 : SpG T Try.prog 78 rbSi3b2ib pa78 [.i, .i, .i, .b, .b, .i] sr78 F78 :=
  spG (X := X78) tok (sfok_of trivial) mixed 78 8 [] rfl trivial (by (repeat intro _); show _ = _; kernel_rfl)
theorem ok78 {R : Type} : SFone T Try.prog 78 (run78 : SF R) := okG sp78

/-! ### garland/look.Told -/
def pa53 : List VP := [.agg [.i .i64, .sl false [.int .i64], .sl false [.int .i64], .i .i64, .i .i64, .i .i64, .i .i64, .i .i64, .i .i64, .i .i64, .i .i64, .i .i64, .i .i64, .i .i64, .i .i64, .i .i64, .i .i64, .i .i64, .i .i64, .i .i64], .agg [.i .i64, .i .i64, .i .i64, .b, .b, .i .i64], .agg [.i .u8, .i .i64, .i .i64, .i .i64, .i .i64, .b, .b, .i .i64, .i .i64, .sl false [.int .i64], .s, .i .i64, .i .i64, .b, .i .i64]]
def sr53 : RShape := ⟨.agg [.i .i64, .i .i64, .i .i64, .b, .b, .i .i64], [], none⟩
def ts20 : List LT := [.i, .l [.int .i64], .l [.int .i64], .i, .i, .i, .i, .i, .i, .i, .i, .i, .i, .i, .i, .i, .i, .i, .i, .i, .i, .i, .i, .b, .b, .i, .i, .i, .i, .i, .i, .b, .b, .i, .i, .l [.int .i64], .s, .i, .i, .b, .i]
def run53 {R : Type} : SF R := runG rbSi3b2i pa53 ts20 sr53 false (F53 FUEL)
def sh53_0 : Shape := ⟨[(55, [(4, .ref 0 0), (6, .ref 1 0)])], [.cells [.i .i64, .i .i64, .i .i64, .b, .b, .i .i64], .cells [.i .i64, .i .i64, .i .i64, .b, .b, .i .i64]]⟩
def ts21 : List LT := [.i, .i, .i, .b, .b, .i, .i, .i, .i, .b, .b, .i]
def cuts53 : List (List Nat × Cut (Si3b2i)) := [([1, 10], cutG sh53_0 ts21 F53_c0)]
noncomputable def X53 : Px (Si3b2i) := ⟨T, Try.prog, lkF [(18, run18), (72, run72), (71, run71), (26, run26), (78, run78), (70, run70)], mkCuts 53 cuts53, altN, altN_ok⟩
theorem k53 : AllCuts X53 8 53 (endK sr53 (toG rbSi3b2i)) cuts53 :=
  ⟨cutG_ok (by (repeat intro _); show _ = _; kernel_rfl) (by (repeat intro _); show _ = _; kernel_rfl), trivial⟩
theorem sp53 : SpG T Try.prog 53 rbSi3b2i pa53 ts20 sr53 F53 :=
  spG (X := X53) tok (sfok_of ⟨ok18, ok72, ok71, ok26, ok78, ok70, trivial⟩) mixed 53 8 cuts53 rfl k53 (by (repeat intro _); show _ = _; kernel_rfl)
theorem ok53 {R : Type} : SFone T Try.prog 53 (run53 : SF R) := okG sp53

/-! ### garland/job.Told -/
def pa12 : List VP := [.agg [.i .i64, .sl false [.int .i64], .sl false [.int .i64], .i .i64, .i .i64, .i .i64, .i .i64, .i .i64, .i .i64, .i .i64, .i .i64, .i .i64, .i .i64, .i .i64, .i .i64, .i .i64, .i .i64, .i .i64, .i .i64, .i .i64], .agg [.i .u8, .i .u8, .i .i64, .i .i64, .i .i64, .b, .b, .i .i64, .s, .i .i64, .i .i64, .b, .i .i64, .sl false [.int .i64], .i .i64], .agg [.i .u8, .i .i64, .i .i64, .i .i64, .i .i64, .b, .b, .i .i64, .i .i64, .sl false [.int .i64], .s, .i .i64, .i .i64, .b, .i .i64]]
def sr12 : RShape := ⟨.tup [.agg [.i .u8, .i .u8, .i .i64, .i .i64, .i .i64, .b, .b, .i .i64, .s, .i .i64, .i .i64, .b, .i .i64, .sl true [.int .i64], .i .i64], .row 0, .b], [.row true [.int .u8, .int .i64, .int .i64, .int .i64, .int .i64, .bool, .bool, .int .i64, .int .i64, .sl [.int .i64], .str, .int .i64, .int .i64, .bool, .int .i64]], none⟩
def rbSi5b2isi2bilibl_i5b2i2lsi2bi_ : RB (Si5b2isi2bilibl_i5b2i2lsi2bi_) [.i, .i, .i, .i, .i, .b, .b, .i, .s, .i, .i, .b, .i, .l [.int .i64], .i, .b, .l [.int .u8, .int .i64, .int .i64, .int .i64, .int .i64, .bool, .bool, .int .i64, .int .i64, .sl [.int .i64], .str, .int .i64, .int .i64, .bool, .int .i64]] := ⟨Si5b2isi2bilibl_i5b2i2lsi2bi_.mk, fun y => (y.q0, y.q1, y.q2, y.q3, y.q4, y.q5, y.q6, y.q7, y.q8, y.q9, y.q10, y.q11, y.q12, y.q13, y.q14, y.q15, y.q16, ()), fun _ => rfl⟩
def ts22 : List LT := [.i, .l [.int .i64], .l [.int .i64], .i, .i, .i, .i, .i, .i, .i, .i, .i, .i, .i, .i, .i, .i, .i, .i, .i, .i, .i, .i, .i, .i, .b, .b, .i, .s, .i, .i, .b, .i, .l [.int .i64], .i, .i, .i, .i, .i, .i, .b, .b, .i, .i, .l [.int .i64], .s, .i, .i, .b, .i]
def run12 {R : Type} : SF R := runG rbSi5b2isi2bilibl_i5b2i2lsi2bi_ pa12 ts22 sr12 false (F12 FUEL)
def sh12_0 : Shape := ⟨[(136, [(0, .ref 0 0)]), (32, []), (46, [(6, .ref 1 0), (9, .ref 0 0)])], [.cells [.i .i64, .sl false [.int .i64], .sl false [.int .i64], .i .i64, .i .i64, .i .i64, .i .i64, .i .i64, .i .i64, .i .i64, .i .i64, .i .i64, .i .i64, .i .i64, .i .i64, .i .i64, .i .i64, .i .i64, .i .i64, .i .i64, .i .u8, .i .u8, .i .i64, .i .i64, .i .i64, .b, .b, .i .i64, .s, .i .i64, .i .i64, .b, .i .i64, .row 2, .i .i64, .nil, .b], .cells [.i .u8, .i .u8, .i .i64, .i .i64, .i .i64, .b, .b, .i .i64, .s, .i .i64, .i .i64, .b, .i .i64, .nil, .i .i64], .row true [.int .i64]]⟩
def sh12_1 : Shape := ⟨[(136, [(0, .ref 0 0), (2, .ref 0 20)]), (32, []), (46, [(6, .ref 1 0), (9, .ref 0 0)])], [.cells [.i .i64, .sl false [.int .i64], .sl false [.int .i64], .i .i64, .i .i64, .i .i64, .i .i64, .i .i64, .i .i64, .i .i64, .i .i64, .i .i64, .i .i64, .i .i64, .i .i64, .i .i64, .i .i64, .i .i64, .i .i64, .i .i64, .i .u8, .i .u8, .i .i64, .i .i64, .i .i64, .b, .b, .i .i64, .s, .i .i64, .i .i64, .b, .i .i64, .row 2, .i .i64, .nil, .b], .cells [.i .u8, .i .u8, .i .i64, .i .i64, .i .i64, .b, .b, .i .i64, .s, .i .i64, .i .i64, .b, .i .i64, .nil, .i .i64], .row true [.int .i64]]⟩
def sh12_2 : Shape := ⟨[(32, [(0, .yield 23), (1, .ref 0 0), (12, .rsub 1), (13, .i .i64), (14, .i .i64)]), (61, [(3, .ref 2 0), (6, .ref 3 0)]), (24, [(24, .b)]), (46, [(6, .ref 4 0), (9, .ref 5 0)])], [.cells [.rsub 1], .row true [.int .i64], .cells [.ref 5 0], .cells [.ref 5 20], .cells [.i .u8, .i .u8, .i .i64, .i .i64, .i .i64, .b, .b, .i .i64, .s, .i .i64, .i .i64, .b, .i .i64, .nil, .i .i64], .cells [.i .i64, .sl false [.int .i64], .sl false [.int .i64], .i .i64, .i .i64, .i .i64, .i .i64, .i .i64, .i .i64, .i .i64, .i .i64, .i .i64, .i .i64, .i .i64, .i .i64, .i .i64, .i .i64, .i .i64, .i .i64, .i .i64, .i .u8, .i .u8, .i .i64, .i .i64, .i .i64, .b, .b, .i .i64, .s, .i .i64, .i .i64, .b, .i .i64, .row 6, .i .i64, .row 7, .b], .row true [.int .i64], .row true [.int .u8, .int .i64, .int .i64, .int .i64, .int .i64, .bool, .bool, .int .i64, .int .i64, .sl [.int .i64], .str, .int .i64, .int .i64, .bool, .int .i64]]⟩
def sh12_3 : Shape := ⟨[(19, [(0, .row 0), (1, .clos 81 [.ref 1 0]), (7, .i .i64), (8, .i .i64)]), (42, [(0, .row 0), (1, .clos 81 [.ref 1 0])]), (40, [(0, .ref 2 0), (2, .i .i64), (6, .ref 2 20), (17, .ref 2 20)]), (12, []), (46, [(6, .ref 3 0), (9, .ref 2 0)])], [.row true [.int .i64], .cells [.i .i64], .cells [.i .i64, .sl false [.int .i64], .sl false [.int .i64], .i .i64, .i .i64, .i .i64, .i .i64, .i .i64, .i .i64, .i .i64, .i .i64, .i .i64, .i .i64, .i .i64, .i .i64, .i .i64, .i .i64, .i .i64, .i .i64, .i .i64, .i .u8, .i .u8, .i .i64, .i .i64, .i .i64, .b, .b, .i .i64, .s, .i .i64, .i .i64, .b, .i .i64, .row 0, .i .i64, .nil, .b], .cells [.i .u8, .i .u8, .i .i64, .i .i64, .i .i64, .b, .b, .i .i64, .s, .i .i64, .i .i64, .b, .i .i64, .nil, .i .i64]]⟩
def sh12_4 : Shape := ⟨[(136, [(0, .ref 0 0), (2, .ref 0 20)]), (32, []), (46, [(6, .ref 1 0), (9, .ref 0 0)])], [.cells [.i .i64, .sl false [.int .i64], .sl false [.int .i64], .i .i64, .i .i64, .i .i64, .i .i64, .i .i64, .i .i64, .i .i64, .i .i64, .i .i64, .i .i64, .i .i64, .i .i64, .i .i64, .i .i64, .i .i64, .i .i64, .i .i64, .i .u8, .i .u8, .i .i64, .i .i64, .i .i64, .b, .b, .i .i64, .s, .i .i64, .i .i64, .b, .i .i64, .row 2, .i .i64, .nil, .b], .cells [.i .u8, .i .u8, .i .i64, .i .i64, .i .i64, .b, .b, .i .i64, .s, .i .i64, .i .i64, .b, .i .i64, .nil, .i .i64], .row true [.int .i64]]⟩
def sh12_5 : Shape := ⟨[(32, [(0, .yield 37), (1, .ref 0 0), (12, .rsub 1), (13, .i .i64), (14, .i .i64)]), (61, [(3, .ref 2 0), (6, .ref 3 0)]), (136, [(136, .b)]), (32, []), (46, [(6, .ref 4 0), (9, .ref 5 0)])], [.cells [.rsub 1], .row true [.int .i64], .cells [.ref 5 0], .cells [.ref 5 20], .cells [.i .u8, .i .u8, .i .i64, .i .i64, .i .i64, .b, .b, .i .i64, .s, .i .i64, .i .i64, .b, .i .i64, .nil, .i .i64], .cells [.i .i64, .sl false [.int .i64], .sl false [.int .i64], .i .i64, .i .i64, .i .i64, .i .i64, .i .i64, .i .i64, .i .i64, .i .i64, .i .i64, .i .i64, .i .i64, .i .i64, .i .i64, .i .i64, .i .i64, .i .i64, .i .i64, .i .u8, .i .u8, .i .i64, .i .i64, .i .i64, .b, .b, .i .i64, .s, .i .i64, .i .i64, .b, .i .i64, .row 6, .i .i64, .row 7, .b], .row true [.int .i64], .row true [.int .u8, .int .i64, .int .i64, .int .i64, .int .i64, .bool, .bool, .int .i64, .int .i64, .sl [.int .i64], .str, .int .i64, .int .i64, .bool, .int .i64]]⟩
def sh12_6 : Shape := ⟨[(42, [(0, .row 0), (1, .clos 81 [.ref 1 0]), (5, .i .i64), (6, .i .i64)]), (40, [(0, .ref 2 0), (2, .i .i64), (6, .ref 2 20), (17, .ref 2 20)]), (12, []), (46, [(6, .ref 3 0), (9, .ref 2 0)])], [.row true [.int .i64], .cells [.i .i64], .cells [.i .i64, .sl false [.int .i64], .sl false [.int .i64], .i .i64, .i .i64, .i .i64, .i .i64, .i .i64, .i .i64, .i .i64, .i .i64, .i .i64, .i .i64, .i .i64, .i .i64, .i .i64, .i .i64, .i .i64, .i .i64, .i .i64, .i .u8, .i .u8, .i .i64, .i .i64, .i .i64, .b, .b, .i .i64, .s, .i .i64, .i .i64, .b, .i .i64, .row 0, .i .i64, .nil, .b], .cells [.i .u8, .i .u8, .i .i64, .i .i64, .i .i64, .b, .b, .i .i64, .s, .i .i64, .i .i64, .b, .i .i64, .nil, .i .i64]]⟩
def ts23 : List LT := [.i, .l [.int .i64], .l [.int .i64], .i, .i, .i, .i, .i, .i, .i, .i, .i, .i, .i, .i, .i, .i, .i, .i, .i, .i, .i, .i, .i, .i, .b, .b, .i, .s, .i, .i, .b, .i, .i, .b, .i, .i, .i, .i, .i, .b, .b, .i, .s, .i, .i, .b, .i, .i, .l [.int .i64]]
def ts24 : List LT := [.i, .i, .i, .l [.int .i64], .i, .i, .l [.int .i64], .l [.int .i64], .i, .i, .i, .i, .i, .i, .i, .i, .i, .i, .i, .i, .i, .i, .i, .i, .i, .i, .i, .i, .i, .i, .b, .b, .i, .s, .i, .i, .b, .i, .i, .b, .i, .i, .i, .i, .i, .b, .b, .i, .s, .i, .i, .b, .i, .i]
def cuts12 : List (List Nat × Cut (Si5b2isi2bilibl_i5b2i2lsi2bi_)) := [([1, 1, 0, 1, 0, 1, 1, 0, 2, 104, 1, 1, 0, 1, 1, 40, 10], cutG sh12_0 ts23 F12_c0), ([1, 1, 0, 1, 0, 1, 1, 0, 2, 104, 1, 1, 0, 1, 1, 40, 11], cutG sh12_1 ts23 F12_c1), ([1, 1, 0, 1, 0, 1, 1, 0, 2, 108, 1, 1, 0, 7, 82, 1, 1, 1, 1, 0, 1, 0, 182, 1, 1, 0], cutG sh12_2 ts13 F12_c2), ([1, 1, 0, 1, 0, 1, 1, 0, 2, 110, 1, 1, 0, 5, 112, 1, 1, 1, 0, 6, 160, 1, 0, 2, 188, 1, 0, 1, 0], cutG sh12_3 ts24 F12_c3), ([1, 1, 0, 1, 0, 1, 1, 0, 2, 104, 1, 1, 0, 1, 1, 40, 12], cutG sh12_4 ts23 F12_c4), ([1, 1, 0, 1, 0, 1, 1, 0, 2, 104, 1, 1, 0, 1, 1, 40, 11, 0, 1, 1, 0, 0, 1, 1, 1, 0, 0, 10, 82, 1, 1, 1, 1, 0, 1, 0, 182, 1, 1, 0], cutG sh12_5 ts13 F12_c5), ([1, 1, 0, 1, 0, 1, 1, 0, 2, 110, 1, 1, 0, 5, 112, 1, 1, 1, 0, 6, 160, 1, 1, 1, 0, 1, 0], cutG sh12_6 ts24 F12_c6)]
noncomputable def X12 : Px (Si5b2isi2bilibl_i5b2i2lsi2bi_) := ⟨T, Try.prog, lkF [(16, run16), (18, run18), (26, run26), (53, run53), (39, run39), (79, run79)], mkCuts 12 cuts12, altN, altN_ok⟩
theorem k12 : AllCuts X12 8 12 (endK sr12 (toG rbSi5b2isi2bilibl_i5b2i2lsi2bi_)) cuts12 :=
  ⟨cutG_ok (by (repeat intro _); show _ = _; kernel_rfl) (by (repeat intro _); show _ = _; kernel_rfl), cutG_ok (by (repeat intro _); show _ = _; kernel_rfl) (by (repeat intro _); show _ = _; kernel_rfl), cutG_ok (by (repeat intro _); show _ = _; kernel_rfl) (by (repeat intro _); show _ = _; kernel_rfl), cutG_ok (by (repeat intro _); show _ = _; kernel_rfl) (by (repeat intro _); show _ = _; kernel_rfl), cutG_ok (by (repeat intro _); show _ = _; kernel_rfl) (by (repeat intro _); show _ = _; kernel_rfl), cutG_ok (by (repeat intro _); show _ = _; kernel_rfl) (by (repeat intro _); show _ = _; kernel_rfl), cutG_ok (by (repeat intro _); show _ = _; kernel_rfl) (by (repeat intro _); show _ = _; kernel_rfl), trivial⟩
theorem sp12 : SpG T Try.prog 12 rbSi5b2isi2bilibl_i5b2i2lsi2bi_ pa12 ts22 sr12 F12 :=
  spG (X := X12) tok (sfok_of ⟨ok16, ok18, ok26, ok53, ok39, ok79, trivial⟩) mixed 12 8 cuts12 rfl k12 (by (repeat intro _); show _ = _; kernel_rfl)
theorem ok12 {R : Type} : SFone T Try.prog 12 (run12 : SF R) := okG sp12

/-! ### garland/look.Again -/
def pa60 : List VP := [.agg [.i .i64, .sl false [.int .i64], .sl false [.int .i64], .i .i64, .i .i64, .i .i64, .i .i64, .i .i64, .i .i64, .i .i64, .i .i64, .i .i64, .i .i64, .i .i64, .i .i64, .i .i64, .i .i64, .i .i64, .i .i64, .i .i64], .agg [.i .i64, .i .i64, .i .i64, .b, .b, .i .i64]]
def sr60 : RShape := ⟨.agg [.i .i64, .i .i64, .i .i64, .b, .b, .i .i64], [], none⟩
def ts25 : List LT := [.i, .l [.int .i64], .l [.int .i64], .i, .i, .i, .i, .i, .i, .i, .i, .i, .i, .i, .i, .i, .i, .i, .i, .i, .i, .i, .i, .b, .b, .i]
def run60 {R : Type} : SF R := runG rbSi3b2i pa60 ts25 sr60 false (F60 FUEL)
def sh60_0 : Shape := ⟨[(36, [(3, .ref 0 0), (4, .ref 1 0)])], [.cells [.i .i64, .i .i64, .i .i64, .b, .b, .i .i64], .cells [.i .i64, .i .i64, .i .i64, .b, .b, .i .i64]]⟩
def cuts60 : List (List Nat × Cut (Si3b2i)) := [([1, 10], cutG sh60_0 ts21 F60_c0)]
noncomputable def X60 : Px (Si3b2i) := ⟨T, Try.prog, lkF [(18, run18), (72, run72), (71, run71), (78, run78), (70, run70)], mkCuts 60 cuts60, altN, altN_ok⟩
theorem k60 : AllCuts X60 8 60 (endK sr60 (toG rbSi3b2i)) cuts60 :=
  ⟨cutG_ok (by (repeat intro _); show _ = _; kernel_rfl) (by (repeat intro _); show _ = _; kernel_rfl), trivial⟩
theorem sp60 : SpG T Try.prog 60 rbSi3b2i pa60 ts25 sr60 F60 :=
  spG (X := X60) tok (sfok_of ⟨ok18, ok72, ok71, ok78, ok70, trivial⟩) mixed 60 8 cuts60 rfl k60 (by (repeat intro _); show _ = _; kernel_rfl)
theorem ok60 {R : Type} : SFone T Try.prog 60 (run60 : SF R) := okG sp60

/-! ### garland/job.Failed -/
def pa14 : List VP := [.agg [.i .i64, .sl false [.int .i64], .sl false [.int .i64], .i .i64, .i .i64, .i .i64, .i .i64, .i .i64, .i .i64, .i .i64, .i .i64, .i .i64, .i .i64, .i .i64, .i .i64, .i .i64, .i .i64, .i .i64, .i .i64, .i .i64], .agg [.i .u8, .i .u8, .i .i64, .i .i64, .i .i64, .b, .b, .i .i64, .s, .i .i64, .i .i64, .b, .i .i64, .sl false [.int .i64], .i .i64], .i .i64]
def sr14 : RShape := ⟨.tup [.agg [.i .u8, .i .u8, .i .i64, .i .i64, .i .i64, .b, .b, .i .i64, .s, .i .i64, .i .i64, .b, .i .i64, .sl true [.int .i64], .i .i64], .row 0, .b], [.row true [.int .u8, .int .i64, .int .i64, .int .i64, .int .i64, .bool, .bool, .int .i64, .int .i64, .sl [.int .i64], .str, .int .i64, .int .i64, .bool, .int .i64]], none⟩
def ts26 : List LT := [.i, .l [.int .i64], .l [.int .i64], .i, .i, .i, .i, .i, .i, .i, .i, .i, .i, .i, .i, .i, .i, .i, .i, .i, .i, .i, .i, .i, .i, .b, .b, .i, .s, .i, .i, .b, .i, .l [.int .i64], .i, .i]
def run14 {R : Type} : SF R := runG rbSi5b2isi2bilibl_i5b2i2lsi2bi_ pa14 ts26 sr14 false (F14 FUEL)
def sh14_0 : Shape := ⟨[(136, [(0, .ref 0 0)]), (25, []), (35, [(6, .ref 1 0), (9, .ref 0 0)])], [.cells [.i .i64, .sl false [.int .i64], .sl false [.int .i64], .i .i64, .i .i64, .i .i64, .i .i64, .i .i64, .i .i64, .i .i64, .i .i64, .i .i64, .i .i64, .i .i64, .i .i64, .i .i64, .i .i64, .i .i64, .i .i64, .i .i64, .i .u8, .i .u8, .i .i64, .i .i64, .i .i64, .b, .b, .i .i64, .s, .i .i64, .i .i64, .b, .i .i64, .row 2, .i .i64, .nil, .b], .cells [.i .u8, .i .u8, .i .i64, .i .i64, .i .i64, .b, .b, .i .i64, .s, .i .i64, .i .i64, .b, .i .i64, .nil, .i .i64], .row true [.int .i64]]⟩
def sh14_1 : Shape := ⟨[(136, [(0, .ref 0 0), (2, .ref 0 20)]), (25, []), (35, [(6, .ref 1 0), (9, .ref 0 0)])], [.cells [.i .i64, .sl false [.int .i64], .sl false [.int .i64], .i .i64, .i .i64, .i .i64, .i .i64, .i .i64, .i .i64, .i .i64, .i .i64, .i .i64, .i .i64, .i .i64, .i .i64, .i .i64, .i .i64, .i .i64, .i .i64, .i .i64, .i .u8, .i .u8, .i .i64, .i .i64, .i .i64, .b, .b, .i .i64, .s, .i .i64, .i .i64, .b, .i .i64, .row 2, .i .i64, .nil, .b], .cells [.i .u8, .i .u8, .i .i64, .i .i64, .i .i64, .b, .b, .i .i64, .s, .i .i64, .i .i64, .b, .i .i64, .nil, .i .i64], .row true [.int .i64]]⟩
def sh14_2 : Shape := ⟨[(19, [(0, .row 0), (1, .clos 81 [.ref 1 0]), (7, .i .i64), (8, .i .i64)]), (42, [(0, .row 0), (1, .clos 81 [.ref 1 0])]), (40, [(0, .ref 2 0), (2, .i .i64), (6, .ref 2 20), (17, .ref 2 20)]), (6, []), (35, [(6, .ref 3 0), (9, .ref 2 0)])], [.row true [.int .i64], .cells [.i .i64], .cells [.i .i64, .sl false [.int .i64], .sl false [.int .i64], .i .i64, .i .i64, .i .i64, .i .i64, .i .i64, .i .i64, .i .i64, .i .i64, .i .i64, .i .i64, .i .i64, .i .i64, .i .i64, .i .i64, .i .i64, .i .i64, .i .i64, .i .u8, .i .u8, .i .i64, .i .i64, .i .i64, .b, .b, .i .i64, .s, .i .i64, .i .i64, .b, .i .i64, .row 0, .i .i64, .nil, .b], .cells [.i .u8, .i .u8, .i .i64, .i .i64, .i .i64, .b, .b, .i .i64, .s, .i .i64, .i .i64, .b, .i .i64, .nil, .i .i64]]⟩
def sh14_3 : Shape := ⟨[(136, [(0, .ref 0 0), (2, .ref 0 20)]), (25, []), (35, [(6, .ref 1 0), (9, .ref 0 0)])], [.cells [.i .i64, .sl false [.int .i64], .sl false [.int .i64], .i .i64, .i .i64, .i .i64, .i .i64, .i .i64, .i .i64, .i .i64, .i .i64, .i .i64, .i .i64, .i .i64, .i .i64, .i .i64, .i .i64, .i .i64, .i .i64, .i .i64, .i .u8, .i .u8, .i .i64, .i .i64, .i .i64, .b, .b, .i .i64, .s, .i .i64, .i .i64, .b, .i .i64, .row 2, .i .i64, .nil, .b], .cells [.i .u8, .i .u8, .i .i64, .i .i64, .i .i64, .b, .b, .i .i64, .s, .i .i64, .i .i64, .b, .i .i64, .nil, .i .i64], .row true [.int .i64]]⟩
def sh14_4 : Shape := ⟨[(32, [(0, .yield 36), (1, .ref 0 0), (12, .rsub 1), (13, .i .i64), (14, .i .i64)]), (61, [(3, .ref 2 0), (6, .ref 3 0)]), (136, [(136, .b)]), (25, []), (35, [(6, .ref 4 0), (9, .ref 5 0)])], [.cells [.rsub 1], .row true [.int .i64], .cells [.ref 5 0], .cells [.ref 5 20], .cells [.i .u8, .i .u8, .i .i64, .i .i64, .i .i64, .b, .b, .i .i64, .s, .i .i64, .i .i64, .b, .i .i64, .nil, .i .i64], .cells [.i .i64, .sl false [.int .i64], .sl false [.int .i64], .i .i64, .i .i64, .i .i64, .i .i64, .i .i64, .i .i64, .i .i64, .i .i64, .i .i64, .i .i64, .i .i64, .i .i64, .i .i64, .i .i64, .i .i64, .i .i64, .i .i64, .i .u8, .i .u8, .i .i64, .i .i64, .i .i64, .b, .b, .i .i64, .s, .i .i64, .i .i64, .b, .i .i64, .row 6, .i .i64, .row 7, .b], .row true [.int .i64], .row true [.int .u8, .int .i64, .int .i64, .int .i64, .int .i64, .bool, .bool, .int .i64, .int .i64, .sl [.int .i64], .str, .int .i64, .int .i64, .bool, .int .i64]]⟩
def sh14_5 : Shape := ⟨[(42, [(0, .row 0), (1, .clos 81 [.ref 1 0]), (5, .i .i64), (6, .i .i64)]), (40, [(0, .ref 2 0), (2, .i .i64), (6, .ref 2 20), (17, .ref 2 20)]), (6, []), (35, [(6, .ref 3 0), (9, .ref 2 0)])], [.row true [.int .i64], .cells [.i .i64], .cells [.i .i64, .sl false [.int .i64], .sl false [.int .i64], .i .i64, .i .i64, .i .i64, .i .i64, .i .i64, .i .i64, .i .i64, .i .i64, .i .i64, .i .i64, .i .i64, .i .i64, .i .i64, .i .i64, .i .i64, .i .i64, .i .i64, .i .u8, .i .u8, .i .i64, .i .i64, .i .i64, .b, .b, .i .i64, .s, .i .i64, .i .i64, .b, .i .i64, .row 0, .i .i64, .nil, .b], .cells [.i .u8, .i .u8, .i .i64, .i .i64, .i .i64, .b, .b, .i .i64, .s, .i .i64, .i .i64, .b, .i .i64, .nil, .i .i64]]⟩
def cuts14 : List (List Nat × Cut (Si5b2isi2bilibl_i5b2i2lsi2bi_)) := [([1, 1, 0, 1, 0, 1, 1, 0, 2, 118, 1, 0, 1, 1, 40, 10], cutG sh14_0 ts23 F14_c0), ([1, 1, 0, 1, 0, 1, 1, 0, 2, 118, 1, 0, 1, 1, 40, 11], cutG sh14_1 ts23 F14_c1), ([1, 1, 0, 1, 0, 1, 1, 0, 2, 122, 2, 112, 1, 1, 1, 0, 6, 160, 1, 0, 2, 188, 1, 0, 1, 0], cutG sh14_2 ts24 F14_c2), ([1, 1, 0, 1, 0, 1, 1, 0, 2, 118, 1, 0, 1, 1, 40, 12], cutG sh14_3 ts23 F14_c3), ([1, 1, 0, 1, 0, 1, 1, 0, 2, 118, 1, 0, 1, 1, 40, 11, 0, 1, 1, 0, 0, 1, 1, 1, 0, 0, 10, 82, 1, 1, 1, 1, 0, 1, 0, 182, 1, 1, 0], cutG sh14_4 ts13 F14_c4), ([1, 1, 0, 1, 0, 1, 1, 0, 2, 122, 2, 112, 1, 1, 1, 0, 6, 160, 1, 1, 1, 0, 1, 0], cutG sh14_5 ts24 F14_c5)]
noncomputable def X14 : Px (Si5b2isi2bilibl_i5b2i2lsi2bi_) := ⟨T, Try.prog, lkF [(16, run16), (18, run18), (60, run60), (39, run39), (79, run79)], mkCuts 14 cuts14, altN, altN_ok⟩
theorem k14 : AllCuts X14 8 14 (endK sr14 (toG rbSi5b2isi2bilibl_i5b2i2lsi2bi_)) cuts14 :=
  ⟨cutG_ok (by (repeat intro _); show _ = _; kernel_rfl) (by (repeat intro _); show _ = _; kernel_rfl), cutG_ok (by (repeat intro _); show _ = _; kernel_rfl) (by (repeat intro _); show _ = _; kernel_rfl), cutG_ok (by (repeat intro _); show _ = _; kernel_rfl) (by (repeat intro _); show _ = _; kernel_rfl), cutG_ok (by (repeat intro _); show _ = _; kernel_rfl) (by (repeat intro _); show _ = _; kernel_rfl), cutG_ok (by (repeat intro _); show _ = _; kernel_rfl) (by (repeat intro _); show _ = _; kernel_rfl), cutG_ok (by (repeat intro _); show _ = _; kernel_rfl) (by (repeat intro _); show _ = _; kernel_rfl), trivial⟩
theorem sp14 : SpG T Try.prog 14 rbSi5b2isi2bilibl_i5b2i2lsi2bi_ pa14 ts26 sr14 F14 :=
  spG (X := X14) tok (sfok_of ⟨ok16, ok18, ok60, ok39, ok79, trivial⟩) mixed 14 8 cuts14 rfl k14 (by (repeat intro _); show _ = _; kernel_rfl)
theorem ok14 {R : Type} : SFone T Try.prog 14 (run14 : SF R) := okG sp14

/-! ### garland/job.Same -/
def pa15 : List VP := [.agg [.i .u8, .i .u8, .i .i64, .i .i64, .i .i64, .b, .b, .i .i64, .s, .i .i64, .i .i64, .b, .i .i64, .sl false [.int .i64], .i .i64], .agg [.i .u8, .i .u8, .i .i64, .i .i64, .i .i64, .b, .b, .i .i64, .s, .i .i64, .i .i64, .b, .i .i64, .sl false [.int .i64], .i .i64]]
def sr15 : RShape := ⟨.b, [], none⟩
def ts27 : List LT := [.i, .i, .i, .i, .i, .b, .b, .i, .s, .i, .i, .b, .i, .l [.int .i64], .i, .i, .i, .i, .i, .i, .b, .b, .i, .s, .i, .i, .b, .i, .l [.int .i64], .i]
def run15 {R : Type} : SF R := runG rb_b pa15 ts27 sr15 false (F15 FUEL)
noncomputable def X15 : Px (Bool) := ⟨T, Try.prog, lkF [(29, run29)], mkCuts 15 [], altN, altN_ok⟩
theorem sp15 : SpG T Try.prog 15 rb_b pa15 ts27 sr15 F15 :=
  spG (X := X15) tok (sfok_of ⟨ok29, trivial⟩) mixed 15 8 [] rfl trivial (by (repeat intro _); show _ = _; kernel_rfl)
theorem ok15 {R : Type} : SFone T Try.prog 15 (run15 : SF R) := okG sp15

/-! ### garland/garlandlaw21.wakes -/
def pa6 : List VP := []
def sr6 : RShape := ⟨.b, [], none⟩
def run6 {R : Type} : SF R := runG rb_b pa6 [] sr6 false (F6 FUEL)
noncomputable def X6 : Px (Bool) := ⟨T, Try.prog, lkF [(11, run11), (7, run7), (13, run13), (12, run12), (14, run14), (16, run16), (15, run15)], mkCuts 6 [], altN, altN_ok⟩
theorem sp6 : SpG T Try.prog 6 rb_b pa6 [] sr6 F6 :=
  spG (X := X6) tok (sfok_of ⟨ok11, ok7, ok13, ok12, ok14, ok16, ok15, trivial⟩) mixed 6 8 [] rfl trivial (by (repeat intro _); show _ = _; kernel_rfl)
theorem ok6 {R : Type} : SFone T Try.prog 6 (run6 : SF R) := okG sp6

/-! ### garland/garlandlaw21.JobAsks -/
def pa3 : List VP := [.agg [.i .i64, .sl false [.int .i64], .sl false [.int .i64], .i .i64, .i .i64, .i .i64, .i .i64, .i .i64, .i .i64, .i .i64, .i .i64, .i .i64, .i .i64, .i .i64, .i .i64, .i .i64, .i .i64, .i .i64, .i .i64, .i .i64], .i .u8, .i .i64, .agg [.s, .i .i64, .i .i64, .b]]
def sr3 : RShape := ⟨.b, [], none⟩
def run3 {R : Type} : SF R := runG rb_b pa3 ts11 sr3 false (F3 FUEL)
def sh3_0 : Shape := ⟨[(149, [(4, .ref 0 0), (7, .ref 1 0), (9, .ref 2 0), (10, .row 3), (12, .i .i64)])], [.cells [.i .i64, .sl false [.int .i64], .sl false [.int .i64], .i .i64, .i .i64, .i .i64, .i .i64, .i .i64, .i .i64, .i .i64, .i .i64, .i .i64, .i .i64, .i .i64, .i .i64, .i .i64, .i .i64, .i .i64, .i .i64, .i .i64], .cells [.s, .i .i64, .i .i64, .b], .cells [.i .u8, .i .u8, .i .i64, .i .i64, .i .i64, .b, .b, .i .i64, .s, .i .i64, .i .i64, .b, .i .i64, .row 4, .i .i64], .row true [.int .u8, .int .i64, .int .i64, .int .i64, .int .i64, .bool, .bool, .int .i64, .int .i64, .sl [.int .i64], .str, .int .i64, .int .i64, .bool, .int .i64], .row true [.int .i64]]⟩
def ts28 : List LT := [.i, .i, .l [.int .i64], .l [.int .i64], .i, .i, .i, .i, .i, .i, .i, .i, .i, .i, .i, .i, .i, .i, .i, .i, .i, .s, .i, .i, .b, .i, .i, .i, .i, .i, .b, .b, .i, .s, .i, .i, .b, .i, .i, .l [.int .u8, .int .i64, .int .i64, .int .i64, .int .i64, .bool, .bool, .int .i64, .int .i64, .sl [.int .i64], .str, .int .i64, .int .i64, .bool, .int .i64], .l [.int .i64]]
def cuts3 : List (List Nat × Cut (Bool)) := [([1, 1, 1, 1, 0, 1, 0], cutG sh3_0 ts28 F3_c0)]
noncomputable def X3 : Px (Bool) := ⟨T, Try.prog, lkF [(4, run4), (6, run6), (5, run5), (7, run7)], mkCuts 3 cuts3, altN, altN_ok⟩
theorem k3 : AllCuts X3 8 3 (endK sr3 (toG rb_b)) cuts3 :=
  ⟨cutG_ok (by (repeat intro _); show _ = _; kernel_rfl) (by (repeat intro _); show _ = _; kernel_rfl), trivial⟩
theorem sp3 : SpG T Try.prog 3 rb_b pa3 ts11 sr3 F3 :=
  spG (X := X3) tok (sfok_of ⟨ok4, ok6, ok5, ok7, trivial⟩) mixed 3 8 cuts3 rfl k3 (by (repeat intro _); show _ = _; kernel_rfl)
theorem ok3 {R : Type} : SFone T Try.prog 3 (run3 : SF R) := okG sp3

end Go.Proofs.Ytlcbbjcehaahlaa
