/-
  The functions of this program, evaluated; each is as it is evaluated.
-/
import Derived.Test.YtlcbbjcehaahlaaGreatEvR
import Derived.Test.YtlcbbjcehaahlaaGreatEvY
import Derived.Test.YtlcbbjcehaahlaaGreatVsT
import Derived.KernelRfl
namespace Go.Proofs.YtlcbbjcehaahlaaGreat
open Go Go.RowKit
set_option maxRecDepth 100000
theorem mixed : Tryz.prog.follows .mixedOrders = true := by kernel_rfl
def pa6 : List VP := [.agg [.i .i64, .sl false [.int .i64], .sl false [.int .i64], .i .i64, .i .i64, .i .i64, .i .i64, .i .i64, .i .i64, .i .i64, .i .i64, .i .i64, .i .i64, .i .i64, .i .i64, .i .i64, .i .i64, .i .i64, .i .i64, .i .i64]]
def sr6 : RShape := ⟨.b, [], none⟩
def rb_b : RB (Bool) [.b] := ⟨fun x => x, fun y => (y, ()), fun _ => rfl⟩
def ts0 : List LT := [.i, .l [.int .i64], .l [.int .i64], .i, .i, .i, .i, .i, .i, .i, .i, .i, .i, .i, .i, .i, .i, .i, .i, .i]
def run6 {R : Type} : SF R := runG rb_b pa6 ts0 sr6 false (F6 FUEL)
noncomputable def X6 : Px (Bool) := ⟨T, Tryz.prog, lkF [], mkCuts 6 [], altN, altN_ok⟩
theorem sp6 : SpG T Tryz.prog 6 rb_b pa6 ts0 sr6 F6 :=
  spG (X := X6) tok (sfok_of trivial) mixed 6 8 [] rfl trivial (by (repeat intro _); show _ = _; kernel_rfl)
theorem ok6 {R : Type} : SFone T Tryz.prog 6 (run6 : SF R) := okG sp6
def pa18 : List VP := [.i .i64]
def sr18 : RShape := ⟨.b, [], none⟩
def run18 {R : Type} : SF R := runG rb_b pa18 [.i] sr18 false (F18 FUEL)
noncomputable def X18 : Px (Bool) := ⟨T, Tryz.prog, lkF [], mkCuts 18 [], altN, altN_ok⟩
theorem sp18 : SpG T Tryz.prog 18 rb_b pa18 [.i] sr18 F18 :=
  spG (X := X18) tok (sfok_of trivial) mixed 18 8 [] rfl trivial (by (repeat intro _); show _ = _; kernel_rfl)
theorem ok18 {R : Type} : SFone T Tryz.prog 18 (run18 : SF R) := okG sp18
def pa37 : List VP := [.i .i64]
def sr37 : RShape := ⟨.b, [], none⟩
def run37 {R : Type} : SF R := runG rb_b pa37 [.i] sr37 false (F37 FUEL)
noncomputable def X37 : Px (Bool) := ⟨T, Tryz.prog, lkF [], mkCuts 37 [], altN, altN_ok⟩
theorem sp37 : SpG T Tryz.prog 37 rb_b pa37 [.i] sr37 F37 :=
  spG (X := X37) tok (sfok_of trivial) mixed 37 8 [] rfl trivial (by (repeat intro _); show _ = _; kernel_rfl)
theorem ok37 {R : Type} : SFone T Tryz.prog 37 (run37 : SF R) := okG sp37
def pa38 : List VP := [.i .i64]
def sr38 : RShape := ⟨.i .i64, [], none⟩
def rb_i : RB (Int) [.i] := ⟨fun x => x, fun y => (y, ()), fun _ => rfl⟩
def run38 {R : Type} : SF R := runG rb_i pa38 [.i] sr38 false (F38 FUEL)
noncomputable def X38 : Px (Int) := ⟨T, Tryz.prog, lkF [], mkCuts 38 [], altN, altN_ok⟩
theorem sp38 : SpG T Tryz.prog 38 rb_i pa38 [.i] sr38 F38 :=
  spG (X := X38) tok (sfok_of trivial) mixed 38 8 [] rfl trivial (by (repeat intro _); show _ = _; kernel_rfl)
theorem ok38 {R : Type} : SFone T Tryz.prog 38 (run38 : SF R) := okG sp38
def pa75 : List VP := [.i .i64, .i .i64]
def sr75 : RShape := ⟨.i .i64, [], none⟩
def run75 {R : Type} : SF R := runG rb_i pa75 [.i, .i] sr75 false (F75 FUEL)
noncomputable def X75 : Px (Int) := ⟨T, Tryz.prog, lkF [(38, run38)], mkCuts 75 [], altN, altN_ok⟩
theorem sp75 : SpG T Tryz.prog 75 rb_i pa75 [.i, .i] sr75 F75 :=
  spG (X := X75) tok (sfok_of ⟨ok38, trivial⟩) mixed 75 8 [] rfl trivial (by (repeat intro _); show _ = _; kernel_rfl)
theorem ok75 {R : Type} : SFone T Tryz.prog 75 (run75 : SF R) := okG sp75
def pa39 : List VP := [.i .i64, .i .i64, .i .i64]
def sr39 : RShape := ⟨.b, [], none⟩
def run39 {R : Type} : SF R := runG rb_b pa39 [.i, .i, .i] sr39 false (F39 FUEL)
noncomputable def X39 : Px (Bool) := ⟨T, Tryz.prog, lkF [(75, run75)], mkCuts 39 [], altN, altN_ok⟩
theorem sp39 : SpG T Tryz.prog 39 rb_b pa39 [.i, .i, .i] sr39 F39 :=
  spG (X := X39) tok (sfok_of ⟨ok75, trivial⟩) mixed 39 8 [] rfl trivial (by (repeat intro _); show _ = _; kernel_rfl)
theorem ok39 {R : Type} : SFone T Tryz.prog 39 (run39 : SF R) := okG sp39
def pa19 : List VP := [.i .i64, .sl false [.int .i64]]
def sr19 : RShape := ⟨.b, [], none⟩
def run19 {R : Type} : SF R := runG rb_b pa19 [.i, .l [.int .i64]] sr19 false (F19 FUEL)
def sh19_0 : Shape := ⟨[(48, [(0, .i .i64), (1, .sl false [.int .i64]), (5, .i .i64)])], []⟩
def cuts19 : List (List Nat × Cut (Bool)) := [([1, 0, 1, 0], cutG sh19_0 [.i, .l [.int .i64], .i] F19_c0)]
noncomputable def X19 : Px (Bool) := ⟨T, Tryz.prog, lkF [(37, run37), (38, run38), (39, run39)], mkCuts 19 cuts19, altN, altN_ok⟩
theorem k19 : AllCuts X19 8 19 (endK sr19 (toG rb_b)) cuts19 :=
  ⟨cutG_ok (by (repeat intro _); show _ = _; kernel_rfl) (by (repeat intro _); show _ = _; kernel_rfl), trivial⟩
theorem sp19 : SpG T Tryz.prog 19 rb_b pa19 [.i, .l [.int .i64]] sr19 F19 :=
  spG (X := X19) tok (sfok_of ⟨ok37, ok38, ok39, trivial⟩) mixed 19 8 cuts19 rfl k19 (by (repeat intro _); show _ = _; kernel_rfl)
theorem ok19 {R : Type} : SFone T Tryz.prog 19 (run19 : SF R) := okG sp19
def pa20 : List VP := [.agg [.i .i64, .sl false [.int .i64], .sl false [.int .i64], .i .i64, .i .i64, .i .i64, .i .i64, .i .i64, .i .i64, .i .i64, .i .i64, .i .i64, .i .i64, .i .i64, .i .i64, .i .i64, .i .i64, .i .i64, .i .i64, .i .i64], .i .i64]
def sr20 : RShape := ⟨.b, [], none⟩
def ts1 : List LT := [.i, .l [.int .i64], .l [.int .i64], .i, .i, .i, .i, .i, .i, .i, .i, .i, .i, .i, .i, .i, .i, .i, .i, .i, .i]
def run20 {R : Type} : SF R := runG rb_b pa20 ts1 sr20 false (F20 FUEL)
noncomputable def X20 : Px (Bool) := ⟨T, Tryz.prog, lkF [(18, run18)], mkCuts 20 [], altN, altN_ok⟩
theorem sp20 : SpG T Tryz.prog 20 rb_b pa20 ts1 sr20 F20 :=
  spG (X := X20) tok (sfok_of ⟨ok18, trivial⟩) mixed 20 8 [] rfl trivial (by (repeat intro _); show _ = _; kernel_rfl)
theorem ok20 {R : Type} : SFone T Tryz.prog 20 (run20 : SF R) := okG sp20
def pa7 : List VP := [.agg [.i .i64, .sl false [.int .i64], .sl false [.int .i64], .i .i64, .i .i64, .i .i64, .i .i64, .i .i64, .i .i64, .i .i64, .i .i64, .i .i64, .i .i64, .i .i64, .i .i64, .i .i64, .i .i64, .i .i64, .i .i64, .i .i64]]
def sr7 : RShape := ⟨.b, [], none⟩
def run7 {R : Type} : SF R := runG rb_b pa7 ts0 sr7 false (F7 FUEL)
def sh7_0 : Shape := ⟨[(79, [(1, .ref 0 0), (3, .i .i64)])], [.cells [.i .i64, .sl false [.int .i64], .sl false [.int .i64], .i .i64, .i .i64, .i .i64, .i .i64, .i .i64, .i .i64, .i .i64, .i .i64, .i .i64, .i .i64, .i .i64, .i .i64, .i .i64, .i .i64, .i .i64, .i .i64, .i .i64]]⟩
def sh7_1 : Shape := ⟨[(79, [(1, .ref 0 0), (4, .i .i64)])], [.cells [.i .i64, .sl false [.int .i64], .sl false [.int .i64], .i .i64, .i .i64, .i .i64, .i .i64, .i .i64, .i .i64, .i .i64, .i .i64, .i .i64, .i .i64, .i .i64, .i .i64, .i .i64, .i .i64, .i .i64, .i .i64, .i .i64]]⟩
def ts2 : List LT := [.i, .i, .l [.int .i64], .l [.int .i64], .i, .i, .i, .i, .i, .i, .i, .i, .i, .i, .i, .i, .i, .i, .i, .i, .i]
def cuts7 : List (List Nat × Cut (Bool)) := [([1, 1, 0, 1, 0], cutG sh7_0 ts2 F7_c0), ([1, 1, 1, 0, 1, 0], cutG sh7_1 ts2 F7_c1)]
noncomputable def X7 : Px (Bool) := ⟨T, Tryz.prog, lkF [(18, run18), (19, run19), (20, run20)], mkCuts 7 cuts7, altN, altN_ok⟩
theorem k7 : AllCuts X7 8 7 (endK sr7 (toG rb_b)) cuts7 :=
  ⟨cutG_ok (by (repeat intro _); show _ = _; kernel_rfl) (by (repeat intro _); show _ = _; kernel_rfl), cutG_ok (by (repeat intro _); show _ = _; kernel_rfl) (by (repeat intro _); show _ = _; kernel_rfl), trivial⟩
theorem sp7 : SpG T Tryz.prog 7 rb_b pa7 ts0 sr7 F7 :=
  spG (X := X7) tok (sfok_of ⟨ok18, ok19, ok20, trivial⟩) mixed 7 8 cuts7 rfl k7 (by (repeat intro _); show _ = _; kernel_rfl)
theorem ok7 {R : Type} : SFone T Tryz.prog 7 (run7 : SF R) := okG sp7
def pa40 : List VP := [.i .i64, .sl false [.int .i64]]
def sr40 : RShape := ⟨.tup [.agg [.i .i64, .row 0, .nil, .i .i64, .i .i64, .i .i64, .i .i64, .i .i64, .i .i64, .i .i64, .i .i64, .i .i64, .i .i64, .i .i64, .i .i64, .i .i64, .i .i64, .i .i64, .i .i64, .i .i64], .i .i64], [.row true [.int .i64]], none⟩
def rbSi19l : RB (Si19l) [.i, .i, .i, .i, .i, .i, .i, .i, .i, .i, .i, .i, .i, .i, .i, .i, .i, .i, .i, .l [.int .i64]] := ⟨Si19l.mk, fun y => (y.q0, y.q1, y.q2, y.q3, y.q4, y.q5, y.q6, y.q7, y.q8, y.q9, y.q10, y.q11, y.q12, y.q13, y.q14, y.q15, y.q16, y.q17, y.q18, y.q19, ()), fun _ => rfl⟩
def run40 {R : Type} : SF R := runG rbSi19l pa40 [.i, .l [.int .i64]] sr40 false (F40 FUEL)
def sh40_0 : Shape := ⟨[(25, [(4, .ref 0 0), (6, .ref 1 0), (7, .i .i64)])], [.cells [.i .i64, .nil, .nil, .i .i64, .i .i64, .i .i64, .i .i64, .i .i64, .i .i64, .i .i64, .i .i64, .i .i64, .i .i64, .i .i64, .i .i64, .i .i64, .i .i64, .i .i64, .i .i64, .i .i64], .cells [.i .i64, .row 2, .nil, .i .i64, .i .i64, .i .i64, .i .i64, .i .i64, .i .i64, .i .i64, .i .i64, .i .i64, .i .i64, .i .i64, .i .i64, .i .i64, .i .i64, .i .i64, .i .i64, .i .i64], .row true [.int .i64]]⟩
def ts3 : List LT := [.i, .i, .i, .i, .i, .i, .i, .i, .i, .i, .i, .i, .i, .i, .i, .i, .i, .i, .i, .i, .i, .i, .i, .i, .i, .i, .i, .i, .i, .i, .i, .i, .i, .i, .i, .i, .i, .l [.int .i64]]
def cuts40 : List (List Nat × Cut (Si19l)) := [([1, 1, 0, 1, 0], cutG sh40_0 ts3 F40_c0)]
noncomputable def X40 : Px (Si19l) := ⟨T, Tryz.prog, lkF [(7, run7)], mkCuts 40 cuts40, altN, altN_ok⟩
theorem k40 : AllCuts X40 8 40 (endK sr40 (toG rbSi19l)) cuts40 :=
  ⟨cutG_ok (by (repeat intro _); show _ = _; kernel_rfl) (by (repeat intro _); show _ = _; kernel_rfl), trivial⟩
theorem sp40 : SpG T Tryz.prog 40 rbSi19l pa40 [.i, .l [.int .i64]] sr40 F40 :=
  spG (X := X40) tok (sfok_of ⟨ok7, trivial⟩) mixed 40 8 cuts40 rfl k40 (by (repeat intro _); show _ = _; kernel_rfl)
theorem ok40 {R : Type} : SFone T Tryz.prog 40 (run40 : SF R) := okG sp40
def pa76 : List VP := [.agg [.i .i64, .sl false [.int .i64], .sl false [.int .i64], .i .i64, .i .i64, .i .i64, .i .i64, .i .i64, .i .i64, .i .i64, .i .i64, .i .i64, .i .i64, .i .i64, .i .i64, .i .i64, .i .i64, .i .i64, .i .i64, .i .i64]]
def sr76 : RShape := ⟨.agg [.i .i64, .row 0, .row 1, .i .i64, .i .i64, .i .i64, .i .i64, .i .i64, .i .i64, .i .i64, .i .i64, .i .i64, .i .i64, .i .i64, .i .i64, .i .i64, .i .i64, .i .i64, .i .i64, .i .i64], [.row true [.int .i64], .row true [.int .i64]], none⟩
def rbSi18l2 : RB (Si18l2) [.i, .i, .i, .i, .i, .i, .i, .i, .i, .i, .i, .i, .i, .i, .i, .i, .i, .i, .l [.int .i64], .l [.int .i64]] := ⟨Si18l2.mk, fun y => (y.q0, y.q1, y.q2, y.q3, y.q4, y.q5, y.q6, y.q7, y.q8, y.q9, y.q10, y.q11, y.q12, y.q13, y.q14, y.q15, y.q16, y.q17, y.q18, y.q19, ()), fun _ => rfl⟩
def run76 {R : Type} : SF R := runG rbSi18l2 pa76 ts0 sr76 false (F76 FUEL)
noncomputable def X76 : Px (Si18l2) := ⟨T, Tryz.prog, lkF [], mkCuts 76 [], altN, altN_ok⟩
theorem sp76 : SpG T Tryz.prog 76 rbSi18l2 pa76 ts0 sr76 F76 :=
  spG (X := X76) tok (sfok_of trivial) mixed 76 8 [] rfl trivial (by (repeat intro _); show _ = _; kernel_rfl)
theorem ok76 {R : Type} : SFone T Tryz.prog 76 (run76 : SF R) := okG sp76
def pa41 : List VP := [.agg [.i .i64, .sl false [.int .i64], .sl false [.int .i64], .i .i64, .i .i64, .i .i64, .i .i64, .i .i64, .i .i64, .i .i64, .i .i64, .i .i64, .i .i64, .i .i64, .i .i64, .i .i64, .i .i64, .i .i64, .i .i64, .i .i64], .sl false [.int .i64]]
def sr41 : RShape := ⟨.agg [.i .i64, .row 0, .row 1, .i .i64, .i .i64, .i .i64, .i .i64, .i .i64, .i .i64, .i .i64, .i .i64, .i .i64, .i .i64, .i .i64, .i .i64, .i .i64, .i .i64, .i .i64, .i .i64, .i .i64], [.row true [.int .i64], .row true [.int .i64]], none⟩
def ts4 : List LT := [.i, .l [.int .i64], .l [.int .i64], .i, .i, .i, .i, .i, .i, .i, .i, .i, .i, .i, .i, .i, .i, .i, .i, .i, .l [.int .i64]]
def run41 {R : Type} : SF R := runG rbSi18l2 pa41 ts4 sr41 false (F41 FUEL)
noncomputable def X41 : Px (Si18l2) := ⟨T, Tryz.prog, lkF [(76, run76), (7, run7), (19, run19)], mkCuts 41 [], altN, altN_ok⟩
theorem sp41 : SpG T Tryz.prog 41 rbSi18l2 pa41 ts4 sr41 F41 :=
  spG (X := X41) tok (sfok_of ⟨ok76, ok7, ok19, trivial⟩) mixed 41 8 [] rfl trivial (by (repeat intro _); show _ = _; kernel_rfl)
theorem ok41 {R : Type} : SFone T Tryz.prog 41 (run41 : SF R) := okG sp41
def pa21 : List VP := []
def sr21 : RShape := ⟨.agg [.i .i64, .row 0, .row 1, .i .i64, .i .i64, .i .i64, .i .i64, .i .i64, .i .i64, .i .i64, .i .i64, .i .i64, .i .i64, .i .i64, .i .i64, .i .i64, .i .i64, .i .i64, .i .i64, .i .i64], [.row true [.int .i64], .row true [.int .i64]], none⟩
def run21 {R : Type} : SF R := runG rbSi18l2 pa21 [] sr21 false (F21 FUEL)
noncomputable def X21 : Px (Si18l2) := ⟨T, Tryz.prog, lkF [(40, run40), (41, run41)], mkCuts 21 [], altN, altN_ok⟩
theorem sp21 : SpG T Tryz.prog 21 rbSi18l2 pa21 [] sr21 F21 :=
  spG (X := X21) tok (sfok_of ⟨ok40, ok41, trivial⟩) mixed 21 8 [] rfl trivial (by (repeat intro _); show _ = _; kernel_rfl)
theorem ok21 {R : Type} : SFone T Tryz.prog 21 (run21 : SF R) := okG sp21
def pa97 : List VP := [.i .i64]
def sr97 : RShape := ⟨.i .i64, [], none⟩
def run97 {R : Type} : SF R := runG rb_i pa97 [.i] sr97 false (F97 FUEL)
noncomputable def X97 : Px (Int) := ⟨T, Tryz.prog, lkF [], mkCuts 97 [], altN, altN_ok⟩
theorem sp97 : SpG T Tryz.prog 97 rb_i pa97 [.i] sr97 F97 :=
  spG (X := X97) tok (sfok_of trivial) mixed 97 8 [] rfl trivial (by (repeat intro _); show _ = _; kernel_rfl)
theorem ok97 {R : Type} : SFone T Tryz.prog 97 (run97 : SF R) := okG sp97
def pa99 : List VP := [.i .i64, .i .u8]
def sr99 : RShape := ⟨.i .i64, [], none⟩
def run99 {R : Type} : SF R := runG rb_i pa99 [.i, .i] sr99 false (F99 FUEL)
noncomputable def X99 : Px (Int) := ⟨T, Tryz.prog, lkF [(97, run97)], mkCuts 99 [], altN, altN_ok⟩
theorem sp99 : SpG T Tryz.prog 99 rb_i pa99 [.i, .i] sr99 F99 :=
  spG (X := X99) tok (sfok_of ⟨ok97, trivial⟩) mixed 99 8 [] rfl trivial (by (repeat intro _); show _ = _; kernel_rfl)
theorem ok99 {R : Type} : SFone T Tryz.prog 99 (run99 : SF R) := okG sp99
def pa77 : List VP := [.i .i64, .s]
def sr77 : RShape := ⟨.i .i64, [], none⟩
def run77 {R : Type} : SF R := runG rb_i pa77 [.i, .s] sr77 false (F77 FUEL)
def sh77_0 : Shape := ⟨[(16, [(0, .yield 6), (1, .ref 0 0), (5, .i .i64), (6, .i .i64)]), (15, [(2, .ref 1 0)])], [.cells [.s], .cells [.i .i64]]⟩
def cuts77 : List (List Nat × Cut (Int)) := [([1, 1, 0, 1, 0, 220, 1, 0], cutG sh77_0 [.i, .i, .s, .i] F77_c0)]
noncomputable def X77 : Px (Int) := ⟨T, Tryz.prog, lkF [(97, run97), (99, run99)], mkCuts 77 cuts77, altN, altN_ok⟩
theorem k77 : AllCuts X77 8 77 (endK sr77 (toG rb_i)) cuts77 :=
  ⟨cutG_ok (by (repeat intro _); show _ = _; kernel_rfl) (by (repeat intro _); show _ = _; kernel_rfl), trivial⟩
theorem sp77 : SpG T Tryz.prog 77 rb_i pa77 [.i, .s] sr77 F77 :=
  spG (X := X77) tok (sfok_of ⟨ok97, ok99, trivial⟩) mixed 77 8 cuts77 rfl k77 (by (repeat intro _); show _ = _; kernel_rfl)
theorem ok77 {R : Type} : SFone T Tryz.prog 77 (run77 : SF R) := okG sp77
def pa44 : List VP := [.s]
def sr44 : RShape := ⟨.tup [.i .i64, .i .i64], [], none⟩
def rb_i2 : RB (Int × Int) [.i, .i] := ⟨fun x y => (x, y), fun y => (y.1, y.2, ()), fun _ => rfl⟩
def run44 {R : Type} : SF R := runG rb_i2 pa44 [.s] sr44 false (F44 FUEL)
def sh44_0 : Shape := ⟨[(14, [])], []⟩
def cuts44 : List (List Nat × Cut (Int × Int)) := [([1, 10], cutG sh44_0 [] F44_c0)]
noncomputable def X44 : Px (Int × Int) := ⟨T, Tryz.prog, lkF [(77, run77)], mkCuts 44 cuts44, altN, altN_ok⟩
theorem k44 : AllCuts X44 8 44 (endK sr44 (toG rb_i2)) cuts44 :=
  ⟨cutG_ok (by (repeat intro _); show _ = _; kernel_rfl) (by (repeat intro _); show _ = _; kernel_rfl), trivial⟩
theorem sp44 : SpG T Tryz.prog 44 rb_i2 pa44 [.s] sr44 F44 :=
  spG (X := X44) tok (sfok_of ⟨ok77, trivial⟩) mixed 44 8 cuts44 rfl k44 (by (repeat intro _); show _ = _; kernel_rfl)
theorem ok44 {R : Type} : SFone T Tryz.prog 44 (run44 : SF R) := okG sp44
def pa78 : List VP := [.s]
def sr78 : RShape := ⟨.b, [], none⟩
def run78 {R : Type} : SF R := runG rb_b pa78 [.s] sr78 false (F78 FUEL)
noncomputable def X78 : Px (Bool) := ⟨T, Tryz.prog, lkF [], mkCuts 78 [], altN, altN_ok⟩
theorem sp78 : SpG T Tryz.prog 78 rb_b pa78 [.s] sr78 F78 :=
  spG (X := X78) tok (sfok_of trivial) mixed 78 8 [] rfl trivial (by (repeat intro _); show _ = _; kernel_rfl)
theorem ok78 {R : Type} : SFone T Tryz.prog 78 (run78 : SF R) := okG sp78
def pa79 : List VP := [.i .i64]
def sr79 : RShape := ⟨.b, [], none⟩
def run79 {R : Type} : SF R := runG rb_b pa79 [.i] sr79 false (F79 FUEL)
noncomputable def X79 : Px (Bool) := ⟨T, Tryz.prog, lkF [], mkCuts 79 [], altN, altN_ok⟩
theorem sp79 : SpG T Tryz.prog 79 rb_b pa79 [.i] sr79 F79 :=
  spG (X := X79) tok (sfok_of trivial) mixed 79 8 [] rfl trivial (by (repeat intro _); show _ = _; kernel_rfl)
theorem ok79 {R : Type} : SFone T Tryz.prog 79 (run79 : SF R) := okG sp79
def pa45 : List VP := [.agg [.s, .i .i64, .i .i64, .b]]
def sr45 : RShape := ⟨.b, [], none⟩
def run45 {R : Type} : SF R := runG rb_b pa45 [.s, .i, .i, .b] sr45 false (F45 FUEL)
noncomputable def X45 : Px (Bool) := ⟨T, Tryz.prog, lkF [(78, run78), (79, run79)], mkCuts 45 [], altN, altN_ok⟩
theorem sp45 : SpG T Tryz.prog 45 rb_b pa45 [.s, .i, .i, .b] sr45 F45 :=
  spG (X := X45) tok (sfok_of ⟨ok78, ok79, trivial⟩) mixed 45 8 [] rfl trivial (by (repeat intro _); show _ = _; kernel_rfl)
theorem ok45 {R : Type} : SFone T Tryz.prog 45 (run45 : SF R) := okG sp45
def pa25 : List VP := [.i .u8, .i .i64, .agg [.s, .i .i64, .i .i64, .b]]
def sr25 : RShape := ⟨.tup [.i .i64, .agg [.s, .i .i64, .i .i64, .b], .b], [], none⟩
def rbSisi2b2 : RB (Sisi2b2) [.i, .s, .i, .i, .b, .b] := ⟨Sisi2b2.mk, fun y => (y.q0, y.q1, y.q2, y.q3, y.q4, y.q5, ()), fun _ => rfl⟩
def run25 {R : Type} : SF R := runG rbSisi2b2 pa25 [.i, .i, .s, .i, .i, .b] sr25 false (F25 FUEL)
noncomputable def X25 : Px (Sisi2b2) := ⟨T, Tryz.prog, lkF [(44, run44), (45, run45)], mkCuts 25 [], altN, altN_ok⟩
theorem sp25 : SpG T Tryz.prog 25 rbSisi2b2 pa25 [.i, .i, .s, .i, .i, .b] sr25 F25 :=
  spG (X := X25) tok (sfok_of ⟨ok44, ok45, trivial⟩) mixed 25 8 [] rfl trivial (by (repeat intro _); show _ = _; kernel_rfl)
theorem ok25 {R : Type} : SFone T Tryz.prog 25 (run25 : SF R) := okG sp25
def pa46 : List VP := [.i .i64]
def sr46 : RShape := ⟨.b, [], none⟩
def run46 {R : Type} : SF R := runG rb_b pa46 [.i] sr46 false (F46 FUEL)
noncomputable def X46 : Px (Bool) := ⟨T, Tryz.prog, lkF [], mkCuts 46 [], altN, altN_ok⟩
theorem sp46 : SpG T Tryz.prog 46 rb_b pa46 [.i] sr46 F46 :=
  spG (X := X46) tok (sfok_of trivial) mixed 46 8 [] rfl trivial (by (repeat intro _); show _ = _; kernel_rfl)
theorem ok46 {R : Type} : SFone T Tryz.prog 46 (run46 : SF R) := okG sp46
def pa47 : List VP := [.sl false [.int .i64]]
def sr47 : RShape := ⟨.b, [], none⟩
def run47 {R : Type} : SF R := runG rb_b pa47 [.l [.int .i64]] sr47 false (F47 FUEL)
def sh47_0 : Shape := ⟨[(37, [(0, .sl false [.int .i64]), (13, .sl false [.int .i64]), (14, .i .i64), (15, .i .i64)])], []⟩
def ts5 : List LT := [.l [.int .i64], .l [.int .i64], .i, .i]
def cuts47 : List (List Nat × Cut (Bool)) := [([1, 1, 0, 1, 0], cutG sh47_0 ts5 F47_c0)]
noncomputable def X47 : Px (Bool) := ⟨T, Tryz.prog, lkF [(46, run46)], mkCuts 47 cuts47, altN, altN_ok⟩
theorem k47 : AllCuts X47 8 47 (endK sr47 (toG rb_b)) cuts47 :=
  ⟨cutG_ok (by (repeat intro _); show _ = _; kernel_rfl) (by (repeat intro _); show _ = _; kernel_rfl), trivial⟩
theorem sp47 : SpG T Tryz.prog 47 rb_b pa47 [.l [.int .i64]] sr47 F47 :=
  spG (X := X47) tok (sfok_of ⟨ok46, trivial⟩) mixed 47 8 cuts47 rfl k47 (by (repeat intro _); show _ = _; kernel_rfl)
theorem ok47 {R : Type} : SFone T Tryz.prog 47 (run47 : SF R) := okG sp47
def pa50 : List VP := [.i .i64]
def sr50 : RShape := ⟨.i .i64, [], none⟩
def run50 {R : Type} : SF R := runG rb_i pa50 [.i] sr50 false (F50 FUEL)
noncomputable def X50 : Px (Int) := ⟨T, Tryz.prog, lkF [], mkCuts 50 [], altN, altN_ok⟩
theorem sp50 : SpG T Tryz.prog 50 rb_i pa50 [.i] sr50 F50 :=
  spG (X := X50) tok (sfok_of trivial) mixed 50 8 [] rfl trivial (by (repeat intro _); show _ = _; kernel_rfl)
theorem ok50 {R : Type} : SFone T Tryz.prog 50 (run50 : SF R) := okG sp50
def pa81 : List VP := [.i .i64]
def sr81 : RShape := ⟨.b, [], none⟩
def run81 {R : Type} : SF R := runG rb_b pa81 [.i] sr81 false (F81 FUEL)
noncomputable def X81 : Px (Bool) := ⟨T, Tryz.prog, lkF [], mkCuts 81 [], altN, altN_ok⟩
theorem sp81 : SpG T Tryz.prog 81 rb_b pa81 [.i] sr81 F81 :=
  spG (X := X81) tok (sfok_of trivial) mixed 81 8 [] rfl trivial (by (repeat intro _); show _ = _; kernel_rfl)
theorem ok81 {R : Type} : SFone T Tryz.prog 81 (run81 : SF R) := okG sp81
def pa82 : List VP := [.i .i64, .i .i64]
def sr82 : RShape := ⟨.i .i64, [], none⟩
def run82 {R : Type} : SF R := runG rb_i pa82 [.i, .i] sr82 false (F82 FUEL)
noncomputable def X82 : Px (Int) := ⟨T, Tryz.prog, lkF [(50, run50)], mkCuts 82 [], altN, altN_ok⟩
theorem sp82 : SpG T Tryz.prog 82 rb_i pa82 [.i, .i] sr82 F82 :=
  spG (X := X82) tok (sfok_of ⟨ok50, trivial⟩) mixed 82 8 [] rfl trivial (by (repeat intro _); show _ = _; kernel_rfl)
theorem ok82 {R : Type} : SFone T Tryz.prog 82 (run82 : SF R) := okG sp82
def pa48 : List VP := [.i .i64, .sl false [.int .i64]]
def sr48 : RShape := ⟨.b, [], none⟩
def run48 {R : Type} : SF R := runG rb_b pa48 [.i, .l [.int .i64]] sr48 false (F48 FUEL)
def sh48_0 : Shape := ⟨[(21, [(0, .yield 7), (4, .i .i64), (8, .sl false [.int .i64]), (9, .i .i64), (10, .i .i64)]), (29, [(2, .ref 0 0), (4, .ref 1 0)])], [.cells [.i .i64], .cells [.b]]⟩
def cuts48 : List (List Nat × Cut (Bool)) := [([1, 1, 1, 0, 1, 0, 200, 1, 1, 0], cutG sh48_0 [.i, .l [.int .i64], .i, .i, .i, .b] F48_c0)]
noncomputable def X48 : Px (Bool) := ⟨T, Tryz.prog, lkF [(50, run50), (81, run81), (82, run82)], mkCuts 48 cuts48, altN, altN_ok⟩
theorem k48 : AllCuts X48 8 48 (endK sr48 (toG rb_b)) cuts48 :=
  ⟨cutG_ok (by (repeat intro _); show _ = _; kernel_rfl) (by (repeat intro _); show _ = _; kernel_rfl), trivial⟩
theorem sp48 : SpG T Tryz.prog 48 rb_b pa48 [.i, .l [.int .i64]] sr48 F48 :=
  spG (X := X48) tok (sfok_of ⟨ok50, ok81, ok82, trivial⟩) mixed 48 8 cuts48 rfl k48 (by (repeat intro _); show _ = _; kernel_rfl)
theorem ok48 {R : Type} : SFone T Tryz.prog 48 (run48 : SF R) := okG sp48
def pa26 : List VP := [.agg [.i .i64, .sl false [.int .i64], .sl false [.int .i64], .i .i64, .i .i64, .i .i64, .i .i64, .i .i64, .i .i64, .i .i64, .i .i64, .i .i64, .i .i64, .i .i64, .i .i64, .i .i64, .i .i64, .i .i64, .i .i64, .i .i64]]
def sr26 : RShape := ⟨.b, [], none⟩
def run26 {R : Type} : SF R := runG rb_b pa26 ts0 sr26 false (F26 FUEL)
def sh26_0 : Shape := ⟨[(38, [])], []⟩
def sh26_1 : Shape := ⟨[(20, [(0, .yield 7), (11, .agg [.i .i64, .i .i64, .i .i64, .i .i64, .i .i64, .i .i64, .i .i64, .i .i64, .i .i64, .i .i64, .i .i64, .i .i64, .i .i64, .i .i64, .i .i64, .i .i64]), (12, .i .i64)]), (38, [(1, .ref 0 0)])], [.cells [.i .i64, .sl false [.int .i64], .sl false [.int .i64], .i .i64, .i .i64, .i .i64, .i .i64, .i .i64, .i .i64, .i .i64, .i .i64, .i .i64, .i .i64, .i .i64, .i .i64, .i .i64, .i .i64, .i .i64, .i .i64, .i .i64]]⟩
def ts6 : List LT := [.i, .i, .i, .i, .i, .i, .i, .i, .i, .i, .i, .i, .i, .i, .i, .i, .i, .i, .l [.int .i64], .l [.int .i64], .i, .i, .i, .i, .i, .i, .i, .i, .i, .i, .i, .i, .i, .i, .i, .i, .i]
def cuts26 : List (List Nat × Cut (Bool)) := [([1, 10], cutG sh26_0 [] F26_c0), ([1, 0, 1, 0, 1, 0, 166, 1, 1, 0], cutG sh26_1 ts6 F26_c1)]
noncomputable def X26 : Px (Bool) := ⟨T, Tryz.prog, lkF [(46, run46), (47, run47), (48, run48)], mkCuts 26 cuts26, altN, altN_ok⟩
theorem k26 : AllCuts X26 8 26 (endK sr26 (toG rb_b)) cuts26 :=
  ⟨cutG_ok (by (repeat intro _); show _ = _; kernel_rfl) (by (repeat intro _); show _ = _; kernel_rfl), cutG_ok (by (repeat intro _); show _ = _; kernel_rfl) (by (repeat intro _); show _ = _; kernel_rfl), trivial⟩
theorem sp26 : SpG T Tryz.prog 26 rb_b pa26 ts0 sr26 F26 :=
  spG (X := X26) tok (sfok_of ⟨ok46, ok47, ok48, trivial⟩) mixed 26 8 cuts26 rfl k26 (by (repeat intro _); show _ = _; kernel_rfl)
theorem ok26 {R : Type} : SFone T Tryz.prog 26 (run26 : SF R) := okG sp26
def pa111 : List VP := [.sl false [.int .i64]]
def sr111 : RShape := ⟨.tup [.i .i64, .b], [], none⟩
def rb_ib : RB (Int × Bool) [.i, .b] := ⟨fun x y => (x, y), fun y => (y.1, y.2, ()), fun _ => rfl⟩
def run111 {R : Type} : SF R := runG rb_ib pa111 [.l [.int .i64]] sr111 false (F111 FUEL)
def sh111_0 : Shape := ⟨[(16, [(0, .yield 5), (5, .sl false [.int .i64]), (6, .i .i64), (7, .i .i64)]), (9, [(2, .ref 0 0), (3, .ref 1 0)])], [.cells [.i .i64], .cells [.b]]⟩
def cuts111 : List (List Nat × Cut (Int × Bool)) := [([1, 0, 1, 0, 234, 1, 0], cutG sh111_0 [.l [.int .i64], .i, .i, .i, .b] F111_c0)]
noncomputable def X111 : Px (Int × Bool) := ⟨T, Tryz.prog, lkF [], mkCuts 111 cuts111, altN, altN_ok⟩
theorem k111 : AllCuts X111 8 111 (endK sr111 (toG rb_ib)) cuts111 :=
  ⟨cutG_ok (by (repeat intro _); show _ = _; kernel_rfl) (by (repeat intro _); show _ = _; kernel_rfl), trivial⟩
theorem sp111 : SpG T Tryz.prog 111 rb_ib pa111 [.l [.int .i64]] sr111 F111 :=
  spG (X := X111) tok (sfok_of trivial) mixed 111 8 cuts111 rfl k111 (by (repeat intro _); show _ = _; kernel_rfl)
theorem ok111 {R : Type} : SFone T Tryz.prog 111 (run111 : SF R) := okG sp111
def pa112 : List VP := [.agg [.i .i64, .sl false [.int .i64], .sl false [.int .i64], .i .i64, .i .i64, .i .i64, .i .i64, .i .i64, .i .i64, .i .i64, .i .i64, .i .i64, .i .i64, .i .i64, .i .i64, .i .i64, .i .i64, .i .i64, .i .i64, .i .i64]]
def sr112 : RShape := ⟨.i .i64, [], none⟩
def run112 {R : Type} : SF R := runG rb_i pa112 ts0 sr112 false (F112 FUEL)
def sh112_0 : Shape := ⟨[(35, [(1, .ref 0 0), (3, .i .i64), (7, .sl false [.int .i64]), (8, .i .i64), (9, .i .i64)])], [.cells [.i .i64, .sl false [.int .i64], .sl false [.int .i64], .i .i64, .i .i64, .i .i64, .i .i64, .i .i64, .i .i64, .i .i64, .i .i64, .i .i64, .i .i64, .i .i64, .i .i64, .i .i64, .i .i64, .i .i64, .i .i64, .i .i64]]⟩
def ts7 : List LT := [.i, .l [.int .i64], .i, .i, .i, .l [.int .i64], .l [.int .i64], .i, .i, .i, .i, .i, .i, .i, .i, .i, .i, .i, .i, .i, .i, .i, .i, .i]
def cuts112 : List (List Nat × Cut (Int)) := [([1, 1, 0, 1, 0], cutG sh112_0 ts7 F112_c0)]
noncomputable def X112 : Px (Int) := ⟨T, Tryz.prog, lkF [(82, run82)], mkCuts 112 cuts112, altN, altN_ok⟩
theorem k112 : AllCuts X112 8 112 (endK sr112 (toG rb_i)) cuts112 :=
  ⟨cutG_ok (by (repeat intro _); show _ = _; kernel_rfl) (by (repeat intro _); show _ = _; kernel_rfl), trivial⟩
theorem sp112 : SpG T Tryz.prog 112 rb_i pa112 ts0 sr112 F112 :=
  spG (X := X112) tok (sfok_of ⟨ok82, trivial⟩) mixed 112 8 cuts112 rfl k112 (by (repeat intro _); show _ = _; kernel_rfl)
theorem ok112 {R : Type} : SFone T Tryz.prog 112 (run112 : SF R) := okG sp112
def pa101 : List VP := [.agg [.i .i64, .sl false [.int .i64], .sl false [.int .i64], .i .i64, .i .i64, .i .i64, .i .i64, .i .i64, .i .i64, .i .i64, .i .i64, .i .i64, .i .i64, .i .i64, .i .i64, .i .i64, .i .i64, .i .i64, .i .i64, .i .i64]]
def sr101 : RShape := ⟨.i .i64, [], none⟩
def run101 {R : Type} : SF R := runG rb_i pa101 ts0 sr101 false (F101 FUEL)
noncomputable def X101 : Px (Int) := ⟨T, Tryz.prog, lkF [(26, run26), (111, run111), (112, run112)], mkCuts 101 [], altN, altN_ok⟩
theorem sp101 : SpG T Tryz.prog 101 rb_i pa101 ts0 sr101 F101 :=
  spG (X := X101) tok (sfok_of ⟨ok26, ok111, ok112, trivial⟩) mixed 101 8 [] rfl trivial (by (repeat intro _); show _ = _; kernel_rfl)
theorem ok101 {R : Type} : SFone T Tryz.prog 101 (run101 : SF R) := okG sp101
def pa113 : List VP := [.i .i64, .i .i64, .i .i64]
def sr113 : RShape := ⟨.b, [], none⟩
def run113 {R : Type} : SF R := runG rb_b pa113 [.i, .i, .i] sr113 false (F113 FUEL)
noncomputable def X113 : Px (Bool) := ⟨T, Tryz.prog, lkF [(82, run82)], mkCuts 113 [], altN, altN_ok⟩
theorem sp113 : SpG T Tryz.prog 113 rb_b pa113 [.i, .i, .i] sr113 F113 :=
  spG (X := X113) tok (sfok_of ⟨ok82, trivial⟩) mixed 113 8 [] rfl trivial (by (repeat intro _); show _ = _; kernel_rfl)
theorem ok113 {R : Type} : SFone T Tryz.prog 113 (run113 : SF R) := okG sp113
def pa102 : List VP := [.i .i64, .i .i64, .i .i64]
def sr102 : RShape := ⟨.b, [], none⟩
def run102 {R : Type} : SF R := runG rb_b pa102 [.i, .i, .i] sr102 false (F102 FUEL)
noncomputable def X102 : Px (Bool) := ⟨T, Tryz.prog, lkF [(113, run113), (50, run50)], mkCuts 102 [], altN, altN_ok⟩
theorem sp102 : SpG T Tryz.prog 102 rb_b pa102 [.i, .i, .i] sr102 F102 :=
  spG (X := X102) tok (sfok_of ⟨ok113, ok50, trivial⟩) mixed 102 8 [] rfl trivial (by (repeat intro _); show _ = _; kernel_rfl)
theorem ok102 {R : Type} : SFone T Tryz.prog 102 (run102 : SF R) := okG sp102
def pa85 : List VP := [.agg [.i .i64, .sl false [.int .i64], .sl false [.int .i64], .i .i64, .i .i64, .i .i64, .i .i64, .i .i64, .i .i64, .i .i64, .i .i64, .i .i64, .i .i64, .i .i64, .i .i64, .i .i64, .i .i64, .i .i64, .i .i64, .i .i64], .i .i64, .b]
def sr85 : RShape := ⟨.tup [.i .i64, .b], [], none⟩
def ts8 : List LT := [.i, .l [.int .i64], .l [.int .i64], .i, .i, .i, .i, .i, .i, .i, .i, .i, .i, .i, .i, .i, .i, .i, .i, .i, .i, .b]
def run85 {R : Type} : SF R := runG rb_ib pa85 ts8 sr85 false (F85 FUEL)
def sh85_0 : Shape := ⟨[(38, [(0, .yield 10), (1, .ref 0 0), (13, .sl false [.int .i64]), (14, .i .i64), (15, .i .i64)]), (36, [(6, .ref 1 0), (8, .ref 2 0)])], [.cells [.i .i64, .sl false [.int .i64], .sl false [.int .i64], .i .i64, .i .i64, .i .i64, .i .i64, .i .i64, .i .i64, .i .i64, .i .i64, .i .i64, .i .i64, .i .i64, .i .i64, .i .i64, .i .i64, .i .i64, .i .i64, .i .i64], .cells [.i .i64], .cells [.clos 114 [.ref 3 0, .ref 4 0]], .cells [.i .i64], .cells [.i .i64]]⟩
def sh85_1 : Shape := ⟨[(38, [(0, .yield 10), (25, .agg [.i .i64, .i .i64, .i .i64, .i .i64, .i .i64, .i .i64, .i .i64, .i .i64, .i .i64, .i .i64, .i .i64, .i .i64, .i .i64, .i .i64, .i .i64, .i .i64]), (26, .i .i64)]), (36, [(6, .ref 0 0), (8, .ref 1 0)])], [.cells [.i .i64], .cells [.clos 114 [.ref 2 0, .ref 3 0]], .cells [.i .i64], .cells [.i .i64]]⟩
def ts9 : List LT := [.l [.int .i64], .i, .i, .i, .l [.int .i64], .l [.int .i64], .i, .i, .i, .i, .i, .i, .i, .i, .i, .i, .i, .i, .i, .i, .i, .i, .i, .i, .i, .i]
def ts10 : List LT := [.i, .i, .i, .i, .i, .i, .i, .i, .i, .i, .i, .i, .i, .i, .i, .i, .i, .i, .i, .i]
def cuts85 : List (List Nat × Cut (Int × Bool)) := [([1, 1, 1, 1, 1, 1, 0, 1, 0, 230, 1, 0, 1, 0], cutG sh85_0 ts9 F85_c0), ([1, 1, 1, 1, 1, 1, 0, 1, 0, 230, 1, 1, 1, 0], cutG sh85_1 ts10 F85_c1)]
noncomputable def X85 : Px (Int × Bool) := ⟨T, Tryz.prog, lkF [(26, run26), (101, run101), (102, run102), (113, run113), (82, run82)], mkCuts 85 cuts85, altN, altN_ok⟩
theorem k85 : AllCuts X85 8 85 (endK sr85 (toG rb_ib)) cuts85 :=
  ⟨cutG_ok (by (repeat intro _); show _ = _; kernel_rfl) (by (repeat intro _); show _ = _; kernel_rfl), cutG_ok (by (repeat intro _); show _ = _; kernel_rfl) (by (repeat intro _); show _ = _; kernel_rfl), trivial⟩
theorem sp85 : SpG T Tryz.prog 85 rb_ib pa85 ts8 sr85 F85 :=
  spG (X := X85) tok (sfok_of ⟨ok26, ok101, ok102, ok113, ok82, trivial⟩) mixed 85 8 cuts85 rfl k85 (by (repeat intro _); show _ = _; kernel_rfl)
theorem ok85 {R : Type} : SFone T Tryz.prog 85 (run85 : SF R) := okG sp85
def pa27 : List VP := [.agg [.i .i64, .sl false [.int .i64], .sl false [.int .i64], .i .i64, .i .i64, .i .i64, .i .i64, .i .i64, .i .i64, .i .i64, .i .i64, .i .i64, .i .i64, .i .i64, .i .i64, .i .i64, .i .i64, .i .i64, .i .i64, .i .i64], .i .i64]
def sr27 : RShape := ⟨.agg [.i .i64, .i .i64, .i .i64, .b, .b, .i .i64], [], none⟩
def rbSi3b2i : RB (Si3b2i) [.i, .i, .i, .b, .b, .i] := ⟨Si3b2i.mk, fun y => (y.q0, y.q1, y.q2, y.q3, y.q4, y.q5, ()), fun _ => rfl⟩
def run27 {R : Type} : SF R := runG rbSi3b2i pa27 ts1 sr27 false (F27 FUEL)
noncomputable def X27 : Px (Si3b2i) := ⟨T, Tryz.prog, lkF [(26, run26), (50, run50), (85, run85)], mkCuts 27 [], altN, altN_ok⟩
theorem sp27 : SpG T Tryz.prog 27 rbSi3b2i pa27 ts1 sr27 F27 :=
  spG (X := X27) tok (sfok_of ⟨ok26, ok50, ok85, trivial⟩) mixed 27 8 [] rfl trivial (by (repeat intro _); show _ = _; kernel_rfl)
theorem ok27 {R : Type} : SFone T Tryz.prog 27 (run27 : SF R) := okG sp27
def pa86 : List VP := [.agg [.i .i64, .i .i64, .i .i64, .b, .b, .i .i64]]
def sr86 : RShape := ⟨.b, [], none⟩
def run86 {R : Type} : SF R := runG rb_b pa86 [.i, .i, .i, .b, .b, .i] sr86 false (F86 FUEL)
noncomputable def X86 : Px (Bool) := ⟨T, Tryz.prog, lkF [], mkCuts 86 [], altN, altN_ok⟩
theorem sp86 : SpG T Tryz.prog 86 rb_b pa86 [.i, .i, .i, .b, .b, .i] sr86 F86 :=
  spG (X := X86) tok (sfok_of trivial) mixed 86 8 [] rfl trivial (by (repeat intro _); show _ = _; kernel_rfl)
theorem ok86 {R : Type} : SFone T Tryz.prog 86 (run86 : SF R) := okG sp86
def pa105 : List VP := [.i .i64]
def sr105 : RShape := ⟨.b, [], none⟩
def run105 {R : Type} : SF R := runG rb_b pa105 [.i] sr105 false (F105 FUEL)
noncomputable def X105 : Px (Bool) := ⟨T, Tryz.prog, lkF [], mkCuts 105 [], altN, altN_ok⟩
theorem sp105 : SpG T Tryz.prog 105 rb_b pa105 [.i] sr105 F105 :=
  spG (X := X105) tok (sfok_of trivial) mixed 105 8 [] rfl trivial (by (repeat intro _); show _ = _; kernel_rfl)
theorem ok105 {R : Type} : SFone T Tryz.prog 105 (run105 : SF R) := okG sp105
def pa87 : List VP := [.agg [.i .i64, .i .i64, .i .i64, .b, .b, .i .i64]]
def sr87 : RShape := ⟨.b, [], none⟩
def run87 {R : Type} : SF R := runG rb_b pa87 [.i, .i, .i, .b, .b, .i] sr87 false (F87 FUEL)
noncomputable def X87 : Px (Bool) := ⟨T, Tryz.prog, lkF [(105, run105)], mkCuts 87 [], altN, altN_ok⟩
theorem sp87 : SpG T Tryz.prog 87 rb_b pa87 [.i, .i, .i, .b, .b, .i] sr87 F87 :=
  spG (X := X87) tok (sfok_of ⟨ok105, trivial⟩) mixed 87 8 [] rfl trivial (by (repeat intro _); show _ = _; kernel_rfl)
theorem ok87 {R : Type} : SFone T Tryz.prog 87 (run87 : SF R) := okG sp87
def pa52 : List VP := [.agg [.i .i64, .i .i64, .i .i64, .b, .b, .i .i64]]
def sr52 : RShape := ⟨.tup [.agg [.i .u8, .i .i64, .i .i64, .i .i64, .i .i64, .b, .b, .i .i64, .i .i64, .nil, .s, .i .i64, .i .i64, .b, .i .i64], .b], [], none⟩
def rbSi5b2i2si2bib : RB (Si5b2i2si2bib) [.i, .i, .i, .i, .i, .b, .b, .i, .i, .s, .i, .i, .b, .i, .b] := ⟨Si5b2i2si2bib.mk, fun y => (y.q0, y.q1, y.q2, y.q3, y.q4, y.q5, y.q6, y.q7, y.q8, y.q9, y.q10, y.q11, y.q12, y.q13, y.q14, ()), fun _ => rfl⟩
def run52 {R : Type} : SF R := runG rbSi5b2i2si2bib pa52 [.i, .i, .i, .b, .b, .i] sr52 false (F52 FUEL)
noncomputable def X52 : Px (Si5b2i2si2bib) := ⟨T, Tryz.prog, lkF [(86, run86), (87, run87)], mkCuts 52 [], altN, altN_ok⟩
theorem sp52 : SpG T Tryz.prog 52 rbSi5b2i2si2bib pa52 [.i, .i, .i, .b, .b, .i] sr52 F52 :=
  spG (X := X52) tok (sfok_of ⟨ok86, ok87, trivial⟩) mixed 52 8 [] rfl trivial (by (repeat intro _); show _ = _; kernel_rfl)
theorem ok52 {R : Type} : SFone T Tryz.prog 52 (run52 : SF R) := okG sp52
def pa107 : List VP := [.sl false [.int .i64], .i .i64]
def sr107 : RShape := ⟨.i .i64, [], none⟩
def run107 {R : Type} : SF R := runG rb_i pa107 [.l [.int .i64], .i] sr107 false (F107 FUEL)
def sh107_0 : Shape := ⟨[(19, [(0, .sl false [.int .i64]), (1, .i .i64), (7, .i .i64), (8, .i .i64)])], []⟩
def cuts107 : List (List Nat × Cut (Int)) := [([1, 0, 1, 0], cutG sh107_0 [.l [.int .i64], .i, .i, .i] F107_c0)]
noncomputable def X107 : Px (Int) := ⟨T, Tryz.prog, lkF [], mkCuts 107 cuts107, altN, altN_ok⟩
theorem k107 : AllCuts X107 8 107 (endK sr107 (toG rb_i)) cuts107 :=
  ⟨cutG_ok (by (repeat intro _); show _ = _; kernel_rfl) (by (repeat intro _); show _ = _; kernel_rfl), trivial⟩
theorem sp107 : SpG T Tryz.prog 107 rb_i pa107 [.l [.int .i64], .i] sr107 F107 :=
  spG (X := X107) tok (sfok_of trivial) mixed 107 8 cuts107 rfl k107 (by (repeat intro _); show _ = _; kernel_rfl)
theorem ok107 {R : Type} : SFone T Tryz.prog 107 (run107 : SF R) := okG sp107
def pa90 : List VP := [.sl false [.int .i64], .i .i64]
def sr90 : RShape := ⟨.b, [], none⟩
def run90 {R : Type} : SF R := runG rb_b pa90 [.l [.int .i64], .i] sr90 false (F90 FUEL)
noncomputable def X90 : Px (Bool) := ⟨T, Tryz.prog, lkF [(107, run107)], mkCuts 90 [], altN, altN_ok⟩
theorem sp90 : SpG T Tryz.prog 90 rb_b pa90 [.l [.int .i64], .i] sr90 F90 :=
  spG (X := X90) tok (sfok_of ⟨ok107, trivial⟩) mixed 90 8 [] rfl trivial (by (repeat intro _); show _ = _; kernel_rfl)
theorem ok90 {R : Type} : SFone T Tryz.prog 90 (run90 : SF R) := okG sp90
def pa9 : List VP := [.agg [.i .i64, .sl false [.int .i64], .sl false [.int .i64], .i .i64, .i .i64, .i .i64, .i .i64, .i .i64, .i .i64, .i .i64, .i .i64, .i .i64, .i .i64, .i .i64, .i .i64, .i .i64, .i .i64, .i .i64, .i .i64, .i .i64], .i .u8, .i .i64, .agg [.s, .i .i64, .i .i64, .b]]
def sr9 : RShape := ⟨.tup [.agg [.i .u8, .i .u8, .i .i64, .i .i64, .i .i64, .b, .b, .i .i64, .s, .i .i64, .i .i64, .b, .i .i64, .row 0, .i .i64], .row 1, .b], [.row true [.int .i64], .row true [.int .u8, .int .i64, .int .i64, .int .i64, .int .i64, .bool, .bool, .int .i64, .int .i64, .sl [.int .i64], .str, .int .i64, .int .i64, .bool, .int .i64]], none⟩
def rbSi5b2isi2bi2bll_i5b2i2lsi2bi_ : RB (Si5b2isi2bi2bll_i5b2i2lsi2bi_) [.i, .i, .i, .i, .i, .b, .b, .i, .s, .i, .i, .b, .i, .i, .b, .l [.int .i64], .l [.int .u8, .int .i64, .int .i64, .int .i64, .int .i64, .bool, .bool, .int .i64, .int .i64, .sl [.int .i64], .str, .int .i64, .int .i64, .bool, .int .i64]] := ⟨Si5b2isi2bi2bll_i5b2i2lsi2bi_.mk, fun y => (y.q0, y.q1, y.q2, y.q3, y.q4, y.q5, y.q6, y.q7, y.q8, y.q9, y.q10, y.q11, y.q12, y.q13, y.q14, y.q15, y.q16, ()), fun _ => rfl⟩
def ts11 : List LT := [.i, .l [.int .i64], .l [.int .i64], .i, .i, .i, .i, .i, .i, .i, .i, .i, .i, .i, .i, .i, .i, .i, .i, .i, .i, .i, .s, .i, .i, .b]
def run9 {R : Type} : SF R := runG rbSi5b2isi2bi2bll_i5b2i2lsi2bi_ pa9 ts11 sr9 false (F9 FUEL)
def sh9_0 : Shape := ⟨[(136, [(0, .ref 0 0)]), (49, [(8, .ref 1 0), (14, .ref 0 0)])], [.cells [.i .i64, .sl false [.int .i64], .sl false [.int .i64], .i .i64, .i .i64, .i .i64, .i .i64, .i .i64, .i .i64, .i .i64, .i .i64, .i .i64, .i .i64, .i .i64, .i .i64, .i .i64, .i .i64, .i .i64, .i .i64, .i .i64, .i .u8, .i .u8, .i .i64, .i .i64, .i .i64, .b, .b, .i .i64, .s, .i .i64, .i .i64, .b, .i .i64, .nil, .i .i64, .nil, .b], .cells [.i .u8, .i .u8, .i .i64, .i .i64, .i .i64, .b, .b, .i .i64, .s, .i .i64, .i .i64, .b, .i .i64, .nil, .i .i64]]⟩
def sh9_1 : Shape := ⟨[(136, [(0, .ref 0 0), (2, .ref 0 20)]), (49, [(8, .ref 1 0), (14, .ref 0 0)])], [.cells [.i .i64, .sl false [.int .i64], .sl false [.int .i64], .i .i64, .i .i64, .i .i64, .i .i64, .i .i64, .i .i64, .i .i64, .i .i64, .i .i64, .i .i64, .i .i64, .i .i64, .i .i64, .i .i64, .i .i64, .i .i64, .i .i64, .i .u8, .i .u8, .i .i64, .i .i64, .i .i64, .b, .b, .i .i64, .s, .i .i64, .i .i64, .b, .i .i64, .nil, .i .i64, .nil, .b], .cells [.i .u8, .i .u8, .i .i64, .i .i64, .i .i64, .b, .b, .i .i64, .s, .i .i64, .i .i64, .b, .i .i64, .nil, .i .i64]]⟩
def sh9_2 : Shape := ⟨[(136, [(0, .ref 0 0), (2, .ref 0 20)]), (49, [(8, .ref 1 0), (14, .ref 0 0)])], [.cells [.i .i64, .sl false [.int .i64], .sl false [.int .i64], .i .i64, .i .i64, .i .i64, .i .i64, .i .i64, .i .i64, .i .i64, .i .i64, .i .i64, .i .i64, .i .i64, .i .i64, .i .i64, .i .i64, .i .i64, .i .i64, .i .i64, .i .u8, .i .u8, .i .i64, .i .i64, .i .i64, .b, .b, .i .i64, .s, .i .i64, .i .i64, .b, .i .i64, .nil, .i .i64, .nil, .b], .cells [.i .u8, .i .u8, .i .i64, .i .i64, .i .i64, .b, .b, .i .i64, .s, .i .i64, .i .i64, .b, .i .i64, .nil, .i .i64]]⟩
def sh9_3 : Shape := ⟨[(32, [(0, .yield 29), (1, .ref 0 0), (12, .rsub 1), (13, .i .i64), (14, .i .i64)]), (61, [(3, .ref 2 0), (6, .ref 3 0)]), (136, [(136, .b)]), (49, [(8, .ref 4 0), (14, .ref 5 0)])], [.cells [.rsub 1], .row true [.int .i64], .cells [.ref 5 0], .cells [.ref 5 20], .cells [.i .u8, .i .u8, .i .i64, .i .i64, .i .i64, .b, .b, .i .i64, .s, .i .i64, .i .i64, .b, .i .i64, .nil, .i .i64], .cells [.i .i64, .sl false [.int .i64], .sl false [.int .i64], .i .i64, .i .i64, .i .i64, .i .i64, .i .i64, .i .i64, .i .i64, .i .i64, .i .i64, .i .i64, .i .i64, .i .i64, .i .i64, .i .i64, .i .i64, .i .i64, .i .i64, .i .u8, .i .u8, .i .i64, .i .i64, .i .i64, .b, .b, .i .i64, .s, .i .i64, .i .i64, .b, .i .i64, .row 6, .i .i64, .row 7, .b], .row true [.int .i64], .row true [.int .u8, .int .i64, .int .i64, .int .i64, .int .i64, .bool, .bool, .int .i64, .int .i64, .sl [.int .i64], .str, .int .i64, .int .i64, .bool, .int .i64]]⟩
def ts12 : List LT := [.i, .l [.int .i64], .l [.int .i64], .i, .i, .i, .i, .i, .i, .i, .i, .i, .i, .i, .i, .i, .i, .i, .i, .i, .i, .i, .i, .i, .i, .b, .b, .i, .s, .i, .i, .b, .i, .i, .b, .i, .i, .i, .i, .i, .b, .b, .i, .s, .i, .i, .b, .i, .i]
def ts13 : List LT := [.n, .n, .i, .i, .b, .n, .n, .l [.int .i64], .i, .i, .i, .i, .i, .b, .b, .i, .s, .i, .i, .b, .i, .i, .i, .l [.int .i64], .l [.int .i64], .i, .i, .i, .i, .i, .i, .i, .i, .i, .i, .i, .i, .i, .i, .i, .i, .i, .i, .i, .i, .i, .i, .b, .b, .i, .s, .i, .i, .b, .i, .i, .b, .l [.int .i64], .l [.int .u8, .int .i64, .int .i64, .int .i64, .int .i64, .bool, .bool, .int .i64, .int .i64, .sl [.int .i64], .str, .int .i64, .int .i64, .bool, .int .i64]]
def cuts9 : List (List Nat × Cut (Si5b2isi2bi2bll_i5b2i2lsi2bi_)) := [([1, 1, 1, 1, 1, 0, 0, 56, 10], cutG sh9_0 ts12 F9_c0), ([1, 1, 1, 1, 1, 0, 0, 56, 11], cutG sh9_1 ts12 F9_c1), ([1, 1, 1, 1, 1, 0, 0, 56, 12], cutG sh9_2 ts12 F9_c2), ([1, 1, 1, 1, 1, 0, 0, 56, 11, 0, 1, 1, 0, 0, 1, 1, 1, 0, 0, 10, 108, 1, 1, 1, 1, 0, 1, 0, 212, 1, 1, 0], cutG sh9_3 ts13 F9_c3)]
noncomputable def X9 : Px (Si5b2isi2bi2bll_i5b2i2lsi2bi_) := ⟨T, Tryz.prog, lkF [(25, run25), (26, run26), (27, run27), (52, run52), (90, run90)], mkCuts 9 cuts9, altN, altN_ok⟩
theorem k9 : AllCuts X9 8 9 (endK sr9 (toG rbSi5b2isi2bi2bll_i5b2i2lsi2bi_)) cuts9 :=
  ⟨cutG_ok (by (repeat intro _); show _ = _; kernel_rfl) (by (repeat intro _); show _ = _; kernel_rfl), cutG_ok (by (repeat intro _); show _ = _; kernel_rfl) (by (repeat intro _); show _ = _; kernel_rfl), cutG_ok (by (repeat intro _); show _ = _; kernel_rfl) (by (repeat intro _); show _ = _; kernel_rfl), cutG_ok (by (repeat intro _); show _ = _; kernel_rfl) (by (repeat intro _); show _ = _; kernel_rfl), trivial⟩
theorem sp9 : SpG T Tryz.prog 9 rbSi5b2isi2bi2bll_i5b2i2lsi2bi_ pa9 ts11 sr9 F9 :=
  spG (X := X9) tok (sfok_of ⟨ok25, ok26, ok27, ok52, ok90, trivial⟩) mixed 9 8 cuts9 rfl k9 (by (repeat intro _); show _ = _; kernel_rfl)
theorem ok9 {R : Type} : SFone T Tryz.prog 9 (run9 : SF R) := okG sp9
def pa22 : List VP := [.i .u8, .i .i64, .i .i64, .b, .i .i64]
def sr22 : RShape := ⟨.agg [.i .u8, .i .i64, .i .i64, .i .i64, .i .i64, .b, .b, .i .i64, .i .i64, .row 0, .s, .i .i64, .i .i64, .b, .i .i64], [.row true [.int .i64]], none⟩
def rbSi5b2i2si2bil : RB (Si5b2i2si2bil) [.i, .i, .i, .i, .i, .b, .b, .i, .i, .s, .i, .i, .b, .i, .l [.int .i64]] := ⟨Si5b2i2si2bil.mk, fun y => (y.q0, y.q1, y.q2, y.q3, y.q4, y.q5, y.q6, y.q7, y.q8, y.q9, y.q10, y.q11, y.q12, y.q13, y.q14, ()), fun _ => rfl⟩
def run22 {R : Type} : SF R := runG rbSi5b2i2si2bil pa22 [.i, .i, .i, .b, .i] sr22 false (F22 FUEL)
noncomputable def X22 : Px (Si5b2i2si2bil) := ⟨T, Tryz.prog, lkF [], mkCuts 22 [], altN, altN_ok⟩
theorem sp22 : SpG T Tryz.prog 22 rbSi5b2i2si2bil pa22 [.i, .i, .i, .b, .i] sr22 F22 :=
  spG (X := X22) tok (sfok_of trivial) mixed 22 8 [] rfl trivial (by (repeat intro _); show _ = _; kernel_rfl)
theorem ok22 {R : Type} : SFone T Tryz.prog 22 (run22 : SF R) := okG sp22
def pa43 : List VP := [.sl false [.int .i64]]
def sr43 : RShape := ⟨.row 0, [.row true [.int .i64]], none⟩
def rb_l : RB ((List (Int))) [.l [.int .i64]] := ⟨fun x => x, fun y => (y, ()), fun _ => rfl⟩
def run43 {R : Type} : SF R := runG rb_l pa43 [.l [.int .i64]] sr43 false (F43 FUEL)
noncomputable def X43 : Px ((List (Int))) := ⟨T, Tryz.prog, lkF [], mkCuts 43 [], altE, altE_ok⟩
theorem sp43 : SpG T Tryz.prog 43 rb_l pa43 [.l [.int .i64]] sr43 F43 :=
  spG (X := X43) tok (sfok_of trivial) mixed 43 8 [] rfl trivial (by (repeat intro _); show _ = _; kernel_rfl)
theorem ok43 {R : Type} : SFone T Tryz.prog 43 (run43 : SF R) := okG sp43
def pa24 : List VP := [.agg [.i .u8, .i .u8, .i .i64, .i .i64, .i .i64, .b, .b, .i .i64, .s, .i .i64, .i .i64, .b, .i .i64, .sl false [.int .i64], .i .i64]]
def sr24 : RShape := ⟨.agg [.i .u8, .i .u8, .i .i64, .i .i64, .i .i64, .b, .b, .i .i64, .s, .i .i64, .i .i64, .b, .i .i64, .row 0, .i .i64], [.row true [.int .i64]], none⟩
def rbSi5b2isi2bi2l : RB (Si5b2isi2bi2l) [.i, .i, .i, .i, .i, .b, .b, .i, .s, .i, .i, .b, .i, .i, .l [.int .i64]] := ⟨Si5b2isi2bi2l.mk, fun y => (y.q0, y.q1, y.q2, y.q3, y.q4, y.q5, y.q6, y.q7, y.q8, y.q9, y.q10, y.q11, y.q12, y.q13, y.q14, ()), fun _ => rfl⟩
def ts14 : List LT := [.i, .i, .i, .i, .i, .b, .b, .i, .s, .i, .i, .b, .i, .l [.int .i64], .i]
def run24 {R : Type} : SF R := runG rbSi5b2isi2bi2l pa24 ts14 sr24 true (F24 FUEL)
noncomputable def X24 : Px (Si5b2isi2bi2l) := ⟨T, Tryz.prog, lkF [(43, run43)], mkCuts 24 [], altN, altN_ok⟩
theorem sp24 : SpG T Tryz.prog 24 rbSi5b2isi2bi2l pa24 ts14 sr24 F24 :=
  spG (X := X24) tok (sfok_of ⟨ok43, trivial⟩) mixed 24 8 [] rfl trivial (by (repeat intro _); show _ = _; kernel_rfl)
theorem ok24 {R : Type} : SFone T Tryz.prog 24 (run24 : SF R) := okG sp24
def pa93 : List VP := [.i .i64, .sl false [.int .i64]]
def sr93 : RShape := ⟨.b, [], none⟩
def run93 {R : Type} : SF R := runG rb_b pa93 [.i, .l [.int .i64]] sr93 false (F93 FUEL)
def sh93_0 : Shape := ⟨[(25, [(0, .i .i64), (1, .sl false [.int .i64]), (7, .sl false [.int .i64]), (8, .i .i64), (9, .i .i64)])], []⟩
def ts15 : List LT := [.i, .l [.int .i64], .l [.int .i64], .i, .i]
def cuts93 : List (List Nat × Cut (Bool)) := [([1, 0, 1, 0], cutG sh93_0 ts15 F93_c0)]
noncomputable def X93 : Px (Bool) := ⟨T, Tryz.prog, lkF [(90, run90)], mkCuts 93 cuts93, altN, altN_ok⟩
theorem k93 : AllCuts X93 8 93 (endK sr93 (toG rb_b)) cuts93 :=
  ⟨cutG_ok (by (repeat intro _); show _ = _; kernel_rfl) (by (repeat intro _); show _ = _; kernel_rfl), trivial⟩
theorem sp93 : SpG T Tryz.prog 93 rb_b pa93 [.i, .l [.int .i64]] sr93 F93 :=
  spG (X := X93) tok (sfok_of ⟨ok90, trivial⟩) mixed 93 8 cuts93 rfl k93 (by (repeat intro _); show _ = _; kernel_rfl)
theorem ok93 {R : Type} : SFone T Tryz.prog 93 (run93 : SF R) := okG sp93
def pa61 : List VP := [.agg [.i .u8, .i .i64, .i .i64, .i .i64, .i .i64, .b, .b, .i .i64, .i .i64, .sl false [.int .i64], .s, .i .i64, .i .i64, .b, .i .i64]]
def sr61 : RShape := ⟨.b, [], none⟩
def ts16 : List LT := [.i, .i, .i, .i, .i, .b, .b, .i, .i, .l [.int .i64], .s, .i, .i, .b, .i]
def run61 {R : Type} : SF R := runG rb_b pa61 ts16 sr61 false (F61 FUEL)
noncomputable def X61 : Px (Bool) := ⟨T, Tryz.prog, lkF [(45, run45), (78, run78), (93, run93)], mkCuts 61 [], altN, altN_ok⟩
theorem sp61 : SpG T Tryz.prog 61 rb_b pa61 ts16 sr61 F61 :=
  spG (X := X61) tok (sfok_of ⟨ok45, ok78, ok93, trivial⟩) mixed 61 8 [] rfl trivial (by (repeat intro _); show _ = _; kernel_rfl)
theorem ok61 {R : Type} : SFone T Tryz.prog 61 (run61 : SF R) := okG sp61
def pa63 : List VP := [.i .i64]
def sr63 : RShape := ⟨.b, [], none⟩
def run63 {R : Type} : SF R := runG rb_b pa63 [.i] sr63 false (F63 FUEL)
noncomputable def X63 : Px (Bool) := ⟨T, Tryz.prog, lkF [], mkCuts 63 [], altN, altN_ok⟩
theorem sp63 : SpG T Tryz.prog 63 rb_b pa63 [.i] sr63 F63 :=
  spG (X := X63) tok (sfok_of trivial) mixed 63 8 [] rfl trivial (by (repeat intro _); show _ = _; kernel_rfl)
theorem ok63 {R : Type} : SFone T Tryz.prog 63 (run63 : SF R) := okG sp63
def pa95 : List VP := [.agg [.i .u8, .i .i64, .i .i64, .i .i64, .i .i64, .b, .b, .i .i64, .i .i64, .sl false [.int .i64], .s, .i .i64, .i .i64, .b, .i .i64]]
def sr95 : RShape := ⟨.b, [], none⟩
def run95 {R : Type} : SF R := runG rb_b pa95 ts16 sr95 false (F95 FUEL)
noncomputable def X95 : Px (Bool) := ⟨T, Tryz.prog, lkF [], mkCuts 95 [], altN, altN_ok⟩
theorem sp95 : SpG T Tryz.prog 95 rb_b pa95 ts16 sr95 F95 :=
  spG (X := X95) tok (sfok_of trivial) mixed 95 8 [] rfl trivial (by (repeat intro _); show _ = _; kernel_rfl)
theorem ok95 {R : Type} : SFone T Tryz.prog 95 (run95 : SF R) := okG sp95
def pa65 : List VP := [.agg [.i .u8, .i .i64, .i .i64, .i .i64, .i .i64, .b, .b, .i .i64, .i .i64, .sl false [.int .i64], .s, .i .i64, .i .i64, .b, .i .i64]]
def sr65 : RShape := ⟨.i .i64, [], none⟩
def run65 {R : Type} : SF R := runG rb_i pa65 ts16 sr65 false (F65 FUEL)
noncomputable def X65 : Px (Int) := ⟨T, Tryz.prog, lkF [(95, run95)], mkCuts 65 [], altN, altN_ok⟩
theorem sp65 : SpG T Tryz.prog 65 rb_i pa65 ts16 sr65 F65 :=
  spG (X := X65) tok (sfok_of ⟨ok95, trivial⟩) mixed 65 8 [] rfl trivial (by (repeat intro _); show _ = _; kernel_rfl)
theorem ok65 {R : Type} : SFone T Tryz.prog 65 (run65 : SF R) := okG sp65
def pa64 : List VP := [.i .i64, .i .i64]
def sr64 : RShape := ⟨.b, [], none⟩
def run64 {R : Type} : SF R := runG rb_b pa64 [.i, .i] sr64 false (F64 FUEL)
noncomputable def X64 : Px (Bool) := ⟨T, Tryz.prog, lkF [], mkCuts 64 [], altN, altN_ok⟩
theorem sp64 : SpG T Tryz.prog 64 rb_b pa64 [.i, .i] sr64 F64 :=
  spG (X := X64) tok (sfok_of trivial) mixed 64 8 [] rfl trivial (by (repeat intro _); show _ = _; kernel_rfl)
theorem ok64 {R : Type} : SFone T Tryz.prog 64 (run64 : SF R) := okG sp64
def pa67 : List VP := [.agg [.i .u8, .i .i64, .i .i64, .i .i64, .i .i64, .b, .b, .i .i64, .i .i64, .opq 0, .s, .i .i64, .i .i64, .b, .i .i64]]
def sr67 : RShape := ⟨.agg [.i .u8, .i .i64, .i .i64, .i .i64, .i .i64, .b, .b, .i .i64, .i .i64, .opq 0, .s, .i .i64, .i .i64, .b, .i .i64], [], some (.agg [.i .u8, .i .i64, .i .i64, .i .i64, .i .i64, .b, .b, .i .i64, .i .i64, .nil, .s, .i .i64, .i .i64, .b, .i .i64])⟩
def rbSbi5b2i2si2bi : RB (Sbi5b2i2si2bi) [.b, .i, .i, .i, .i, .i, .b, .b, .i, .i, .s, .i, .i, .b, .i] := ⟨Sbi5b2i2si2bi.mk, fun y => (y.q0, y.q1, y.q2, y.q3, y.q4, y.q5, y.q6, y.q7, y.q8, y.q9, y.q10, y.q11, y.q12, y.q13, y.q14, ()), fun _ => rfl⟩
def ts17 : List LT := [.i, .i, .i, .i, .i, .b, .b, .i, .i, .s, .i, .i, .b, .i]
def run67 {R : Type} : SF R := runG rbSbi5b2i2si2bi pa67 ts17 sr67 false (F67 FUEL)
noncomputable def X67 : Px (Sbi5b2i2si2bi) := ⟨T, Tryz.prog, lkF [], mkCuts 67 [], altN, altN_ok⟩
theorem sp67 : SpG T Tryz.prog 67 rbSbi5b2i2si2bi pa67 ts17 sr67 F67 :=
  spG (X := X67) tok (sfok_of trivial) mixed 67 8 [] rfl trivial (by (repeat intro _); show _ = _; kernel_rfl)
theorem ok67 {R : Type} : SFone T Tryz.prog 67 (run67 : SF R) := okG sp67
def pa42 : List VP := [.sl false [.int .i64], .sl false [.int .i64]]
def sr42 : RShape := ⟨.b, [], none⟩
def run42 {R : Type} : SF R := runG rb_b pa42 [.l [.int .i64], .l [.int .i64]] sr42 false (F42 FUEL)
def sh42_0 : Shape := ⟨[(26, [(0, .sl false [.int .i64]), (1, .sl false [.int .i64]), (12, .i .i64), (13, .i .i64)])], []⟩
def cuts42 : List (List Nat × Cut (Bool)) := [([1, 1, 0, 1, 0], cutG sh42_0 ts5 F42_c0)]
noncomputable def X42 : Px (Bool) := ⟨T, Tryz.prog, lkF [], mkCuts 42 cuts42, altN, altN_ok⟩
theorem k42 : AllCuts X42 8 42 (endK sr42 (toG rb_b)) cuts42 :=
  ⟨cutG_ok (by (repeat intro _); show _ = _; kernel_rfl) (by (repeat intro _); show _ = _; kernel_rfl), trivial⟩
theorem sp42 : SpG T Tryz.prog 42 rb_b pa42 [.l [.int .i64], .l [.int .i64]] sr42 F42 :=
  spG (X := X42) tok (sfok_of trivial) mixed 42 8 cuts42 rfl k42 (by (repeat intro _); show _ = _; kernel_rfl)
theorem ok42 {R : Type} : SFone T Tryz.prog 42 (run42 : SF R) := okG sp42
def pa66 : List VP := [.agg [.i .u8, .i .i64, .i .i64, .i .i64, .i .i64, .b, .b, .i .i64, .i .i64, .sl false [.int .i64], .s, .i .i64, .i .i64, .b, .i .i64], .agg [.i .u8, .i .i64, .i .i64, .i .i64, .i .i64, .b, .b, .i .i64, .i .i64, .sl false [.int .i64], .s, .i .i64, .i .i64, .b, .i .i64]]
def sr66 : RShape := ⟨.b, [], none⟩
def ts18 : List LT := [.i, .i, .i, .i, .i, .b, .b, .i, .i, .l [.int .i64], .s, .i, .i, .b, .i, .i, .i, .i, .i, .i, .b, .b, .i, .i, .l [.int .i64], .s, .i, .i, .b, .i]
def run66 {R : Type} : SF R := runG rb_b pa66 ts18 sr66 false (F66 FUEL)
noncomputable def X66 : Px (Bool) := ⟨T, Tryz.prog, lkF [(42, run42)], mkCuts 66 [], altN, altN_ok⟩
theorem sp66 : SpG T Tryz.prog 66 rb_b pa66 ts18 sr66 F66 :=
  spG (X := X66) tok (sfok_of ⟨ok42, trivial⟩) mixed 66 8 [] rfl trivial (by (repeat intro _); show _ = _; kernel_rfl)
theorem ok66 {R : Type} : SFone T Tryz.prog 66 (run66 : SF R) := okG sp66
def pa30 : List VP := [.agg [.i .u8, .i .i64, .i .i64, .i .i64, .i .i64, .b, .b, .i .i64, .i .i64, .sl false [.int .i64], .s, .i .i64, .i .i64, .b, .i .i64]]
def sr30 : RShape := ⟨.b, [], none⟩
def run30 {R : Type} : SF R := runG rb_b pa30 ts16 sr30 false (F30 FUEL)
def sh30_0 : Shape := ⟨[(40, [])], []⟩
def sh30_1 : Shape := ⟨[(55, [(0, .yield 7), (44, .sl false [.int .i64]), (45, .i .i64), (46, .i .i64)]), (40, [(1, .ref 0 0)])], [.cells [.i .u8, .i .i64, .i .i64, .i .i64, .i .i64, .b, .b, .i .i64, .i .i64, .sl false [.int .i64], .s, .i .i64, .i .i64, .b, .i .i64]]⟩
def ts19 : List LT := [.l [.int .i64], .i, .i, .i, .i, .i, .i, .i, .b, .b, .i, .i, .l [.int .i64], .s, .i, .i, .b, .i]
def cuts30 : List (List Nat × Cut (Bool)) := [([1, 10], cutG sh30_0 [] F30_c0), ([1, 0, 1, 0, 1, 0, 188, 1, 1, 0, 1, 1, 1, 1, 1, 0, 1, 1, 0], cutG sh30_1 ts19 F30_c1)]
noncomputable def X30 : Px (Bool) := ⟨T, Tryz.prog, lkF [(61, run61), (63, run63), (65, run65), (64, run64), (67, run67), (66, run66)], mkCuts 30 cuts30, altN, altN_ok⟩
theorem k30 : AllCuts X30 8 30 (endK sr30 (toG rb_b)) cuts30 :=
  ⟨cutG_ok (by (repeat intro _); show _ = _; kernel_rfl) (by (repeat intro _); show _ = _; kernel_rfl), cutG_ok (by (repeat intro _); show _ = _; kernel_rfl) (by (repeat intro _); show _ = _; kernel_rfl), trivial⟩
theorem sp30 : SpG T Tryz.prog 30 rb_b pa30 ts16 sr30 F30 :=
  spG (X := X30) tok (sfok_of ⟨ok61, ok63, ok65, ok64, ok67, ok66, trivial⟩) mixed 30 8 cuts30 rfl k30 (by (repeat intro _); show _ = _; kernel_rfl)
theorem ok30 {R : Type} : SFone T Tryz.prog 30 (run30 : SF R) := okG sp30
def pa89 : List VP := [.agg [.i .i64, .i .i64, .i .i64, .b, .b, .i .i64]]
def sr89 : RShape := ⟨.tup [.agg [.i .i64, .i .i64, .i .i64, .b, .b, .i .i64], .b], [], none⟩
def rbSi3b2ib : RB (Si3b2ib) [.i, .i, .i, .b, .b, .i, .b] := ⟨Si3b2ib.mk, fun y => (y.q0, y.q1, y.q2, y.q3, y.q4, y.q5, y.q6, ()), fun _ => rfl⟩
def run89 {R : Type} : SF R := runG rbSi3b2ib pa89 [.i, .i, .i, .b, .b, .i] sr89 false (F89 FUEL)
noncomputable def X89 : Px (Si3b2ib) := ⟨T, Tryz.prog, lkF [], mkCuts 89 [], altN, altN_ok⟩
theorem sp89 : SpG T Tryz.prog 89 rbSi3b2ib pa89 [.i, .i, .i, .b, .b, .i] sr89 F89 :=
  spG (X := X89) tok (sfok_of trivial) mixed 89 8 [] rfl trivial (by (repeat intro _); show _ = _; kernel_rfl)
theorem ok89 {R : Type} : SFone T Tryz.prog 89 (run89 : SF R) := okG sp89
def pa69 : List VP := [.agg [.i .i64, .sl false [.int .i64], .sl false [.int .i64], .i .i64, .i .i64, .i .i64, .i .i64, .i .i64, .i .i64, .i .i64, .i .i64, .i .i64, .i .i64, .i .i64, .i .i64, .i .i64, .i .i64, .i .i64, .i .i64, .i .i64], .agg [.i .i64, .i .i64, .i .i64, .b, .b, .i .i64], .agg [.i .u8, .i .i64, .i .i64, .i .i64, .i .i64, .b, .b, .i .i64, .i .i64, .sl false [.int .i64], .s, .i .i64, .i .i64, .b, .i .i64]]
def sr69 : RShape := ⟨.agg [.i .i64, .i .i64, .i .i64, .b, .b, .i .i64], [], none⟩
def ts20 : List LT := [.i, .l [.int .i64], .l [.int .i64], .i, .i, .i, .i, .i, .i, .i, .i, .i, .i, .i, .i, .i, .i, .i, .i, .i, .i, .i, .i, .b, .b, .i, .i, .i, .i, .i, .i, .b, .b, .i, .i, .l [.int .i64], .s, .i, .i, .b, .i]
def run69 {R : Type} : SF R := runG rbSi3b2i pa69 ts20 sr69 false (F69 FUEL)
def sh69_0 : Shape := ⟨[(55, [(4, .ref 0 0), (6, .ref 1 0)])], [.cells [.i .i64, .i .i64, .i .i64, .b, .b, .i .i64], .cells [.i .i64, .i .i64, .i .i64, .b, .b, .i .i64]]⟩
def ts21 : List LT := [.i, .i, .i, .b, .b, .i, .i, .i, .i, .b, .b, .i]
def cuts69 : List (List Nat × Cut (Si3b2i)) := [([1, 10], cutG sh69_0 ts21 F69_c0)]
noncomputable def X69 : Px (Si3b2i) := ⟨T, Tryz.prog, lkF [(26, run26), (87, run87), (86, run86), (30, run30), (89, run89), (85, run85)], mkCuts 69 cuts69, altN, altN_ok⟩
theorem k69 : AllCuts X69 8 69 (endK sr69 (toG rbSi3b2i)) cuts69 :=
  ⟨cutG_ok (by (repeat intro _); show _ = _; kernel_rfl) (by (repeat intro _); show _ = _; kernel_rfl), trivial⟩
theorem sp69 : SpG T Tryz.prog 69 rbSi3b2i pa69 ts20 sr69 F69 :=
  spG (X := X69) tok (sfok_of ⟨ok26, ok87, ok86, ok30, ok89, ok85, trivial⟩) mixed 69 8 cuts69 rfl k69 (by (repeat intro _); show _ = _; kernel_rfl)
theorem ok69 {R : Type} : SFone T Tryz.prog 69 (run69 : SF R) := okG sp69
def pa12 : List VP := [.agg [.i .i64, .sl false [.int .i64], .sl false [.int .i64], .i .i64, .i .i64, .i .i64, .i .i64, .i .i64, .i .i64, .i .i64, .i .i64, .i .i64, .i .i64, .i .i64, .i .i64, .i .i64, .i .i64, .i .i64, .i .i64, .i .i64], .agg [.i .u8, .i .u8, .i .i64, .i .i64, .i .i64, .b, .b, .i .i64, .s, .i .i64, .i .i64, .b, .i .i64, .sl false [.int .i64], .i .i64], .agg [.i .u8, .i .i64, .i .i64, .i .i64, .i .i64, .b, .b, .i .i64, .i .i64, .sl false [.int .i64], .s, .i .i64, .i .i64, .b, .i .i64]]
def sr12 : RShape := ⟨.tup [.agg [.i .u8, .i .u8, .i .i64, .i .i64, .i .i64, .b, .b, .i .i64, .s, .i .i64, .i .i64, .b, .i .i64, .sl true [.int .i64], .i .i64], .row 0, .b], [.row true [.int .u8, .int .i64, .int .i64, .int .i64, .int .i64, .bool, .bool, .int .i64, .int .i64, .sl [.int .i64], .str, .int .i64, .int .i64, .bool, .int .i64]], none⟩
def rbSi5b2isi2bilibl_i5b2i2lsi2bi_ : RB (Si5b2isi2bilibl_i5b2i2lsi2bi_) [.i, .i, .i, .i, .i, .b, .b, .i, .s, .i, .i, .b, .i, .l [.int .i64], .i, .b, .l [.int .u8, .int .i64, .int .i64, .int .i64, .int .i64, .bool, .bool, .int .i64, .int .i64, .sl [.int .i64], .str, .int .i64, .int .i64, .bool, .int .i64]] := ⟨Si5b2isi2bilibl_i5b2i2lsi2bi_.mk, fun y => (y.q0, y.q1, y.q2, y.q3, y.q4, y.q5, y.q6, y.q7, y.q8, y.q9, y.q10, y.q11, y.q12, y.q13, y.q14, y.q15, y.q16, ()), fun _ => rfl⟩
def ts22 : List LT := [.i, .l [.int .i64], .l [.int .i64], .i, .i, .i, .i, .i, .i, .i, .i, .i, .i, .i, .i, .i, .i, .i, .i, .i, .i, .i, .i, .i, .i, .b, .b, .i, .s, .i, .i, .b, .i, .l [.int .i64], .i, .i, .i, .i, .i, .i, .b, .b, .i, .i, .l [.int .i64], .s, .i, .i, .b, .i]
def run12 {R : Type} : SF R := runG rbSi5b2isi2bilibl_i5b2i2lsi2bi_ pa12 ts22 sr12 false (F12 FUEL)
def sh12_0 : Shape := ⟨[(136, [(0, .ref 0 0)]), (32, []), (46, [(6, .ref 1 0), (9, .ref 0 0)])], [.cells [.i .i64, .sl false [.int .i64], .sl false [.int .i64], .i .i64, .i .i64, .i .i64, .i .i64, .i .i64, .i .i64, .i .i64, .i .i64, .i .i64, .i .i64, .i .i64, .i .i64, .i .i64, .i .i64, .i .i64, .i .i64, .i .i64, .i .u8, .i .u8, .i .i64, .i .i64, .i .i64, .b, .b, .i .i64, .s, .i .i64, .i .i64, .b, .i .i64, .row 2, .i .i64, .nil, .b], .cells [.i .u8, .i .u8, .i .i64, .i .i64, .i .i64, .b, .b, .i .i64, .s, .i .i64, .i .i64, .b, .i .i64, .nil, .i .i64], .row true [.int .i64]]⟩
def sh12_1 : Shape := ⟨[(136, [(0, .ref 0 0), (2, .ref 0 20)]), (32, []), (46, [(6, .ref 1 0), (9, .ref 0 0)])], [.cells [.i .i64, .sl false [.int .i64], .sl false [.int .i64], .i .i64, .i .i64, .i .i64, .i .i64, .i .i64, .i .i64, .i .i64, .i .i64, .i .i64, .i .i64, .i .i64, .i .i64, .i .i64, .i .i64, .i .i64, .i .i64, .i .i64, .i .u8, .i .u8, .i .i64, .i .i64, .i .i64, .b, .b, .i .i64, .s, .i .i64, .i .i64, .b, .i .i64, .row 2, .i .i64, .nil, .b], .cells [.i .u8, .i .u8, .i .i64, .i .i64, .i .i64, .b, .b, .i .i64, .s, .i .i64, .i .i64, .b, .i .i64, .nil, .i .i64], .row true [.int .i64]]⟩
def sh12_2 : Shape := ⟨[(32, [(0, .yield 23), (1, .ref 0 0), (12, .rsub 1), (13, .i .i64), (14, .i .i64)]), (61, [(3, .ref 2 0), (6, .ref 3 0)]), (24, [(24, .b)]), (46, [(6, .ref 4 0), (9, .ref 5 0)])], [.cells [.rsub 1], .row true [.int .i64], .cells [.ref 5 0], .cells [.ref 5 20], .cells [.i .u8, .i .u8, .i .i64, .i .i64, .i .i64, .b, .b, .i .i64, .s, .i .i64, .i .i64, .b, .i .i64, .nil, .i .i64], .cells [.i .i64, .sl false [.int .i64], .sl false [.int .i64], .i .i64, .i .i64, .i .i64, .i .i64, .i .i64, .i .i64, .i .i64, .i .i64, .i .i64, .i .i64, .i .i64, .i .i64, .i .i64, .i .i64, .i .i64, .i .i64, .i .i64, .i .u8, .i .u8, .i .i64, .i .i64, .i .i64, .b, .b, .i .i64, .s, .i .i64, .i .i64, .b, .i .i64, .row 6, .i .i64, .row 7, .b], .row true [.int .i64], .row true [.int .u8, .int .i64, .int .i64, .int .i64, .int .i64, .bool, .bool, .int .i64, .int .i64, .sl [.int .i64], .str, .int .i64, .int .i64, .bool, .int .i64]]⟩
def sh12_3 : Shape := ⟨[(19, [(0, .row 0), (1, .clos 92 [.ref 1 0]), (7, .i .i64), (8, .i .i64)]), (42, [(0, .row 0), (1, .clos 92 [.ref 1 0])]), (40, [(0, .ref 2 0), (2, .i .i64), (6, .ref 2 20), (17, .ref 2 20)]), (12, []), (46, [(6, .ref 3 0), (9, .ref 2 0)])], [.row true [.int .i64], .cells [.i .i64], .cells [.i .i64, .sl false [.int .i64], .sl false [.int .i64], .i .i64, .i .i64, .i .i64, .i .i64, .i .i64, .i .i64, .i .i64, .i .i64, .i .i64, .i .i64, .i .i64, .i .i64, .i .i64, .i .i64, .i .i64, .i .i64, .i .i64, .i .u8, .i .u8, .i .i64, .i .i64, .i .i64, .b, .b, .i .i64, .s, .i .i64, .i .i64, .b, .i .i64, .row 0, .i .i64, .nil, .b], .cells [.i .u8, .i .u8, .i .i64, .i .i64, .i .i64, .b, .b, .i .i64, .s, .i .i64, .i .i64, .b, .i .i64, .nil, .i .i64]]⟩
def sh12_4 : Shape := ⟨[(136, [(0, .ref 0 0), (2, .ref 0 20)]), (32, []), (46, [(6, .ref 1 0), (9, .ref 0 0)])], [.cells [.i .i64, .sl false [.int .i64], .sl false [.int .i64], .i .i64, .i .i64, .i .i64, .i .i64, .i .i64, .i .i64, .i .i64, .i .i64, .i .i64, .i .i64, .i .i64, .i .i64, .i .i64, .i .i64, .i .i64, .i .i64, .i .i64, .i .u8, .i .u8, .i .i64, .i .i64, .i .i64, .b, .b, .i .i64, .s, .i .i64, .i .i64, .b, .i .i64, .row 2, .i .i64, .nil, .b], .cells [.i .u8, .i .u8, .i .i64, .i .i64, .i .i64, .b, .b, .i .i64, .s, .i .i64, .i .i64, .b, .i .i64, .nil, .i .i64], .row true [.int .i64]]⟩
def sh12_5 : Shape := ⟨[(32, [(0, .yield 37), (1, .ref 0 0), (12, .rsub 1), (13, .i .i64), (14, .i .i64)]), (61, [(3, .ref 2 0), (6, .ref 3 0)]), (136, [(136, .b)]), (32, []), (46, [(6, .ref 4 0), (9, .ref 5 0)])], [.cells [.rsub 1], .row true [.int .i64], .cells [.ref 5 0], .cells [.ref 5 20], .cells [.i .u8, .i .u8, .i .i64, .i .i64, .i .i64, .b, .b, .i .i64, .s, .i .i64, .i .i64, .b, .i .i64, .nil, .i .i64], .cells [.i .i64, .sl false [.int .i64], .sl false [.int .i64], .i .i64, .i .i64, .i .i64, .i .i64, .i .i64, .i .i64, .i .i64, .i .i64, .i .i64, .i .i64, .i .i64, .i .i64, .i .i64, .i .i64, .i .i64, .i .i64, .i .i64, .i .u8, .i .u8, .i .i64, .i .i64, .i .i64, .b, .b, .i .i64, .s, .i .i64, .i .i64, .b, .i .i64, .row 6, .i .i64, .row 7, .b], .row true [.int .i64], .row true [.int .u8, .int .i64, .int .i64, .int .i64, .int .i64, .bool, .bool, .int .i64, .int .i64, .sl [.int .i64], .str, .int .i64, .int .i64, .bool, .int .i64]]⟩
def sh12_6 : Shape := ⟨[(42, [(0, .row 0), (1, .clos 92 [.ref 1 0]), (5, .i .i64), (6, .i .i64)]), (40, [(0, .ref 2 0), (2, .i .i64), (6, .ref 2 20), (17, .ref 2 20)]), (12, []), (46, [(6, .ref 3 0), (9, .ref 2 0)])], [.row true [.int .i64], .cells [.i .i64], .cells [.i .i64, .sl false [.int .i64], .sl false [.int .i64], .i .i64, .i .i64, .i .i64, .i .i64, .i .i64, .i .i64, .i .i64, .i .i64, .i .i64, .i .i64, .i .i64, .i .i64, .i .i64, .i .i64, .i .i64, .i .i64, .i .i64, .i .u8, .i .u8, .i .i64, .i .i64, .i .i64, .b, .b, .i .i64, .s, .i .i64, .i .i64, .b, .i .i64, .row 0, .i .i64, .nil, .b], .cells [.i .u8, .i .u8, .i .i64, .i .i64, .i .i64, .b, .b, .i .i64, .s, .i .i64, .i .i64, .b, .i .i64, .nil, .i .i64]]⟩
def ts23 : List LT := [.i, .l [.int .i64], .l [.int .i64], .i, .i, .i, .i, .i, .i, .i, .i, .i, .i, .i, .i, .i, .i, .i, .i, .i, .i, .i, .i, .i, .i, .b, .b, .i, .s, .i, .i, .b, .i, .i, .b, .i, .i, .i, .i, .i, .b, .b, .i, .s, .i, .i, .b, .i, .i, .l [.int .i64]]
def ts24 : List LT := [.i, .i, .i, .l [.int .i64], .i, .i, .l [.int .i64], .l [.int .i64], .i, .i, .i, .i, .i, .i, .i, .i, .i, .i, .i, .i, .i, .i, .i, .i, .i, .i, .i, .i, .i, .i, .b, .b, .i, .s, .i, .i, .b, .i, .i, .b, .i, .i, .i, .i, .i, .b, .b, .i, .s, .i, .i, .b, .i, .i]
def cuts12 : List (List Nat × Cut (Si5b2isi2bilibl_i5b2i2lsi2bi_)) := [([1, 1, 0, 1, 0, 1, 1, 0, 2, 136, 1, 1, 0, 1, 1, 56, 10], cutG sh12_0 ts23 F12_c0), ([1, 1, 0, 1, 0, 1, 1, 0, 2, 136, 1, 1, 0, 1, 1, 56, 11], cutG sh12_1 ts23 F12_c1), ([1, 1, 0, 1, 0, 1, 1, 0, 2, 140, 1, 1, 0, 7, 108, 1, 1, 1, 1, 0, 1, 0, 212, 1, 1, 0], cutG sh12_2 ts13 F12_c2), ([1, 1, 0, 1, 0, 1, 1, 0, 2, 142, 1, 1, 0, 5, 120, 1, 1, 1, 0, 6, 182, 1, 0, 2, 216, 1, 0, 1, 0], cutG sh12_3 ts24 F12_c3), ([1, 1, 0, 1, 0, 1, 1, 0, 2, 136, 1, 1, 0, 1, 1, 56, 12], cutG sh12_4 ts23 F12_c4), ([1, 1, 0, 1, 0, 1, 1, 0, 2, 136, 1, 1, 0, 1, 1, 56, 11, 0, 1, 1, 0, 0, 1, 1, 1, 0, 0, 10, 108, 1, 1, 1, 1, 0, 1, 0, 212, 1, 1, 0], cutG sh12_5 ts13 F12_c5), ([1, 1, 0, 1, 0, 1, 1, 0, 2, 142, 1, 1, 0, 5, 120, 1, 1, 1, 0, 6, 182, 1, 1, 1, 0, 1, 0], cutG sh12_6 ts24 F12_c6)]
noncomputable def X12 : Px (Si5b2isi2bilibl_i5b2i2lsi2bi_) := ⟨T, Tryz.prog, lkF [(24, run24), (26, run26), (30, run30), (69, run69), (52, run52), (90, run90)], mkCuts 12 cuts12, altN, altN_ok⟩
theorem k12 : AllCuts X12 8 12 (endK sr12 (toG rbSi5b2isi2bilibl_i5b2i2lsi2bi_)) cuts12 :=
  ⟨cutG_ok (by (repeat intro _); show _ = _; kernel_rfl) (by (repeat intro _); show _ = _; kernel_rfl), cutG_ok (by (repeat intro _); show _ = _; kernel_rfl) (by (repeat intro _); show _ = _; kernel_rfl), cutG_ok (by (repeat intro _); show _ = _; kernel_rfl) (by (repeat intro _); show _ = _; kernel_rfl), cutG_ok (by (repeat intro _); show _ = _; kernel_rfl) (by (repeat intro _); show _ = _; kernel_rfl), cutG_ok (by (repeat intro _); show _ = _; kernel_rfl) (by (repeat intro _); show _ = _; kernel_rfl), cutG_ok (by (repeat intro _); show _ = _; kernel_rfl) (by (repeat intro _); show _ = _; kernel_rfl), cutG_ok (by (repeat intro _); show _ = _; kernel_rfl) (by (repeat intro _); show _ = _; kernel_rfl), trivial⟩
theorem sp12 : SpG T Tryz.prog 12 rbSi5b2isi2bilibl_i5b2i2lsi2bi_ pa12 ts22 sr12 F12 :=
  spG (X := X12) tok (sfok_of ⟨ok24, ok26, ok30, ok69, ok52, ok90, trivial⟩) mixed 12 8 cuts12 rfl k12 (by (repeat intro _); show _ = _; kernel_rfl)
theorem ok12 {R : Type} : SFone T Tryz.prog 12 (run12 : SF R) := okG sp12
def pa58 : List VP := [.agg [.i .i64, .sl false [.int .i64], .sl false [.int .i64], .i .i64, .i .i64, .i .i64, .i .i64, .i .i64, .i .i64, .i .i64, .i .i64, .i .i64, .i .i64, .i .i64, .i .i64, .i .i64, .i .i64, .i .i64, .i .i64, .i .i64], .agg [.i .i64, .i .i64, .i .i64, .b, .b, .i .i64]]
def sr58 : RShape := ⟨.agg [.i .i64, .i .i64, .i .i64, .b, .b, .i .i64], [], none⟩
def ts25 : List LT := [.i, .l [.int .i64], .l [.int .i64], .i, .i, .i, .i, .i, .i, .i, .i, .i, .i, .i, .i, .i, .i, .i, .i, .i, .i, .i, .i, .b, .b, .i]
def run58 {R : Type} : SF R := runG rbSi3b2i pa58 ts25 sr58 false (F58 FUEL)
def sh58_0 : Shape := ⟨[(36, [(3, .ref 0 0), (4, .ref 1 0)])], [.cells [.i .i64, .i .i64, .i .i64, .b, .b, .i .i64], .cells [.i .i64, .i .i64, .i .i64, .b, .b, .i .i64]]⟩
def cuts58 : List (List Nat × Cut (Si3b2i)) := [([1, 10], cutG sh58_0 ts21 F58_c0)]
noncomputable def X58 : Px (Si3b2i) := ⟨T, Tryz.prog, lkF [(26, run26), (87, run87), (86, run86), (89, run89), (85, run85)], mkCuts 58 cuts58, altN, altN_ok⟩
theorem k58 : AllCuts X58 8 58 (endK sr58 (toG rbSi3b2i)) cuts58 :=
  ⟨cutG_ok (by (repeat intro _); show _ = _; kernel_rfl) (by (repeat intro _); show _ = _; kernel_rfl), trivial⟩
theorem sp58 : SpG T Tryz.prog 58 rbSi3b2i pa58 ts25 sr58 F58 :=
  spG (X := X58) tok (sfok_of ⟨ok26, ok87, ok86, ok89, ok85, trivial⟩) mixed 58 8 cuts58 rfl k58 (by (repeat intro _); show _ = _; kernel_rfl)
theorem ok58 {R : Type} : SFone T Tryz.prog 58 (run58 : SF R) := okG sp58
def pa11 : List VP := [.agg [.i .i64, .sl false [.int .i64], .sl false [.int .i64], .i .i64, .i .i64, .i .i64, .i .i64, .i .i64, .i .i64, .i .i64, .i .i64, .i .i64, .i .i64, .i .i64, .i .i64, .i .i64, .i .i64, .i .i64, .i .i64, .i .i64], .agg [.i .u8, .i .u8, .i .i64, .i .i64, .i .i64, .b, .b, .i .i64, .s, .i .i64, .i .i64, .b, .i .i64, .sl false [.int .i64], .i .i64], .i .i64]
def sr11 : RShape := ⟨.tup [.agg [.i .u8, .i .u8, .i .i64, .i .i64, .i .i64, .b, .b, .i .i64, .s, .i .i64, .i .i64, .b, .i .i64, .sl true [.int .i64], .i .i64], .row 0, .b], [.row true [.int .u8, .int .i64, .int .i64, .int .i64, .int .i64, .bool, .bool, .int .i64, .int .i64, .sl [.int .i64], .str, .int .i64, .int .i64, .bool, .int .i64]], none⟩
def ts26 : List LT := [.i, .l [.int .i64], .l [.int .i64], .i, .i, .i, .i, .i, .i, .i, .i, .i, .i, .i, .i, .i, .i, .i, .i, .i, .i, .i, .i, .i, .i, .b, .b, .i, .s, .i, .i, .b, .i, .l [.int .i64], .i, .i]
def run11 {R : Type} : SF R := runG rbSi5b2isi2bilibl_i5b2i2lsi2bi_ pa11 ts26 sr11 false (F11 FUEL)
def sh11_0 : Shape := ⟨[(136, [(0, .ref 0 0)]), (25, []), (35, [(6, .ref 1 0), (9, .ref 0 0)])], [.cells [.i .i64, .sl false [.int .i64], .sl false [.int .i64], .i .i64, .i .i64, .i .i64, .i .i64, .i .i64, .i .i64, .i .i64, .i .i64, .i .i64, .i .i64, .i .i64, .i .i64, .i .i64, .i .i64, .i .i64, .i .i64, .i .i64, .i .u8, .i .u8, .i .i64, .i .i64, .i .i64, .b, .b, .i .i64, .s, .i .i64, .i .i64, .b, .i .i64, .row 2, .i .i64, .nil, .b], .cells [.i .u8, .i .u8, .i .i64, .i .i64, .i .i64, .b, .b, .i .i64, .s, .i .i64, .i .i64, .b, .i .i64, .nil, .i .i64], .row true [.int .i64]]⟩
def sh11_1 : Shape := ⟨[(136, [(0, .ref 0 0), (2, .ref 0 20)]), (25, []), (35, [(6, .ref 1 0), (9, .ref 0 0)])], [.cells [.i .i64, .sl false [.int .i64], .sl false [.int .i64], .i .i64, .i .i64, .i .i64, .i .i64, .i .i64, .i .i64, .i .i64, .i .i64, .i .i64, .i .i64, .i .i64, .i .i64, .i .i64, .i .i64, .i .i64, .i .i64, .i .i64, .i .u8, .i .u8, .i .i64, .i .i64, .i .i64, .b, .b, .i .i64, .s, .i .i64, .i .i64, .b, .i .i64, .row 2, .i .i64, .nil, .b], .cells [.i .u8, .i .u8, .i .i64, .i .i64, .i .i64, .b, .b, .i .i64, .s, .i .i64, .i .i64, .b, .i .i64, .nil, .i .i64], .row true [.int .i64]]⟩
def sh11_2 : Shape := ⟨[(19, [(0, .row 0), (1, .clos 92 [.ref 1 0]), (7, .i .i64), (8, .i .i64)]), (42, [(0, .row 0), (1, .clos 92 [.ref 1 0])]), (40, [(0, .ref 2 0), (2, .i .i64), (6, .ref 2 20), (17, .ref 2 20)]), (6, []), (35, [(6, .ref 3 0), (9, .ref 2 0)])], [.row true [.int .i64], .cells [.i .i64], .cells [.i .i64, .sl false [.int .i64], .sl false [.int .i64], .i .i64, .i .i64, .i .i64, .i .i64, .i .i64, .i .i64, .i .i64, .i .i64, .i .i64, .i .i64, .i .i64, .i .i64, .i .i64, .i .i64, .i .i64, .i .i64, .i .i64, .i .u8, .i .u8, .i .i64, .i .i64, .i .i64, .b, .b, .i .i64, .s, .i .i64, .i .i64, .b, .i .i64, .row 0, .i .i64, .nil, .b], .cells [.i .u8, .i .u8, .i .i64, .i .i64, .i .i64, .b, .b, .i .i64, .s, .i .i64, .i .i64, .b, .i .i64, .nil, .i .i64]]⟩
def sh11_3 : Shape := ⟨[(136, [(0, .ref 0 0), (2, .ref 0 20)]), (25, []), (35, [(6, .ref 1 0), (9, .ref 0 0)])], [.cells [.i .i64, .sl false [.int .i64], .sl false [.int .i64], .i .i64, .i .i64, .i .i64, .i .i64, .i .i64, .i .i64, .i .i64, .i .i64, .i .i64, .i .i64, .i .i64, .i .i64, .i .i64, .i .i64, .i .i64, .i .i64, .i .i64, .i .u8, .i .u8, .i .i64, .i .i64, .i .i64, .b, .b, .i .i64, .s, .i .i64, .i .i64, .b, .i .i64, .row 2, .i .i64, .nil, .b], .cells [.i .u8, .i .u8, .i .i64, .i .i64, .i .i64, .b, .b, .i .i64, .s, .i .i64, .i .i64, .b, .i .i64, .nil, .i .i64], .row true [.int .i64]]⟩
def sh11_4 : Shape := ⟨[(32, [(0, .yield 36), (1, .ref 0 0), (12, .rsub 1), (13, .i .i64), (14, .i .i64)]), (61, [(3, .ref 2 0), (6, .ref 3 0)]), (136, [(136, .b)]), (25, []), (35, [(6, .ref 4 0), (9, .ref 5 0)])], [.cells [.rsub 1], .row true [.int .i64], .cells [.ref 5 0], .cells [.ref 5 20], .cells [.i .u8, .i .u8, .i .i64, .i .i64, .i .i64, .b, .b, .i .i64, .s, .i .i64, .i .i64, .b, .i .i64, .nil, .i .i64], .cells [.i .i64, .sl false [.int .i64], .sl false [.int .i64], .i .i64, .i .i64, .i .i64, .i .i64, .i .i64, .i .i64, .i .i64, .i .i64, .i .i64, .i .i64, .i .i64, .i .i64, .i .i64, .i .i64, .i .i64, .i .i64, .i .i64, .i .u8, .i .u8, .i .i64, .i .i64, .i .i64, .b, .b, .i .i64, .s, .i .i64, .i .i64, .b, .i .i64, .row 6, .i .i64, .row 7, .b], .row true [.int .i64], .row true [.int .u8, .int .i64, .int .i64, .int .i64, .int .i64, .bool, .bool, .int .i64, .int .i64, .sl [.int .i64], .str, .int .i64, .int .i64, .bool, .int .i64]]⟩
def sh11_5 : Shape := ⟨[(42, [(0, .row 0), (1, .clos 92 [.ref 1 0]), (5, .i .i64), (6, .i .i64)]), (40, [(0, .ref 2 0), (2, .i .i64), (6, .ref 2 20), (17, .ref 2 20)]), (6, []), (35, [(6, .ref 3 0), (9, .ref 2 0)])], [.row true [.int .i64], .cells [.i .i64], .cells [.i .i64, .sl false [.int .i64], .sl false [.int .i64], .i .i64, .i .i64, .i .i64, .i .i64, .i .i64, .i .i64, .i .i64, .i .i64, .i .i64, .i .i64, .i .i64, .i .i64, .i .i64, .i .i64, .i .i64, .i .i64, .i .i64, .i .u8, .i .u8, .i .i64, .i .i64, .i .i64, .b, .b, .i .i64, .s, .i .i64, .i .i64, .b, .i .i64, .row 0, .i .i64, .nil, .b], .cells [.i .u8, .i .u8, .i .i64, .i .i64, .i .i64, .b, .b, .i .i64, .s, .i .i64, .i .i64, .b, .i .i64, .nil, .i .i64]]⟩
def cuts11 : List (List Nat × Cut (Si5b2isi2bilibl_i5b2i2lsi2bi_)) := [([1, 1, 0, 1, 0, 1, 1, 0, 2, 114, 1, 0, 1, 1, 56, 10], cutG sh11_0 ts23 F11_c0), ([1, 1, 0, 1, 0, 1, 1, 0, 2, 114, 1, 0, 1, 1, 56, 11], cutG sh11_1 ts23 F11_c1), ([1, 1, 0, 1, 0, 1, 1, 0, 2, 118, 2, 120, 1, 1, 1, 0, 6, 182, 1, 0, 2, 216, 1, 0, 1, 0], cutG sh11_2 ts24 F11_c2), ([1, 1, 0, 1, 0, 1, 1, 0, 2, 114, 1, 0, 1, 1, 56, 12], cutG sh11_3 ts23 F11_c3), ([1, 1, 0, 1, 0, 1, 1, 0, 2, 114, 1, 0, 1, 1, 56, 11, 0, 1, 1, 0, 0, 1, 1, 1, 0, 0, 10, 108, 1, 1, 1, 1, 0, 1, 0, 212, 1, 1, 0], cutG sh11_4 ts13 F11_c4), ([1, 1, 0, 1, 0, 1, 1, 0, 2, 118, 2, 120, 1, 1, 1, 0, 6, 182, 1, 1, 1, 0, 1, 0], cutG sh11_5 ts24 F11_c5)]
noncomputable def X11 : Px (Si5b2isi2bilibl_i5b2i2lsi2bi_) := ⟨T, Tryz.prog, lkF [(24, run24), (26, run26), (58, run58), (52, run52), (90, run90)], mkCuts 11 cuts11, altN, altN_ok⟩
theorem k11 : AllCuts X11 8 11 (endK sr11 (toG rbSi5b2isi2bilibl_i5b2i2lsi2bi_)) cuts11 :=
  ⟨cutG_ok (by (repeat intro _); show _ = _; kernel_rfl) (by (repeat intro _); show _ = _; kernel_rfl), cutG_ok (by (repeat intro _); show _ = _; kernel_rfl) (by (repeat intro _); show _ = _; kernel_rfl), cutG_ok (by (repeat intro _); show _ = _; kernel_rfl) (by (repeat intro _); show _ = _; kernel_rfl), cutG_ok (by (repeat intro _); show _ = _; kernel_rfl) (by (repeat intro _); show _ = _; kernel_rfl), cutG_ok (by (repeat intro _); show _ = _; kernel_rfl) (by (repeat intro _); show _ = _; kernel_rfl), cutG_ok (by (repeat intro _); show _ = _; kernel_rfl) (by (repeat intro _); show _ = _; kernel_rfl), trivial⟩
theorem sp11 : SpG T Tryz.prog 11 rbSi5b2isi2bilibl_i5b2i2lsi2bi_ pa11 ts26 sr11 F11 :=
  spG (X := X11) tok (sfok_of ⟨ok24, ok26, ok58, ok52, ok90, trivial⟩) mixed 11 8 cuts11 rfl k11 (by (repeat intro _); show _ = _; kernel_rfl)
theorem ok11 {R : Type} : SFone T Tryz.prog 11 (run11 : SF R) := okG sp11
def pa23 : List VP := [.agg [.i .u8, .i .u8, .i .i64, .i .i64, .i .i64, .b, .b, .i .i64, .s, .i .i64, .i .i64, .b, .i .i64, .sl false [.int .i64], .i .i64], .agg [.i .u8, .i .u8, .i .i64, .i .i64, .i .i64, .b, .b, .i .i64, .s, .i .i64, .i .i64, .b, .i .i64, .sl false [.int .i64], .i .i64]]
def sr23 : RShape := ⟨.b, [], none⟩
def ts27 : List LT := [.i, .i, .i, .i, .i, .b, .b, .i, .s, .i, .i, .b, .i, .l [.int .i64], .i, .i, .i, .i, .i, .i, .b, .b, .i, .s, .i, .i, .b, .i, .l [.int .i64], .i]
def run23 {R : Type} : SF R := runG rb_b pa23 ts27 sr23 false (F23 FUEL)
noncomputable def X23 : Px (Bool) := ⟨T, Tryz.prog, lkF [(42, run42)], mkCuts 23 [], altN, altN_ok⟩
theorem sp23 : SpG T Tryz.prog 23 rb_b pa23 ts27 sr23 F23 :=
  spG (X := X23) tok (sfok_of ⟨ok42, trivial⟩) mixed 23 8 [] rfl trivial (by (repeat intro _); show _ = _; kernel_rfl)
theorem ok23 {R : Type} : SFone T Tryz.prog 23 (run23 : SF R) := okG sp23
def pa8 : List VP := []
def sr8 : RShape := ⟨.b, [], none⟩
def run8 {R : Type} : SF R := runG rb_b pa8 [] sr8 false (F8 FUEL)
noncomputable def X8 : Px (Bool) := ⟨T, Tryz.prog, lkF [(21, run21), (9, run9), (22, run22), (12, run12), (11, run11), (24, run24), (23, run23)], mkCuts 8 [], altN, altN_ok⟩
theorem sp8 : SpG T Tryz.prog 8 rb_b pa8 [] sr8 F8 :=
  spG (X := X8) tok (sfok_of ⟨ok21, ok9, ok22, ok12, ok11, ok24, ok23, trivial⟩) mixed 8 8 [] rfl trivial (by (repeat intro _); show _ = _; kernel_rfl)
theorem ok8 {R : Type} : SFone T Tryz.prog 8 (run8 : SF R) := okG sp8
def pa32 : List VP := [.i .i64]
def sr32 : RShape := ⟨.b, [], none⟩
def run32 {R : Type} : SF R := runG rb_b pa32 [.i] sr32 false (F32 FUEL)
noncomputable def X32 : Px (Bool) := ⟨T, Tryz.prog, lkF [], mkCuts 32 [], altN, altN_ok⟩
theorem sp32 : SpG T Tryz.prog 32 rb_b pa32 [.i] sr32 F32 :=
  spG (X := X32) tok (sfok_of trivial) mixed 32 8 [] rfl trivial (by (repeat intro _); show _ = _; kernel_rfl)
theorem ok32 {R : Type} : SFone T Tryz.prog 32 (run32 : SF R) := okG sp32
def pa73 : List VP := [.agg [.i .u8, .i .i64, .i .i64, .i .i64, .i .i64, .b, .b, .i .i64, .i .i64, .sl false [.int .i64], .s, .i .i64, .i .i64, .b, .i .i64]]
def sr73 : RShape := ⟨.b, [], none⟩
def run73 {R : Type} : SF R := runG rb_b pa73 ts16 sr73 false (F73 FUEL)
noncomputable def X73 : Px (Bool) := ⟨T, Tryz.prog, lkF [], mkCuts 73 [], altN, altN_ok⟩
theorem sp73 : SpG T Tryz.prog 73 rb_b pa73 ts16 sr73 F73 :=
  spG (X := X73) tok (sfok_of trivial) mixed 73 8 [] rfl trivial (by (repeat intro _); show _ = _; kernel_rfl)
theorem ok73 {R : Type} : SFone T Tryz.prog 73 (run73 : SF R) := okG sp73
def pa33 : List VP := [.agg [.i .u8, .i .i64, .i .i64, .i .i64, .i .i64, .b, .b, .i .i64, .i .i64, .sl false [.int .i64], .s, .i .i64, .i .i64, .b, .i .i64]]
def sr33 : RShape := ⟨.i .i64, [], none⟩
def run33 {R : Type} : SF R := runG rb_i pa33 ts16 sr33 false (F33 FUEL)
noncomputable def X33 : Px (Int) := ⟨T, Tryz.prog, lkF [(73, run73)], mkCuts 33 [], altN, altN_ok⟩
theorem sp33 : SpG T Tryz.prog 33 rb_i pa33 ts16 sr33 F33 :=
  spG (X := X33) tok (sfok_of ⟨ok73, trivial⟩) mixed 33 8 [] rfl trivial (by (repeat intro _); show _ = _; kernel_rfl)
theorem ok33 {R : Type} : SFone T Tryz.prog 33 (run33 : SF R) := okG sp33
def pa35 : List VP := [.agg [.i .u8, .i .i64, .i .i64, .i .i64, .i .i64, .b, .b, .i .i64, .i .i64, .opq 0, .s, .i .i64, .i .i64, .b, .i .i64]]
def sr35 : RShape := ⟨.agg [.i .u8, .i .i64, .i .i64, .i .i64, .i .i64, .b, .b, .i .i64, .i .i64, .opq 0, .s, .i .i64, .i .i64, .b, .i .i64], [], some (.agg [.i .u8, .i .i64, .i .i64, .i .i64, .i .i64, .b, .b, .i .i64, .i .i64, .nil, .s, .i .i64, .i .i64, .b, .i .i64])⟩
def run35 {R : Type} : SF R := runG rbSbi5b2i2si2bi pa35 ts17 sr35 false (F35 FUEL)
noncomputable def X35 : Px (Sbi5b2i2si2bi) := ⟨T, Tryz.prog, lkF [], mkCuts 35 [], altN, altN_ok⟩
theorem sp35 : SpG T Tryz.prog 35 rbSbi5b2i2si2bi pa35 ts17 sr35 F35 :=
  spG (X := X35) tok (sfok_of trivial) mixed 35 8 [] rfl trivial (by (repeat intro _); show _ = _; kernel_rfl)
theorem ok35 {R : Type} : SFone T Tryz.prog 35 (run35 : SF R) := okG sp35
def pa34 : List VP := [.agg [.i .u8, .i .i64, .i .i64, .i .i64, .i .i64, .b, .b, .i .i64, .i .i64, .sl false [.int .i64], .s, .i .i64, .i .i64, .b, .i .i64], .agg [.i .u8, .i .i64, .i .i64, .i .i64, .i .i64, .b, .b, .i .i64, .i .i64, .sl false [.int .i64], .s, .i .i64, .i .i64, .b, .i .i64]]
def sr34 : RShape := ⟨.b, [], none⟩
def run34 {R : Type} : SF R := runG rb_b pa34 ts18 sr34 false (F34 FUEL)
def sh34_0 : Shape := ⟨[(106, [(2, .ref 0 0), (3, .ref 1 0), (5, .i .i64)])], [.cells [.i .u8, .i .i64, .i .i64, .i .i64, .i .i64, .b, .b, .i .i64, .i .i64, .sl false [.int .i64], .s, .i .i64, .i .i64, .b, .i .i64], .cells [.i .u8, .i .i64, .i .i64, .i .i64, .i .i64, .b, .b, .i .i64, .i .i64, .sl false [.int .i64], .s, .i .i64, .i .i64, .b, .i .i64]]⟩
def ts28 : List LT := [.i, .i, .i, .i, .i, .i, .b, .b, .i, .i, .l [.int .i64], .s, .i, .i, .b, .i, .i, .i, .i, .i, .i, .b, .b, .i, .i, .l [.int .i64], .s, .i, .i, .b, .i]
def cuts34 : List (List Nat × Cut (Bool)) := [([1, 1, 0, 1, 0], cutG sh34_0 ts28 F34_c0)]
noncomputable def X34 : Px (Bool) := ⟨T, Tryz.prog, lkF [], mkCuts 34 cuts34, altN, altN_ok⟩
theorem k34 : AllCuts X34 8 34 (endK sr34 (toG rb_b)) cuts34 :=
  ⟨cutG_ok (by (repeat intro _); show _ = _; kernel_rfl) (by (repeat intro _); show _ = _; kernel_rfl), trivial⟩
theorem sp34 : SpG T Tryz.prog 34 rb_b pa34 ts18 sr34 F34 :=
  spG (X := X34) tok (sfok_of trivial) mixed 34 8 cuts34 rfl k34 (by (repeat intro _); show _ = _; kernel_rfl)
theorem ok34 {R : Type} : SFone T Tryz.prog 34 (run34 : SF R) := okG sp34
def pa17 : List VP := [.agg [.s, .i .i64, .i .i64, .b]]
def sr17 : RShape := ⟨.b, [], none⟩
def run17 {R : Type} : SF R := runG rb_b pa17 [.s, .i, .i, .b] sr17 false (F17 FUEL)
noncomputable def X17 : Px (Bool) := ⟨T, Tryz.prog, lkF [], mkCuts 17 [], altN, altN_ok⟩
theorem sp17 : SpG T Tryz.prog 17 rb_b pa17 [.s, .i, .i, .b] sr17 F17 :=
  spG (X := X17) tok (sfok_of trivial) mixed 17 8 [] rfl trivial (by (repeat intro _); show _ = _; kernel_rfl)
theorem ok17 {R : Type} : SFone T Tryz.prog 17 (run17 : SF R) := okG sp17
def pa74 : List VP := [.sl false [.int .i64], .i .i64]
def sr74 : RShape := ⟨.b, [], none⟩
def run74 {R : Type} : SF R := runG rb_b pa74 [.l [.int .i64], .i] sr74 false (F74 FUEL)
def sh74_0 : Shape := ⟨[(44, [(0, .sl false [.int .i64]), (1, .i .i64), (5, .i .i64)])], []⟩
def sh74_1 : Shape := ⟨[(44, [(0, .sl false [.int .i64]), (1, .i .i64), (5, .i .i64), (6, .i .i64)])], []⟩
def cuts74 : List (List Nat × Cut (Bool)) := [([1, 0, 1, 0], cutG sh74_0 [.l [.int .i64], .i, .i] F74_c0), ([1, 0, 1, 0, 0, 1, 0, 0, 1, 1, 0], cutG sh74_1 [.l [.int .i64], .i, .i, .i] F74_c1)]
noncomputable def X74 : Px (Bool) := ⟨T, Tryz.prog, lkF [(32, run32)], mkCuts 74 cuts74, altN, altN_ok⟩
theorem k74 : AllCuts X74 8 74 (endK sr74 (toG rb_b)) cuts74 :=
  ⟨cutG_ok (by (repeat intro _); show _ = _; kernel_rfl) (by (repeat intro _); show _ = _; kernel_rfl), cutG_ok (by (repeat intro _); show _ = _; kernel_rfl) (by (repeat intro _); show _ = _; kernel_rfl), trivial⟩
theorem sp74 : SpG T Tryz.prog 74 rb_b pa74 [.l [.int .i64], .i] sr74 F74 :=
  spG (X := X74) tok (sfok_of ⟨ok32, trivial⟩) mixed 74 8 cuts74 rfl k74 (by (repeat intro _); show _ = _; kernel_rfl)
theorem ok74 {R : Type} : SFone T Tryz.prog 74 (run74 : SF R) := okG sp74
def pa36 : List VP := [.agg [.i .u8, .i .i64, .i .i64, .i .i64, .i .i64, .b, .b, .i .i64, .i .i64, .sl false [.int .i64], .s, .i .i64, .i .i64, .b, .i .i64]]
def sr36 : RShape := ⟨.b, [], none⟩
def run36 {R : Type} : SF R := runG rb_b pa36 ts16 sr36 false (F36 FUEL)
noncomputable def X36 : Px (Bool) := ⟨T, Tryz.prog, lkF [(32, run32), (17, run17), (74, run74)], mkCuts 36 [], altN, altN_ok⟩
theorem sp36 : SpG T Tryz.prog 36 rb_b pa36 ts16 sr36 F36 :=
  spG (X := X36) tok (sfok_of ⟨ok32, ok17, ok74, trivial⟩) mixed 36 8 [] rfl trivial (by (repeat intro _); show _ = _; kernel_rfl)
theorem ok36 {R : Type} : SFone T Tryz.prog 36 (run36 : SF R) := okG sp36
def pa16 : List VP := [.agg [.i .u8, .i .i64, .i .i64, .i .i64, .i .i64, .b, .b, .i .i64, .i .i64, .sl false [.int .i64], .s, .i .i64, .i .i64, .b, .i .i64]]
def sr16 : RShape := ⟨.b, [], none⟩
def run16 {R : Type} : SF R := runG rb_b pa16 ts16 sr16 false (F16 FUEL)
noncomputable def X16 : Px (Bool) := ⟨T, Tryz.prog, lkF [(32, run32), (33, run33), (35, run35), (34, run34), (36, run36)], mkCuts 16 [], altN, altN_ok⟩
theorem sp16 : SpG T Tryz.prog 16 rb_b pa16 ts16 sr16 F16 :=
  spG (X := X16) tok (sfok_of ⟨ok32, ok33, ok35, ok34, ok36, trivial⟩) mixed 16 8 [] rfl trivial (by (repeat intro _); show _ = _; kernel_rfl)
theorem ok16 {R : Type} : SFone T Tryz.prog 16 (run16 : SF R) := okG sp16
def pa13 : List VP := [.agg [.i .u8, .i .u8, .i .i64, .i .i64, .i .i64, .b, .b, .i .i64, .s, .i .i64, .i .i64, .b, .i .i64, .sl false [.int .i64], .i .i64], .agg [.i .u8, .i .u8, .i .i64, .i .i64, .i .i64, .b, .b, .i .i64, .s, .i .i64, .i .i64, .b, .i .i64, .sl false [.int .i64], .i .i64]]
def sr13 : RShape := ⟨.b, [], none⟩
def run13 {R : Type} : SF R := runG rb_b pa13 ts27 sr13 false (F13 FUEL)
def sh13_0 : Shape := ⟨[(71, [(2, .ref 0 0), (3, .ref 1 0), (5, .i .i64)])], [.cells [.i .u8, .i .u8, .i .i64, .i .i64, .i .i64, .b, .b, .i .i64, .s, .i .i64, .i .i64, .b, .i .i64, .sl false [.int .i64], .i .i64], .cells [.i .u8, .i .u8, .i .i64, .i .i64, .i .i64, .b, .b, .i .i64, .s, .i .i64, .i .i64, .b, .i .i64, .sl false [.int .i64], .i .i64]]⟩
def ts29 : List LT := [.i, .i, .i, .i, .i, .i, .b, .b, .i, .s, .i, .i, .b, .i, .l [.int .i64], .i, .i, .i, .i, .i, .i, .b, .b, .i, .s, .i, .i, .b, .i, .l [.int .i64], .i]
def cuts13 : List (List Nat × Cut (Bool)) := [([1, 1, 0, 1, 0], cutG sh13_0 ts29 F13_c0)]
noncomputable def X13 : Px (Bool) := ⟨T, Tryz.prog, lkF [], mkCuts 13 cuts13, altN, altN_ok⟩
theorem k13 : AllCuts X13 8 13 (endK sr13 (toG rb_b)) cuts13 :=
  ⟨cutG_ok (by (repeat intro _); show _ = _; kernel_rfl) (by (repeat intro _); show _ = _; kernel_rfl), trivial⟩
theorem sp13 : SpG T Tryz.prog 13 rb_b pa13 ts27 sr13 F13 :=
  spG (X := X13) tok (sfok_of trivial) mixed 13 8 cuts13 rfl k13 (by (repeat intro _); show _ = _; kernel_rfl)
theorem ok13 {R : Type} : SFone T Tryz.prog 13 (run13 : SF R) := okG sp13
def pa3 : List VP := [.agg [.i .i64, .sl false [.int .i64], .sl false [.int .i64], .i .i64, .i .i64, .i .i64, .i .i64, .i .i64, .i .i64, .i .i64, .i .i64, .i .i64, .i .i64, .i .i64, .i .i64, .i .i64, .i .i64, .i .i64, .i .i64, .i .i64], .i .u8, .i .i64, .agg [.s, .i .i64, .i .i64, .b], .sl false [.bool, .bool, .int .i64, .sl [.int .i64], .bool]]
def sr3 : RShape := ⟨.b, [], none⟩
def ts30 : List LT := [.i, .l [.int .i64], .l [.int .i64], .i, .i, .i, .i, .i, .i, .i, .i, .i, .i, .i, .i, .i, .i, .i, .i, .i, .i, .i, .s, .i, .i, .b, .l [.bool, .bool, .int .i64, .sl [.int .i64], .bool]]
def sh3_0 : Shape := ⟨[(190, [(1, .i .u8), (4, .sl false [.bool, .bool, .int .i64, .sl [.int .i64], .bool]), (5, .ref 0 0), (11, .ref 1 0), (13, .b), (14, .row 2), (15, .b), (16, .i .i64), (17, .i .i64)])], [.cells [.i .i64, .sl false [.int .i64], .sl false [.int .i64], .i .i64, .i .i64, .i .i64, .i .i64, .i .i64, .i .i64, .i .i64, .i .i64, .i .i64, .i .i64, .i .i64, .i .i64, .i .i64, .i .i64, .i .i64, .i .i64, .i .i64], .cells [.i .u8, .i .u8, .i .i64, .i .i64, .i .i64, .b, .b, .i .i64, .s, .i .i64, .i .i64, .b, .i .i64, .sl true [.int .i64], .i .i64], .row true [.int .u8, .int .i64, .int .i64, .int .i64, .int .i64, .bool, .bool, .int .i64, .int .i64, .sl [.int .i64], .str, .int .i64, .int .i64, .bool, .int .i64], .gone]⟩
def ts31 : List LT := [.i, .l [.bool, .bool, .int .i64, .sl [.int .i64], .bool], .b, .b, .i, .i, .i, .l [.int .i64], .l [.int .i64], .i, .i, .i, .i, .i, .i, .i, .i, .i, .i, .i, .i, .i, .i, .i, .i, .i, .i, .i, .i, .i, .i, .b, .b, .i, .s, .i, .i, .b, .i, .l [.int .i64], .i, .l [.int .u8, .int .i64, .int .i64, .int .i64, .int .i64, .bool, .bool, .int .i64, .int .i64, .sl [.int .i64], .str, .int .i64, .int .i64, .bool, .int .i64]]
def cuts3 : List (List Nat × Cut (Bool)) := [([1, 1, 1, 1, 1, 0, 1, 0], cutG sh3_0 ts31 F3_c0)]
noncomputable def X3 : Px (Bool) := ⟨T, Tryz.prog, lkF [(6, run6), (8, run8), (7, run7), (9, run9), (16, run16), (11, run11), (12, run12), (13, run13)], mkCuts 3 cuts3, altN, altN_ok⟩
theorem k3 : AllCuts X3 8 3 (endK sr3 (toG rb_b)) cuts3 :=
  ⟨cutG_ok (by (repeat intro _); show _ = _; kernel_rfl) (by (repeat intro _); show _ = _; kernel_rfl), trivial⟩
theorem sp3 : SpG T Tryz.prog 3 rb_b pa3 ts30 sr3 F3 :=
  spG (X := X3) tok (sfok_of ⟨ok6, ok8, ok7, ok9, ok16, ok11, ok12, ok13, trivial⟩) mixed 3 8 cuts3 rfl k3 (by (repeat intro _); show _ = _; kernel_rfl)
end Go.Proofs.YtlcbbjcehaahlaaGreat
