/-
  The functions of this program, evaluated; each is as it is evaluated.
-/
import Derived.Test.YtglcodeinalnjaaEvR
import Derived.Test.YtglcodeinalnjaaVsT
import Derived.KernelRfl
namespace Go.Proofs.Ytglcodeinalnjaa
open Go Go.RowKit
set_option maxRecDepth 100000

theorem mixed : Try.prog.follows .mixedOrders = true := by kernel_rfl


/-! ### garland/arc.Place -/
def F26 (n : Nat) (a0 : Int) : Option (Int) :=
  some (bits .and .i64 a0 (65535))
def pa26 : List VP := [.i .i64]
def sr26 : RShape := ⟨.i .i64, []⟩
def toB26 : List Leaf → Option (Int) := gI (fun b0 => gE (some b0))
def ofB26 (y : Int) : List Leaf := [.i y]
theorem toB26_ok : ∀ ls b, toB26 ls = some b → ls = ofB26 b := by
  intro ls b h
  unfold toB26 at h
  obtain ⟨b0, ls1, rfl, h1⟩ := gI_ok h; obtain ⟨rfl, h2⟩ := gE_ok h1
  cases h2; rfl
def run26 {R : Type} : SF R := ⟨pa26, sr26, fun ls K => (gI (fun a0 => gE (Option.bind (F26 FUEL a0) fun y => K (ofB26 y)))) ls⟩
def cuts26 : List (List Nat × Cut (Int)) := []
noncomputable def X26 : Px (Int) := ⟨T, Try.prog, lkF [], mkCuts 26 cuts26⟩
theorem e26 (n : Nat) (a0 : Int) : entF X26 8 26 pa26 (endK sr26 toB26) n [.i a0] = F26 n a0 := by kernel_rfl
theorem sp26 {n : Nat} (a0 : Int) {y : Int} (h : F26 n a0 = some y) : SpecF T Try.prog 26 pa26 [.i a0] sr26 (ofB26 y) :=
  fun_ok (X := X26) tok (sfok_of trivial) mixed 26 8 cuts26 rfl toB26_ok trivial ((e26 n a0).trans h)
theorem ok26 {R : Type} : SFone T Try.prog 26 (run26 : SF R) := by
  intro ls K r h
  simp only [run26] at h
  obtain ⟨a0, ls1, rfl, h1⟩ := gI_ok h; obtain ⟨rfl, h2⟩ := gE_ok h1
  obtain ⟨y, k1, k2⟩ := Option.bind_eq_some_iff.1 h2
  exact ⟨_, k2, sp26 a0 k1⟩

/-! ### garland/list.isPlace -/
def F27 (n : Nat) (a0 : Int) : Option (Bool) :=
  bif (ige a0 (0)) then
  (some (ilt a0 (65536)))
  else (some false)
def pa27 : List VP := [.i .i64]
def sr27 : RShape := ⟨.b, []⟩
def toB27 : List Leaf → Option (Bool) := gB (fun b0 => gE (some b0))
def ofB27 (y : Bool) : List Leaf := [.b y]
theorem toB27_ok : ∀ ls b, toB27 ls = some b → ls = ofB27 b := by
  intro ls b h
  unfold toB27 at h
  obtain ⟨b0, ls1, rfl, h1⟩ := gB_ok h; obtain ⟨rfl, h2⟩ := gE_ok h1
  cases h2; rfl
def run27 {R : Type} : SF R := ⟨pa27, sr27, fun ls K => (gI (fun a0 => gE (Option.bind (F27 FUEL a0) fun y => K (ofB27 y)))) ls⟩
def cuts27 : List (List Nat × Cut (Bool)) := []
noncomputable def X27 : Px (Bool) := ⟨T, Try.prog, lkF [], mkCuts 27 cuts27⟩
theorem e27 (n : Nat) (a0 : Int) : entF X27 8 27 pa27 (endK sr27 toB27) n [.i a0] = F27 n a0 := by kernel_rfl
theorem sp27 {n : Nat} (a0 : Int) {y : Bool} (h : F27 n a0 = some y) : SpecF T Try.prog 27 pa27 [.i a0] sr27 (ofB27 y) :=
  fun_ok (X := X27) tok (sfok_of trivial) mixed 27 8 cuts27 rfl toB27_ok trivial ((e27 n a0).trans h)
theorem ok27 {R : Type} : SFone T Try.prog 27 (run27 : SF R) := by
  intro ls K r h
  simp only [run27] at h
  obtain ⟨a0, ls1, rfl, h1⟩ := gI_ok h; obtain ⟨rfl, h2⟩ := gE_ok h1
  obtain ⟨y, k1, k2⟩ := Option.bind_eq_some_iff.1 h2
  exact ⟨_, k2, sp27 a0 k1⟩

/-! ### garland/arc.Far -/
def F28 (n : Nat) (a0 : Int) (a1 : Int) : Option (Int) :=
  Option.bind (F26 FUEL a1) fun y1 =>
  Option.bind (F26 FUEL a0) fun y2 =>
  Option.bind (F26 FUEL (isub .i64 y1 y2)) fun y3 =>
  some y3
def pa28 : List VP := [.i .i64, .i .i64]
def sr28 : RShape := ⟨.i .i64, []⟩
def toB28 : List Leaf → Option (Int) := gI (fun b0 => gE (some b0))
def ofB28 (y : Int) : List Leaf := [.i y]
theorem toB28_ok : ∀ ls b, toB28 ls = some b → ls = ofB28 b := by
  intro ls b h
  unfold toB28 at h
  obtain ⟨b0, ls1, rfl, h1⟩ := gI_ok h; obtain ⟨rfl, h2⟩ := gE_ok h1
  cases h2; rfl
def run28 {R : Type} : SF R := ⟨pa28, sr28, fun ls K => (gI (fun a0 => gI (fun a1 => gE (Option.bind (F28 FUEL a0 a1) fun y => K (ofB28 y))))) ls⟩
def cuts28 : List (List Nat × Cut (Int)) := []
noncomputable def X28 : Px (Int) := ⟨T, Try.prog, lkF [(26, run26)], mkCuts 28 cuts28⟩
theorem e28 (n : Nat) (a0 : Int) (a1 : Int) : entF X28 8 28 pa28 (endK sr28 toB28) n [.i a0, .i a1] = F28 n a0 a1 := by kernel_rfl
theorem sp28 {n : Nat} (a0 : Int) (a1 : Int) {y : Int} (h : F28 n a0 a1 = some y) : SpecF T Try.prog 28 pa28 [.i a0, .i a1] sr28 (ofB28 y) :=
  fun_ok (X := X28) tok (sfok_of ⟨ok26, trivial⟩) mixed 28 8 cuts28 rfl toB28_ok trivial ((e28 n a0 a1).trans h)
theorem ok28 {R : Type} : SFone T Try.prog 28 (run28 : SF R) := by
  intro ls K r h
  simp only [run28] at h
  obtain ⟨a0, ls1, rfl, h1⟩ := gI_ok h; obtain ⟨a1, ls2, rfl, h2⟩ := gI_ok h1; obtain ⟨rfl, h3⟩ := gE_ok h2
  obtain ⟨y, k1, k2⟩ := Option.bind_eq_some_iff.1 h3
  exact ⟨_, k2, sp28 a0 a1 k1⟩

/-! ### garland/list.Make -/
mutual
def F12_c0 : Nat → List (Int) → Option ((List (Int)))
  | 0, _ => none
  | n + 1, x0 => some x0
def F12_c1 : Nat → List (Int) → Int → Int → Int → List (Int) → Option ((List (Int)))
  | 0, _, _, _, _, _ => none
  | n + 1, x0, x1, x2, x3, x4 => bif (ilt x2 x1) then
    (bif (inb x2 (List.length x0)) then
     (bif (ige (ofN (List.length x4)) (3)) then
      (F12_c0 n x4)
      else (Option.bind (F27 FUEL (List.getD x0 (Int.toNat x2) 0)) fun y3 =>
       bif (!y3) then
       (F12_c0 n x4)
       else (Option.bind (F28 FUEL x3 (List.getD x0 (Int.toNat x2) 0)) fun y4 =>
        bif (inb (isub .i64 (ofN (List.length x4)) (1)) (List.length x4)) then
        (bif (nlt (Int.toNat (isub .i64 (ofN (List.length x4)) (1))) (List.length x4)) then
         (Option.bind (F28 FUEL x3 (List.getD x4 (Int.toNat (isub .i64 (ofN (List.length x4)) (1))) 0)) fun y5 =>
          bif (ile y4 y5) then
          (F12_c0 n x4)
          else (bif (room (List.length x4 + List.length [(List.getD x0 (Int.toNat x2) 0)]) 8) then
           (F12_c1 n x0 x1 (iadd .i64 x2 (1)) x3 (x4 ++ [(List.getD x0 (Int.toNat x2) 0)]))
           else (none)))
         else (none))
        else (none))))
     else (none))
    else (some x4)
end
def F12 (n : Nat) (a0 : Int) (a1 : Int) (a2 : List (Int)) : Option ((List (Int))) :=
  Option.bind (F26 FUEL a0) fun y1 =>
  Option.bind (F27 FUEL a1) fun y2 =>
  bif (!y2) then
  (F12_c0 n [])
  else (bif (ieq a1 y1) then
   (F12_c0 n [])
   else (bif (room (List.length [a1]) 8) then
    (F12_c1 n a2 (ofN (List.length a2)) (0) y1 [a1])
    else (none)))
def pa12 : List VP := [.i .i64, .i .i64, .sl false [.int .i64]]
def sr12 : RShape := ⟨.row 0, [.row true [.int .i64]]⟩
def toB12 : List Leaf → Option ((List (Int))) := gL [.int .i64] (fun b0 => gE (some b0))
def ofB12 (y : (List (Int))) : List Leaf := [.l [.int .i64] y]
theorem toB12_ok : ∀ ls b, toB12 ls = some b → ls = ofB12 b := by
  intro ls b h
  unfold toB12 at h
  obtain ⟨b0, ls1, rfl, h1⟩ := gL_ok h; obtain ⟨rfl, h2⟩ := gE_ok h1
  cases h2; rfl
def run12 {R : Type} : SF R := ⟨pa12, sr12, fun ls K => (gI (fun a0 => gI (fun a1 => gL [.int .i64] (fun a2 => gE (Option.bind (F12 FUEL a0 a1 a2) fun y => K (ofB12 y)))))) ls⟩
def sh12_0 : Shape := ⟨[(53, [(7, .ref 0 0)])], [.cells [.row 1], .row true [.int .i64]]⟩
def g12_0 (n : Nat) : List Leaf → Option ((List (Int))) := gL [.int .i64] (fun x0 => gE (F12_c0 n x0))
def sh12_1 : Shape := ⟨[(16, [(0, .yield 10), (5, .sl false [.int .i64]), (6, .i .i64), (7, .i .i64)]), (53, [(3, .ref 0 0), (7, .ref 1 0)])], [.cells [.i .i64], .cells [.row 2], .row true [.int .i64]]⟩
def g12_1 (n : Nat) : List Leaf → Option ((List (Int))) := gL [.int .i64] (fun x0 => gI (fun x1 => gI (fun x2 => gI (fun x3 => gL [.int .i64] (fun x4 => gE (F12_c1 n x0 x1 x2 x3 x4))))))
def cuts12 : List (List Nat × Cut ((List (Int)))) := [([1, 10], ⟨sh12_0, g12_0⟩), ([1, 0, 1, 1, 1, 1, 0, 1, 0, 68, 1, 0], ⟨sh12_1, g12_1⟩)]
noncomputable def X12 : Px ((List (Int))) := ⟨T, Try.prog, lkF [(26, run26), (27, run27), (28, run28)], mkCuts 12 cuts12⟩
theorem e12_0 (n : Nat) (x0 : List (Int)) : stepF X12 8 12 (endK sr12 toB12) [1, 10] sh12_0 n [.l [.int .i64] x0] = F12_c0 (n + 1) x0 := by kernel_rfl
theorem e12_1 (n : Nat) (x0 : List (Int)) (x1 : Int) (x2 : Int) (x3 : Int) (x4 : List (Int)) : stepF X12 8 12 (endK sr12 toB12) [1, 0, 1, 1, 1, 1, 0, 1, 0, 68, 1, 0] sh12_1 n [.l [.int .i64] x0, .i x1, .i x2, .i x3, .l [.int .i64] x4] = F12_c1 (n + 1) x0 x1 x2 x3 x4 := by kernel_rfl
theorem e12 (n : Nat) (a0 : Int) (a1 : Int) (a2 : List (Int)) : entF X12 8 12 pa12 (endK sr12 toB12) n [.i a0, .i a1, .l [.int .i64] a2] = F12 n a0 a1 a2 := by kernel_rfl
theorem c12_0 : CutOK X12 8 12 (endK sr12 toB12) [1, 10] ⟨sh12_0, g12_0⟩ := by
  refine ⟨fun ls => ?_, fun n ls r h => ?_⟩
  · cases h : g12_0 0 ls with
    | none => exact h
    | some r =>
      unfold g12_0 at h; obtain ⟨x0, ls1, rfl, h1⟩ := gL_ok h; obtain ⟨rfl, h2⟩ := gE_ok h1; simp only [F12_c0] at h2; cases h2
  · replace h : g12_0 (n + 1) ls = some r := h
    unfold g12_0 at h
    obtain ⟨x0, ls1, rfl, h1⟩ := gL_ok h; obtain ⟨rfl, h2⟩ := gE_ok h1
    exact (e12_0 n x0).trans h2
theorem c12_1 : CutOK X12 8 12 (endK sr12 toB12) [1, 0, 1, 1, 1, 1, 0, 1, 0, 68, 1, 0] ⟨sh12_1, g12_1⟩ := by
  refine ⟨fun ls => ?_, fun n ls r h => ?_⟩
  · cases h : g12_1 0 ls with
    | none => exact h
    | some r =>
      unfold g12_1 at h; obtain ⟨x0, ls1, rfl, h1⟩ := gL_ok h; obtain ⟨x1, ls2, rfl, h2⟩ := gI_ok h1; obtain ⟨x2, ls3, rfl, h3⟩ := gI_ok h2; obtain ⟨x3, ls4, rfl, h4⟩ := gI_ok h3; obtain ⟨x4, ls5, rfl, h5⟩ := gL_ok h4; obtain ⟨rfl, h6⟩ := gE_ok h5; simp only [F12_c1] at h6; cases h6
  · replace h : g12_1 (n + 1) ls = some r := h
    unfold g12_1 at h
    obtain ⟨x0, ls1, rfl, h1⟩ := gL_ok h; obtain ⟨x1, ls2, rfl, h2⟩ := gI_ok h1; obtain ⟨x2, ls3, rfl, h3⟩ := gI_ok h2; obtain ⟨x3, ls4, rfl, h4⟩ := gI_ok h3; obtain ⟨x4, ls5, rfl, h5⟩ := gL_ok h4; obtain ⟨rfl, h6⟩ := gE_ok h5
    exact (e12_1 n x0 x1 x2 x3 x4).trans h6
theorem sp12 {n : Nat} (a0 : Int) (a1 : Int) (a2 : List (Int)) {y : (List (Int))} (h : F12 n a0 a1 a2 = some y) : SpecF T Try.prog 12 pa12 [.i a0, .i a1, .l [.int .i64] a2] sr12 (ofB12 y) :=
  fun_ok (X := X12) tok (sfok_of ⟨ok26, ok27, ok28, trivial⟩) mixed 12 8 cuts12 rfl toB12_ok ⟨c12_0, c12_1, trivial⟩ ((e12 n a0 a1 a2).trans h)
theorem ok12 {R : Type} : SFone T Try.prog 12 (run12 : SF R) := by
  intro ls K r h
  simp only [run12] at h
  obtain ⟨a0, ls1, rfl, h1⟩ := gI_ok h; obtain ⟨a1, ls2, rfl, h2⟩ := gI_ok h1; obtain ⟨a2, ls3, rfl, h3⟩ := gL_ok h2; obtain ⟨rfl, h4⟩ := gE_ok h3
  obtain ⟨y, k1, k2⟩ := Option.bind_eq_some_iff.1 h4
  exact ⟨_, k2, sp12 a0 a1 a2 k1⟩

/-! ### garland/list.First -/
def F9_c0 : Nat → List (Int) → Int → Int → Int → Bool → Option (Int × Bool)
  | 0, _, _, _, _, _ => none
  | n + 1, x0, x1, x2, x3, x4 => bif (ilt x2 x1) then
    (bif (inb x2 (List.length x0)) then
     (some ((List.getD x0 (Int.toNat x2) 0), true))
     else (none))
    else (some ((0), false))
def F9 (n : Nat) (a0 : List (Int)) : Option (Int × Bool) :=
  F9_c0 n a0 (ofN (List.length a0)) (0) (0) false
def pa9 : List VP := [.sl false [.int .i64]]
def sr9 : RShape := ⟨.tup [.i .i64, .b], []⟩
def toB9 : List Leaf → Option (Int × Bool) := gI (fun b0 => gB (fun b1 => gE (some (b0, b1))))
def ofB9 (y : Int × Bool) : List Leaf := [.i y.1, .b y.2]
theorem toB9_ok : ∀ ls b, toB9 ls = some b → ls = ofB9 b := by
  intro ls b h
  unfold toB9 at h
  obtain ⟨b0, ls1, rfl, h1⟩ := gI_ok h; obtain ⟨b1, ls2, rfl, h2⟩ := gB_ok h1; obtain ⟨rfl, h3⟩ := gE_ok h2
  cases h3; rfl
def run9 {R : Type} : SF R := ⟨pa9, sr9, fun ls K => (gL [.int .i64] (fun a0 => gE (Option.bind (F9 FUEL a0) fun y => K (ofB9 y)))) ls⟩
def sh9_0 : Shape := ⟨[(16, [(0, .yield 5), (5, .sl false [.int .i64]), (6, .i .i64), (7, .i .i64)]), (9, [(2, .ref 0 0), (3, .ref 1 0)])], [.cells [.i .i64], .cells [.b]]⟩
def g9_0 (n : Nat) : List Leaf → Option (Int × Bool) := gL [.int .i64] (fun x0 => gI (fun x1 => gI (fun x2 => gI (fun x3 => gB (fun x4 => gE (F9_c0 n x0 x1 x2 x3 x4))))))
def cuts9 : List (List Nat × Cut (Int × Bool)) := [([1, 0, 1, 0, 68, 1, 0], ⟨sh9_0, g9_0⟩)]
noncomputable def X9 : Px (Int × Bool) := ⟨T, Try.prog, lkF [], mkCuts 9 cuts9⟩
theorem e9_0 (n : Nat) (x0 : List (Int)) (x1 : Int) (x2 : Int) (x3 : Int) (x4 : Bool) : stepF X9 8 9 (endK sr9 toB9) [1, 0, 1, 0, 68, 1, 0] sh9_0 n [.l [.int .i64] x0, .i x1, .i x2, .i x3, .b x4] = F9_c0 (n + 1) x0 x1 x2 x3 x4 := by kernel_rfl
theorem e9 (n : Nat) (a0 : List (Int)) : entF X9 8 9 pa9 (endK sr9 toB9) n [.l [.int .i64] a0] = F9 n a0 := by kernel_rfl
theorem c9_0 : CutOK X9 8 9 (endK sr9 toB9) [1, 0, 1, 0, 68, 1, 0] ⟨sh9_0, g9_0⟩ := by
  refine ⟨fun ls => ?_, fun n ls r h => ?_⟩
  · cases h : g9_0 0 ls with
    | none => exact h
    | some r =>
      unfold g9_0 at h; obtain ⟨x0, ls1, rfl, h1⟩ := gL_ok h; obtain ⟨x1, ls2, rfl, h2⟩ := gI_ok h1; obtain ⟨x2, ls3, rfl, h3⟩ := gI_ok h2; obtain ⟨x3, ls4, rfl, h4⟩ := gI_ok h3; obtain ⟨x4, ls5, rfl, h5⟩ := gB_ok h4; obtain ⟨rfl, h6⟩ := gE_ok h5; simp only [F9_c0] at h6; cases h6
  · replace h : g9_0 (n + 1) ls = some r := h
    unfold g9_0 at h
    obtain ⟨x0, ls1, rfl, h1⟩ := gL_ok h; obtain ⟨x1, ls2, rfl, h2⟩ := gI_ok h1; obtain ⟨x2, ls3, rfl, h3⟩ := gI_ok h2; obtain ⟨x3, ls4, rfl, h4⟩ := gI_ok h3; obtain ⟨x4, ls5, rfl, h5⟩ := gB_ok h4; obtain ⟨rfl, h6⟩ := gE_ok h5
    exact (e9_0 n x0 x1 x2 x3 x4).trans h6
theorem sp9 {n : Nat} (a0 : List (Int)) {y : Int × Bool} (h : F9 n a0 = some y) : SpecF T Try.prog 9 pa9 [.l [.int .i64] a0] sr9 (ofB9 y) :=
  fun_ok (X := X9) tok (sfok_of trivial) mixed 9 8 cuts9 rfl toB9_ok ⟨c9_0, trivial⟩ ((e9 n a0).trans h)
theorem ok9 {R : Type} : SFone T Try.prog 9 (run9 : SF R) := by
  intro ls K r h
  simp only [run9] at h
  obtain ⟨a0, ls1, rfl, h1⟩ := gL_ok h; obtain ⟨rfl, h2⟩ := gE_ok h1
  obtain ⟨y, k1, k2⟩ := Option.bind_eq_some_iff.1 h2
  exact ⟨_, k2, sp9 a0 k1⟩

/-! ### garland/garlandref12.Ints -/
def F11_c0 : Nat → List (Int) → List (Int) → Int → Option (Bool)
  | 0, _, _, _ => none
  | n + 1, x0, x1, x2 => bif (ilt x2 (ofN (List.length x0))) then
    (bif (inb x2 (List.length x0)) then
     (bif (inb x2 (List.length x1)) then
      (bif (ine (List.getD x0 (Int.toNat x2) 0) (List.getD x1 (Int.toNat x2) 0)) then
       (some false)
       else (F11_c0 n x0 x1 (iadd .i64 x2 (1))))
      else (none))
     else (none))
    else (some true)
def F11 (n : Nat) (a0 : List (Int)) (a1 : List (Int)) : Option (Bool) :=
  bif (ine (ofN (List.length a0)) (ofN (List.length a1))) then
  (some false)
  else (F11_c0 n a0 a1 (0))
def pa11 : List VP := [.sl false [.int .i64], .sl false [.int .i64]]
def sr11 : RShape := ⟨.b, []⟩
def toB11 : List Leaf → Option (Bool) := gB (fun b0 => gE (some b0))
def ofB11 (y : Bool) : List Leaf := [.b y]
theorem toB11_ok : ∀ ls b, toB11 ls = some b → ls = ofB11 b := by
  intro ls b h
  unfold toB11 at h
  obtain ⟨b0, ls1, rfl, h1⟩ := gB_ok h; obtain ⟨rfl, h2⟩ := gE_ok h1
  cases h2; rfl
def run11 {R : Type} : SF R := ⟨pa11, sr11, fun ls K => (gL [.int .i64] (fun a0 => gL [.int .i64] (fun a1 => gE (Option.bind (F11 FUEL a0 a1) fun y => K (ofB11 y))))) ls⟩
def sh11_0 : Shape := ⟨[(26, [(0, .sl false [.int .i64]), (1, .sl false [.int .i64]), (5, .i .i64)])], []⟩
def g11_0 (n : Nat) : List Leaf → Option (Bool) := gL [.int .i64] (fun x0 => gL [.int .i64] (fun x1 => gI (fun x2 => gE (F11_c0 n x0 x1 x2))))
def cuts11 : List (List Nat × Cut (Bool)) := [([1, 1, 0, 1, 0], ⟨sh11_0, g11_0⟩)]
noncomputable def X11 : Px (Bool) := ⟨T, Try.prog, lkF [], mkCuts 11 cuts11⟩
theorem e11_0 (n : Nat) (x0 : List (Int)) (x1 : List (Int)) (x2 : Int) : stepF X11 8 11 (endK sr11 toB11) [1, 1, 0, 1, 0] sh11_0 n [.l [.int .i64] x0, .l [.int .i64] x1, .i x2] = F11_c0 (n + 1) x0 x1 x2 := by kernel_rfl
theorem e11 (n : Nat) (a0 : List (Int)) (a1 : List (Int)) : entF X11 8 11 pa11 (endK sr11 toB11) n [.l [.int .i64] a0, .l [.int .i64] a1] = F11 n a0 a1 := by kernel_rfl
theorem c11_0 : CutOK X11 8 11 (endK sr11 toB11) [1, 1, 0, 1, 0] ⟨sh11_0, g11_0⟩ := by
  refine ⟨fun ls => ?_, fun n ls r h => ?_⟩
  · cases h : g11_0 0 ls with
    | none => exact h
    | some r =>
      unfold g11_0 at h; obtain ⟨x0, ls1, rfl, h1⟩ := gL_ok h; obtain ⟨x1, ls2, rfl, h2⟩ := gL_ok h1; obtain ⟨x2, ls3, rfl, h3⟩ := gI_ok h2; obtain ⟨rfl, h4⟩ := gE_ok h3; simp only [F11_c0] at h4; cases h4
  · replace h : g11_0 (n + 1) ls = some r := h
    unfold g11_0 at h
    obtain ⟨x0, ls1, rfl, h1⟩ := gL_ok h; obtain ⟨x1, ls2, rfl, h2⟩ := gL_ok h1; obtain ⟨x2, ls3, rfl, h3⟩ := gI_ok h2; obtain ⟨rfl, h4⟩ := gE_ok h3
    exact (e11_0 n x0 x1 x2).trans h4
theorem sp11 {n : Nat} (a0 : List (Int)) (a1 : List (Int)) {y : Bool} (h : F11 n a0 a1 = some y) : SpecF T Try.prog 11 pa11 [.l [.int .i64] a0, .l [.int .i64] a1] sr11 (ofB11 y) :=
  fun_ok (X := X11) tok (sfok_of trivial) mixed 11 8 cuts11 rfl toB11_ok ⟨c11_0, trivial⟩ ((e11 n a0 a1).trans h)
theorem ok11 {R : Type} : SFone T Try.prog 11 (run11 : SF R) := by
  intro ls K r h
  simp only [run11] at h
  obtain ⟨a0, ls1, rfl, h1⟩ := gL_ok h; obtain ⟨a1, ls2, rfl, h2⟩ := gL_ok h1; obtain ⟨rfl, h3⟩ := gE_ok h2
  obtain ⟨y, k1, k2⟩ := Option.bind_eq_some_iff.1 h3
  exact ⟨_, k2, sp11 a0 a1 k1⟩

/-! ### garland/list.Right -/
def F14_c0 : Nat → Int → List (Int) → Int → Int → Int → Bool → Option (Bool)
  | 0, _, _, _, _, _, _ => none
  | n + 1, x0, x1, x2, x3, x4, x5 => bif (ilt x3 x2) then
    (bif (inb x3 (List.length x1)) then
     (Option.bind (F27 FUEL (List.getD x1 (Int.toNat x3) 0)) fun y2 =>
      bif (!y2) then
      (some false)
      else (Option.bind (F28 FUEL x4 (List.getD x1 (Int.toNat x3) 0)) fun y3 =>
       Option.bind (F28 FUEL x4 x0) fun y4 =>
       bif (ile y3 y4) then
       (some false)
       else (F14_c0 n (List.getD x1 (Int.toNat x3) 0) x1 x2 (iadd .i64 x3 (1)) x4 x5)))
     else (none))
    else (some true)
def F14 (n : Nat) (a0 : Int) (a1 : List (Int)) : Option (Bool) :=
  bif (igt (ofN (List.length a1)) (3)) then
  (some false)
  else (Option.bind (F26 FUEL a0) fun y1 =>
   F14_c0 n y1 a1 (ofN (List.length a1)) (0) y1 false)
def pa14 : List VP := [.i .i64, .sl false [.int .i64]]
def sr14 : RShape := ⟨.b, []⟩
def toB14 : List Leaf → Option (Bool) := gB (fun b0 => gE (some b0))
def ofB14 (y : Bool) : List Leaf := [.b y]
theorem toB14_ok : ∀ ls b, toB14 ls = some b → ls = ofB14 b := by
  intro ls b h
  unfold toB14 at h
  obtain ⟨b0, ls1, rfl, h1⟩ := gB_ok h; obtain ⟨rfl, h2⟩ := gE_ok h1
  cases h2; rfl
def run14 {R : Type} : SF R := ⟨pa14, sr14, fun ls K => (gI (fun a0 => gL [.int .i64] (fun a1 => gE (Option.bind (F14 FUEL a0 a1) fun y => K (ofB14 y))))) ls⟩
def sh14_0 : Shape := ⟨[(21, [(0, .yield 7), (4, .i .i64), (8, .sl false [.int .i64]), (9, .i .i64), (10, .i .i64)]), (29, [(2, .ref 0 0), (4, .ref 1 0)])], [.cells [.i .i64], .cells [.b]]⟩
def g14_0 (n : Nat) : List Leaf → Option (Bool) := gI (fun x0 => gL [.int .i64] (fun x1 => gI (fun x2 => gI (fun x3 => gI (fun x4 => gB (fun x5 => gE (F14_c0 n x0 x1 x2 x3 x4 x5)))))))
def cuts14 : List (List Nat × Cut (Bool)) := [([1, 1, 1, 0, 1, 0, 70, 1, 1, 0], ⟨sh14_0, g14_0⟩)]
noncomputable def X14 : Px (Bool) := ⟨T, Try.prog, lkF [(26, run26), (27, run27), (28, run28)], mkCuts 14 cuts14⟩
theorem e14_0 (n : Nat) (x0 : Int) (x1 : List (Int)) (x2 : Int) (x3 : Int) (x4 : Int) (x5 : Bool) : stepF X14 8 14 (endK sr14 toB14) [1, 1, 1, 0, 1, 0, 70, 1, 1, 0] sh14_0 n [.i x0, .l [.int .i64] x1, .i x2, .i x3, .i x4, .b x5] = F14_c0 (n + 1) x0 x1 x2 x3 x4 x5 := by kernel_rfl
theorem e14 (n : Nat) (a0 : Int) (a1 : List (Int)) : entF X14 8 14 pa14 (endK sr14 toB14) n [.i a0, .l [.int .i64] a1] = F14 n a0 a1 := by kernel_rfl
theorem c14_0 : CutOK X14 8 14 (endK sr14 toB14) [1, 1, 1, 0, 1, 0, 70, 1, 1, 0] ⟨sh14_0, g14_0⟩ := by
  refine ⟨fun ls => ?_, fun n ls r h => ?_⟩
  · cases h : g14_0 0 ls with
    | none => exact h
    | some r =>
      unfold g14_0 at h; obtain ⟨x0, ls1, rfl, h1⟩ := gI_ok h; obtain ⟨x1, ls2, rfl, h2⟩ := gL_ok h1; obtain ⟨x2, ls3, rfl, h3⟩ := gI_ok h2; obtain ⟨x3, ls4, rfl, h4⟩ := gI_ok h3; obtain ⟨x4, ls5, rfl, h5⟩ := gI_ok h4; obtain ⟨x5, ls6, rfl, h6⟩ := gB_ok h5; obtain ⟨rfl, h7⟩ := gE_ok h6; simp only [F14_c0] at h7; cases h7
  · replace h : g14_0 (n + 1) ls = some r := h
    unfold g14_0 at h
    obtain ⟨x0, ls1, rfl, h1⟩ := gI_ok h; obtain ⟨x1, ls2, rfl, h2⟩ := gL_ok h1; obtain ⟨x2, ls3, rfl, h3⟩ := gI_ok h2; obtain ⟨x3, ls4, rfl, h4⟩ := gI_ok h3; obtain ⟨x4, ls5, rfl, h5⟩ := gI_ok h4; obtain ⟨x5, ls6, rfl, h6⟩ := gB_ok h5; obtain ⟨rfl, h7⟩ := gE_ok h6
    exact (e14_0 n x0 x1 x2 x3 x4 x5).trans h7
theorem sp14 {n : Nat} (a0 : Int) (a1 : List (Int)) {y : Bool} (h : F14 n a0 a1 = some y) : SpecF T Try.prog 14 pa14 [.i a0, .l [.int .i64] a1] sr14 (ofB14 y) :=
  fun_ok (X := X14) tok (sfok_of ⟨ok26, ok27, ok28, trivial⟩) mixed 14 8 cuts14 rfl toB14_ok ⟨c14_0, trivial⟩ ((e14 n a0 a1).trans h)
theorem ok14 {R : Type} : SFone T Try.prog 14 (run14 : SF R) := by
  intro ls K r h
  simp only [run14] at h
  obtain ⟨a0, ls1, rfl, h1⟩ := gI_ok h; obtain ⟨a1, ls2, rfl, h2⟩ := gL_ok h1; obtain ⟨rfl, h3⟩ := gE_ok h2
  obtain ⟨y, k1, k2⟩ := Option.bind_eq_some_iff.1 h3
  exact ⟨_, k2, sp14 a0 a1 k1⟩

/-! ### garland/list.Drop -/
def F16_c0 : Nat → List (Int) → Int → Int → Int → List (Int) → Option ((List (Int)))
  | 0, _, _, _, _, _ => none
  | n + 1, x0, x1, x2, x3, x4 => bif (ilt x2 x1) then
    (bif (inb x2 (List.length x0)) then
     (bif (ine (List.getD x0 (Int.toNat x2) 0) x3) then
      (bif (room (List.length x4 + List.length [(List.getD x0 (Int.toNat x2) 0)]) 8) then
       (F16_c0 n x0 x1 (iadd .i64 x2 (1)) x3 (x4 ++ [(List.getD x0 (Int.toNat x2) 0)]))
       else (none))
      else (F16_c0 n x0 x1 (iadd .i64 x2 (1)) x3 x4))
     else (none))
    else (some x4)
def F16 (n : Nat) (a0 : List (Int)) (a1 : Int) : Option ((List (Int))) :=
  F16_c0 n a0 (ofN (List.length a0)) (0) a1 []
def pa16 : List VP := [.sl false [.int .i64], .i .i64]
def sr16 : RShape := ⟨.row 0, [.row true [.int .i64]]⟩
def toB16 : List Leaf → Option ((List (Int))) := gL [.int .i64] (fun b0 => gE (some b0))
def ofB16 (y : (List (Int))) : List Leaf := [.l [.int .i64] y]
theorem toB16_ok : ∀ ls b, toB16 ls = some b → ls = ofB16 b := by
  intro ls b h
  unfold toB16 at h
  obtain ⟨b0, ls1, rfl, h1⟩ := gL_ok h; obtain ⟨rfl, h2⟩ := gE_ok h1
  cases h2; rfl
def run16 {R : Type} : SF R := ⟨pa16, sr16, fun ls K => (gL [.int .i64] (fun a0 => gI (fun a1 => gE (Option.bind (F16 FUEL a0 a1) fun y => K (ofB16 y))))) ls⟩
def sh16_0 : Shape := ⟨[(16, [(0, .yield 6), (5, .sl false [.int .i64]), (6, .i .i64), (7, .i .i64)]), (18, [(3, .ref 0 0), (5, .ref 1 0)])], [.cells [.i .i64], .cells [.row 2], .row true [.int .i64]]⟩
def g16_0 (n : Nat) : List Leaf → Option ((List (Int))) := gL [.int .i64] (fun x0 => gI (fun x1 => gI (fun x2 => gI (fun x3 => gL [.int .i64] (fun x4 => gE (F16_c0 n x0 x1 x2 x3 x4))))))
def cuts16 : List (List Nat × Cut ((List (Int)))) := [([1, 1, 0, 1, 0, 68, 1, 0], ⟨sh16_0, g16_0⟩)]
noncomputable def X16 : Px ((List (Int))) := ⟨T, Try.prog, lkF [], mkCuts 16 cuts16⟩
theorem e16_0 (n : Nat) (x0 : List (Int)) (x1 : Int) (x2 : Int) (x3 : Int) (x4 : List (Int)) : stepF X16 8 16 (endK sr16 toB16) [1, 1, 0, 1, 0, 68, 1, 0] sh16_0 n [.l [.int .i64] x0, .i x1, .i x2, .i x3, .l [.int .i64] x4] = F16_c0 (n + 1) x0 x1 x2 x3 x4 := by kernel_rfl
theorem e16 (n : Nat) (a0 : List (Int)) (a1 : Int) : entF X16 8 16 pa16 (endK sr16 toB16) n [.l [.int .i64] a0, .i a1] = F16 n a0 a1 := by kernel_rfl
theorem c16_0 : CutOK X16 8 16 (endK sr16 toB16) [1, 1, 0, 1, 0, 68, 1, 0] ⟨sh16_0, g16_0⟩ := by
  refine ⟨fun ls => ?_, fun n ls r h => ?_⟩
  · cases h : g16_0 0 ls with
    | none => exact h
    | some r =>
      unfold g16_0 at h; obtain ⟨x0, ls1, rfl, h1⟩ := gL_ok h; obtain ⟨x1, ls2, rfl, h2⟩ := gI_ok h1; obtain ⟨x2, ls3, rfl, h3⟩ := gI_ok h2; obtain ⟨x3, ls4, rfl, h4⟩ := gI_ok h3; obtain ⟨x4, ls5, rfl, h5⟩ := gL_ok h4; obtain ⟨rfl, h6⟩ := gE_ok h5; simp only [F16_c0] at h6; cases h6
  · replace h : g16_0 (n + 1) ls = some r := h
    unfold g16_0 at h
    obtain ⟨x0, ls1, rfl, h1⟩ := gL_ok h; obtain ⟨x1, ls2, rfl, h2⟩ := gI_ok h1; obtain ⟨x2, ls3, rfl, h3⟩ := gI_ok h2; obtain ⟨x3, ls4, rfl, h4⟩ := gI_ok h3; obtain ⟨x4, ls5, rfl, h5⟩ := gL_ok h4; obtain ⟨rfl, h6⟩ := gE_ok h5
    exact (e16_0 n x0 x1 x2 x3 x4).trans h6
theorem sp16 {n : Nat} (a0 : List (Int)) (a1 : Int) {y : (List (Int))} (h : F16 n a0 a1 = some y) : SpecF T Try.prog 16 pa16 [.l [.int .i64] a0, .i a1] sr16 (ofB16 y) :=
  fun_ok (X := X16) tok (sfok_of trivial) mixed 16 8 cuts16 rfl toB16_ok ⟨c16_0, trivial⟩ ((e16 n a0 a1).trans h)
theorem ok16 {R : Type} : SFone T Try.prog 16 (run16 : SF R) := by
  intro ls K r h
  simp only [run16] at h
  obtain ⟨a0, ls1, rfl, h1⟩ := gL_ok h; obtain ⟨a1, ls2, rfl, h2⟩ := gI_ok h1; obtain ⟨rfl, h3⟩ := gE_ok h2
  obtain ⟨y, k1, k2⟩ := Option.bind_eq_some_iff.1 h3
  exact ⟨_, k2, sp16 a0 a1 k1⟩

/-! ### garland/list.Last -/
def F18_c0 : Nat → List (Int) → Int → Int → Int → Option (Int)
  | 0, _, _, _, _ => none
  | n + 1, x0, x1, x2, x3 => bif (ilt x2 x1) then
    (bif (inb x2 (List.length x0)) then
     (F18_c0 n x0 x1 (iadd .i64 x2 (1)) (List.getD x0 (Int.toNat x2) 0))
     else (none))
    else (some x3)
def F18 (n : Nat) (a0 : Int) (a1 : List (Int)) : Option (Int) :=
  Option.bind (F26 FUEL a0) fun y1 =>
  F18_c0 n a1 (ofN (List.length a1)) (0) y1
def pa18 : List VP := [.i .i64, .sl false [.int .i64]]
def sr18 : RShape := ⟨.i .i64, []⟩
def toB18 : List Leaf → Option (Int) := gI (fun b0 => gE (some b0))
def ofB18 (y : Int) : List Leaf := [.i y]
theorem toB18_ok : ∀ ls b, toB18 ls = some b → ls = ofB18 b := by
  intro ls b h
  unfold toB18 at h
  obtain ⟨b0, ls1, rfl, h1⟩ := gI_ok h; obtain ⟨rfl, h2⟩ := gE_ok h1
  cases h2; rfl
def run18 {R : Type} : SF R := ⟨pa18, sr18, fun ls K => (gI (fun a0 => gL [.int .i64] (fun a1 => gE (Option.bind (F18 FUEL a0 a1) fun y => K (ofB18 y))))) ls⟩
def sh18_0 : Shape := ⟨[(16, [(0, .yield 6), (5, .sl false [.int .i64]), (6, .i .i64), (7, .i .i64)]), (14, [(5, .ref 0 0)])], [.cells [.i .i64]]⟩
def g18_0 (n : Nat) : List Leaf → Option (Int) := gL [.int .i64] (fun x0 => gI (fun x1 => gI (fun x2 => gI (fun x3 => gE (F18_c0 n x0 x1 x2 x3)))))
def cuts18 : List (List Nat × Cut (Int)) := [([1, 1, 0, 1, 0, 68, 1, 0], ⟨sh18_0, g18_0⟩)]
noncomputable def X18 : Px (Int) := ⟨T, Try.prog, lkF [(26, run26)], mkCuts 18 cuts18⟩
theorem e18_0 (n : Nat) (x0 : List (Int)) (x1 : Int) (x2 : Int) (x3 : Int) : stepF X18 8 18 (endK sr18 toB18) [1, 1, 0, 1, 0, 68, 1, 0] sh18_0 n [.l [.int .i64] x0, .i x1, .i x2, .i x3] = F18_c0 (n + 1) x0 x1 x2 x3 := by kernel_rfl
theorem e18 (n : Nat) (a0 : Int) (a1 : List (Int)) : entF X18 8 18 pa18 (endK sr18 toB18) n [.i a0, .l [.int .i64] a1] = F18 n a0 a1 := by kernel_rfl
theorem c18_0 : CutOK X18 8 18 (endK sr18 toB18) [1, 1, 0, 1, 0, 68, 1, 0] ⟨sh18_0, g18_0⟩ := by
  refine ⟨fun ls => ?_, fun n ls r h => ?_⟩
  · cases h : g18_0 0 ls with
    | none => exact h
    | some r =>
      unfold g18_0 at h; obtain ⟨x0, ls1, rfl, h1⟩ := gL_ok h; obtain ⟨x1, ls2, rfl, h2⟩ := gI_ok h1; obtain ⟨x2, ls3, rfl, h3⟩ := gI_ok h2; obtain ⟨x3, ls4, rfl, h4⟩ := gI_ok h3; obtain ⟨rfl, h5⟩ := gE_ok h4; simp only [F18_c0] at h5; cases h5
  · replace h : g18_0 (n + 1) ls = some r := h
    unfold g18_0 at h
    obtain ⟨x0, ls1, rfl, h1⟩ := gL_ok h; obtain ⟨x1, ls2, rfl, h2⟩ := gI_ok h1; obtain ⟨x2, ls3, rfl, h3⟩ := gI_ok h2; obtain ⟨x3, ls4, rfl, h4⟩ := gI_ok h3; obtain ⟨rfl, h5⟩ := gE_ok h4
    exact (e18_0 n x0 x1 x2 x3).trans h5
theorem sp18 {n : Nat} (a0 : Int) (a1 : List (Int)) {y : Int} (h : F18 n a0 a1 = some y) : SpecF T Try.prog 18 pa18 [.i a0, .l [.int .i64] a1] sr18 (ofB18 y) :=
  fun_ok (X := X18) tok (sfok_of ⟨ok26, trivial⟩) mixed 18 8 cuts18 rfl toB18_ok ⟨c18_0, trivial⟩ ((e18 n a0 a1).trans h)
theorem ok18 {R : Type} : SFone T Try.prog 18 (run18 : SF R) := by
  intro ls K r h
  simp only [run18] at h
  obtain ⟨a0, ls1, rfl, h1⟩ := gI_ok h; obtain ⟨a1, ls2, rfl, h2⟩ := gL_ok h1; obtain ⟨rfl, h3⟩ := gE_ok h2
  obtain ⟨y, k1, k2⟩ := Option.bind_eq_some_iff.1 h3
  exact ⟨_, k2, sp18 a0 a1 k1⟩

/-! ### garland/arc.In -/
def F32 (n : Nat) (a0 : Int) (a1 : Int) (a2 : Int) : Option (Bool) :=
  Option.bind (F28 FUEL a0 a1) fun y1 =>
  Option.bind (F28 FUEL a0 a2) fun y2 =>
  bif (ieq y2 (0)) then
  (some (igt y1 (0)))
  else (bif (igt y1 (0)) then
   (some (ilt y1 y2))
   else (some false))
def pa32 : List VP := [.i .i64, .i .i64, .i .i64]
def sr32 : RShape := ⟨.b, []⟩
def toB32 : List Leaf → Option (Bool) := gB (fun b0 => gE (some b0))
def ofB32 (y : Bool) : List Leaf := [.b y]
theorem toB32_ok : ∀ ls b, toB32 ls = some b → ls = ofB32 b := by
  intro ls b h
  unfold toB32 at h
  obtain ⟨b0, ls1, rfl, h1⟩ := gB_ok h; obtain ⟨rfl, h2⟩ := gE_ok h1
  cases h2; rfl
def run32 {R : Type} : SF R := ⟨pa32, sr32, fun ls K => (gI (fun a0 => gI (fun a1 => gI (fun a2 => gE (Option.bind (F32 FUEL a0 a1 a2) fun y => K (ofB32 y)))))) ls⟩
def cuts32 : List (List Nat × Cut (Bool)) := []
noncomputable def X32 : Px (Bool) := ⟨T, Try.prog, lkF [(28, run28)], mkCuts 32 cuts32⟩
theorem e32 (n : Nat) (a0 : Int) (a1 : Int) (a2 : Int) : entF X32 8 32 pa32 (endK sr32 toB32) n [.i a0, .i a1, .i a2] = F32 n a0 a1 a2 := by kernel_rfl
theorem sp32 {n : Nat} (a0 : Int) (a1 : Int) (a2 : Int) {y : Bool} (h : F32 n a0 a1 a2 = some y) : SpecF T Try.prog 32 pa32 [.i a0, .i a1, .i a2] sr32 (ofB32 y) :=
  fun_ok (X := X32) tok (sfok_of ⟨ok28, trivial⟩) mixed 32 8 cuts32 rfl toB32_ok trivial ((e32 n a0 a1 a2).trans h)
theorem ok32 {R : Type} : SFone T Try.prog 32 (run32 : SF R) := by
  intro ls K r h
  simp only [run32] at h
  obtain ⟨a0, ls1, rfl, h1⟩ := gI_ok h; obtain ⟨a1, ls2, rfl, h2⟩ := gI_ok h1; obtain ⟨a2, ls3, rfl, h3⟩ := gI_ok h2; obtain ⟨rfl, h4⟩ := gE_ok h3
  obtain ⟨y, k1, k2⟩ := Option.bind_eq_some_iff.1 h4
  exact ⟨_, k2, sp32 a0 a1 a2 k1⟩

/-! ### garland/list.Skips -/
mutual
def F20_c0 : Nat → Int → List (Int) → Int → Int → List (Int) → Option (Bool)
  | 0, _, _, _, _, _ => none
  | n + 1, x0, x1, x2, x3, x4 => bif (ilt x3 x2) then
    (bif (inb x3 (List.length x1)) then
     (F20_c1 n x0 (List.getD x1 (Int.toNat x3) 0) x4 (ofN (List.length x4)) (0) (List.getD x1 (Int.toNat x3) 0) x1 x2 x3 x4)
     else (none))
    else (some false)
def F20_c1 : Nat → Int → Int → List (Int) → Int → Int → Int → List (Int) → Int → Int → List (Int) → Option (Bool)
  | 0, _, _, _, _, _, _, _, _, _, _ => none
  | n + 1, x0, x1, x2, x3, x4, x5, x6, x7, x8, x9 => bif (ilt x4 x3) then
    (bif (inb x4 (List.length x2)) then
     (Option.bind (F32 FUEL x0 (List.getD x2 (Int.toNat x4) 0) x1) fun y2 =>
      bif y2 then
      (F20_c2 n )
      else (F20_c1 n x0 x1 x2 x3 (iadd .i64 x4 (1)) x5 x6 x7 x8 x9))
     else (none))
    else (F20_c0 n x5 x6 x7 (iadd .i64 x8 (1)) x9)
def F20_c2 : Nat → Option (Bool)
  | 0 => none
  | n + 1 => some true
end
def F20 (n : Nat) (a0 : Int) (a1 : List (Int)) (a2 : List (Int)) : Option (Bool) :=
  Option.bind (F26 FUEL a0) fun y1 =>
  F20_c0 n y1 a1 (ofN (List.length a1)) (0) a2
def pa20 : List VP := [.i .i64, .sl false [.int .i64], .sl false [.int .i64]]
def sr20 : RShape := ⟨.b, []⟩
def toB20 : List Leaf → Option (Bool) := gB (fun b0 => gE (some b0))
def ofB20 (y : Bool) : List Leaf := [.b y]
theorem toB20_ok : ∀ ls b, toB20 ls = some b → ls = ofB20 b := by
  intro ls b h
  unfold toB20 at h
  obtain ⟨b0, ls1, rfl, h1⟩ := gB_ok h; obtain ⟨rfl, h2⟩ := gE_ok h1
  cases h2; rfl
def run20 {R : Type} : SF R := ⟨pa20, sr20, fun ls K => (gI (fun a0 => gL [.int .i64] (fun a1 => gL [.int .i64] (fun a2 => gE (Option.bind (F20 FUEL a0 a1 a2) fun y => K (ofB20 y)))))) ls⟩
def sh20_0 : Shape := ⟨[(21, [(0, .yield 6), (4, .i .i64), (8, .sl false [.int .i64]), (9, .i .i64), (10, .i .i64)]), (28, [(5, .ref 0 0)])], [.cells [.sl false [.int .i64]]]⟩
def g20_0 (n : Nat) : List Leaf → Option (Bool) := gI (fun x0 => gL [.int .i64] (fun x1 => gI (fun x2 => gI (fun x3 => gL [.int .i64] (fun x4 => gE (F20_c0 n x0 x1 x2 x3 x4))))))
def sh20_1 : Shape := ⟨[(28, [(7, .i .i64), (8, .i .i64), (17, .sl false [.int .i64]), (18, .i .i64), (19, .i .i64)]), (21, [(0, .yield 6), (6, .i .i64), (8, .sl false [.int .i64]), (9, .i .i64), (10, .i .i64)]), (28, [(5, .ref 0 0)])], [.cells [.sl false [.int .i64]]]⟩
def g20_1 (n : Nat) : List Leaf → Option (Bool) := gI (fun x0 => gI (fun x1 => gL [.int .i64] (fun x2 => gI (fun x3 => gI (fun x4 => gI (fun x5 => gL [.int .i64] (fun x6 => gI (fun x7 => gI (fun x8 => gL [.int .i64] (fun x9 => gE (F20_c1 n x0 x1 x2 x3 x4 x5 x6 x7 x8 x9)))))))))))
def sh20_2 : Shape := ⟨[(28, [])], []⟩
def g20_2 (n : Nat) : List Leaf → Option (Bool) := gE (F20_c2 n )
def cuts20 : List (List Nat × Cut (Bool)) := [([1, 0, 0, 1, 0, 70, 1, 1, 0], ⟨sh20_0, g20_0⟩), ([1, 0, 0, 1, 0, 70, 1, 1, 0, 0, 1, 1, 0, 0, 1, 0, 0, 3, 3, 0, 1, 0], ⟨sh20_1, g20_1⟩), ([1, 10], ⟨sh20_2, g20_2⟩)]
noncomputable def X20 : Px (Bool) := ⟨T, Try.prog, lkF [(26, run26), (32, run32)], mkCuts 20 cuts20⟩
theorem e20_0 (n : Nat) (x0 : Int) (x1 : List (Int)) (x2 : Int) (x3 : Int) (x4 : List (Int)) : stepF X20 8 20 (endK sr20 toB20) [1, 0, 0, 1, 0, 70, 1, 1, 0] sh20_0 n [.i x0, .l [.int .i64] x1, .i x2, .i x3, .l [.int .i64] x4] = F20_c0 (n + 1) x0 x1 x2 x3 x4 := by kernel_rfl
theorem e20_1 (n : Nat) (x0 : Int) (x1 : Int) (x2 : List (Int)) (x3 : Int) (x4 : Int) (x5 : Int) (x6 : List (Int)) (x7 : Int) (x8 : Int) (x9 : List (Int)) : stepF X20 8 20 (endK sr20 toB20) [1, 0, 0, 1, 0, 70, 1, 1, 0, 0, 1, 1, 0, 0, 1, 0, 0, 3, 3, 0, 1, 0] sh20_1 n [.i x0, .i x1, .l [.int .i64] x2, .i x3, .i x4, .i x5, .l [.int .i64] x6, .i x7, .i x8, .l [.int .i64] x9] = F20_c1 (n + 1) x0 x1 x2 x3 x4 x5 x6 x7 x8 x9 := by kernel_rfl
theorem e20_2 (n : Nat) : stepF X20 8 20 (endK sr20 toB20) [1, 10] sh20_2 n [] = F20_c2 (n + 1)  := by kernel_rfl
theorem e20 (n : Nat) (a0 : Int) (a1 : List (Int)) (a2 : List (Int)) : entF X20 8 20 pa20 (endK sr20 toB20) n [.i a0, .l [.int .i64] a1, .l [.int .i64] a2] = F20 n a0 a1 a2 := by kernel_rfl
theorem c20_0 : CutOK X20 8 20 (endK sr20 toB20) [1, 0, 0, 1, 0, 70, 1, 1, 0] ⟨sh20_0, g20_0⟩ := by
  refine ⟨fun ls => ?_, fun n ls r h => ?_⟩
  · cases h : g20_0 0 ls with
    | none => exact h
    | some r =>
      unfold g20_0 at h; obtain ⟨x0, ls1, rfl, h1⟩ := gI_ok h; obtain ⟨x1, ls2, rfl, h2⟩ := gL_ok h1; obtain ⟨x2, ls3, rfl, h3⟩ := gI_ok h2; obtain ⟨x3, ls4, rfl, h4⟩ := gI_ok h3; obtain ⟨x4, ls5, rfl, h5⟩ := gL_ok h4; obtain ⟨rfl, h6⟩ := gE_ok h5; simp only [F20_c0] at h6; cases h6
  · replace h : g20_0 (n + 1) ls = some r := h
    unfold g20_0 at h
    obtain ⟨x0, ls1, rfl, h1⟩ := gI_ok h; obtain ⟨x1, ls2, rfl, h2⟩ := gL_ok h1; obtain ⟨x2, ls3, rfl, h3⟩ := gI_ok h2; obtain ⟨x3, ls4, rfl, h4⟩ := gI_ok h3; obtain ⟨x4, ls5, rfl, h5⟩ := gL_ok h4; obtain ⟨rfl, h6⟩ := gE_ok h5
    exact (e20_0 n x0 x1 x2 x3 x4).trans h6
theorem c20_1 : CutOK X20 8 20 (endK sr20 toB20) [1, 0, 0, 1, 0, 70, 1, 1, 0, 0, 1, 1, 0, 0, 1, 0, 0, 3, 3, 0, 1, 0] ⟨sh20_1, g20_1⟩ := by
  refine ⟨fun ls => ?_, fun n ls r h => ?_⟩
  · cases h : g20_1 0 ls with
    | none => exact h
    | some r =>
      unfold g20_1 at h; obtain ⟨x0, ls1, rfl, h1⟩ := gI_ok h; obtain ⟨x1, ls2, rfl, h2⟩ := gI_ok h1; obtain ⟨x2, ls3, rfl, h3⟩ := gL_ok h2; obtain ⟨x3, ls4, rfl, h4⟩ := gI_ok h3; obtain ⟨x4, ls5, rfl, h5⟩ := gI_ok h4; obtain ⟨x5, ls6, rfl, h6⟩ := gI_ok h5; obtain ⟨x6, ls7, rfl, h7⟩ := gL_ok h6; obtain ⟨x7, ls8, rfl, h8⟩ := gI_ok h7; obtain ⟨x8, ls9, rfl, h9⟩ := gI_ok h8; obtain ⟨x9, ls10, rfl, h10⟩ := gL_ok h9; obtain ⟨rfl, h11⟩ := gE_ok h10; simp only [F20_c1] at h11; cases h11
  · replace h : g20_1 (n + 1) ls = some r := h
    unfold g20_1 at h
    obtain ⟨x0, ls1, rfl, h1⟩ := gI_ok h; obtain ⟨x1, ls2, rfl, h2⟩ := gI_ok h1; obtain ⟨x2, ls3, rfl, h3⟩ := gL_ok h2; obtain ⟨x3, ls4, rfl, h4⟩ := gI_ok h3; obtain ⟨x4, ls5, rfl, h5⟩ := gI_ok h4; obtain ⟨x5, ls6, rfl, h6⟩ := gI_ok h5; obtain ⟨x6, ls7, rfl, h7⟩ := gL_ok h6; obtain ⟨x7, ls8, rfl, h8⟩ := gI_ok h7; obtain ⟨x8, ls9, rfl, h9⟩ := gI_ok h8; obtain ⟨x9, ls10, rfl, h10⟩ := gL_ok h9; obtain ⟨rfl, h11⟩ := gE_ok h10
    exact (e20_1 n x0 x1 x2 x3 x4 x5 x6 x7 x8 x9).trans h11
theorem c20_2 : CutOK X20 8 20 (endK sr20 toB20) [1, 10] ⟨sh20_2, g20_2⟩ := by
  refine ⟨fun ls => ?_, fun n ls r h => ?_⟩
  · cases h : g20_2 0 ls with
    | none => exact h
    | some r =>
      unfold g20_2 at h; obtain ⟨rfl, h1⟩ := gE_ok h; simp only [F20_c2] at h1; cases h1
  · replace h : g20_2 (n + 1) ls = some r := h
    unfold g20_2 at h
    obtain ⟨rfl, h1⟩ := gE_ok h
    exact (e20_2 n ).trans h1
theorem sp20 {n : Nat} (a0 : Int) (a1 : List (Int)) (a2 : List (Int)) {y : Bool} (h : F20 n a0 a1 a2 = some y) : SpecF T Try.prog 20 pa20 [.i a0, .l [.int .i64] a1, .l [.int .i64] a2] sr20 (ofB20 y) :=
  fun_ok (X := X20) tok (sfok_of ⟨ok26, ok32, trivial⟩) mixed 20 8 cuts20 rfl toB20_ok ⟨c20_0, c20_1, c20_2, trivial⟩ ((e20 n a0 a1 a2).trans h)
theorem ok20 {R : Type} : SFone T Try.prog 20 (run20 : SF R) := by
  intro ls K r h
  simp only [run20] at h
  obtain ⟨a0, ls1, rfl, h1⟩ := gI_ok h; obtain ⟨a1, ls2, rfl, h2⟩ := gL_ok h1; obtain ⟨a2, ls3, rfl, h3⟩ := gL_ok h2; obtain ⟨rfl, h4⟩ := gE_ok h3
  obtain ⟨y, k1, k2⟩ := Option.bind_eq_some_iff.1 h4
  exact ⟨_, k2, sp20 a0 a1 a2 k1⟩

/-! ### garland/garlandlaw12.wakes -/
def F8 (n : Nat) : Option (Bool) :=
  Option.bind (F12 FUEL (10) (20) [(30), (5), (15)]) fun y1 =>
  Option.bind (F12 FUEL (10) (20) [(30), (15), (40)]) fun y2 =>
  Option.bind (F9 FUEL y1) fun y3 =>
  Option.bind (F9 FUEL []) fun y4 =>
  Option.bind (F11 FUEL y1 [(20), (30), (5)]) fun y5 =>
  bif y5 then
  (Option.bind (F11 FUEL y2 [(20), (30)]) fun y6 =>
   bif y6 then
   (bif (ieq y3.1 (20)) then
    (bif y3.2 then
     (bif (!y4.2) then
      (Option.bind (F12 FUEL (10) (10) [(20)]) fun y7 =>
       bif (ieq (ofN (List.length y7)) (0)) then
       (Option.bind (F14 FUEL (10) y1) fun y8 =>
        bif y8 then
        (Option.bind (F14 FUEL (10) [(20), (15)]) fun y9 =>
         bif (!y9) then
         (Option.bind (F16 FUEL y1 (30)) fun y10 =>
          Option.bind (F11 FUEL y10 [(20), (5)]) fun y11 =>
          bif y11 then
          (Option.bind (F18 FUEL (10) y1) fun y12 =>
           bif (ieq y12 (5)) then
           (Option.bind (F18 FUEL (-1) []) fun y13 =>
            bif (ieq y13 (65535)) then
            (Option.bind (F20 FUEL (10) y1 [(25)]) fun y14 =>
             bif y14 then
             (Option.bind (F20 FUEL (10) y1 [(20), (30), (5), (10), (7)]) fun y15 =>
              some (!y15))
             else (some false))
            else (some false))
           else (some false))
          else (some false))
         else (some false))
        else (some false))
       else (some false))
      else (some false))
     else (some false))
    else (some false))
   else (some false))
  else (some false)
def pa8 : List VP := []
def sr8 : RShape := ⟨.b, []⟩
def toB8 : List Leaf → Option (Bool) := gB (fun b0 => gE (some b0))
def ofB8 (y : Bool) : List Leaf := [.b y]
theorem toB8_ok : ∀ ls b, toB8 ls = some b → ls = ofB8 b := by
  intro ls b h
  unfold toB8 at h
  obtain ⟨b0, ls1, rfl, h1⟩ := gB_ok h; obtain ⟨rfl, h2⟩ := gE_ok h1
  cases h2; rfl
def run8 {R : Type} : SF R := ⟨pa8, sr8, fun ls K => (gE (Option.bind (F8 FUEL ) fun y => K (ofB8 y))) ls⟩
def cuts8 : List (List Nat × Cut (Bool)) := []
noncomputable def X8 : Px (Bool) := ⟨T, Try.prog, lkF [(12, run12), (9, run9), (11, run11), (14, run14), (16, run16), (18, run18), (20, run20)], mkCuts 8 cuts8⟩
theorem e8 (n : Nat) : entF X8 8 8 pa8 (endK sr8 toB8) n [] = F8 n  := by kernel_rfl
theorem sp8 {n : Nat} {y : Bool} (h : F8 n  = some y) : SpecF T Try.prog 8 pa8 [] sr8 (ofB8 y) :=
  fun_ok (X := X8) tok (sfok_of ⟨ok12, ok9, ok11, ok14, ok16, ok18, ok20, trivial⟩) mixed 8 8 cuts8 rfl toB8_ok trivial ((e8 n ).trans h)
theorem ok8 {R : Type} : SFone T Try.prog 8 (run8 : SF R) := by
  intro ls K r h
  simp only [run8] at h
  obtain ⟨rfl, h1⟩ := gE_ok h
  obtain ⟨y, k1, k2⟩ := Option.bind_eq_some_iff.1 h1
  exact ⟨_, k2, sp8  k1⟩

/-! ### garland/garlandref12.First -/
def F10 (n : Nat) (a0 : List (Int)) : Option (Int × Bool) :=
  bif (ieq (ofN (List.length a0)) (0)) then
  (some ((0), false))
  else (bif (inb (0) (List.length a0)) then
   (some ((List.getD a0 (Int.toNat (0)) 0), true))
   else (none))
def pa10 : List VP := [.sl false [.int .i64]]
def sr10 : RShape := ⟨.tup [.i .i64, .b], []⟩
def toB10 : List Leaf → Option (Int × Bool) := gI (fun b0 => gB (fun b1 => gE (some (b0, b1))))
def ofB10 (y : Int × Bool) : List Leaf := [.i y.1, .b y.2]
theorem toB10_ok : ∀ ls b, toB10 ls = some b → ls = ofB10 b := by
  intro ls b h
  unfold toB10 at h
  obtain ⟨b0, ls1, rfl, h1⟩ := gI_ok h; obtain ⟨b1, ls2, rfl, h2⟩ := gB_ok h1; obtain ⟨rfl, h3⟩ := gE_ok h2
  cases h3; rfl
def run10 {R : Type} : SF R := ⟨pa10, sr10, fun ls K => (gL [.int .i64] (fun a0 => gE (Option.bind (F10 FUEL a0) fun y => K (ofB10 y)))) ls⟩
def cuts10 : List (List Nat × Cut (Int × Bool)) := []
noncomputable def X10 : Px (Int × Bool) := ⟨T, Try.prog, lkF [], mkCuts 10 cuts10⟩
theorem e10 (n : Nat) (a0 : List (Int)) : entF X10 8 10 pa10 (endK sr10 toB10) n [.l [.int .i64] a0] = F10 n a0 := by kernel_rfl
theorem sp10 {n : Nat} (a0 : List (Int)) {y : Int × Bool} (h : F10 n a0 = some y) : SpecF T Try.prog 10 pa10 [.l [.int .i64] a0] sr10 (ofB10 y) :=
  fun_ok (X := X10) tok (sfok_of trivial) mixed 10 8 cuts10 rfl toB10_ok trivial ((e10 n a0).trans h)
theorem ok10 {R : Type} : SFone T Try.prog 10 (run10 : SF R) := by
  intro ls K r h
  simp only [run10] at h
  obtain ⟨a0, ls1, rfl, h1⟩ := gL_ok h; obtain ⟨rfl, h2⟩ := gE_ok h1
  obtain ⟨y, k1, k2⟩ := Option.bind_eq_some_iff.1 h2
  exact ⟨_, k2, sp10 a0 k1⟩

/-! ### garland/garlandref12.place -/
def F29 (n : Nat) (a0 : Int) : Option (Bool) :=
  bif (ige a0 (0)) then
  (some (ilt a0 (65536)))
  else (some false)
def pa29 : List VP := [.i .i64]
def sr29 : RShape := ⟨.b, []⟩
def toB29 : List Leaf → Option (Bool) := gB (fun b0 => gE (some b0))
def ofB29 (y : Bool) : List Leaf := [.b y]
theorem toB29_ok : ∀ ls b, toB29 ls = some b → ls = ofB29 b := by
  intro ls b h
  unfold toB29 at h
  obtain ⟨b0, ls1, rfl, h1⟩ := gB_ok h; obtain ⟨rfl, h2⟩ := gE_ok h1
  cases h2; rfl
def run29 {R : Type} : SF R := ⟨pa29, sr29, fun ls K => (gI (fun a0 => gE (Option.bind (F29 FUEL a0) fun y => K (ofB29 y)))) ls⟩
def cuts29 : List (List Nat × Cut (Bool)) := []
noncomputable def X29 : Px (Bool) := ⟨T, Try.prog, lkF [], mkCuts 29 cuts29⟩
theorem e29 (n : Nat) (a0 : Int) : entF X29 8 29 pa29 (endK sr29 toB29) n [.i a0] = F29 n a0 := by kernel_rfl
theorem sp29 {n : Nat} (a0 : Int) {y : Bool} (h : F29 n a0 = some y) : SpecF T Try.prog 29 pa29 [.i a0] sr29 (ofB29 y) :=
  fun_ok (X := X29) tok (sfok_of trivial) mixed 29 8 cuts29 rfl toB29_ok trivial ((e29 n a0).trans h)
theorem ok29 {R : Type} : SFone T Try.prog 29 (run29 : SF R) := by
  intro ls K r h
  simp only [run29] at h
  obtain ⟨a0, ls1, rfl, h1⟩ := gI_ok h; obtain ⟨rfl, h2⟩ := gE_ok h1
  obtain ⟨y, k1, k2⟩ := Option.bind_eq_some_iff.1 h2
  exact ⟨_, k2, sp29 a0 k1⟩

/-! ### garland/garlandref03.Place -/
def F22 (n : Nat) (a0 : Int) : Option (Int) :=
  bif (inz (65536)) then
  (bif (inz (65536)) then
   (some (irem (iadd .i64 (irem a0 (65536)) (65536)) (65536)))
   else (none))
  else (none)
def pa22 : List VP := [.i .i64]
def sr22 : RShape := ⟨.i .i64, []⟩
def toB22 : List Leaf → Option (Int) := gI (fun b0 => gE (some b0))
def ofB22 (y : Int) : List Leaf := [.i y]
theorem toB22_ok : ∀ ls b, toB22 ls = some b → ls = ofB22 b := by
  intro ls b h
  unfold toB22 at h
  obtain ⟨b0, ls1, rfl, h1⟩ := gI_ok h; obtain ⟨rfl, h2⟩ := gE_ok h1
  cases h2; rfl
def run22 {R : Type} : SF R := ⟨pa22, sr22, fun ls K => (gI (fun a0 => gE (Option.bind (F22 FUEL a0) fun y => K (ofB22 y)))) ls⟩
def cuts22 : List (List Nat × Cut (Int)) := []
noncomputable def X22 : Px (Int) := ⟨T, Try.prog, lkF [], mkCuts 22 cuts22⟩
theorem e22 (n : Nat) (a0 : Int) : entF X22 8 22 pa22 (endK sr22 toB22) n [.i a0] = F22 n a0 := by kernel_rfl
theorem sp22 {n : Nat} (a0 : Int) {y : Int} (h : F22 n a0 = some y) : SpecF T Try.prog 22 pa22 [.i a0] sr22 (ofB22 y) :=
  fun_ok (X := X22) tok (sfok_of trivial) mixed 22 8 cuts22 rfl toB22_ok trivial ((e22 n a0).trans h)
theorem ok22 {R : Type} : SFone T Try.prog 22 (run22 : SF R) := by
  intro ls K r h
  simp only [run22] at h
  obtain ⟨a0, ls1, rfl, h1⟩ := gI_ok h; obtain ⟨rfl, h2⟩ := gE_ok h1
  obtain ⟨y, k1, k2⟩ := Option.bind_eq_some_iff.1 h2
  exact ⟨_, k2, sp22 a0 k1⟩

/-! ### garland/garlandref03.Far -/
def F24 (n : Nat) (a0 : Int) (a1 : Int) : Option (Int) :=
  Option.bind (F22 FUEL a1) fun y1 =>
  Option.bind (F22 FUEL a0) fun y2 =>
  Option.bind (F22 FUEL (isub .i64 y1 y2)) fun y3 =>
  some y3
def pa24 : List VP := [.i .i64, .i .i64]
def sr24 : RShape := ⟨.i .i64, []⟩
def toB24 : List Leaf → Option (Int) := gI (fun b0 => gE (some b0))
def ofB24 (y : Int) : List Leaf := [.i y]
theorem toB24_ok : ∀ ls b, toB24 ls = some b → ls = ofB24 b := by
  intro ls b h
  unfold toB24 at h
  obtain ⟨b0, ls1, rfl, h1⟩ := gI_ok h; obtain ⟨rfl, h2⟩ := gE_ok h1
  cases h2; rfl
def run24 {R : Type} : SF R := ⟨pa24, sr24, fun ls K => (gI (fun a0 => gI (fun a1 => gE (Option.bind (F24 FUEL a0 a1) fun y => K (ofB24 y))))) ls⟩
def cuts24 : List (List Nat × Cut (Int)) := []
noncomputable def X24 : Px (Int) := ⟨T, Try.prog, lkF [(22, run22)], mkCuts 24 cuts24⟩
theorem e24 (n : Nat) (a0 : Int) (a1 : Int) : entF X24 8 24 pa24 (endK sr24 toB24) n [.i a0, .i a1] = F24 n a0 a1 := by kernel_rfl
theorem sp24 {n : Nat} (a0 : Int) (a1 : Int) {y : Int} (h : F24 n a0 a1 = some y) : SpecF T Try.prog 24 pa24 [.i a0, .i a1] sr24 (ofB24 y) :=
  fun_ok (X := X24) tok (sfok_of ⟨ok22, trivial⟩) mixed 24 8 cuts24 rfl toB24_ok trivial ((e24 n a0 a1).trans h)
theorem ok24 {R : Type} : SFone T Try.prog 24 (run24 : SF R) := by
  intro ls K r h
  simp only [run24] at h
  obtain ⟨a0, ls1, rfl, h1⟩ := gI_ok h; obtain ⟨a1, ls2, rfl, h2⟩ := gI_ok h1; obtain ⟨rfl, h3⟩ := gE_ok h2
  obtain ⟨y, k1, k2⟩ := Option.bind_eq_some_iff.1 h3
  exact ⟨_, k2, sp24 a0 a1 k1⟩

/-! ### garland/garlandref12.farther -/
def F30 (n : Nat) (a0 : Int) (a1 : Int) (a2 : Int) : Option (Bool) :=
  Option.bind (F24 FUEL a0 a2) fun y1 =>
  Option.bind (F24 FUEL a0 a1) fun y2 =>
  some (igt y1 y2)
def pa30 : List VP := [.i .i64, .i .i64, .i .i64]
def sr30 : RShape := ⟨.b, []⟩
def toB30 : List Leaf → Option (Bool) := gB (fun b0 => gE (some b0))
def ofB30 (y : Bool) : List Leaf := [.b y]
theorem toB30_ok : ∀ ls b, toB30 ls = some b → ls = ofB30 b := by
  intro ls b h
  unfold toB30 at h
  obtain ⟨b0, ls1, rfl, h1⟩ := gB_ok h; obtain ⟨rfl, h2⟩ := gE_ok h1
  cases h2; rfl
def run30 {R : Type} : SF R := ⟨pa30, sr30, fun ls K => (gI (fun a0 => gI (fun a1 => gI (fun a2 => gE (Option.bind (F30 FUEL a0 a1 a2) fun y => K (ofB30 y)))))) ls⟩
def cuts30 : List (List Nat × Cut (Bool)) := []
noncomputable def X30 : Px (Bool) := ⟨T, Try.prog, lkF [(24, run24)], mkCuts 30 cuts30⟩
theorem e30 (n : Nat) (a0 : Int) (a1 : Int) (a2 : Int) : entF X30 8 30 pa30 (endK sr30 toB30) n [.i a0, .i a1, .i a2] = F30 n a0 a1 a2 := by kernel_rfl
theorem sp30 {n : Nat} (a0 : Int) (a1 : Int) (a2 : Int) {y : Bool} (h : F30 n a0 a1 a2 = some y) : SpecF T Try.prog 30 pa30 [.i a0, .i a1, .i a2] sr30 (ofB30 y) :=
  fun_ok (X := X30) tok (sfok_of ⟨ok24, trivial⟩) mixed 30 8 cuts30 rfl toB30_ok trivial ((e30 n a0 a1 a2).trans h)
theorem ok30 {R : Type} : SFone T Try.prog 30 (run30 : SF R) := by
  intro ls K r h
  simp only [run30] at h
  obtain ⟨a0, ls1, rfl, h1⟩ := gI_ok h; obtain ⟨a1, ls2, rfl, h2⟩ := gI_ok h1; obtain ⟨a2, ls3, rfl, h3⟩ := gI_ok h2; obtain ⟨rfl, h4⟩ := gE_ok h3
  obtain ⟨y, k1, k2⟩ := Option.bind_eq_some_iff.1 h4
  exact ⟨_, k2, sp30 a0 a1 a2 k1⟩

/-! ### garland/garlandref12.Make -/
def F13_c0 : Nat → Int → List (Int) → Int → List (Int) → Option ((List (Int)))
  | 0, _, _, _, _ => none
  | n + 1, x0, x1, x2, x3 => bif (ilt x2 (ofN (List.length x1))) then
    (bif (ilt (ofN (List.length x3)) (3)) then
     (bif (inb x2 (List.length x1)) then
      (Option.bind (F29 FUEL (List.getD x1 (Int.toNat x2) 0)) fun y3 =>
       bif (!y3) then
       (some x3)
       else (bif (inb x2 (List.length x3)) then
        (bif (nlt (Int.toNat x2) (List.length x3)) then
         (bif (inb x2 (List.length x1)) then
          (Option.bind (F30 FUEL x0 (List.getD x3 (Int.toNat x2) 0) (List.getD x1 (Int.toNat x2) 0)) fun y4 =>
           bif (!y4) then
           (some x3)
           else (bif (inb x2 (List.length x1)) then
            (bif (room (List.length x3 + List.length [(List.getD x1 (Int.toNat x2) 0)]) 8) then
             (F13_c0 n x0 x1 (iadd .i64 x2 (1)) (x3 ++ [(List.getD x1 (Int.toNat x2) 0)]))
             else (none))
            else (none)))
          else (none))
         else (none))
        else (none)))
      else (none))
     else (some x3))
    else (some x3)
def F13 (n : Nat) (a0 : Int) (a1 : Int) (a2 : List (Int)) : Option ((List (Int))) :=
  Option.bind (F29 FUEL a1) fun y1 =>
  bif (!y1) then
  (some [])
  else (Option.bind (F22 FUEL a0) fun y2 =>
   bif (ieq y2 a1) then
   (some [])
   else (F13_c0 n a0 a2 (0) [a1]))
def pa13 : List VP := [.i .i64, .i .i64, .sl false [.int .i64]]
def sr13 : RShape := ⟨.row 0, [.row true [.int .i64]]⟩
def toB13 : List Leaf → Option ((List (Int))) := gL [.int .i64] (fun b0 => gE (some b0))
def ofB13 (y : (List (Int))) : List Leaf := [.l [.int .i64] y]
theorem toB13_ok : ∀ ls b, toB13 ls = some b → ls = ofB13 b := by
  intro ls b h
  unfold toB13 at h
  obtain ⟨b0, ls1, rfl, h1⟩ := gL_ok h; obtain ⟨rfl, h2⟩ := gE_ok h1
  cases h2; rfl
def run13 {R : Type} : SF R := ⟨pa13, sr13, fun ls K => (gI (fun a0 => gI (fun a1 => gL [.int .i64] (fun a2 => gE (Option.bind (F13 FUEL a0 a1 a2) fun y => K (ofB13 y)))))) ls⟩
def sh13_0 : Shape := ⟨[(59, [(0, .i .i64), (2, .sl false [.int .i64]), (7, .row 0), (8, .i .i64)])], [.row true [.int .i64]]⟩
def g13_0 (n : Nat) : List Leaf → Option ((List (Int))) := gI (fun x0 => gL [.int .i64] (fun x1 => gI (fun x2 => gL [.int .i64] (fun x3 => gE (F13_c0 n x0 x1 x2 x3)))))
def cuts13 : List (List Nat × Cut ((List (Int)))) := [([1, 1, 1, 0, 1, 0], ⟨sh13_0, g13_0⟩)]
noncomputable def X13 : Px ((List (Int))) := ⟨T, Try.prog, lkF [(29, run29), (22, run22), (30, run30)], mkCuts 13 cuts13⟩
theorem e13_0 (n : Nat) (x0 : Int) (x1 : List (Int)) (x2 : Int) (x3 : List (Int)) : stepF X13 8 13 (endK sr13 toB13) [1, 1, 1, 0, 1, 0] sh13_0 n [.i x0, .l [.int .i64] x1, .i x2, .l [.int .i64] x3] = F13_c0 (n + 1) x0 x1 x2 x3 := by kernel_rfl
theorem e13 (n : Nat) (a0 : Int) (a1 : Int) (a2 : List (Int)) : entF X13 8 13 pa13 (endK sr13 toB13) n [.i a0, .i a1, .l [.int .i64] a2] = F13 n a0 a1 a2 := by kernel_rfl
theorem c13_0 : CutOK X13 8 13 (endK sr13 toB13) [1, 1, 1, 0, 1, 0] ⟨sh13_0, g13_0⟩ := by
  refine ⟨fun ls => ?_, fun n ls r h => ?_⟩
  · cases h : g13_0 0 ls with
    | none => exact h
    | some r =>
      unfold g13_0 at h; obtain ⟨x0, ls1, rfl, h1⟩ := gI_ok h; obtain ⟨x1, ls2, rfl, h2⟩ := gL_ok h1; obtain ⟨x2, ls3, rfl, h3⟩ := gI_ok h2; obtain ⟨x3, ls4, rfl, h4⟩ := gL_ok h3; obtain ⟨rfl, h5⟩ := gE_ok h4; simp only [F13_c0] at h5; cases h5
  · replace h : g13_0 (n + 1) ls = some r := h
    unfold g13_0 at h
    obtain ⟨x0, ls1, rfl, h1⟩ := gI_ok h; obtain ⟨x1, ls2, rfl, h2⟩ := gL_ok h1; obtain ⟨x2, ls3, rfl, h3⟩ := gI_ok h2; obtain ⟨x3, ls4, rfl, h4⟩ := gL_ok h3; obtain ⟨rfl, h5⟩ := gE_ok h4
    exact (e13_0 n x0 x1 x2 x3).trans h5
theorem sp13 {n : Nat} (a0 : Int) (a1 : Int) (a2 : List (Int)) {y : (List (Int))} (h : F13 n a0 a1 a2 = some y) : SpecF T Try.prog 13 pa13 [.i a0, .i a1, .l [.int .i64] a2] sr13 (ofB13 y) :=
  fun_ok (X := X13) tok (sfok_of ⟨ok29, ok22, ok30, trivial⟩) mixed 13 8 cuts13 rfl toB13_ok ⟨c13_0, trivial⟩ ((e13 n a0 a1 a2).trans h)
theorem ok13 {R : Type} : SFone T Try.prog 13 (run13 : SF R) := by
  intro ls K r h
  simp only [run13] at h
  obtain ⟨a0, ls1, rfl, h1⟩ := gI_ok h; obtain ⟨a1, ls2, rfl, h2⟩ := gI_ok h1; obtain ⟨a2, ls3, rfl, h3⟩ := gL_ok h2; obtain ⟨rfl, h4⟩ := gE_ok h3
  obtain ⟨y, k1, k2⟩ := Option.bind_eq_some_iff.1 h4
  exact ⟨_, k2, sp13 a0 a1 a2 k1⟩

/-! ### garland/garlandref12.Right -/
def F15_c0 : Nat → Int → List (Int) → Int → Option (Bool)
  | 0, _, _, _ => none
  | n + 1, x0, x1, x2 => bif (ilt x2 (ofN (List.length x1))) then
    (bif (inb x2 (List.length x1)) then
     (Option.bind (F29 FUEL (List.getD x1 (Int.toNat x2) 0)) fun y1 =>
      bif (!y1) then
      (some false)
      else (bif (inb x2 (List.length x1)) then
       (Option.bind (F22 FUEL x0) fun y2 =>
        bif (ieq (List.getD x1 (Int.toNat x2) 0) y2) then
        (some false)
        else (bif (igt x2 (0)) then
         (bif (inb (isub .i64 x2 (1)) (List.length x1)) then
          (bif (inb x2 (List.length x1)) then
           (Option.bind (F30 FUEL x0 (List.getD x1 (Int.toNat (isub .i64 x2 (1))) 0) (List.getD x1 (Int.toNat x2) 0)) fun y3 =>
            bif (!y3) then
            (some false)
            else (F15_c0 n x0 x1 (iadd .i64 x2 (1))))
           else (none))
          else (none))
         else (F15_c0 n x0 x1 (iadd .i64 x2 (1)))))
       else (none)))
     else (none))
    else (some (ile (ofN (List.length x1)) (3)))
def F15 (n : Nat) (a0 : Int) (a1 : List (Int)) : Option (Bool) :=
  F15_c0 n a0 a1 (0)
def pa15 : List VP := [.i .i64, .sl false [.int .i64]]
def sr15 : RShape := ⟨.b, []⟩
def toB15 : List Leaf → Option (Bool) := gB (fun b0 => gE (some b0))
def ofB15 (y : Bool) : List Leaf := [.b y]
theorem toB15_ok : ∀ ls b, toB15 ls = some b → ls = ofB15 b := by
  intro ls b h
  unfold toB15 at h
  obtain ⟨b0, ls1, rfl, h1⟩ := gB_ok h; obtain ⟨rfl, h2⟩ := gE_ok h1
  cases h2; rfl
def run15 {R : Type} : SF R := ⟨pa15, sr15, fun ls K => (gI (fun a0 => gL [.int .i64] (fun a1 => gE (Option.bind (F15 FUEL a0 a1) fun y => K (ofB15 y))))) ls⟩
def sh15_0 : Shape := ⟨[(48, [(0, .i .i64), (1, .sl false [.int .i64]), (5, .i .i64)])], []⟩
def g15_0 (n : Nat) : List Leaf → Option (Bool) := gI (fun x0 => gL [.int .i64] (fun x1 => gI (fun x2 => gE (F15_c0 n x0 x1 x2))))
def cuts15 : List (List Nat × Cut (Bool)) := [([1, 0, 1, 0], ⟨sh15_0, g15_0⟩)]
noncomputable def X15 : Px (Bool) := ⟨T, Try.prog, lkF [(29, run29), (22, run22), (30, run30)], mkCuts 15 cuts15⟩
theorem e15_0 (n : Nat) (x0 : Int) (x1 : List (Int)) (x2 : Int) : stepF X15 8 15 (endK sr15 toB15) [1, 0, 1, 0] sh15_0 n [.i x0, .l [.int .i64] x1, .i x2] = F15_c0 (n + 1) x0 x1 x2 := by kernel_rfl
theorem e15 (n : Nat) (a0 : Int) (a1 : List (Int)) : entF X15 8 15 pa15 (endK sr15 toB15) n [.i a0, .l [.int .i64] a1] = F15 n a0 a1 := by kernel_rfl
theorem c15_0 : CutOK X15 8 15 (endK sr15 toB15) [1, 0, 1, 0] ⟨sh15_0, g15_0⟩ := by
  refine ⟨fun ls => ?_, fun n ls r h => ?_⟩
  · cases h : g15_0 0 ls with
    | none => exact h
    | some r =>
      unfold g15_0 at h; obtain ⟨x0, ls1, rfl, h1⟩ := gI_ok h; obtain ⟨x1, ls2, rfl, h2⟩ := gL_ok h1; obtain ⟨x2, ls3, rfl, h3⟩ := gI_ok h2; obtain ⟨rfl, h4⟩ := gE_ok h3; simp only [F15_c0] at h4; cases h4
  · replace h : g15_0 (n + 1) ls = some r := h
    unfold g15_0 at h
    obtain ⟨x0, ls1, rfl, h1⟩ := gI_ok h; obtain ⟨x1, ls2, rfl, h2⟩ := gL_ok h1; obtain ⟨x2, ls3, rfl, h3⟩ := gI_ok h2; obtain ⟨rfl, h4⟩ := gE_ok h3
    exact (e15_0 n x0 x1 x2).trans h4
theorem sp15 {n : Nat} (a0 : Int) (a1 : List (Int)) {y : Bool} (h : F15 n a0 a1 = some y) : SpecF T Try.prog 15 pa15 [.i a0, .l [.int .i64] a1] sr15 (ofB15 y) :=
  fun_ok (X := X15) tok (sfok_of ⟨ok29, ok22, ok30, trivial⟩) mixed 15 8 cuts15 rfl toB15_ok ⟨c15_0, trivial⟩ ((e15 n a0 a1).trans h)
theorem ok15 {R : Type} : SFone T Try.prog 15 (run15 : SF R) := by
  intro ls K r h
  simp only [run15] at h
  obtain ⟨a0, ls1, rfl, h1⟩ := gI_ok h; obtain ⟨a1, ls2, rfl, h2⟩ := gL_ok h1; obtain ⟨rfl, h3⟩ := gE_ok h2
  obtain ⟨y, k1, k2⟩ := Option.bind_eq_some_iff.1 h3
  exact ⟨_, k2, sp15 a0 a1 k1⟩

/-! ### garland/garlandref12.Drop -/
def F17_c0 : Nat → List (Int) → Int → Int → List (Int) → Option ((List (Int)))
  | 0, _, _, _, _ => none
  | n + 1, x0, x1, x2, x3 => bif (ilt x2 (ofN (List.length x0))) then
    (bif (inb x2 (List.length x0)) then
     (bif (ine (List.getD x0 (Int.toNat x2) 0) x1) then
      (bif (inb x2 (List.length x0)) then
       (bif (room (List.length x3 + List.length [(List.getD x0 (Int.toNat x2) 0)]) 8) then
        (F17_c0 n x0 x1 (iadd .i64 x2 (1)) (x3 ++ [(List.getD x0 (Int.toNat x2) 0)]))
        else (none))
       else (none))
      else (F17_c0 n x0 x1 (iadd .i64 x2 (1)) x3))
     else (none))
    else (some x3)
def F17 (n : Nat) (a0 : List (Int)) (a1 : Int) : Option ((List (Int))) :=
  F17_c0 n a0 a1 (0) []
def pa17 : List VP := [.sl false [.int .i64], .i .i64]
def sr17 : RShape := ⟨.row 0, [.row true [.int .i64]]⟩
def toB17 : List Leaf → Option ((List (Int))) := gL [.int .i64] (fun b0 => gE (some b0))
def ofB17 (y : (List (Int))) : List Leaf := [.l [.int .i64] y]
theorem toB17_ok : ∀ ls b, toB17 ls = some b → ls = ofB17 b := by
  intro ls b h
  unfold toB17 at h
  obtain ⟨b0, ls1, rfl, h1⟩ := gL_ok h; obtain ⟨rfl, h2⟩ := gE_ok h1
  cases h2; rfl
def run17 {R : Type} : SF R := ⟨pa17, sr17, fun ls K => (gL [.int .i64] (fun a0 => gI (fun a1 => gE (Option.bind (F17 FUEL a0 a1) fun y => K (ofB17 y))))) ls⟩
def sh17_0 : Shape := ⟨[(27, [(0, .sl false [.int .i64]), (1, .i .i64), (5, .row 0), (6, .i .i64)])], [.row true [.int .i64]]⟩
def g17_0 (n : Nat) : List Leaf → Option ((List (Int))) := gL [.int .i64] (fun x0 => gI (fun x1 => gI (fun x2 => gL [.int .i64] (fun x3 => gE (F17_c0 n x0 x1 x2 x3)))))
def cuts17 : List (List Nat × Cut ((List (Int)))) := [([1, 1, 0, 1, 0], ⟨sh17_0, g17_0⟩)]
noncomputable def X17 : Px ((List (Int))) := ⟨T, Try.prog, lkF [], mkCuts 17 cuts17⟩
theorem e17_0 (n : Nat) (x0 : List (Int)) (x1 : Int) (x2 : Int) (x3 : List (Int)) : stepF X17 8 17 (endK sr17 toB17) [1, 1, 0, 1, 0] sh17_0 n [.l [.int .i64] x0, .i x1, .i x2, .l [.int .i64] x3] = F17_c0 (n + 1) x0 x1 x2 x3 := by kernel_rfl
theorem e17 (n : Nat) (a0 : List (Int)) (a1 : Int) : entF X17 8 17 pa17 (endK sr17 toB17) n [.l [.int .i64] a0, .i a1] = F17 n a0 a1 := by kernel_rfl
theorem c17_0 : CutOK X17 8 17 (endK sr17 toB17) [1, 1, 0, 1, 0] ⟨sh17_0, g17_0⟩ := by
  refine ⟨fun ls => ?_, fun n ls r h => ?_⟩
  · cases h : g17_0 0 ls with
    | none => exact h
    | some r =>
      unfold g17_0 at h; obtain ⟨x0, ls1, rfl, h1⟩ := gL_ok h; obtain ⟨x1, ls2, rfl, h2⟩ := gI_ok h1; obtain ⟨x2, ls3, rfl, h3⟩ := gI_ok h2; obtain ⟨x3, ls4, rfl, h4⟩ := gL_ok h3; obtain ⟨rfl, h5⟩ := gE_ok h4; simp only [F17_c0] at h5; cases h5
  · replace h : g17_0 (n + 1) ls = some r := h
    unfold g17_0 at h
    obtain ⟨x0, ls1, rfl, h1⟩ := gL_ok h; obtain ⟨x1, ls2, rfl, h2⟩ := gI_ok h1; obtain ⟨x2, ls3, rfl, h3⟩ := gI_ok h2; obtain ⟨x3, ls4, rfl, h4⟩ := gL_ok h3; obtain ⟨rfl, h5⟩ := gE_ok h4
    exact (e17_0 n x0 x1 x2 x3).trans h5
theorem sp17 {n : Nat} (a0 : List (Int)) (a1 : Int) {y : (List (Int))} (h : F17 n a0 a1 = some y) : SpecF T Try.prog 17 pa17 [.l [.int .i64] a0, .i a1] sr17 (ofB17 y) :=
  fun_ok (X := X17) tok (sfok_of trivial) mixed 17 8 cuts17 rfl toB17_ok ⟨c17_0, trivial⟩ ((e17 n a0 a1).trans h)
theorem ok17 {R : Type} : SFone T Try.prog 17 (run17 : SF R) := by
  intro ls K r h
  simp only [run17] at h
  obtain ⟨a0, ls1, rfl, h1⟩ := gL_ok h; obtain ⟨a1, ls2, rfl, h2⟩ := gI_ok h1; obtain ⟨rfl, h3⟩ := gE_ok h2
  obtain ⟨y, k1, k2⟩ := Option.bind_eq_some_iff.1 h3
  exact ⟨_, k2, sp17 a0 a1 k1⟩

/-! ### garland/garlandref12.Last -/
def F19 (n : Nat) (a0 : Int) (a1 : List (Int)) : Option (Int) :=
  bif (ieq (ofN (List.length a1)) (0)) then
  (Option.bind (F22 FUEL a0) fun y1 =>
   some y1)
  else (bif (inb (isub .i64 (ofN (List.length a1)) (1)) (List.length a1)) then
   (some (List.getD a1 (Int.toNat (isub .i64 (ofN (List.length a1)) (1))) 0))
   else (none))
def pa19 : List VP := [.i .i64, .sl false [.int .i64]]
def sr19 : RShape := ⟨.i .i64, []⟩
def toB19 : List Leaf → Option (Int) := gI (fun b0 => gE (some b0))
def ofB19 (y : Int) : List Leaf := [.i y]
theorem toB19_ok : ∀ ls b, toB19 ls = some b → ls = ofB19 b := by
  intro ls b h
  unfold toB19 at h
  obtain ⟨b0, ls1, rfl, h1⟩ := gI_ok h; obtain ⟨rfl, h2⟩ := gE_ok h1
  cases h2; rfl
def run19 {R : Type} : SF R := ⟨pa19, sr19, fun ls K => (gI (fun a0 => gL [.int .i64] (fun a1 => gE (Option.bind (F19 FUEL a0 a1) fun y => K (ofB19 y))))) ls⟩
def cuts19 : List (List Nat × Cut (Int)) := []
noncomputable def X19 : Px (Int) := ⟨T, Try.prog, lkF [(22, run22)], mkCuts 19 cuts19⟩
theorem e19 (n : Nat) (a0 : Int) (a1 : List (Int)) : entF X19 8 19 pa19 (endK sr19 toB19) n [.i a0, .l [.int .i64] a1] = F19 n a0 a1 := by kernel_rfl
theorem sp19 {n : Nat} (a0 : Int) (a1 : List (Int)) {y : Int} (h : F19 n a0 a1 = some y) : SpecF T Try.prog 19 pa19 [.i a0, .l [.int .i64] a1] sr19 (ofB19 y) :=
  fun_ok (X := X19) tok (sfok_of ⟨ok22, trivial⟩) mixed 19 8 cuts19 rfl toB19_ok trivial ((e19 n a0 a1).trans h)
theorem ok19 {R : Type} : SFone T Try.prog 19 (run19 : SF R) := by
  intro ls K r h
  simp only [run19] at h
  obtain ⟨a0, ls1, rfl, h1⟩ := gI_ok h; obtain ⟨a1, ls2, rfl, h2⟩ := gL_ok h1; obtain ⟨rfl, h3⟩ := gE_ok h2
  obtain ⟨y, k1, k2⟩ := Option.bind_eq_some_iff.1 h3
  exact ⟨_, k2, sp19 a0 a1 k1⟩

/-! ### garland/garlandref03.In -/
def F33 (n : Nat) (a0 : Int) (a1 : Int) (a2 : Int) : Option (Bool) :=
  Option.bind (F22 FUEL a0) fun y1 =>
  Option.bind (F22 FUEL a2) fun y2 =>
  bif (ieq y1 y2) then
  (Option.bind (F22 FUEL a1) fun y3 =>
   Option.bind (F22 FUEL a0) fun y4 =>
   some (ine y3 y4))
  else (Option.bind (F24 FUEL a0 a1) fun y5 =>
   bif (igt y5 (0)) then
   (Option.bind (F24 FUEL a0 a1) fun y6 =>
    Option.bind (F24 FUEL a0 a2) fun y7 =>
    some (ilt y6 y7))
   else (some false))
def pa33 : List VP := [.i .i64, .i .i64, .i .i64]
def sr33 : RShape := ⟨.b, []⟩
def toB33 : List Leaf → Option (Bool) := gB (fun b0 => gE (some b0))
def ofB33 (y : Bool) : List Leaf := [.b y]
theorem toB33_ok : ∀ ls b, toB33 ls = some b → ls = ofB33 b := by
  intro ls b h
  unfold toB33 at h
  obtain ⟨b0, ls1, rfl, h1⟩ := gB_ok h; obtain ⟨rfl, h2⟩ := gE_ok h1
  cases h2; rfl
def run33 {R : Type} : SF R := ⟨pa33, sr33, fun ls K => (gI (fun a0 => gI (fun a1 => gI (fun a2 => gE (Option.bind (F33 FUEL a0 a1 a2) fun y => K (ofB33 y)))))) ls⟩
def cuts33 : List (List Nat × Cut (Bool)) := []
noncomputable def X33 : Px (Bool) := ⟨T, Try.prog, lkF [(22, run22), (24, run24)], mkCuts 33 cuts33⟩
theorem e33 (n : Nat) (a0 : Int) (a1 : Int) (a2 : Int) : entF X33 8 33 pa33 (endK sr33 toB33) n [.i a0, .i a1, .i a2] = F33 n a0 a1 a2 := by kernel_rfl
theorem sp33 {n : Nat} (a0 : Int) (a1 : Int) (a2 : Int) {y : Bool} (h : F33 n a0 a1 a2 = some y) : SpecF T Try.prog 33 pa33 [.i a0, .i a1, .i a2] sr33 (ofB33 y) :=
  fun_ok (X := X33) tok (sfok_of ⟨ok22, ok24, trivial⟩) mixed 33 8 cuts33 rfl toB33_ok trivial ((e33 n a0 a1 a2).trans h)
theorem ok33 {R : Type} : SFone T Try.prog 33 (run33 : SF R) := by
  intro ls K r h
  simp only [run33] at h
  obtain ⟨a0, ls1, rfl, h1⟩ := gI_ok h; obtain ⟨a1, ls2, rfl, h2⟩ := gI_ok h1; obtain ⟨a2, ls3, rfl, h3⟩ := gI_ok h2; obtain ⟨rfl, h4⟩ := gE_ok h3
  obtain ⟨y, k1, k2⟩ := Option.bind_eq_some_iff.1 h4
  exact ⟨_, k2, sp33 a0 a1 a2 k1⟩

/-! ### garland/garlandref12.Skips -/
mutual
def F21_c0 : Nat → List (Int) → List (Int) → Int → Int → Option (Bool)
  | 0, _, _, _, _ => none
  | n + 1, x0, x1, x2, x3 => bif (ilt x3 (ofN (List.length x0))) then
    (F21_c1 n x0 x1 x2 x3 (0))
    else (some false)
def F21_c1 : Nat → List (Int) → List (Int) → Int → Int → Int → Option (Bool)
  | 0, _, _, _, _, _ => none
  | n + 1, x0, x1, x2, x3, x4 => bif (ilt x4 (ofN (List.length x1))) then
    (bif (inb x4 (List.length x1)) then
     (bif (inb x3 (List.length x0)) then
      (Option.bind (F33 FUEL x2 (List.getD x1 (Int.toNat x4) 0) (List.getD x0 (Int.toNat x3) 0)) fun y1 =>
       bif y1 then
       (some true)
       else (F21_c1 n x0 x1 x2 x3 (iadd .i64 x4 (1))))
      else (none))
     else (none))
    else (bif (inb x3 (List.length x0)) then
     (F21_c0 n x0 x1 (List.getD x0 (Int.toNat x3) 0) (iadd .i64 x3 (1)))
     else (none))
end
def F21 (n : Nat) (a0 : Int) (a1 : List (Int)) (a2 : List (Int)) : Option (Bool) :=
  F21_c0 n a1 a2 a0 (0)
def pa21 : List VP := [.i .i64, .sl false [.int .i64], .sl false [.int .i64]]
def sr21 : RShape := ⟨.b, []⟩
def toB21 : List Leaf → Option (Bool) := gB (fun b0 => gE (some b0))
def ofB21 (y : Bool) : List Leaf := [.b y]
theorem toB21_ok : ∀ ls b, toB21 ls = some b → ls = ofB21 b := by
  intro ls b h
  unfold toB21 at h
  obtain ⟨b0, ls1, rfl, h1⟩ := gB_ok h; obtain ⟨rfl, h2⟩ := gE_ok h1
  cases h2; rfl
def run21 {R : Type} : SF R := ⟨pa21, sr21, fun ls K => (gI (fun a0 => gL [.int .i64] (fun a1 => gL [.int .i64] (fun a2 => gE (Option.bind (F21 FUEL a0 a1 a2) fun y => K (ofB21 y)))))) ls⟩
def sh21_0 : Shape := ⟨[(37, [(1, .sl false [.int .i64]), (2, .sl false [.int .i64]), (7, .i .i64), (8, .i .i64)])], []⟩
def g21_0 (n : Nat) : List Leaf → Option (Bool) := gL [.int .i64] (fun x0 => gL [.int .i64] (fun x1 => gI (fun x2 => gI (fun x3 => gE (F21_c0 n x0 x1 x2 x3)))))
def sh21_1 : Shape := ⟨[(37, [(1, .sl false [.int .i64]), (2, .sl false [.int .i64]), (7, .i .i64), (8, .i .i64), (9, .i .i64)])], []⟩
def g21_1 (n : Nat) : List Leaf → Option (Bool) := gL [.int .i64] (fun x0 => gL [.int .i64] (fun x1 => gI (fun x2 => gI (fun x3 => gI (fun x4 => gE (F21_c1 n x0 x1 x2 x3 x4))))))
def cuts21 : List (List Nat × Cut (Bool)) := [([1, 1, 0, 1, 0], ⟨sh21_0, g21_0⟩), ([1, 1, 0, 1, 0, 0, 1, 0, 0, 0, 1, 0], ⟨sh21_1, g21_1⟩)]
noncomputable def X21 : Px (Bool) := ⟨T, Try.prog, lkF [(33, run33)], mkCuts 21 cuts21⟩
theorem e21_0 (n : Nat) (x0 : List (Int)) (x1 : List (Int)) (x2 : Int) (x3 : Int) : stepF X21 8 21 (endK sr21 toB21) [1, 1, 0, 1, 0] sh21_0 n [.l [.int .i64] x0, .l [.int .i64] x1, .i x2, .i x3] = F21_c0 (n + 1) x0 x1 x2 x3 := by kernel_rfl
theorem e21_1 (n : Nat) (x0 : List (Int)) (x1 : List (Int)) (x2 : Int) (x3 : Int) (x4 : Int) : stepF X21 8 21 (endK sr21 toB21) [1, 1, 0, 1, 0, 0, 1, 0, 0, 0, 1, 0] sh21_1 n [.l [.int .i64] x0, .l [.int .i64] x1, .i x2, .i x3, .i x4] = F21_c1 (n + 1) x0 x1 x2 x3 x4 := by kernel_rfl
theorem e21 (n : Nat) (a0 : Int) (a1 : List (Int)) (a2 : List (Int)) : entF X21 8 21 pa21 (endK sr21 toB21) n [.i a0, .l [.int .i64] a1, .l [.int .i64] a2] = F21 n a0 a1 a2 := by kernel_rfl
theorem c21_0 : CutOK X21 8 21 (endK sr21 toB21) [1, 1, 0, 1, 0] ⟨sh21_0, g21_0⟩ := by
  refine ⟨fun ls => ?_, fun n ls r h => ?_⟩
  · cases h : g21_0 0 ls with
    | none => exact h
    | some r =>
      unfold g21_0 at h; obtain ⟨x0, ls1, rfl, h1⟩ := gL_ok h; obtain ⟨x1, ls2, rfl, h2⟩ := gL_ok h1; obtain ⟨x2, ls3, rfl, h3⟩ := gI_ok h2; obtain ⟨x3, ls4, rfl, h4⟩ := gI_ok h3; obtain ⟨rfl, h5⟩ := gE_ok h4; simp only [F21_c0] at h5; cases h5
  · replace h : g21_0 (n + 1) ls = some r := h
    unfold g21_0 at h
    obtain ⟨x0, ls1, rfl, h1⟩ := gL_ok h; obtain ⟨x1, ls2, rfl, h2⟩ := gL_ok h1; obtain ⟨x2, ls3, rfl, h3⟩ := gI_ok h2; obtain ⟨x3, ls4, rfl, h4⟩ := gI_ok h3; obtain ⟨rfl, h5⟩ := gE_ok h4
    exact (e21_0 n x0 x1 x2 x3).trans h5
theorem c21_1 : CutOK X21 8 21 (endK sr21 toB21) [1, 1, 0, 1, 0, 0, 1, 0, 0, 0, 1, 0] ⟨sh21_1, g21_1⟩ := by
  refine ⟨fun ls => ?_, fun n ls r h => ?_⟩
  · cases h : g21_1 0 ls with
    | none => exact h
    | some r =>
      unfold g21_1 at h; obtain ⟨x0, ls1, rfl, h1⟩ := gL_ok h; obtain ⟨x1, ls2, rfl, h2⟩ := gL_ok h1; obtain ⟨x2, ls3, rfl, h3⟩ := gI_ok h2; obtain ⟨x3, ls4, rfl, h4⟩ := gI_ok h3; obtain ⟨x4, ls5, rfl, h5⟩ := gI_ok h4; obtain ⟨rfl, h6⟩ := gE_ok h5; simp only [F21_c1] at h6; cases h6
  · replace h : g21_1 (n + 1) ls = some r := h
    unfold g21_1 at h
    obtain ⟨x0, ls1, rfl, h1⟩ := gL_ok h; obtain ⟨x1, ls2, rfl, h2⟩ := gL_ok h1; obtain ⟨x2, ls3, rfl, h3⟩ := gI_ok h2; obtain ⟨x3, ls4, rfl, h4⟩ := gI_ok h3; obtain ⟨x4, ls5, rfl, h5⟩ := gI_ok h4; obtain ⟨rfl, h6⟩ := gE_ok h5
    exact (e21_1 n x0 x1 x2 x3 x4).trans h6
theorem sp21 {n : Nat} (a0 : Int) (a1 : List (Int)) (a2 : List (Int)) {y : Bool} (h : F21 n a0 a1 a2 = some y) : SpecF T Try.prog 21 pa21 [.i a0, .l [.int .i64] a1, .l [.int .i64] a2] sr21 (ofB21 y) :=
  fun_ok (X := X21) tok (sfok_of ⟨ok33, trivial⟩) mixed 21 8 cuts21 rfl toB21_ok ⟨c21_0, c21_1, trivial⟩ ((e21 n a0 a1 a2).trans h)
theorem ok21 {R : Type} : SFone T Try.prog 21 (run21 : SF R) := by
  intro ls K r h
  simp only [run21] at h
  obtain ⟨a0, ls1, rfl, h1⟩ := gI_ok h; obtain ⟨a1, ls2, rfl, h2⟩ := gL_ok h1; obtain ⟨a2, ls3, rfl, h3⟩ := gL_ok h2; obtain ⟨rfl, h4⟩ := gE_ok h3
  obtain ⟨y, k1, k2⟩ := Option.bind_eq_some_iff.1 h4
  exact ⟨_, k2, sp21 a0 a1 a2 k1⟩

/-! ### garland/garlandlaw12.ListTells -/
def F3 (n : Nat) (a0 : Int) (a1 : Int) (a2 : Int) (a3 : List (Int)) (a4 : List (Int)) : Option (Bool) :=
  bif (igt (ofN (List.length a3)) (20)) then
  (Option.bind (F8 FUEL) fun y1 =>
   some y1)
  else (bif (igt (ofN (List.length a4)) (20)) then
   (Option.bind (F8 FUEL) fun y2 =>
    some y2)
   else (Option.bind (F9 FUEL a3) fun y3 =>
    Option.bind (F10 FUEL a3) fun y4 =>
    Option.bind (F12 FUEL a0 a1 a3) fun y5 =>
    Option.bind (F13 FUEL a0 a1 a3) fun y6 =>
    Option.bind (F11 FUEL y5 y6) fun y7 =>
    bif y7 then
    (Option.bind (F14 FUEL a0 a3) fun y8 =>
     Option.bind (F15 FUEL a0 a3) fun y9 =>
     bif (beqb y8 y9) then
     (Option.bind (F16 FUEL a3 a2) fun y10 =>
      Option.bind (F17 FUEL a3 a2) fun y11 =>
      Option.bind (F11 FUEL y10 y11) fun y12 =>
      bif y12 then
      (bif (ieq y3.1 y4.1) then
       (bif (beqb y3.2 y4.2) then
        (Option.bind (F18 FUEL a0 a3) fun y13 =>
         Option.bind (F19 FUEL a0 a3) fun y14 =>
         bif (ieq y13 y14) then
         (Option.bind (F20 FUEL a0 a3 a4) fun y15 =>
          Option.bind (F21 FUEL a0 a3 a4) fun y16 =>
          bif (beqb y15 y16) then
          (Option.bind (F8 FUEL) fun y17 =>
           some y17)
          else (some false))
         else (some false))
        else (some false))
       else (some false))
      else (some false))
     else (some false))
    else (some false)))
def pa3 : List VP := [.i .i64, .i .i64, .i .i64, .sl false [.int .i64], .sl false [.int .i64]]
def sr3 : RShape := ⟨.b, []⟩
def toB3 : List Leaf → Option (Bool) := gB (fun b0 => gE (some b0))
def ofB3 (y : Bool) : List Leaf := [.b y]
theorem toB3_ok : ∀ ls b, toB3 ls = some b → ls = ofB3 b := by
  intro ls b h
  unfold toB3 at h
  obtain ⟨b0, ls1, rfl, h1⟩ := gB_ok h; obtain ⟨rfl, h2⟩ := gE_ok h1
  cases h2; rfl
def run3 {R : Type} : SF R := ⟨pa3, sr3, fun ls K => (gI (fun a0 => gI (fun a1 => gI (fun a2 => gL [.int .i64] (fun a3 => gL [.int .i64] (fun a4 => gE (Option.bind (F3 FUEL a0 a1 a2 a3 a4) fun y => K (ofB3 y)))))))) ls⟩
def cuts3 : List (List Nat × Cut (Bool)) := []
noncomputable def X3 : Px (Bool) := ⟨T, Try.prog, lkF [(8, run8), (9, run9), (10, run10), (12, run12), (13, run13), (11, run11), (14, run14), (15, run15), (16, run16), (17, run17), (18, run18), (19, run19), (20, run20), (21, run21)], mkCuts 3 cuts3⟩
theorem e3 (n : Nat) (a0 : Int) (a1 : Int) (a2 : Int) (a3 : List (Int)) (a4 : List (Int)) : entF X3 8 3 pa3 (endK sr3 toB3) n [.i a0, .i a1, .i a2, .l [.int .i64] a3, .l [.int .i64] a4] = F3 n a0 a1 a2 a3 a4 := by kernel_rfl
theorem sp3 {n : Nat} (a0 : Int) (a1 : Int) (a2 : Int) (a3 : List (Int)) (a4 : List (Int)) {y : Bool} (h : F3 n a0 a1 a2 a3 a4 = some y) : SpecF T Try.prog 3 pa3 [.i a0, .i a1, .i a2, .l [.int .i64] a3, .l [.int .i64] a4] sr3 (ofB3 y) :=
  fun_ok (X := X3) tok (sfok_of ⟨ok8, ok9, ok10, ok12, ok13, ok11, ok14, ok15, ok16, ok17, ok18, ok19, ok20, ok21, trivial⟩) mixed 3 8 cuts3 rfl toB3_ok trivial ((e3 n a0 a1 a2 a3 a4).trans h)
theorem ok3 {R : Type} : SFone T Try.prog 3 (run3 : SF R) := by
  intro ls K r h
  simp only [run3] at h
  obtain ⟨a0, ls1, rfl, h1⟩ := gI_ok h; obtain ⟨a1, ls2, rfl, h2⟩ := gI_ok h1; obtain ⟨a2, ls3, rfl, h3⟩ := gI_ok h2; obtain ⟨a3, ls4, rfl, h4⟩ := gL_ok h3; obtain ⟨a4, ls5, rfl, h5⟩ := gL_ok h4; obtain ⟨rfl, h6⟩ := gE_ok h5
  obtain ⟨y, k1, k2⟩ := Option.bind_eq_some_iff.1 h6
  exact ⟨_, k2, sp3 a0 a1 a2 a3 a4 k1⟩

/-! ### garland/garlandlaw12.skips -/
def F23_c0 : Nat → Int → Int → List (Int) → Int → Option (Bool)
  | 0, _, _, _, _ => none
  | n + 1, x0, x1, x2, x3 => bif (ilt x3 (ofN (List.length x2))) then
    (bif (inb x3 (List.length x2)) then
     (Option.bind (F24 FUEL x0 (List.getD x2 (Int.toNat x3) 0)) fun y1 =>
      bif (igt y1 (0)) then
      (Option.bind (F24 FUEL x0 x1) fun y2 =>
       bif (ilt y1 y2) then
       (some true)
       else (F23_c0 n x0 x1 x2 (iadd .i64 x3 (1))))
      else (F23_c0 n x0 x1 x2 (iadd .i64 x3 (1))))
     else (none))
    else (some false)
def F23 (n : Nat) (a0 : Int) (a1 : Int) (a2 : List (Int)) : Option (Bool) :=
  F23_c0 n a0 a1 a2 (0)
def pa23 : List VP := [.i .i64, .i .i64, .sl false [.int .i64]]
def sr23 : RShape := ⟨.b, []⟩
def toB23 : List Leaf → Option (Bool) := gB (fun b0 => gE (some b0))
def ofB23 (y : Bool) : List Leaf := [.b y]
theorem toB23_ok : ∀ ls b, toB23 ls = some b → ls = ofB23 b := by
  intro ls b h
  unfold toB23 at h
  obtain ⟨b0, ls1, rfl, h1⟩ := gB_ok h; obtain ⟨rfl, h2⟩ := gE_ok h1
  cases h2; rfl
def run23 {R : Type} : SF R := ⟨pa23, sr23, fun ls K => (gI (fun a0 => gI (fun a1 => gL [.int .i64] (fun a2 => gE (Option.bind (F23 FUEL a0 a1 a2) fun y => K (ofB23 y)))))) ls⟩
def sh23_0 : Shape := ⟨[(30, [(0, .i .i64), (1, .i .i64), (2, .sl false [.int .i64]), (7, .i .i64)])], []⟩
def g23_0 (n : Nat) : List Leaf → Option (Bool) := gI (fun x0 => gI (fun x1 => gL [.int .i64] (fun x2 => gI (fun x3 => gE (F23_c0 n x0 x1 x2 x3)))))
def cuts23 : List (List Nat × Cut (Bool)) := [([1, 0, 1, 0], ⟨sh23_0, g23_0⟩)]
noncomputable def X23 : Px (Bool) := ⟨T, Try.prog, lkF [(24, run24)], mkCuts 23 cuts23⟩
theorem e23_0 (n : Nat) (x0 : Int) (x1 : Int) (x2 : List (Int)) (x3 : Int) : stepF X23 8 23 (endK sr23 toB23) [1, 0, 1, 0] sh23_0 n [.i x0, .i x1, .l [.int .i64] x2, .i x3] = F23_c0 (n + 1) x0 x1 x2 x3 := by kernel_rfl
theorem e23 (n : Nat) (a0 : Int) (a1 : Int) (a2 : List (Int)) : entF X23 8 23 pa23 (endK sr23 toB23) n [.i a0, .i a1, .l [.int .i64] a2] = F23 n a0 a1 a2 := by kernel_rfl
theorem c23_0 : CutOK X23 8 23 (endK sr23 toB23) [1, 0, 1, 0] ⟨sh23_0, g23_0⟩ := by
  refine ⟨fun ls => ?_, fun n ls r h => ?_⟩
  · cases h : g23_0 0 ls with
    | none => exact h
    | some r =>
      unfold g23_0 at h; obtain ⟨x0, ls1, rfl, h1⟩ := gI_ok h; obtain ⟨x1, ls2, rfl, h2⟩ := gI_ok h1; obtain ⟨x2, ls3, rfl, h3⟩ := gL_ok h2; obtain ⟨x3, ls4, rfl, h4⟩ := gI_ok h3; obtain ⟨rfl, h5⟩ := gE_ok h4; simp only [F23_c0] at h5; cases h5
  · replace h : g23_0 (n + 1) ls = some r := h
    unfold g23_0 at h
    obtain ⟨x0, ls1, rfl, h1⟩ := gI_ok h; obtain ⟨x1, ls2, rfl, h2⟩ := gI_ok h1; obtain ⟨x2, ls3, rfl, h3⟩ := gL_ok h2; obtain ⟨x3, ls4, rfl, h4⟩ := gI_ok h3; obtain ⟨rfl, h5⟩ := gE_ok h4
    exact (e23_0 n x0 x1 x2 x3).trans h5
theorem sp23 {n : Nat} (a0 : Int) (a1 : Int) (a2 : List (Int)) {y : Bool} (h : F23 n a0 a1 a2 = some y) : SpecF T Try.prog 23 pa23 [.i a0, .i a1, .l [.int .i64] a2] sr23 (ofB23 y) :=
  fun_ok (X := X23) tok (sfok_of ⟨ok24, trivial⟩) mixed 23 8 cuts23 rfl toB23_ok ⟨c23_0, trivial⟩ ((e23 n a0 a1 a2).trans h)
theorem ok23 {R : Type} : SFone T Try.prog 23 (run23 : SF R) := by
  intro ls K r h
  simp only [run23] at h
  obtain ⟨a0, ls1, rfl, h1⟩ := gI_ok h; obtain ⟨a1, ls2, rfl, h2⟩ := gI_ok h1; obtain ⟨a2, ls3, rfl, h3⟩ := gL_ok h2; obtain ⟨rfl, h4⟩ := gE_ok h3
  obtain ⟨y, k1, k2⟩ := Option.bind_eq_some_iff.1 h4
  exact ⟨_, k2, sp23 a0 a1 a2 k1⟩

/-! ### garland/garlandlaw12.ListSkips -/
mutual
def F4_c0 : Nat → Int → Int → List (Int) → List (Int) → Int → Int → Int → Option (Bool)
  | 0, _, _, _, _, _, _, _ => none
  | n + 1, x0, x1, x2, x3, x4, x5, x6 => bif (ilt x6 (ofN (List.length x2))) then
    (bif (inb x6 (List.length x2)) then
     (Option.bind (F23 FUEL x5 (List.getD x2 (Int.toNat x6) 0) x3) fun y8 =>
      bif y8 then
      (Option.bind (F8 FUEL) fun y9 =>
       some y9)
      else (bif (inb x6 (List.length x2)) then
       (F4_c0 n x0 x1 x2 x3 x4 (List.getD x2 (Int.toNat x6) 0) (iadd .i64 x6 (1)))
       else (none)))
     else (none))
    else (Option.bind (F23 FUEL x0 x1 x3) fun y10 =>
     bif y10 then
     (Option.bind (F8 FUEL) fun y11 =>
      some y11)
     else (Option.bind (F12 FUEL x0 x1 x2) fun y12 =>
      Option.bind (F20 FUEL x0 y12 x3) fun y13 =>
      bif y13 then
      (some false)
      else (bif (ilt (ofN (List.length y12)) (1)) then
       (some false)
       else (bif (inb (0) (List.length y12)) then
        (bif (nlt (Int.toNat (0)) (List.length y12)) then
         (bif (ine (List.getD y12 (Int.toNat (0)) 0) x1) then
          (some false)
          else (Option.bind (F14 FUEL x0 y12) fun y14 =>
           bif (!y14) then
           (some false)
           else (bif (inz (ofN (List.length y12))) then
            (bif (inz (ofN (List.length y12))) then
             (bif (inb (irem (iadd .i64 (irem x4 (ofN (List.length y12))) (ofN (List.length y12))) (ofN (List.length y12))) (List.length y12)) then
              (bif (nlt (Int.toNat (irem (iadd .i64 (irem x4 (ofN (List.length y12))) (ofN (List.length y12))) (ofN (List.length y12)))) (List.length y12)) then
               (F4_c1 n x0 x3 (List.getD y12 (Int.toNat (irem (iadd .i64 (irem x4 (ofN (List.length y12))) (ofN (List.length y12))) (ofN (List.length y12)))) 0) (0) y12)
               else (none))
              else (none))
             else (none))
            else (none))))
         else (none))
        else (none)))))
def F4_c1 : Nat → Int → List (Int) → Int → Int → List (Int) → Option (Bool)
  | 0, _, _, _, _, _ => none
  | n + 1, x0, x1, x2, x3, x4 => bif (ilt x3 (ofN (List.length x1))) then
    (bif (inb x3 (List.length x1)) then
     (Option.bind (F22 FUEL (List.getD x1 (Int.toNat x3) 0)) fun y15 =>
      bif (ieq y15 x2) then
      (Option.bind (F8 FUEL) fun y16 =>
       some y16)
      else (F4_c1 n x0 x1 x2 (iadd .i64 x3 (1)) x4))
     else (none))
    else (Option.bind (F16 FUEL x4 x2) fun y17 =>
     Option.bind (F20 FUEL x0 y17 x1) fun y18 =>
     bif (!y18) then
     (bif (ieq (ofN (List.length y17)) (isub .i64 (ofN (List.length x4)) (1))) then
      (Option.bind (F14 FUEL x0 y17) fun y19 =>
       bif y19 then
       (Option.bind (F8 FUEL) fun y20 =>
        some y20)
       else (some false))
      else (some false))
     else (some false))
end
def F4 (n : Nat) (a0 : Int) (a1 : Int) (a2 : List (Int)) (a3 : List (Int)) (a4 : Int) : Option (Bool) :=
  Option.bind (F22 FUEL a0) fun y1 =>
  Option.bind (F22 FUEL a1) fun y2 =>
  bif (igt (ofN (List.length a2)) (10)) then
  (Option.bind (F8 FUEL) fun y3 =>
   some y3)
  else (bif (igt (ofN (List.length a3)) (10)) then
   (Option.bind (F8 FUEL) fun y4 =>
    some y4)
   else (Option.bind (F15 FUEL y2 a2) fun y5 =>
    bif (!y5) then
    (Option.bind (F8 FUEL) fun y6 =>
     some y6)
    else (bif (ieq y1 y2) then
     (Option.bind (F8 FUEL) fun y7 =>
      some y7)
     else (F4_c0 n y1 y2 a2 a3 a4 y2 (0)))))
def pa4 : List VP := [.i .i64, .i .i64, .sl false [.int .i64], .sl false [.int .i64], .i .i64]
def sr4 : RShape := ⟨.b, []⟩
def toB4 : List Leaf → Option (Bool) := gB (fun b0 => gE (some b0))
def ofB4 (y : Bool) : List Leaf := [.b y]
theorem toB4_ok : ∀ ls b, toB4 ls = some b → ls = ofB4 b := by
  intro ls b h
  unfold toB4 at h
  obtain ⟨b0, ls1, rfl, h1⟩ := gB_ok h; obtain ⟨rfl, h2⟩ := gE_ok h1
  cases h2; rfl
def run4 {R : Type} : SF R := ⟨pa4, sr4, fun ls K => (gI (fun a0 => gI (fun a1 => gL [.int .i64] (fun a2 => gL [.int .i64] (fun a3 => gI (fun a4 => gE (Option.bind (F4 FUEL a0 a1 a2 a3 a4) fun y => K (ofB4 y)))))))) ls⟩
def sh4_0 : Shape := ⟨[(142, [(0, .i .i64), (1, .i .i64), (2, .sl false [.int .i64]), (3, .sl false [.int .i64]), (4, .i .i64), (11, .i .i64), (12, .i .i64)])], []⟩
def g4_0 (n : Nat) : List Leaf → Option (Bool) := gI (fun x0 => gI (fun x1 => gL [.int .i64] (fun x2 => gL [.int .i64] (fun x3 => gI (fun x4 => gI (fun x5 => gI (fun x6 => gE (F4_c0 n x0 x1 x2 x3 x4 x5 x6))))))))
def sh4_1 : Shape := ⟨[(142, [(0, .i .i64), (3, .sl false [.int .i64]), (13, .row 0), (14, .i .i64), (15, .i .i64)])], [.row true [.int .i64]]⟩
def g4_1 (n : Nat) : List Leaf → Option (Bool) := gI (fun x0 => gL [.int .i64] (fun x1 => gI (fun x2 => gI (fun x3 => gL [.int .i64] (fun x4 => gE (F4_c1 n x0 x1 x2 x3 x4))))))
def cuts4 : List (List Nat × Cut (Bool)) := [([1, 1, 1, 1, 0, 1, 0], ⟨sh4_0, g4_0⟩), ([1, 1, 1, 1, 1, 1, 1, 1, 1, 0, 1, 0], ⟨sh4_1, g4_1⟩)]
noncomputable def X4 : Px (Bool) := ⟨T, Try.prog, lkF [(22, run22), (8, run8), (15, run15), (23, run23), (12, run12), (20, run20), (14, run14), (16, run16)], mkCuts 4 cuts4⟩
theorem e4_0 (n : Nat) (x0 : Int) (x1 : Int) (x2 : List (Int)) (x3 : List (Int)) (x4 : Int) (x5 : Int) (x6 : Int) : stepF X4 8 4 (endK sr4 toB4) [1, 1, 1, 1, 0, 1, 0] sh4_0 n [.i x0, .i x1, .l [.int .i64] x2, .l [.int .i64] x3, .i x4, .i x5, .i x6] = F4_c0 (n + 1) x0 x1 x2 x3 x4 x5 x6 := by kernel_rfl
theorem e4_1 (n : Nat) (x0 : Int) (x1 : List (Int)) (x2 : Int) (x3 : Int) (x4 : List (Int)) : stepF X4 8 4 (endK sr4 toB4) [1, 1, 1, 1, 1, 1, 1, 1, 1, 0, 1, 0] sh4_1 n [.i x0, .l [.int .i64] x1, .i x2, .i x3, .l [.int .i64] x4] = F4_c1 (n + 1) x0 x1 x2 x3 x4 := by kernel_rfl
theorem e4 (n : Nat) (a0 : Int) (a1 : Int) (a2 : List (Int)) (a3 : List (Int)) (a4 : Int) : entF X4 8 4 pa4 (endK sr4 toB4) n [.i a0, .i a1, .l [.int .i64] a2, .l [.int .i64] a3, .i a4] = F4 n a0 a1 a2 a3 a4 := by kernel_rfl
theorem c4_0 : CutOK X4 8 4 (endK sr4 toB4) [1, 1, 1, 1, 0, 1, 0] ⟨sh4_0, g4_0⟩ := by
  refine ⟨fun ls => ?_, fun n ls r h => ?_⟩
  · cases h : g4_0 0 ls with
    | none => exact h
    | some r =>
      unfold g4_0 at h; obtain ⟨x0, ls1, rfl, h1⟩ := gI_ok h; obtain ⟨x1, ls2, rfl, h2⟩ := gI_ok h1; obtain ⟨x2, ls3, rfl, h3⟩ := gL_ok h2; obtain ⟨x3, ls4, rfl, h4⟩ := gL_ok h3; obtain ⟨x4, ls5, rfl, h5⟩ := gI_ok h4; obtain ⟨x5, ls6, rfl, h6⟩ := gI_ok h5; obtain ⟨x6, ls7, rfl, h7⟩ := gI_ok h6; obtain ⟨rfl, h8⟩ := gE_ok h7; simp only [F4_c0] at h8; cases h8
  · replace h : g4_0 (n + 1) ls = some r := h
    unfold g4_0 at h
    obtain ⟨x0, ls1, rfl, h1⟩ := gI_ok h; obtain ⟨x1, ls2, rfl, h2⟩ := gI_ok h1; obtain ⟨x2, ls3, rfl, h3⟩ := gL_ok h2; obtain ⟨x3, ls4, rfl, h4⟩ := gL_ok h3; obtain ⟨x4, ls5, rfl, h5⟩ := gI_ok h4; obtain ⟨x5, ls6, rfl, h6⟩ := gI_ok h5; obtain ⟨x6, ls7, rfl, h7⟩ := gI_ok h6; obtain ⟨rfl, h8⟩ := gE_ok h7
    exact (e4_0 n x0 x1 x2 x3 x4 x5 x6).trans h8
theorem c4_1 : CutOK X4 8 4 (endK sr4 toB4) [1, 1, 1, 1, 1, 1, 1, 1, 1, 0, 1, 0] ⟨sh4_1, g4_1⟩ := by
  refine ⟨fun ls => ?_, fun n ls r h => ?_⟩
  · cases h : g4_1 0 ls with
    | none => exact h
    | some r =>
      unfold g4_1 at h; obtain ⟨x0, ls1, rfl, h1⟩ := gI_ok h; obtain ⟨x1, ls2, rfl, h2⟩ := gL_ok h1; obtain ⟨x2, ls3, rfl, h3⟩ := gI_ok h2; obtain ⟨x3, ls4, rfl, h4⟩ := gI_ok h3; obtain ⟨x4, ls5, rfl, h5⟩ := gL_ok h4; obtain ⟨rfl, h6⟩ := gE_ok h5; simp only [F4_c1] at h6; cases h6
  · replace h : g4_1 (n + 1) ls = some r := h
    unfold g4_1 at h
    obtain ⟨x0, ls1, rfl, h1⟩ := gI_ok h; obtain ⟨x1, ls2, rfl, h2⟩ := gL_ok h1; obtain ⟨x2, ls3, rfl, h3⟩ := gI_ok h2; obtain ⟨x3, ls4, rfl, h4⟩ := gI_ok h3; obtain ⟨x4, ls5, rfl, h5⟩ := gL_ok h4; obtain ⟨rfl, h6⟩ := gE_ok h5
    exact (e4_1 n x0 x1 x2 x3 x4).trans h6
theorem sp4 {n : Nat} (a0 : Int) (a1 : Int) (a2 : List (Int)) (a3 : List (Int)) (a4 : Int) {y : Bool} (h : F4 n a0 a1 a2 a3 a4 = some y) : SpecF T Try.prog 4 pa4 [.i a0, .i a1, .l [.int .i64] a2, .l [.int .i64] a3, .i a4] sr4 (ofB4 y) :=
  fun_ok (X := X4) tok (sfok_of ⟨ok22, ok8, ok15, ok23, ok12, ok20, ok14, ok16, trivial⟩) mixed 4 8 cuts4 rfl toB4_ok ⟨c4_0, c4_1, trivial⟩ ((e4 n a0 a1 a2 a3 a4).trans h)
theorem ok4 {R : Type} : SFone T Try.prog 4 (run4 : SF R) := by
  intro ls K r h
  simp only [run4] at h
  obtain ⟨a0, ls1, rfl, h1⟩ := gI_ok h; obtain ⟨a1, ls2, rfl, h2⟩ := gI_ok h1; obtain ⟨a2, ls3, rfl, h3⟩ := gL_ok h2; obtain ⟨a3, ls4, rfl, h4⟩ := gL_ok h3; obtain ⟨a4, ls5, rfl, h5⟩ := gI_ok h4; obtain ⟨rfl, h6⟩ := gE_ok h5
  obtain ⟨y, k1, k2⟩ := Option.bind_eq_some_iff.1 h6
  exact ⟨_, k2, sp4 a0 a1 a2 a3 a4 k1⟩

/-! ### garland/garlandlaw12.ListMade -/
def F5_c0 : Nat → Int → List (Int) → Int → Int → List (Int) → Option (Bool)
  | 0, _, _, _, _, _ => none
  | n + 1, x0, x1, x2, x3, x4 => bif (ilt x3 (ofN (List.length x4))) then
    (bif (inb x3 (List.length x4)) then
     (bif (nlt (Int.toNat x3) (List.length x4)) then
      (bif (inb (isub .i64 x3 (1)) (List.length x1)) then
       (bif (ine (List.getD x4 (Int.toNat x3) 0) (List.getD x1 (Int.toNat (isub .i64 x3 (1))) 0)) then
        (some false)
        else (bif (inb x3 (List.length x4)) then
         (bif (nlt (Int.toNat x3) (List.length x4)) then
          (Option.bind (F24 FUEL x2 (List.getD x4 (Int.toNat x3) 0)) fun y8 =>
           bif (inb (isub .i64 x3 (1)) (List.length x4)) then
           (bif (nlt (Int.toNat (isub .i64 x3 (1))) (List.length x4)) then
            (Option.bind (F24 FUEL x2 (List.getD x4 (Int.toNat (isub .i64 x3 (1))) 0)) fun y9 =>
             bif (ile y8 y9) then
             (some false)
             else (bif (inb x3 (List.length x4)) then
              (bif (nlt (Int.toNat x3) (List.length x4)) then
               (bif (ieq (List.getD x4 (Int.toNat x3) 0) x2) then
                (some false)
                else (F5_c0 n x0 x1 x2 (iadd .i64 x3 (1)) x4))
               else (none))
              else (none)))
            else (none))
           else (none))
          else (none))
         else (none)))
       else (none))
      else (none))
     else (none))
    else (bif (ilt (ofN (List.length x4)) (3)) then
     (bif (ile (ofN (List.length x4)) (ofN (List.length x1))) then
      (bif (inb (isub .i64 (ofN (List.length x4)) (1)) (List.length x1)) then
       (bif (ige (List.getD x1 (Int.toNat (isub .i64 (ofN (List.length x4)) (1))) 0) (0)) then
        (bif (inb (isub .i64 (ofN (List.length x4)) (1)) (List.length x1)) then
         (bif (ilt (List.getD x1 (Int.toNat (isub .i64 (ofN (List.length x4)) (1))) 0) (65536)) then
          (bif (inb (isub .i64 (ofN (List.length x4)) (1)) (List.length x1)) then
           (Option.bind (F24 FUEL x2 (List.getD x1 (Int.toNat (isub .i64 (ofN (List.length x4)) (1))) 0)) fun y10 =>
            bif (inb (isub .i64 (ofN (List.length x4)) (1)) (List.length x4)) then
            (bif (nlt (Int.toNat (isub .i64 (ofN (List.length x4)) (1))) (List.length x4)) then
             (Option.bind (F24 FUEL x2 (List.getD x4 (Int.toNat (isub .i64 (ofN (List.length x4)) (1))) 0)) fun y11 =>
              bif (igt y10 y11) then
              (some false)
              else (Option.bind (F18 FUEL x0 x4) fun y12 =>
               bif (inb (isub .i64 (ofN (List.length x4)) (1)) (List.length x4)) then
               (bif (nlt (Int.toNat (isub .i64 (ofN (List.length x4)) (1))) (List.length x4)) then
                (bif (ieq y12 (List.getD x4 (Int.toNat (isub .i64 (ofN (List.length x4)) (1))) 0)) then
                 (Option.bind (F8 FUEL) fun y13 =>
                  some y13)
                 else (some false))
                else (none))
               else (none)))
             else (none))
            else (none))
           else (none))
          else (Option.bind (F18 FUEL x0 x4) fun y14 =>
           bif (inb (isub .i64 (ofN (List.length x4)) (1)) (List.length x4)) then
           (bif (nlt (Int.toNat (isub .i64 (ofN (List.length x4)) (1))) (List.length x4)) then
            (bif (ieq y14 (List.getD x4 (Int.toNat (isub .i64 (ofN (List.length x4)) (1))) 0)) then
             (Option.bind (F8 FUEL) fun y15 =>
              some y15)
             else (some false))
            else (none))
           else (none)))
         else (none))
        else (Option.bind (F18 FUEL x0 x4) fun y16 =>
         bif (inb (isub .i64 (ofN (List.length x4)) (1)) (List.length x4)) then
         (bif (nlt (Int.toNat (isub .i64 (ofN (List.length x4)) (1))) (List.length x4)) then
          (bif (ieq y16 (List.getD x4 (Int.toNat (isub .i64 (ofN (List.length x4)) (1))) 0)) then
           (Option.bind (F8 FUEL) fun y17 =>
            some y17)
           else (some false))
          else (none))
         else (none)))
       else (none))
      else (Option.bind (F18 FUEL x0 x4) fun y18 =>
       bif (inb (isub .i64 (ofN (List.length x4)) (1)) (List.length x4)) then
       (bif (nlt (Int.toNat (isub .i64 (ofN (List.length x4)) (1))) (List.length x4)) then
        (bif (ieq y18 (List.getD x4 (Int.toNat (isub .i64 (ofN (List.length x4)) (1))) 0)) then
         (Option.bind (F8 FUEL) fun y19 =>
          some y19)
         else (some false))
        else (none))
       else (none)))
     else (Option.bind (F18 FUEL x0 x4) fun y20 =>
      bif (inb (isub .i64 (ofN (List.length x4)) (1)) (List.length x4)) then
      (bif (nlt (Int.toNat (isub .i64 (ofN (List.length x4)) (1))) (List.length x4)) then
       (bif (ieq y20 (List.getD x4 (Int.toNat (isub .i64 (ofN (List.length x4)) (1))) 0)) then
        (Option.bind (F8 FUEL) fun y21 =>
         some y21)
        else (some false))
       else (none))
      else (none)))
def F5 (n : Nat) (a0 : Int) (a1 : Int) (a2 : List (Int)) : Option (Bool) :=
  bif (igt (ofN (List.length a2)) (20)) then
  (Option.bind (F8 FUEL) fun y1 =>
   some y1)
  else (Option.bind (F12 FUEL a0 a1 a2) fun y2 =>
   Option.bind (F22 FUEL a0) fun y3 =>
   bif (ilt a1 (0)) then
   (bif (ieq (ofN (List.length y2)) (0)) then
    (Option.bind (F8 FUEL) fun y4 =>
     some y4)
    else (some false))
   else (bif (igt a1 (65535)) then
    (bif (ieq (ofN (List.length y2)) (0)) then
     (Option.bind (F8 FUEL) fun y5 =>
      some y5)
     else (some false))
    else (bif (ieq a1 y3) then
     (bif (ieq (ofN (List.length y2)) (0)) then
      (Option.bind (F8 FUEL) fun y6 =>
       some y6)
      else (some false))
     else (bif (ilt (ofN (List.length y2)) (1)) then
      (some false)
      else (bif (igt (ofN (List.length y2)) (3)) then
       (some false)
       else (bif (igt (ofN (List.length y2)) (iadd .i64 (ofN (List.length a2)) (1))) then
        (some false)
        else (bif (inb (0) (List.length y2)) then
         (bif (nlt (Int.toNat (0)) (List.length y2)) then
          (bif (ine (List.getD y2 (Int.toNat (0)) 0) a1) then
           (some false)
           else (Option.bind (F14 FUEL a0 y2) fun y7 =>
            bif (!y7) then
            (some false)
            else (F5_c0 n a0 a2 y3 (1) y2)))
          else (none))
         else (none))))))))
def pa5 : List VP := [.i .i64, .i .i64, .sl false [.int .i64]]
def sr5 : RShape := ⟨.b, []⟩
def toB5 : List Leaf → Option (Bool) := gB (fun b0 => gE (some b0))
def ofB5 (y : Bool) : List Leaf := [.b y]
theorem toB5_ok : ∀ ls b, toB5 ls = some b → ls = ofB5 b := by
  intro ls b h
  unfold toB5 at h
  obtain ⟨b0, ls1, rfl, h1⟩ := gB_ok h; obtain ⟨rfl, h2⟩ := gE_ok h1
  cases h2; rfl
def run5 {R : Type} : SF R := ⟨pa5, sr5, fun ls K => (gI (fun a0 => gI (fun a1 => gL [.int .i64] (fun a2 => gE (Option.bind (F5 FUEL a0 a1 a2) fun y => K (ofB5 y)))))) ls⟩
def sh5_0 : Shape := ⟨[(163, [(0, .i .i64), (2, .sl false [.int .i64]), (7, .row 0), (8, .i .i64), (9, .i .i64)])], [.row true [.int .i64]]⟩
def g5_0 (n : Nat) : List Leaf → Option (Bool) := gI (fun x0 => gL [.int .i64] (fun x1 => gI (fun x2 => gI (fun x3 => gL [.int .i64] (fun x4 => gE (F5_c0 n x0 x1 x2 x3 x4))))))
def cuts5 : List (List Nat × Cut (Bool)) := [([1, 1, 1, 1, 1, 1, 0, 1, 0], ⟨sh5_0, g5_0⟩)]
noncomputable def X5 : Px (Bool) := ⟨T, Try.prog, lkF [(8, run8), (12, run12), (22, run22), (14, run14), (24, run24), (18, run18)], mkCuts 5 cuts5⟩
theorem e5_0 (n : Nat) (x0 : Int) (x1 : List (Int)) (x2 : Int) (x3 : Int) (x4 : List (Int)) : stepF X5 8 5 (endK sr5 toB5) [1, 1, 1, 1, 1, 1, 0, 1, 0] sh5_0 n [.i x0, .l [.int .i64] x1, .i x2, .i x3, .l [.int .i64] x4] = F5_c0 (n + 1) x0 x1 x2 x3 x4 := by kernel_rfl
theorem e5 (n : Nat) (a0 : Int) (a1 : Int) (a2 : List (Int)) : entF X5 8 5 pa5 (endK sr5 toB5) n [.i a0, .i a1, .l [.int .i64] a2] = F5 n a0 a1 a2 := by kernel_rfl
theorem c5_0 : CutOK X5 8 5 (endK sr5 toB5) [1, 1, 1, 1, 1, 1, 0, 1, 0] ⟨sh5_0, g5_0⟩ := by
  refine ⟨fun ls => ?_, fun n ls r h => ?_⟩
  · cases h : g5_0 0 ls with
    | none => exact h
    | some r =>
      unfold g5_0 at h; obtain ⟨x0, ls1, rfl, h1⟩ := gI_ok h; obtain ⟨x1, ls2, rfl, h2⟩ := gL_ok h1; obtain ⟨x2, ls3, rfl, h3⟩ := gI_ok h2; obtain ⟨x3, ls4, rfl, h4⟩ := gI_ok h3; obtain ⟨x4, ls5, rfl, h5⟩ := gL_ok h4; obtain ⟨rfl, h6⟩ := gE_ok h5; simp only [F5_c0] at h6; cases h6
  · replace h : g5_0 (n + 1) ls = some r := h
    unfold g5_0 at h
    obtain ⟨x0, ls1, rfl, h1⟩ := gI_ok h; obtain ⟨x1, ls2, rfl, h2⟩ := gL_ok h1; obtain ⟨x2, ls3, rfl, h3⟩ := gI_ok h2; obtain ⟨x3, ls4, rfl, h4⟩ := gI_ok h3; obtain ⟨x4, ls5, rfl, h5⟩ := gL_ok h4; obtain ⟨rfl, h6⟩ := gE_ok h5
    exact (e5_0 n x0 x1 x2 x3 x4).trans h6
theorem sp5 {n : Nat} (a0 : Int) (a1 : Int) (a2 : List (Int)) {y : Bool} (h : F5 n a0 a1 a2 = some y) : SpecF T Try.prog 5 pa5 [.i a0, .i a1, .l [.int .i64] a2] sr5 (ofB5 y) :=
  fun_ok (X := X5) tok (sfok_of ⟨ok8, ok12, ok22, ok14, ok24, ok18, trivial⟩) mixed 5 8 cuts5 rfl toB5_ok ⟨c5_0, trivial⟩ ((e5 n a0 a1 a2).trans h)
theorem ok5 {R : Type} : SFone T Try.prog 5 (run5 : SF R) := by
  intro ls K r h
  simp only [run5] at h
  obtain ⟨a0, ls1, rfl, h1⟩ := gI_ok h; obtain ⟨a1, ls2, rfl, h2⟩ := gI_ok h1; obtain ⟨a2, ls3, rfl, h3⟩ := gL_ok h2; obtain ⟨rfl, h4⟩ := gE_ok h3
  obtain ⟨y, k1, k2⟩ := Option.bind_eq_some_iff.1 h4
  exact ⟨_, k2, sp5 a0 a1 a2 k1⟩

/-! ### garland/garlandlaw12.ListDrop -/
def F6_c0 : Nat → Int → List (Int) → Int → Int → Int → List (Int) → Option (Bool)
  | 0, _, _, _, _, _, _ => none
  | n + 1, x0, x1, x2, x3, x4, x5 => bif (ilt x4 (ofN (List.length x1))) then
    (bif (inb x4 (List.length x1)) then
     (bif (ieq (List.getD x1 (Int.toNat x4) 0) x2) then
      (F6_c0 n x0 x1 x2 x3 (iadd .i64 x4 (1)) x5)
      else (bif (ige x3 (ofN (List.length x5))) then
       (some false)
       else (bif (inb x3 (List.length x5)) then
        (bif (nlt (Int.toNat x3) (List.length x5)) then
         (bif (inb x4 (List.length x1)) then
          (bif (ine (List.getD x5 (Int.toNat x3) 0) (List.getD x1 (Int.toNat x4) 0)) then
           (some false)
           else (F6_c0 n x0 x1 x2 (iadd .i64 x3 (1)) (iadd .i64 x4 (1)) x5))
          else (none))
         else (none))
        else (none))))
     else (none))
    else (Option.bind (F9 FUEL x5) fun y3 =>
     bif (ieq x3 (ofN (List.length x5))) then
     (Option.bind (F14 FUEL x0 x1) fun y4 =>
      bif (!y4) then
      (bif (beqb y3.2 (igt x3 (0))) then
       (bif (!y3.2) then
        (bif (ieq y3.1 (0)) then
         (Option.bind (F16 FUEL x5 x2) fun y5 =>
          Option.bind (F11 FUEL y5 x5) fun y6 =>
          bif y6 then
          (Option.bind (F8 FUEL) fun y7 =>
           some y7)
          else (some false))
         else (bif y3.2 then
          (bif (inb (0) (List.length x5)) then
           (bif (nlt (Int.toNat (0)) (List.length x5)) then
            (bif (ieq y3.1 (List.getD x5 (Int.toNat (0)) 0)) then
             (Option.bind (F16 FUEL x5 x2) fun y8 =>
              Option.bind (F11 FUEL y8 x5) fun y9 =>
              bif y9 then
              (Option.bind (F8 FUEL) fun y10 =>
               some y10)
              else (some false))
             else (some false))
            else (none))
           else (none))
          else (some false)))
        else (bif y3.2 then
         (bif (inb (0) (List.length x5)) then
          (bif (nlt (Int.toNat (0)) (List.length x5)) then
           (bif (ieq y3.1 (List.getD x5 (Int.toNat (0)) 0)) then
            (Option.bind (F16 FUEL x5 x2) fun y11 =>
             Option.bind (F11 FUEL y11 x5) fun y12 =>
             bif y12 then
             (Option.bind (F8 FUEL) fun y13 =>
              some y13)
             else (some false))
            else (some false))
           else (none))
          else (none))
         else (some false)))
       else (some false))
      else (Option.bind (F14 FUEL x0 x5) fun y14 =>
       bif y14 then
       (bif (beqb y3.2 (igt x3 (0))) then
        (bif (!y3.2) then
         (bif (ieq y3.1 (0)) then
          (Option.bind (F16 FUEL x5 x2) fun y15 =>
           Option.bind (F11 FUEL y15 x5) fun y16 =>
           bif y16 then
           (Option.bind (F8 FUEL) fun y17 =>
            some y17)
           else (some false))
          else (bif y3.2 then
           (bif (inb (0) (List.length x5)) then
            (bif (nlt (Int.toNat (0)) (List.length x5)) then
             (bif (ieq y3.1 (List.getD x5 (Int.toNat (0)) 0)) then
              (Option.bind (F16 FUEL x5 x2) fun y18 =>
               Option.bind (F11 FUEL y18 x5) fun y19 =>
               bif y19 then
               (Option.bind (F8 FUEL) fun y20 =>
                some y20)
               else (some false))
              else (some false))
             else (none))
            else (none))
           else (some false)))
         else (bif y3.2 then
          (bif (inb (0) (List.length x5)) then
           (bif (nlt (Int.toNat (0)) (List.length x5)) then
            (bif (ieq y3.1 (List.getD x5 (Int.toNat (0)) 0)) then
             (Option.bind (F16 FUEL x5 x2) fun y21 =>
              Option.bind (F11 FUEL y21 x5) fun y22 =>
              bif y22 then
              (Option.bind (F8 FUEL) fun y23 =>
               some y23)
              else (some false))
             else (some false))
            else (none))
           else (none))
          else (some false)))
        else (some false))
       else (some false)))
     else (some false))
def F6 (n : Nat) (a0 : Int) (a1 : List (Int)) (a2 : Int) : Option (Bool) :=
  bif (igt (ofN (List.length a1)) (20)) then
  (Option.bind (F8 FUEL) fun y1 =>
   some y1)
  else (Option.bind (F16 FUEL a1 a2) fun y2 =>
   F6_c0 n a0 a1 a2 (0) (0) y2)
def pa6 : List VP := [.i .i64, .sl false [.int .i64], .i .i64]
def sr6 : RShape := ⟨.b, []⟩
def toB6 : List Leaf → Option (Bool) := gB (fun b0 => gE (some b0))
def ofB6 (y : Bool) : List Leaf := [.b y]
theorem toB6_ok : ∀ ls b, toB6 ls = some b → ls = ofB6 b := by
  intro ls b h
  unfold toB6 at h
  obtain ⟨b0, ls1, rfl, h1⟩ := gB_ok h; obtain ⟨rfl, h2⟩ := gE_ok h1
  cases h2; rfl
def run6 {R : Type} : SF R := ⟨pa6, sr6, fun ls K => (gI (fun a0 => gL [.int .i64] (fun a1 => gI (fun a2 => gE (Option.bind (F6 FUEL a0 a1 a2) fun y => K (ofB6 y)))))) ls⟩
def sh6_0 : Shape := ⟨[(102, [(0, .i .i64), (1, .sl false [.int .i64]), (2, .i .i64), (7, .row 0), (8, .i .i64), (9, .i .i64)])], [.row true [.int .i64]]⟩
def g6_0 (n : Nat) : List Leaf → Option (Bool) := gI (fun x0 => gL [.int .i64] (fun x1 => gI (fun x2 => gI (fun x3 => gI (fun x4 => gL [.int .i64] (fun x5 => gE (F6_c0 n x0 x1 x2 x3 x4 x5)))))))
def cuts6 : List (List Nat × Cut (Bool)) := [([1, 1, 1, 1, 0, 1, 0], ⟨sh6_0, g6_0⟩)]
noncomputable def X6 : Px (Bool) := ⟨T, Try.prog, lkF [(8, run8), (16, run16), (9, run9), (14, run14), (11, run11)], mkCuts 6 cuts6⟩
theorem e6_0 (n : Nat) (x0 : Int) (x1 : List (Int)) (x2 : Int) (x3 : Int) (x4 : Int) (x5 : List (Int)) : stepF X6 8 6 (endK sr6 toB6) [1, 1, 1, 1, 0, 1, 0] sh6_0 n [.i x0, .l [.int .i64] x1, .i x2, .i x3, .i x4, .l [.int .i64] x5] = F6_c0 (n + 1) x0 x1 x2 x3 x4 x5 := by kernel_rfl
theorem e6 (n : Nat) (a0 : Int) (a1 : List (Int)) (a2 : Int) : entF X6 8 6 pa6 (endK sr6 toB6) n [.i a0, .l [.int .i64] a1, .i a2] = F6 n a0 a1 a2 := by kernel_rfl
theorem c6_0 : CutOK X6 8 6 (endK sr6 toB6) [1, 1, 1, 1, 0, 1, 0] ⟨sh6_0, g6_0⟩ := by
  refine ⟨fun ls => ?_, fun n ls r h => ?_⟩
  · cases h : g6_0 0 ls with
    | none => exact h
    | some r =>
      unfold g6_0 at h; obtain ⟨x0, ls1, rfl, h1⟩ := gI_ok h; obtain ⟨x1, ls2, rfl, h2⟩ := gL_ok h1; obtain ⟨x2, ls3, rfl, h3⟩ := gI_ok h2; obtain ⟨x3, ls4, rfl, h4⟩ := gI_ok h3; obtain ⟨x4, ls5, rfl, h5⟩ := gI_ok h4; obtain ⟨x5, ls6, rfl, h6⟩ := gL_ok h5; obtain ⟨rfl, h7⟩ := gE_ok h6; simp only [F6_c0] at h7; cases h7
  · replace h : g6_0 (n + 1) ls = some r := h
    unfold g6_0 at h
    obtain ⟨x0, ls1, rfl, h1⟩ := gI_ok h; obtain ⟨x1, ls2, rfl, h2⟩ := gL_ok h1; obtain ⟨x2, ls3, rfl, h3⟩ := gI_ok h2; obtain ⟨x3, ls4, rfl, h4⟩ := gI_ok h3; obtain ⟨x4, ls5, rfl, h5⟩ := gI_ok h4; obtain ⟨x5, ls6, rfl, h6⟩ := gL_ok h5; obtain ⟨rfl, h7⟩ := gE_ok h6
    exact (e6_0 n x0 x1 x2 x3 x4 x5).trans h7
theorem sp6 {n : Nat} (a0 : Int) (a1 : List (Int)) (a2 : Int) {y : Bool} (h : F6 n a0 a1 a2 = some y) : SpecF T Try.prog 6 pa6 [.i a0, .l [.int .i64] a1, .i a2] sr6 (ofB6 y) :=
  fun_ok (X := X6) tok (sfok_of ⟨ok8, ok16, ok9, ok14, ok11, trivial⟩) mixed 6 8 cuts6 rfl toB6_ok ⟨c6_0, trivial⟩ ((e6 n a0 a1 a2).trans h)
theorem ok6 {R : Type} : SFone T Try.prog 6 (run6 : SF R) := by
  intro ls K r h
  simp only [run6] at h
  obtain ⟨a0, ls1, rfl, h1⟩ := gI_ok h; obtain ⟨a1, ls2, rfl, h2⟩ := gL_ok h1; obtain ⟨a2, ls3, rfl, h3⟩ := gI_ok h2; obtain ⟨rfl, h4⟩ := gE_ok h3
  obtain ⟨y, k1, k2⟩ := Option.bind_eq_some_iff.1 h4
  exact ⟨_, k2, sp6 a0 a1 a2 k1⟩

/-! ### garland/garlandlaw12.ListIn -/
def F7_c0 : Nat → Int → List (Int) → Int → Int → Int → Bool → Int → Option (Bool)
  | 0, _, _, _, _, _, _, _ => none
  | n + 1, x0, x1, x2, x3, x4, x5, x6 => bif (ilt x6 (ofN (List.length x1))) then
    (bif x5 then
     (F7_c0 n x0 x1 x2 x3 x4 true (iadd .i64 x6 (1)))
     else (bif (inb x6 (List.length x1)) then
      (F7_c0 n x0 x1 x2 x3 x4 (ieq (List.getD x1 (Int.toNat x6) 0) x4) (iadd .i64 x6 (1)))
      else (none)))
    else (bif (ieq (ofN (List.length x1)) (0)) then
     (Option.bind (F20 FUEL x0 x1 [x2]) fun y6 =>
      bif (!x5) then
      (bif (beqb y6 false) then
       (Option.bind (F20 FUEL x0 x1 []) fun y7 =>
        bif (beqb y7 false) then
        (Option.bind (F8 FUEL) fun y8 =>
         some y8)
        else (some false))
       else (some false))
      else (bif (beqb y6 false) then
       (Option.bind (F20 FUEL x0 x1 []) fun y9 =>
        bif (beqb y9 false) then
        (Option.bind (F8 FUEL) fun y10 =>
         some y10)
        else (some false))
       else (some false)))
     else (Option.bind (F24 FUEL x3 x4) fun y11 =>
      bif (inb (isub .i64 (ofN (List.length x1)) (1)) (List.length x1)) then
      (Option.bind (F24 FUEL x3 (List.getD x1 (Int.toNat (isub .i64 (ofN (List.length x1)) (1))) 0)) fun y12 =>
       Option.bind (F20 FUEL x0 x1 [x2]) fun y13 =>
       bif (!x5) then
       (bif (beqb y13 (!(igt y11 y12))) then
        (Option.bind (F20 FUEL x0 x1 []) fun y14 =>
         bif (beqb y14 false) then
         (Option.bind (F8 FUEL) fun y15 =>
          some y15)
         else (some false))
        else (some false))
       else (bif (beqb y13 false) then
        (Option.bind (F20 FUEL x0 x1 []) fun y16 =>
         bif (beqb y16 false) then
         (Option.bind (F8 FUEL) fun y17 =>
          some y17)
         else (some false))
        else (some false)))
      else (none)))
def F7 (n : Nat) (a0 : Int) (a1 : List (Int)) (a2 : Int) : Option (Bool) :=
  bif (igt (ofN (List.length a1)) (10)) then
  (Option.bind (F8 FUEL) fun y1 =>
   some y1)
  else (Option.bind (F15 FUEL a0 a1) fun y2 =>
   bif (!y2) then
   (Option.bind (F8 FUEL) fun y3 =>
    some y3)
   else (Option.bind (F22 FUEL a0) fun y4 =>
    Option.bind (F22 FUEL a2) fun y5 =>
    F7_c0 n a0 a1 a2 y4 y5 (ieq y5 y4) (0)))
def pa7 : List VP := [.i .i64, .sl false [.int .i64], .i .i64]
def sr7 : RShape := ⟨.b, []⟩
def toB7 : List Leaf → Option (Bool) := gB (fun b0 => gE (some b0))
def ofB7 (y : Bool) : List Leaf := [.b y]
theorem toB7_ok : ∀ ls b, toB7 ls = some b → ls = ofB7 b := by
  intro ls b h
  unfold toB7 at h
  obtain ⟨b0, ls1, rfl, h1⟩ := gB_ok h; obtain ⟨rfl, h2⟩ := gE_ok h1
  cases h2; rfl
def run7 {R : Type} : SF R := ⟨pa7, sr7, fun ls K => (gI (fun a0 => gL [.int .i64] (fun a1 => gI (fun a2 => gE (Option.bind (F7 FUEL a0 a1 a2) fun y => K (ofB7 y)))))) ls⟩
def sh7_0 : Shape := ⟨[(82, [(0, .i .i64), (1, .sl false [.int .i64]), (2, .i .i64), (7, .i .i64), (8, .i .i64), (9, .b), (10, .i .i64)])], []⟩
def g7_0 (n : Nat) : List Leaf → Option (Bool) := gI (fun x0 => gL [.int .i64] (fun x1 => gI (fun x2 => gI (fun x3 => gI (fun x4 => gB (fun x5 => gI (fun x6 => gE (F7_c0 n x0 x1 x2 x3 x4 x5 x6))))))))
def cuts7 : List (List Nat × Cut (Bool)) := [([1, 1, 1, 1, 0, 1, 0], ⟨sh7_0, g7_0⟩)]
noncomputable def X7 : Px (Bool) := ⟨T, Try.prog, lkF [(8, run8), (15, run15), (22, run22), (20, run20), (24, run24)], mkCuts 7 cuts7⟩
theorem e7_0 (n : Nat) (x0 : Int) (x1 : List (Int)) (x2 : Int) (x3 : Int) (x4 : Int) (x5 : Bool) (x6 : Int) : stepF X7 8 7 (endK sr7 toB7) [1, 1, 1, 1, 0, 1, 0] sh7_0 n [.i x0, .l [.int .i64] x1, .i x2, .i x3, .i x4, .b x5, .i x6] = F7_c0 (n + 1) x0 x1 x2 x3 x4 x5 x6 := by kernel_rfl
theorem e7 (n : Nat) (a0 : Int) (a1 : List (Int)) (a2 : Int) : entF X7 8 7 pa7 (endK sr7 toB7) n [.i a0, .l [.int .i64] a1, .i a2] = F7 n a0 a1 a2 := by kernel_rfl
theorem c7_0 : CutOK X7 8 7 (endK sr7 toB7) [1, 1, 1, 1, 0, 1, 0] ⟨sh7_0, g7_0⟩ := by
  refine ⟨fun ls => ?_, fun n ls r h => ?_⟩
  · cases h : g7_0 0 ls with
    | none => exact h
    | some r =>
      unfold g7_0 at h; obtain ⟨x0, ls1, rfl, h1⟩ := gI_ok h; obtain ⟨x1, ls2, rfl, h2⟩ := gL_ok h1; obtain ⟨x2, ls3, rfl, h3⟩ := gI_ok h2; obtain ⟨x3, ls4, rfl, h4⟩ := gI_ok h3; obtain ⟨x4, ls5, rfl, h5⟩ := gI_ok h4; obtain ⟨x5, ls6, rfl, h6⟩ := gB_ok h5; obtain ⟨x6, ls7, rfl, h7⟩ := gI_ok h6; obtain ⟨rfl, h8⟩ := gE_ok h7; simp only [F7_c0] at h8; cases h8
  · replace h : g7_0 (n + 1) ls = some r := h
    unfold g7_0 at h
    obtain ⟨x0, ls1, rfl, h1⟩ := gI_ok h; obtain ⟨x1, ls2, rfl, h2⟩ := gL_ok h1; obtain ⟨x2, ls3, rfl, h3⟩ := gI_ok h2; obtain ⟨x3, ls4, rfl, h4⟩ := gI_ok h3; obtain ⟨x4, ls5, rfl, h5⟩ := gI_ok h4; obtain ⟨x5, ls6, rfl, h6⟩ := gB_ok h5; obtain ⟨x6, ls7, rfl, h7⟩ := gI_ok h6; obtain ⟨rfl, h8⟩ := gE_ok h7
    exact (e7_0 n x0 x1 x2 x3 x4 x5 x6).trans h8
theorem sp7 {n : Nat} (a0 : Int) (a1 : List (Int)) (a2 : Int) {y : Bool} (h : F7 n a0 a1 a2 = some y) : SpecF T Try.prog 7 pa7 [.i a0, .l [.int .i64] a1, .i a2] sr7 (ofB7 y) :=
  fun_ok (X := X7) tok (sfok_of ⟨ok8, ok15, ok22, ok20, ok24, trivial⟩) mixed 7 8 cuts7 rfl toB7_ok ⟨c7_0, trivial⟩ ((e7 n a0 a1 a2).trans h)
theorem ok7 {R : Type} : SFone T Try.prog 7 (run7 : SF R) := by
  intro ls K r h
  simp only [run7] at h
  obtain ⟨a0, ls1, rfl, h1⟩ := gI_ok h; obtain ⟨a1, ls2, rfl, h2⟩ := gL_ok h1; obtain ⟨a2, ls3, rfl, h3⟩ := gI_ok h2; obtain ⟨rfl, h4⟩ := gE_ok h3
  obtain ⟨y, k1, k2⟩ := Option.bind_eq_some_iff.1 h4
  exact ⟨_, k2, sp7 a0 a1 a2 k1⟩

end Go.Proofs.Ytglcodeinalnjaa
