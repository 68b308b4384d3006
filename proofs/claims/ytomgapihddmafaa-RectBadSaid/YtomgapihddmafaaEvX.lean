/-
  The functions of this program, evaluated; each is as it is evaluated.
-/
import Derived.Test.YtomgapihddmafaaEvR
import Derived.Test.YtomgapihddmafaaEvY
import Derived.Test.YtomgapihddmafaaVsT
import Derived.KernelRfl
namespace Go.Proofs.Ytomgapihddmafaa
open Go Go.RowKit
set_option maxRecDepth 100000

theorem mixed : Try.prog.follows .mixedOrders = true := by kernel_rfl


/-! ### garland/garlandref15.Great -/
def pa8 : List VP := [.agg [.i .i64, .sl false [.int .i64], .sl false [.int .i64], .i .i64, .i .i64, .i .i64, .i .i64, .i .i64, .i .i64, .i .i64, .i .i64, .i .i64, .i .i64, .i .i64, .i .i64, .i .i64, .i .i64, .i .i64, .i .i64, .i .i64]]
def sr8 : RShape := ⟨.b, [], none⟩
def toB8 : List Leaf → Option (Bool) := gB (fun b0 => gE (some b0))
def ofB8 (y : Bool) : List Leaf := [.b y]
theorem toB8_ok : ∀ ls b, toB8 ls = some b → ls = ofB8 b := by
  intro ls b h
  unfold toB8 at h
  obtain ⟨b0, ls1, rfl, h1⟩ := gB_ok h; obtain ⟨rfl, h2⟩ := gE_ok h1
  cases h2; rfl
def run8 {R : Type} : SF R := ⟨pa8, sr8, fun ls K => (gI (fun a0 => gL [.int .i64] (fun a1 => gL [.int .i64] (fun a2 => gI (fun a3 => gI (fun a4 => gI (fun a5 => gI (fun a6 => gI (fun a7 => gI (fun a8 => gI (fun a9 => gI (fun a10 => gI (fun a11 => gI (fun a12 => gI (fun a13 => gI (fun a14 => gI (fun a15 => gI (fun a16 => gI (fun a17 => gI (fun a18 => gI (fun a19 => gE (Option.bind (F8 FUEL a0 a1 a2 a3 a4 a5 a6 a7 a8 a9 a10 a11 a12 a13 a14 a15 a16 a17 a18 a19) fun y => K (ofB8 y))))))))))))))))))))))) ls⟩
def cuts8 : List (List Nat × Cut (Bool)) := []
noncomputable def X8 : Px (Bool) := ⟨T, Try.prog, lkF [], mkCuts 8 cuts8, altN, altN_ok⟩
theorem e8 (n : Nat) (a0 : Int) (a1 : List (Int)) (a2 : List (Int)) (a3 : Int) (a4 : Int) (a5 : Int) (a6 : Int) (a7 : Int) (a8 : Int) (a9 : Int) (a10 : Int) (a11 : Int) (a12 : Int) (a13 : Int) (a14 : Int) (a15 : Int) (a16 : Int) (a17 : Int) (a18 : Int) (a19 : Int) : entF X8 8 8 pa8 (endK sr8 toB8) n [.i a0, .l [.int .i64] a1, .l [.int .i64] a2, .i a3, .i a4, .i a5, .i a6, .i a7, .i a8, .i a9, .i a10, .i a11, .i a12, .i a13, .i a14, .i a15, .i a16, .i a17, .i a18, .i a19] = F8 n a0 a1 a2 a3 a4 a5 a6 a7 a8 a9 a10 a11 a12 a13 a14 a15 a16 a17 a18 a19 := by kernel_rfl
theorem sp8 {n : Nat} (a0 : Int) (a1 : List (Int)) (a2 : List (Int)) (a3 : Int) (a4 : Int) (a5 : Int) (a6 : Int) (a7 : Int) (a8 : Int) (a9 : Int) (a10 : Int) (a11 : Int) (a12 : Int) (a13 : Int) (a14 : Int) (a15 : Int) (a16 : Int) (a17 : Int) (a18 : Int) (a19 : Int) {y : Bool} (h : F8 n a0 a1 a2 a3 a4 a5 a6 a7 a8 a9 a10 a11 a12 a13 a14 a15 a16 a17 a18 a19 = some y) : SpecF T Try.prog 8 pa8 [.i a0, .l [.int .i64] a1, .l [.int .i64] a2, .i a3, .i a4, .i a5, .i a6, .i a7, .i a8, .i a9, .i a10, .i a11, .i a12, .i a13, .i a14, .i a15, .i a16, .i a17, .i a18, .i a19] sr8 (ofB8 y) :=
  fun_ok (X := X8) tok (sfok_of trivial) mixed 8 8 cuts8 rfl toB8_ok trivial ((e8 n a0 a1 a2 a3 a4 a5 a6 a7 a8 a9 a10 a11 a12 a13 a14 a15 a16 a17 a18 a19).trans h)
theorem ok8 {R : Type} : SFone T Try.prog 8 (run8 : SF R) := by
  intro ls K r h
  simp only [run8] at h
  obtain ⟨a0, ls1, rfl, h1⟩ := gI_ok h; obtain ⟨a1, ls2, rfl, h2⟩ := gL_ok h1; obtain ⟨a2, ls3, rfl, h3⟩ := gL_ok h2; obtain ⟨a3, ls4, rfl, h4⟩ := gI_ok h3; obtain ⟨a4, ls5, rfl, h5⟩ := gI_ok h4; obtain ⟨a5, ls6, rfl, h6⟩ := gI_ok h5; obtain ⟨a6, ls7, rfl, h7⟩ := gI_ok h6; obtain ⟨a7, ls8, rfl, h8⟩ := gI_ok h7; obtain ⟨a8, ls9, rfl, h9⟩ := gI_ok h8; obtain ⟨a9, ls10, rfl, h10⟩ := gI_ok h9; obtain ⟨a10, ls11, rfl, h11⟩ := gI_ok h10; obtain ⟨a11, ls12, rfl, h12⟩ := gI_ok h11; obtain ⟨a12, ls13, rfl, h13⟩ := gI_ok h12; obtain ⟨a13, ls14, rfl, h14⟩ := gI_ok h13; obtain ⟨a14, ls15, rfl, h15⟩ := gI_ok h14; obtain ⟨a15, ls16, rfl, h16⟩ := gI_ok h15; obtain ⟨a16, ls17, rfl, h17⟩ := gI_ok h16; obtain ⟨a17, ls18, rfl, h18⟩ := gI_ok h17; obtain ⟨a18, ls19, rfl, h19⟩ := gI_ok h18; obtain ⟨a19, ls20, rfl, h20⟩ := gI_ok h19; obtain ⟨rfl, h21⟩ := gE_ok h20
  obtain ⟨y, k1, k2⟩ := Option.bind_eq_some_iff.1 h21
  exact ⟨_, k2, sp8 a0 a1 a2 a3 a4 a5 a6 a7 a8 a9 a10 a11 a12 a13 a14 a15 a16 a17 a18 a19 k1⟩

/-! ### garland/garlandref13.place -/
def pa34 : List VP := [.i .i64]
def sr34 : RShape := ⟨.b, [], none⟩
def toB34 : List Leaf → Option (Bool) := gB (fun b0 => gE (some b0))
def ofB34 (y : Bool) : List Leaf := [.b y]
theorem toB34_ok : ∀ ls b, toB34 ls = some b → ls = ofB34 b := by
  intro ls b h
  unfold toB34 at h
  obtain ⟨b0, ls1, rfl, h1⟩ := gB_ok h; obtain ⟨rfl, h2⟩ := gE_ok h1
  cases h2; rfl
def run34 {R : Type} : SF R := ⟨pa34, sr34, fun ls K => (gI (fun a0 => gE (Option.bind (F34 FUEL a0) fun y => K (ofB34 y)))) ls⟩
def cuts34 : List (List Nat × Cut (Bool)) := []
noncomputable def X34 : Px (Bool) := ⟨T, Try.prog, lkF [], mkCuts 34 cuts34, altN, altN_ok⟩
theorem e34 (n : Nat) (a0 : Int) : entF X34 8 34 pa34 (endK sr34 toB34) n [.i a0] = F34 n a0 := by kernel_rfl
theorem sp34 {n : Nat} (a0 : Int) {y : Bool} (h : F34 n a0 = some y) : SpecF T Try.prog 34 pa34 [.i a0] sr34 (ofB34 y) :=
  fun_ok (X := X34) tok (sfok_of trivial) mixed 34 8 cuts34 rfl toB34_ok trivial ((e34 n a0).trans h)
theorem ok34 {R : Type} : SFone T Try.prog 34 (run34 : SF R) := by
  intro ls K r h
  simp only [run34] at h
  obtain ⟨a0, ls1, rfl, h1⟩ := gI_ok h; obtain ⟨rfl, h2⟩ := gE_ok h1
  obtain ⟨y, k1, k2⟩ := Option.bind_eq_some_iff.1 h2
  exact ⟨_, k2, sp34 a0 k1⟩

/-! ### garland/garlandref12.place -/
def pa50 : List VP := [.i .i64]
def sr50 : RShape := ⟨.b, [], none⟩
def toB50 : List Leaf → Option (Bool) := gB (fun b0 => gE (some b0))
def ofB50 (y : Bool) : List Leaf := [.b y]
theorem toB50_ok : ∀ ls b, toB50 ls = some b → ls = ofB50 b := by
  intro ls b h
  unfold toB50 at h
  obtain ⟨b0, ls1, rfl, h1⟩ := gB_ok h; obtain ⟨rfl, h2⟩ := gE_ok h1
  cases h2; rfl
def run50 {R : Type} : SF R := ⟨pa50, sr50, fun ls K => (gI (fun a0 => gE (Option.bind (F50 FUEL a0) fun y => K (ofB50 y)))) ls⟩
def cuts50 : List (List Nat × Cut (Bool)) := []
noncomputable def X50 : Px (Bool) := ⟨T, Try.prog, lkF [], mkCuts 50 cuts50, altN, altN_ok⟩
theorem e50 (n : Nat) (a0 : Int) : entF X50 8 50 pa50 (endK sr50 toB50) n [.i a0] = F50 n a0 := by kernel_rfl
theorem sp50 {n : Nat} (a0 : Int) {y : Bool} (h : F50 n a0 = some y) : SpecF T Try.prog 50 pa50 [.i a0] sr50 (ofB50 y) :=
  fun_ok (X := X50) tok (sfok_of trivial) mixed 50 8 cuts50 rfl toB50_ok trivial ((e50 n a0).trans h)
theorem ok50 {R : Type} : SFone T Try.prog 50 (run50 : SF R) := by
  intro ls K r h
  simp only [run50] at h
  obtain ⟨a0, ls1, rfl, h1⟩ := gI_ok h; obtain ⟨rfl, h2⟩ := gE_ok h1
  obtain ⟨y, k1, k2⟩ := Option.bind_eq_some_iff.1 h2
  exact ⟨_, k2, sp50 a0 k1⟩

/-! ### garland/garlandref03.Place -/
def pa37 : List VP := [.i .i64]
def sr37 : RShape := ⟨.i .i64, [], none⟩
def toB37 : List Leaf → Option (Int) := gI (fun b0 => gE (some b0))
def ofB37 (y : Int) : List Leaf := [.i y]
theorem toB37_ok : ∀ ls b, toB37 ls = some b → ls = ofB37 b := by
  intro ls b h
  unfold toB37 at h
  obtain ⟨b0, ls1, rfl, h1⟩ := gI_ok h; obtain ⟨rfl, h2⟩ := gE_ok h1
  cases h2; rfl
def run37 {R : Type} : SF R := ⟨pa37, sr37, fun ls K => (gI (fun a0 => gE (Option.bind (F37 FUEL a0) fun y => K (ofB37 y)))) ls⟩
def cuts37 : List (List Nat × Cut (Int)) := []
noncomputable def X37 : Px (Int) := ⟨T, Try.prog, lkF [], mkCuts 37 cuts37, altN, altN_ok⟩
theorem e37 (n : Nat) (a0 : Int) : entF X37 8 37 pa37 (endK sr37 toB37) n [.i a0] = F37 n a0 := by kernel_rfl
theorem sp37 {n : Nat} (a0 : Int) {y : Int} (h : F37 n a0 = some y) : SpecF T Try.prog 37 pa37 [.i a0] sr37 (ofB37 y) :=
  fun_ok (X := X37) tok (sfok_of trivial) mixed 37 8 cuts37 rfl toB37_ok trivial ((e37 n a0).trans h)
theorem ok37 {R : Type} : SFone T Try.prog 37 (run37 : SF R) := by
  intro ls K r h
  simp only [run37] at h
  obtain ⟨a0, ls1, rfl, h1⟩ := gI_ok h; obtain ⟨rfl, h2⟩ := gE_ok h1
  obtain ⟨y, k1, k2⟩ := Option.bind_eq_some_iff.1 h2
  exact ⟨_, k2, sp37 a0 k1⟩

/-! ### garland/garlandref03.Far -/
def pa22 : List VP := [.i .i64, .i .i64]
def sr22 : RShape := ⟨.i .i64, [], none⟩
def toB22 : List Leaf → Option (Int) := gI (fun b0 => gE (some b0))
def ofB22 (y : Int) : List Leaf := [.i y]
theorem toB22_ok : ∀ ls b, toB22 ls = some b → ls = ofB22 b := by
  intro ls b h
  unfold toB22 at h
  obtain ⟨b0, ls1, rfl, h1⟩ := gI_ok h; obtain ⟨rfl, h2⟩ := gE_ok h1
  cases h2; rfl
def run22 {R : Type} : SF R := ⟨pa22, sr22, fun ls K => (gI (fun a0 => gI (fun a1 => gE (Option.bind (F22 FUEL a0 a1) fun y => K (ofB22 y))))) ls⟩
def cuts22 : List (List Nat × Cut (Int)) := []
noncomputable def X22 : Px (Int) := ⟨T, Try.prog, lkF [(37, run37)], mkCuts 22 cuts22, altN, altN_ok⟩
theorem e22 (n : Nat) (a0 : Int) (a1 : Int) : entF X22 8 22 pa22 (endK sr22 toB22) n [.i a0, .i a1] = F22 n a0 a1 := by kernel_rfl
theorem sp22 {n : Nat} (a0 : Int) (a1 : Int) {y : Int} (h : F22 n a0 a1 = some y) : SpecF T Try.prog 22 pa22 [.i a0, .i a1] sr22 (ofB22 y) :=
  fun_ok (X := X22) tok (sfok_of ⟨ok37, trivial⟩) mixed 22 8 cuts22 rfl toB22_ok trivial ((e22 n a0 a1).trans h)
theorem ok22 {R : Type} : SFone T Try.prog 22 (run22 : SF R) := by
  intro ls K r h
  simp only [run22] at h
  obtain ⟨a0, ls1, rfl, h1⟩ := gI_ok h; obtain ⟨a1, ls2, rfl, h2⟩ := gI_ok h1; obtain ⟨rfl, h3⟩ := gE_ok h2
  obtain ⟨y, k1, k2⟩ := Option.bind_eq_some_iff.1 h3
  exact ⟨_, k2, sp22 a0 a1 k1⟩

/-! ### garland/garlandref12.farther -/
def pa51 : List VP := [.i .i64, .i .i64, .i .i64]
def sr51 : RShape := ⟨.b, [], none⟩
def toB51 : List Leaf → Option (Bool) := gB (fun b0 => gE (some b0))
def ofB51 (y : Bool) : List Leaf := [.b y]
theorem toB51_ok : ∀ ls b, toB51 ls = some b → ls = ofB51 b := by
  intro ls b h
  unfold toB51 at h
  obtain ⟨b0, ls1, rfl, h1⟩ := gB_ok h; obtain ⟨rfl, h2⟩ := gE_ok h1
  cases h2; rfl
def run51 {R : Type} : SF R := ⟨pa51, sr51, fun ls K => (gI (fun a0 => gI (fun a1 => gI (fun a2 => gE (Option.bind (F51 FUEL a0 a1 a2) fun y => K (ofB51 y)))))) ls⟩
def cuts51 : List (List Nat × Cut (Bool)) := []
noncomputable def X51 : Px (Bool) := ⟨T, Try.prog, lkF [(22, run22)], mkCuts 51 cuts51, altN, altN_ok⟩
theorem e51 (n : Nat) (a0 : Int) (a1 : Int) (a2 : Int) : entF X51 8 51 pa51 (endK sr51 toB51) n [.i a0, .i a1, .i a2] = F51 n a0 a1 a2 := by kernel_rfl
theorem sp51 {n : Nat} (a0 : Int) (a1 : Int) (a2 : Int) {y : Bool} (h : F51 n a0 a1 a2 = some y) : SpecF T Try.prog 51 pa51 [.i a0, .i a1, .i a2] sr51 (ofB51 y) :=
  fun_ok (X := X51) tok (sfok_of ⟨ok22, trivial⟩) mixed 51 8 cuts51 rfl toB51_ok trivial ((e51 n a0 a1 a2).trans h)
theorem ok51 {R : Type} : SFone T Try.prog 51 (run51 : SF R) := by
  intro ls K r h
  simp only [run51] at h
  obtain ⟨a0, ls1, rfl, h1⟩ := gI_ok h; obtain ⟨a1, ls2, rfl, h2⟩ := gI_ok h1; obtain ⟨a2, ls3, rfl, h3⟩ := gI_ok h2; obtain ⟨rfl, h4⟩ := gE_ok h3
  obtain ⟨y, k1, k2⟩ := Option.bind_eq_some_iff.1 h4
  exact ⟨_, k2, sp51 a0 a1 a2 k1⟩

/-! ### garland/garlandref12.Right -/
def pa35 : List VP := [.i .i64, .sl false [.int .i64]]
def sr35 : RShape := ⟨.b, [], none⟩
def toB35 : List Leaf → Option (Bool) := gB (fun b0 => gE (some b0))
def ofB35 (y : Bool) : List Leaf := [.b y]
theorem toB35_ok : ∀ ls b, toB35 ls = some b → ls = ofB35 b := by
  intro ls b h
  unfold toB35 at h
  obtain ⟨b0, ls1, rfl, h1⟩ := gB_ok h; obtain ⟨rfl, h2⟩ := gE_ok h1
  cases h2; rfl
def run35 {R : Type} : SF R := ⟨pa35, sr35, fun ls K => (gI (fun a0 => gL [.int .i64] (fun a1 => gE (Option.bind (F35 FUEL a0 a1) fun y => K (ofB35 y))))) ls⟩
def sh35_0 : Shape := ⟨[(48, [(0, .i .i64), (1, .sl false [.int .i64]), (5, .i .i64)])], []⟩
def g35_0 (n : Nat) : List Leaf → Option (Bool) := gI (fun x0 => gL [.int .i64] (fun x1 => gI (fun x2 => gE (F35_c0 n x0 x1 x2))))
def cuts35 : List (List Nat × Cut (Bool)) := [([1, 0, 1, 0], ⟨sh35_0, g35_0⟩)]
noncomputable def X35 : Px (Bool) := ⟨T, Try.prog, lkF [(50, run50), (37, run37), (51, run51)], mkCuts 35 cuts35, altN, altN_ok⟩
theorem e35_0 (n : Nat) (x0 : Int) (x1 : List (Int)) (x2 : Int) : stepF X35 8 35 (endK sr35 toB35) [1, 0, 1, 0] sh35_0 n [.i x0, .l [.int .i64] x1, .i x2] = F35_c0 (n + 1) x0 x1 x2 := by kernel_rfl
theorem e35 (n : Nat) (a0 : Int) (a1 : List (Int)) : entF X35 8 35 pa35 (endK sr35 toB35) n [.i a0, .l [.int .i64] a1] = F35 n a0 a1 := by kernel_rfl
theorem c35_0 : CutOK X35 8 35 (endK sr35 toB35) [1, 0, 1, 0] ⟨sh35_0, g35_0⟩ := by
  refine ⟨fun ls => ?_, fun n ls r h => ?_⟩
  · cases h : g35_0 0 ls with
    | none => exact h
    | some r =>
      unfold g35_0 at h; obtain ⟨x0, ls1, rfl, h1⟩ := gI_ok h; obtain ⟨x1, ls2, rfl, h2⟩ := gL_ok h1; obtain ⟨x2, ls3, rfl, h3⟩ := gI_ok h2; obtain ⟨rfl, h4⟩ := gE_ok h3; simp only [F35_c0] at h4; cases h4
  · replace h : g35_0 (n + 1) ls = some r := h
    unfold g35_0 at h
    obtain ⟨x0, ls1, rfl, h1⟩ := gI_ok h; obtain ⟨x1, ls2, rfl, h2⟩ := gL_ok h1; obtain ⟨x2, ls3, rfl, h3⟩ := gI_ok h2; obtain ⟨rfl, h4⟩ := gE_ok h3
    exact (e35_0 n x0 x1 x2).trans h4
theorem sp35 {n : Nat} (a0 : Int) (a1 : List (Int)) {y : Bool} (h : F35 n a0 a1 = some y) : SpecF T Try.prog 35 pa35 [.i a0, .l [.int .i64] a1] sr35 (ofB35 y) :=
  fun_ok (X := X35) tok (sfok_of ⟨ok50, ok37, ok51, trivial⟩) mixed 35 8 cuts35 rfl toB35_ok ⟨c35_0, trivial⟩ ((e35 n a0 a1).trans h)
theorem ok35 {R : Type} : SFone T Try.prog 35 (run35 : SF R) := by
  intro ls K r h
  simp only [run35] at h
  obtain ⟨a0, ls1, rfl, h1⟩ := gI_ok h; obtain ⟨a1, ls2, rfl, h2⟩ := gL_ok h1; obtain ⟨rfl, h3⟩ := gE_ok h2
  obtain ⟨y, k1, k2⟩ := Option.bind_eq_some_iff.1 h3
  exact ⟨_, k2, sp35 a0 a1 k1⟩

/-! ### garland/garlandref13.other -/
def pa36 : List VP := [.agg [.i .i64, .sl false [.int .i64], .sl false [.int .i64], .i .i64, .i .i64, .i .i64, .i .i64, .i .i64, .i .i64, .i .i64, .i .i64, .i .i64, .i .i64, .i .i64, .i .i64, .i .i64, .i .i64, .i .i64, .i .i64, .i .i64], .i .i64]
def sr36 : RShape := ⟨.b, [], none⟩
def toB36 : List Leaf → Option (Bool) := gB (fun b0 => gE (some b0))
def ofB36 (y : Bool) : List Leaf := [.b y]
theorem toB36_ok : ∀ ls b, toB36 ls = some b → ls = ofB36 b := by
  intro ls b h
  unfold toB36 at h
  obtain ⟨b0, ls1, rfl, h1⟩ := gB_ok h; obtain ⟨rfl, h2⟩ := gE_ok h1
  cases h2; rfl
def run36 {R : Type} : SF R := ⟨pa36, sr36, fun ls K => (gI (fun a0 => gL [.int .i64] (fun a1 => gL [.int .i64] (fun a2 => gI (fun a3 => gI (fun a4 => gI (fun a5 => gI (fun a6 => gI (fun a7 => gI (fun a8 => gI (fun a9 => gI (fun a10 => gI (fun a11 => gI (fun a12 => gI (fun a13 => gI (fun a14 => gI (fun a15 => gI (fun a16 => gI (fun a17 => gI (fun a18 => gI (fun a19 => gI (fun a20 => gE (Option.bind (F36 FUEL a0 a1 a2 a3 a4 a5 a6 a7 a8 a9 a10 a11 a12 a13 a14 a15 a16 a17 a18 a19 a20) fun y => K (ofB36 y)))))))))))))))))))))))) ls⟩
def cuts36 : List (List Nat × Cut (Bool)) := []
noncomputable def X36 : Px (Bool) := ⟨T, Try.prog, lkF [(34, run34)], mkCuts 36 cuts36, altN, altN_ok⟩
theorem e36 (n : Nat) (a0 : Int) (a1 : List (Int)) (a2 : List (Int)) (a3 : Int) (a4 : Int) (a5 : Int) (a6 : Int) (a7 : Int) (a8 : Int) (a9 : Int) (a10 : Int) (a11 : Int) (a12 : Int) (a13 : Int) (a14 : Int) (a15 : Int) (a16 : Int) (a17 : Int) (a18 : Int) (a19 : Int) (a20 : Int) : entF X36 8 36 pa36 (endK sr36 toB36) n [.i a0, .l [.int .i64] a1, .l [.int .i64] a2, .i a3, .i a4, .i a5, .i a6, .i a7, .i a8, .i a9, .i a10, .i a11, .i a12, .i a13, .i a14, .i a15, .i a16, .i a17, .i a18, .i a19, .i a20] = F36 n a0 a1 a2 a3 a4 a5 a6 a7 a8 a9 a10 a11 a12 a13 a14 a15 a16 a17 a18 a19 a20 := by kernel_rfl
theorem sp36 {n : Nat} (a0 : Int) (a1 : List (Int)) (a2 : List (Int)) (a3 : Int) (a4 : Int) (a5 : Int) (a6 : Int) (a7 : Int) (a8 : Int) (a9 : Int) (a10 : Int) (a11 : Int) (a12 : Int) (a13 : Int) (a14 : Int) (a15 : Int) (a16 : Int) (a17 : Int) (a18 : Int) (a19 : Int) (a20 : Int) {y : Bool} (h : F36 n a0 a1 a2 a3 a4 a5 a6 a7 a8 a9 a10 a11 a12 a13 a14 a15 a16 a17 a18 a19 a20 = some y) : SpecF T Try.prog 36 pa36 [.i a0, .l [.int .i64] a1, .l [.int .i64] a2, .i a3, .i a4, .i a5, .i a6, .i a7, .i a8, .i a9, .i a10, .i a11, .i a12, .i a13, .i a14, .i a15, .i a16, .i a17, .i a18, .i a19, .i a20] sr36 (ofB36 y) :=
  fun_ok (X := X36) tok (sfok_of ⟨ok34, trivial⟩) mixed 36 8 cuts36 rfl toB36_ok trivial ((e36 n a0 a1 a2 a3 a4 a5 a6 a7 a8 a9 a10 a11 a12 a13 a14 a15 a16 a17 a18 a19 a20).trans h)
theorem ok36 {R : Type} : SFone T Try.prog 36 (run36 : SF R) := by
  intro ls K r h
  simp only [run36] at h
  obtain ⟨a0, ls1, rfl, h1⟩ := gI_ok h; obtain ⟨a1, ls2, rfl, h2⟩ := gL_ok h1; obtain ⟨a2, ls3, rfl, h3⟩ := gL_ok h2; obtain ⟨a3, ls4, rfl, h4⟩ := gI_ok h3; obtain ⟨a4, ls5, rfl, h5⟩ := gI_ok h4; obtain ⟨a5, ls6, rfl, h6⟩ := gI_ok h5; obtain ⟨a6, ls7, rfl, h7⟩ := gI_ok h6; obtain ⟨a7, ls8, rfl, h8⟩ := gI_ok h7; obtain ⟨a8, ls9, rfl, h9⟩ := gI_ok h8; obtain ⟨a9, ls10, rfl, h10⟩ := gI_ok h9; obtain ⟨a10, ls11, rfl, h11⟩ := gI_ok h10; obtain ⟨a11, ls12, rfl, h12⟩ := gI_ok h11; obtain ⟨a12, ls13, rfl, h13⟩ := gI_ok h12; obtain ⟨a13, ls14, rfl, h14⟩ := gI_ok h13; obtain ⟨a14, ls15, rfl, h15⟩ := gI_ok h14; obtain ⟨a15, ls16, rfl, h16⟩ := gI_ok h15; obtain ⟨a16, ls17, rfl, h17⟩ := gI_ok h16; obtain ⟨a17, ls18, rfl, h18⟩ := gI_ok h17; obtain ⟨a18, ls19, rfl, h19⟩ := gI_ok h18; obtain ⟨a19, ls20, rfl, h20⟩ := gI_ok h19; obtain ⟨a20, ls21, rfl, h21⟩ := gI_ok h20; obtain ⟨rfl, h22⟩ := gE_ok h21
  obtain ⟨y, k1, k2⟩ := Option.bind_eq_some_iff.1 h22
  exact ⟨_, k2, sp36 a0 a1 a2 a3 a4 a5 a6 a7 a8 a9 a10 a11 a12 a13 a14 a15 a16 a17 a18 a19 a20 k1⟩

/-! ### garland/garlandref13.Right -/
def pa21 : List VP := [.agg [.i .i64, .sl false [.int .i64], .sl false [.int .i64], .i .i64, .i .i64, .i .i64, .i .i64, .i .i64, .i .i64, .i .i64, .i .i64, .i .i64, .i .i64, .i .i64, .i .i64, .i .i64, .i .i64, .i .i64, .i .i64, .i .i64]]
def sr21 : RShape := ⟨.b, [], none⟩
def toB21 : List Leaf → Option (Bool) := gB (fun b0 => gE (some b0))
def ofB21 (y : Bool) : List Leaf := [.b y]
theorem toB21_ok : ∀ ls b, toB21 ls = some b → ls = ofB21 b := by
  intro ls b h
  unfold toB21 at h
  obtain ⟨b0, ls1, rfl, h1⟩ := gB_ok h; obtain ⟨rfl, h2⟩ := gE_ok h1
  cases h2; rfl
def run21 {R : Type} : SF R := ⟨pa21, sr21, fun ls K => (gI (fun a0 => gL [.int .i64] (fun a1 => gL [.int .i64] (fun a2 => gI (fun a3 => gI (fun a4 => gI (fun a5 => gI (fun a6 => gI (fun a7 => gI (fun a8 => gI (fun a9 => gI (fun a10 => gI (fun a11 => gI (fun a12 => gI (fun a13 => gI (fun a14 => gI (fun a15 => gI (fun a16 => gI (fun a17 => gI (fun a18 => gI (fun a19 => gE (Option.bind (F21 FUEL a0 a1 a2 a3 a4 a5 a6 a7 a8 a9 a10 a11 a12 a13 a14 a15 a16 a17 a18 a19) fun y => K (ofB21 y))))))))))))))))))))))) ls⟩
def sh21_0 : Shape := ⟨[(79, [(1, .ref 0 0), (3, .i .i64)])], [.cells [.i .i64, .sl false [.int .i64], .sl false [.int .i64], .i .i64, .i .i64, .i .i64, .i .i64, .i .i64, .i .i64, .i .i64, .i .i64, .i .i64, .i .i64, .i .i64, .i .i64, .i .i64, .i .i64, .i .i64, .i .i64, .i .i64]]⟩
def g21_0 (n : Nat) : List Leaf → Option (Bool) := gI (fun x0 => gI (fun x1 => gL [.int .i64] (fun x2 => gL [.int .i64] (fun x3 => gI (fun x4 => gI (fun x5 => gI (fun x6 => gI (fun x7 => gI (fun x8 => gI (fun x9 => gI (fun x10 => gI (fun x11 => gI (fun x12 => gI (fun x13 => gI (fun x14 => gI (fun x15 => gI (fun x16 => gI (fun x17 => gI (fun x18 => gI (fun x19 => gI (fun x20 => gE (F21_c0 n x0 x1 x2 x3 x4 x5 x6 x7 x8 x9 x10 x11 x12 x13 x14 x15 x16 x17 x18 x19 x20))))))))))))))))))))))
def sh21_1 : Shape := ⟨[(79, [(1, .ref 0 0), (4, .i .i64)])], [.cells [.i .i64, .sl false [.int .i64], .sl false [.int .i64], .i .i64, .i .i64, .i .i64, .i .i64, .i .i64, .i .i64, .i .i64, .i .i64, .i .i64, .i .i64, .i .i64, .i .i64, .i .i64, .i .i64, .i .i64, .i .i64, .i .i64]]⟩
def g21_1 (n : Nat) : List Leaf → Option (Bool) := gI (fun x0 => gI (fun x1 => gL [.int .i64] (fun x2 => gL [.int .i64] (fun x3 => gI (fun x4 => gI (fun x5 => gI (fun x6 => gI (fun x7 => gI (fun x8 => gI (fun x9 => gI (fun x10 => gI (fun x11 => gI (fun x12 => gI (fun x13 => gI (fun x14 => gI (fun x15 => gI (fun x16 => gI (fun x17 => gI (fun x18 => gI (fun x19 => gI (fun x20 => gE (F21_c1 n x0 x1 x2 x3 x4 x5 x6 x7 x8 x9 x10 x11 x12 x13 x14 x15 x16 x17 x18 x19 x20))))))))))))))))))))))
def cuts21 : List (List Nat × Cut (Bool)) := [([1, 1, 0, 1, 0], ⟨sh21_0, g21_0⟩), ([1, 1, 1, 0, 1, 0], ⟨sh21_1, g21_1⟩)]
noncomputable def X21 : Px (Bool) := ⟨T, Try.prog, lkF [(34, run34), (35, run35), (36, run36)], mkCuts 21 cuts21, altN, altN_ok⟩
theorem e21_0 (n : Nat) (x0 : Int) (x1 : Int) (x2 : List (Int)) (x3 : List (Int)) (x4 : Int) (x5 : Int) (x6 : Int) (x7 : Int) (x8 : Int) (x9 : Int) (x10 : Int) (x11 : Int) (x12 : Int) (x13 : Int) (x14 : Int) (x15 : Int) (x16 : Int) (x17 : Int) (x18 : Int) (x19 : Int) (x20 : Int) : stepF X21 8 21 (endK sr21 toB21) [1, 1, 0, 1, 0] sh21_0 n [.i x0, .i x1, .l [.int .i64] x2, .l [.int .i64] x3, .i x4, .i x5, .i x6, .i x7, .i x8, .i x9, .i x10, .i x11, .i x12, .i x13, .i x14, .i x15, .i x16, .i x17, .i x18, .i x19, .i x20] = F21_c0 (n + 1) x0 x1 x2 x3 x4 x5 x6 x7 x8 x9 x10 x11 x12 x13 x14 x15 x16 x17 x18 x19 x20 := by kernel_rfl
theorem e21_1 (n : Nat) (x0 : Int) (x1 : Int) (x2 : List (Int)) (x3 : List (Int)) (x4 : Int) (x5 : Int) (x6 : Int) (x7 : Int) (x8 : Int) (x9 : Int) (x10 : Int) (x11 : Int) (x12 : Int) (x13 : Int) (x14 : Int) (x15 : Int) (x16 : Int) (x17 : Int) (x18 : Int) (x19 : Int) (x20 : Int) : stepF X21 8 21 (endK sr21 toB21) [1, 1, 1, 0, 1, 0] sh21_1 n [.i x0, .i x1, .l [.int .i64] x2, .l [.int .i64] x3, .i x4, .i x5, .i x6, .i x7, .i x8, .i x9, .i x10, .i x11, .i x12, .i x13, .i x14, .i x15, .i x16, .i x17, .i x18, .i x19, .i x20] = F21_c1 (n + 1) x0 x1 x2 x3 x4 x5 x6 x7 x8 x9 x10 x11 x12 x13 x14 x15 x16 x17 x18 x19 x20 := by kernel_rfl
theorem e21 (n : Nat) (a0 : Int) (a1 : List (Int)) (a2 : List (Int)) (a3 : Int) (a4 : Int) (a5 : Int) (a6 : Int) (a7 : Int) (a8 : Int) (a9 : Int) (a10 : Int) (a11 : Int) (a12 : Int) (a13 : Int) (a14 : Int) (a15 : Int) (a16 : Int) (a17 : Int) (a18 : Int) (a19 : Int) : entF X21 8 21 pa21 (endK sr21 toB21) n [.i a0, .l [.int .i64] a1, .l [.int .i64] a2, .i a3, .i a4, .i a5, .i a6, .i a7, .i a8, .i a9, .i a10, .i a11, .i a12, .i a13, .i a14, .i a15, .i a16, .i a17, .i a18, .i a19] = F21 n a0 a1 a2 a3 a4 a5 a6 a7 a8 a9 a10 a11 a12 a13 a14 a15 a16 a17 a18 a19 := by kernel_rfl
theorem c21_0 : CutOK X21 8 21 (endK sr21 toB21) [1, 1, 0, 1, 0] ⟨sh21_0, g21_0⟩ := by
  refine ⟨fun ls => ?_, fun n ls r h => ?_⟩
  · cases h : g21_0 0 ls with
    | none => exact h
    | some r =>
      unfold g21_0 at h; obtain ⟨x0, ls1, rfl, h1⟩ := gI_ok h; obtain ⟨x1, ls2, rfl, h2⟩ := gI_ok h1; obtain ⟨x2, ls3, rfl, h3⟩ := gL_ok h2; obtain ⟨x3, ls4, rfl, h4⟩ := gL_ok h3; obtain ⟨x4, ls5, rfl, h5⟩ := gI_ok h4; obtain ⟨x5, ls6, rfl, h6⟩ := gI_ok h5; obtain ⟨x6, ls7, rfl, h7⟩ := gI_ok h6; obtain ⟨x7, ls8, rfl, h8⟩ := gI_ok h7; obtain ⟨x8, ls9, rfl, h9⟩ := gI_ok h8; obtain ⟨x9, ls10, rfl, h10⟩ := gI_ok h9; obtain ⟨x10, ls11, rfl, h11⟩ := gI_ok h10; obtain ⟨x11, ls12, rfl, h12⟩ := gI_ok h11; obtain ⟨x12, ls13, rfl, h13⟩ := gI_ok h12; obtain ⟨x13, ls14, rfl, h14⟩ := gI_ok h13; obtain ⟨x14, ls15, rfl, h15⟩ := gI_ok h14; obtain ⟨x15, ls16, rfl, h16⟩ := gI_ok h15; obtain ⟨x16, ls17, rfl, h17⟩ := gI_ok h16; obtain ⟨x17, ls18, rfl, h18⟩ := gI_ok h17; obtain ⟨x18, ls19, rfl, h19⟩ := gI_ok h18; obtain ⟨x19, ls20, rfl, h20⟩ := gI_ok h19; obtain ⟨x20, ls21, rfl, h21⟩ := gI_ok h20; obtain ⟨rfl, h22⟩ := gE_ok h21; simp only [F21_c0] at h22; cases h22
  · replace h : g21_0 (n + 1) ls = some r := h
    unfold g21_0 at h
    obtain ⟨x0, ls1, rfl, h1⟩ := gI_ok h; obtain ⟨x1, ls2, rfl, h2⟩ := gI_ok h1; obtain ⟨x2, ls3, rfl, h3⟩ := gL_ok h2; obtain ⟨x3, ls4, rfl, h4⟩ := gL_ok h3; obtain ⟨x4, ls5, rfl, h5⟩ := gI_ok h4; obtain ⟨x5, ls6, rfl, h6⟩ := gI_ok h5; obtain ⟨x6, ls7, rfl, h7⟩ := gI_ok h6; obtain ⟨x7, ls8, rfl, h8⟩ := gI_ok h7; obtain ⟨x8, ls9, rfl, h9⟩ := gI_ok h8; obtain ⟨x9, ls10, rfl, h10⟩ := gI_ok h9; obtain ⟨x10, ls11, rfl, h11⟩ := gI_ok h10; obtain ⟨x11, ls12, rfl, h12⟩ := gI_ok h11; obtain ⟨x12, ls13, rfl, h13⟩ := gI_ok h12; obtain ⟨x13, ls14, rfl, h14⟩ := gI_ok h13; obtain ⟨x14, ls15, rfl, h15⟩ := gI_ok h14; obtain ⟨x15, ls16, rfl, h16⟩ := gI_ok h15; obtain ⟨x16, ls17, rfl, h17⟩ := gI_ok h16; obtain ⟨x17, ls18, rfl, h18⟩ := gI_ok h17; obtain ⟨x18, ls19, rfl, h19⟩ := gI_ok h18; obtain ⟨x19, ls20, rfl, h20⟩ := gI_ok h19; obtain ⟨x20, ls21, rfl, h21⟩ := gI_ok h20; obtain ⟨rfl, h22⟩ := gE_ok h21
    exact (e21_0 n x0 x1 x2 x3 x4 x5 x6 x7 x8 x9 x10 x11 x12 x13 x14 x15 x16 x17 x18 x19 x20).trans h22
theorem c21_1 : CutOK X21 8 21 (endK sr21 toB21) [1, 1, 1, 0, 1, 0] ⟨sh21_1, g21_1⟩ := by
  refine ⟨fun ls => ?_, fun n ls r h => ?_⟩
  · cases h : g21_1 0 ls with
    | none => exact h
    | some r =>
      unfold g21_1 at h; obtain ⟨x0, ls1, rfl, h1⟩ := gI_ok h; obtain ⟨x1, ls2, rfl, h2⟩ := gI_ok h1; obtain ⟨x2, ls3, rfl, h3⟩ := gL_ok h2; obtain ⟨x3, ls4, rfl, h4⟩ := gL_ok h3; obtain ⟨x4, ls5, rfl, h5⟩ := gI_ok h4; obtain ⟨x5, ls6, rfl, h6⟩ := gI_ok h5; obtain ⟨x6, ls7, rfl, h7⟩ := gI_ok h6; obtain ⟨x7, ls8, rfl, h8⟩ := gI_ok h7; obtain ⟨x8, ls9, rfl, h9⟩ := gI_ok h8; obtain ⟨x9, ls10, rfl, h10⟩ := gI_ok h9; obtain ⟨x10, ls11, rfl, h11⟩ := gI_ok h10; obtain ⟨x11, ls12, rfl, h12⟩ := gI_ok h11; obtain ⟨x12, ls13, rfl, h13⟩ := gI_ok h12; obtain ⟨x13, ls14, rfl, h14⟩ := gI_ok h13; obtain ⟨x14, ls15, rfl, h15⟩ := gI_ok h14; obtain ⟨x15, ls16, rfl, h16⟩ := gI_ok h15; obtain ⟨x16, ls17, rfl, h17⟩ := gI_ok h16; obtain ⟨x17, ls18, rfl, h18⟩ := gI_ok h17; obtain ⟨x18, ls19, rfl, h19⟩ := gI_ok h18; obtain ⟨x19, ls20, rfl, h20⟩ := gI_ok h19; obtain ⟨x20, ls21, rfl, h21⟩ := gI_ok h20; obtain ⟨rfl, h22⟩ := gE_ok h21; simp only [F21_c1] at h22; cases h22
  · replace h : g21_1 (n + 1) ls = some r := h
    unfold g21_1 at h
    obtain ⟨x0, ls1, rfl, h1⟩ := gI_ok h; obtain ⟨x1, ls2, rfl, h2⟩ := gI_ok h1; obtain ⟨x2, ls3, rfl, h3⟩ := gL_ok h2; obtain ⟨x3, ls4, rfl, h4⟩ := gL_ok h3; obtain ⟨x4, ls5, rfl, h5⟩ := gI_ok h4; obtain ⟨x5, ls6, rfl, h6⟩ := gI_ok h5; obtain ⟨x6, ls7, rfl, h7⟩ := gI_ok h6; obtain ⟨x7, ls8, rfl, h8⟩ := gI_ok h7; obtain ⟨x8, ls9, rfl, h9⟩ := gI_ok h8; obtain ⟨x9, ls10, rfl, h10⟩ := gI_ok h9; obtain ⟨x10, ls11, rfl, h11⟩ := gI_ok h10; obtain ⟨x11, ls12, rfl, h12⟩ := gI_ok h11; obtain ⟨x12, ls13, rfl, h13⟩ := gI_ok h12; obtain ⟨x13, ls14, rfl, h14⟩ := gI_ok h13; obtain ⟨x14, ls15, rfl, h15⟩ := gI_ok h14; obtain ⟨x15, ls16, rfl, h16⟩ := gI_ok h15; obtain ⟨x16, ls17, rfl, h17⟩ := gI_ok h16; obtain ⟨x17, ls18, rfl, h18⟩ := gI_ok h17; obtain ⟨x18, ls19, rfl, h19⟩ := gI_ok h18; obtain ⟨x19, ls20, rfl, h20⟩ := gI_ok h19; obtain ⟨x20, ls21, rfl, h21⟩ := gI_ok h20; obtain ⟨rfl, h22⟩ := gE_ok h21
    exact (e21_1 n x0 x1 x2 x3 x4 x5 x6 x7 x8 x9 x10 x11 x12 x13 x14 x15 x16 x17 x18 x19 x20).trans h22
theorem sp21 {n : Nat} (a0 : Int) (a1 : List (Int)) (a2 : List (Int)) (a3 : Int) (a4 : Int) (a5 : Int) (a6 : Int) (a7 : Int) (a8 : Int) (a9 : Int) (a10 : Int) (a11 : Int) (a12 : Int) (a13 : Int) (a14 : Int) (a15 : Int) (a16 : Int) (a17 : Int) (a18 : Int) (a19 : Int) {y : Bool} (h : F21 n a0 a1 a2 a3 a4 a5 a6 a7 a8 a9 a10 a11 a12 a13 a14 a15 a16 a17 a18 a19 = some y) : SpecF T Try.prog 21 pa21 [.i a0, .l [.int .i64] a1, .l [.int .i64] a2, .i a3, .i a4, .i a5, .i a6, .i a7, .i a8, .i a9, .i a10, .i a11, .i a12, .i a13, .i a14, .i a15, .i a16, .i a17, .i a18, .i a19] sr21 (ofB21 y) :=
  fun_ok (X := X21) tok (sfok_of ⟨ok34, ok35, ok36, trivial⟩) mixed 21 8 cuts21 rfl toB21_ok ⟨c21_0, c21_1, trivial⟩ ((e21 n a0 a1 a2 a3 a4 a5 a6 a7 a8 a9 a10 a11 a12 a13 a14 a15 a16 a17 a18 a19).trans h)
theorem ok21 {R : Type} : SFone T Try.prog 21 (run21 : SF R) := by
  intro ls K r h
  simp only [run21] at h
  obtain ⟨a0, ls1, rfl, h1⟩ := gI_ok h; obtain ⟨a1, ls2, rfl, h2⟩ := gL_ok h1; obtain ⟨a2, ls3, rfl, h3⟩ := gL_ok h2; obtain ⟨a3, ls4, rfl, h4⟩ := gI_ok h3; obtain ⟨a4, ls5, rfl, h5⟩ := gI_ok h4; obtain ⟨a5, ls6, rfl, h6⟩ := gI_ok h5; obtain ⟨a6, ls7, rfl, h7⟩ := gI_ok h6; obtain ⟨a7, ls8, rfl, h8⟩ := gI_ok h7; obtain ⟨a8, ls9, rfl, h9⟩ := gI_ok h8; obtain ⟨a9, ls10, rfl, h10⟩ := gI_ok h9; obtain ⟨a10, ls11, rfl, h11⟩ := gI_ok h10; obtain ⟨a11, ls12, rfl, h12⟩ := gI_ok h11; obtain ⟨a12, ls13, rfl, h13⟩ := gI_ok h12; obtain ⟨a13, ls14, rfl, h14⟩ := gI_ok h13; obtain ⟨a14, ls15, rfl, h15⟩ := gI_ok h14; obtain ⟨a15, ls16, rfl, h16⟩ := gI_ok h15; obtain ⟨a16, ls17, rfl, h17⟩ := gI_ok h16; obtain ⟨a17, ls18, rfl, h18⟩ := gI_ok h17; obtain ⟨a18, ls19, rfl, h19⟩ := gI_ok h18; obtain ⟨a19, ls20, rfl, h20⟩ := gI_ok h19; obtain ⟨rfl, h21⟩ := gE_ok h20
  obtain ⟨y, k1, k2⟩ := Option.bind_eq_some_iff.1 h21
  exact ⟨_, k2, sp21 a0 a1 a2 a3 a4 a5 a6 a7 a8 a9 a10 a11 a12 a13 a14 a15 a16 a17 a18 a19 k1⟩

/-! ### garland/garlandref13.New -/
def pa38 : List VP := [.i .i64, .sl false [.int .i64]]
def sr38 : RShape := ⟨.tup [.agg [.i .i64, .row 0, .nil, .i .i64, .i .i64, .i .i64, .i .i64, .i .i64, .i .i64, .i .i64, .i .i64, .i .i64, .i .i64, .i .i64, .i .i64, .i .i64, .i .i64, .i .i64, .i .i64, .i .i64], .i .i64], [.row true [.int .i64]], none⟩
def toB38 : List Leaf → Option (Si19l) := gI (fun b0 => gI (fun b1 => gI (fun b2 => gI (fun b3 => gI (fun b4 => gI (fun b5 => gI (fun b6 => gI (fun b7 => gI (fun b8 => gI (fun b9 => gI (fun b10 => gI (fun b11 => gI (fun b12 => gI (fun b13 => gI (fun b14 => gI (fun b15 => gI (fun b16 => gI (fun b17 => gI (fun b18 => gL [.int .i64] (fun b19 => gE (some ⟨b0, b1, b2, b3, b4, b5, b6, b7, b8, b9, b10, b11, b12, b13, b14, b15, b16, b17, b18, b19⟩)))))))))))))))))))))
def ofB38 (y : Si19l) : List Leaf := [.i y.q0, .i y.q1, .i y.q2, .i y.q3, .i y.q4, .i y.q5, .i y.q6, .i y.q7, .i y.q8, .i y.q9, .i y.q10, .i y.q11, .i y.q12, .i y.q13, .i y.q14, .i y.q15, .i y.q16, .i y.q17, .i y.q18, .l [.int .i64] y.q19]
theorem toB38_ok : ∀ ls b, toB38 ls = some b → ls = ofB38 b := by
  intro ls b h
  unfold toB38 at h
  obtain ⟨b0, ls1, rfl, h1⟩ := gI_ok h; obtain ⟨b1, ls2, rfl, h2⟩ := gI_ok h1; obtain ⟨b2, ls3, rfl, h3⟩ := gI_ok h2; obtain ⟨b3, ls4, rfl, h4⟩ := gI_ok h3; obtain ⟨b4, ls5, rfl, h5⟩ := gI_ok h4; obtain ⟨b5, ls6, rfl, h6⟩ := gI_ok h5; obtain ⟨b6, ls7, rfl, h7⟩ := gI_ok h6; obtain ⟨b7, ls8, rfl, h8⟩ := gI_ok h7; obtain ⟨b8, ls9, rfl, h9⟩ := gI_ok h8; obtain ⟨b9, ls10, rfl, h10⟩ := gI_ok h9; obtain ⟨b10, ls11, rfl, h11⟩ := gI_ok h10; obtain ⟨b11, ls12, rfl, h12⟩ := gI_ok h11; obtain ⟨b12, ls13, rfl, h13⟩ := gI_ok h12; obtain ⟨b13, ls14, rfl, h14⟩ := gI_ok h13; obtain ⟨b14, ls15, rfl, h15⟩ := gI_ok h14; obtain ⟨b15, ls16, rfl, h16⟩ := gI_ok h15; obtain ⟨b16, ls17, rfl, h17⟩ := gI_ok h16; obtain ⟨b17, ls18, rfl, h18⟩ := gI_ok h17; obtain ⟨b18, ls19, rfl, h19⟩ := gI_ok h18; obtain ⟨b19, ls20, rfl, h20⟩ := gL_ok h19; obtain ⟨rfl, h21⟩ := gE_ok h20
  cases h21; rfl
def run38 {R : Type} : SF R := ⟨pa38, sr38, fun ls K => (gI (fun a0 => gL [.int .i64] (fun a1 => gE (Option.bind (F38 FUEL a0 a1) fun y => K (ofB38 y))))) ls⟩
def sh38_0 : Shape := ⟨[(25, [(4, .ref 0 0), (6, .ref 1 0), (7, .i .i64)])], [.cells [.i .i64, .nil, .nil, .i .i64, .i .i64, .i .i64, .i .i64, .i .i64, .i .i64, .i .i64, .i .i64, .i .i64, .i .i64, .i .i64, .i .i64, .i .i64, .i .i64, .i .i64, .i .i64, .i .i64], .cells [.i .i64, .row 2, .nil, .i .i64, .i .i64, .i .i64, .i .i64, .i .i64, .i .i64, .i .i64, .i .i64, .i .i64, .i .i64, .i .i64, .i .i64, .i .i64, .i .i64, .i .i64, .i .i64, .i .i64], .row true [.int .i64]]⟩
def g38_0 (n : Nat) : List Leaf → Option (Si19l) := gI (fun x0 => gI (fun x1 => gI (fun x2 => gI (fun x3 => gI (fun x4 => gI (fun x5 => gI (fun x6 => gI (fun x7 => gI (fun x8 => gI (fun x9 => gI (fun x10 => gI (fun x11 => gI (fun x12 => gI (fun x13 => gI (fun x14 => gI (fun x15 => gI (fun x16 => gI (fun x17 => gI (fun x18 => gI (fun x19 => gI (fun x20 => gI (fun x21 => gI (fun x22 => gI (fun x23 => gI (fun x24 => gI (fun x25 => gI (fun x26 => gI (fun x27 => gI (fun x28 => gI (fun x29 => gI (fun x30 => gI (fun x31 => gI (fun x32 => gI (fun x33 => gI (fun x34 => gI (fun x35 => gI (fun x36 => gL [.int .i64] (fun x37 => gE (F38_c0 n x0 x1 x2 x3 x4 x5 x6 x7 x8 x9 x10 x11 x12 x13 x14 x15 x16 x17 x18 x19 x20 x21 x22 x23 x24 x25 x26 x27 x28 x29 x30 x31 x32 x33 x34 x35 x36 x37)))))))))))))))))))))))))))))))))))))))
def cuts38 : List (List Nat × Cut (Si19l)) := [([1, 1, 0, 1, 0], ⟨sh38_0, g38_0⟩)]
noncomputable def X38 : Px (Si19l) := ⟨T, Try.prog, lkF [(21, run21)], mkCuts 38 cuts38, altN, altN_ok⟩
theorem e38_0 (n : Nat) (x0 : Int) (x1 : Int) (x2 : Int) (x3 : Int) (x4 : Int) (x5 : Int) (x6 : Int) (x7 : Int) (x8 : Int) (x9 : Int) (x10 : Int) (x11 : Int) (x12 : Int) (x13 : Int) (x14 : Int) (x15 : Int) (x16 : Int) (x17 : Int) (x18 : Int) (x19 : Int) (x20 : Int) (x21 : Int) (x22 : Int) (x23 : Int) (x24 : Int) (x25 : Int) (x26 : Int) (x27 : Int) (x28 : Int) (x29 : Int) (x30 : Int) (x31 : Int) (x32 : Int) (x33 : Int) (x34 : Int) (x35 : Int) (x36 : Int) (x37 : List (Int)) : stepF X38 8 38 (endK sr38 toB38) [1, 1, 0, 1, 0] sh38_0 n [.i x0, .i x1, .i x2, .i x3, .i x4, .i x5, .i x6, .i x7, .i x8, .i x9, .i x10, .i x11, .i x12, .i x13, .i x14, .i x15, .i x16, .i x17, .i x18, .i x19, .i x20, .i x21, .i x22, .i x23, .i x24, .i x25, .i x26, .i x27, .i x28, .i x29, .i x30, .i x31, .i x32, .i x33, .i x34, .i x35, .i x36, .l [.int .i64] x37] = F38_c0 (n + 1) x0 x1 x2 x3 x4 x5 x6 x7 x8 x9 x10 x11 x12 x13 x14 x15 x16 x17 x18 x19 x20 x21 x22 x23 x24 x25 x26 x27 x28 x29 x30 x31 x32 x33 x34 x35 x36 x37 := by kernel_rfl
theorem e38 (n : Nat) (a0 : Int) (a1 : List (Int)) : entF X38 8 38 pa38 (endK sr38 toB38) n [.i a0, .l [.int .i64] a1] = F38 n a0 a1 := by kernel_rfl
theorem c38_0 : CutOK X38 8 38 (endK sr38 toB38) [1, 1, 0, 1, 0] ⟨sh38_0, g38_0⟩ := by
  refine ⟨fun ls => ?_, fun n ls r h => ?_⟩
  · cases h : g38_0 0 ls with
    | none => exact h
    | some r =>
      unfold g38_0 at h; obtain ⟨x0, ls1, rfl, h1⟩ := gI_ok h; obtain ⟨x1, ls2, rfl, h2⟩ := gI_ok h1; obtain ⟨x2, ls3, rfl, h3⟩ := gI_ok h2; obtain ⟨x3, ls4, rfl, h4⟩ := gI_ok h3; obtain ⟨x4, ls5, rfl, h5⟩ := gI_ok h4; obtain ⟨x5, ls6, rfl, h6⟩ := gI_ok h5; obtain ⟨x6, ls7, rfl, h7⟩ := gI_ok h6; obtain ⟨x7, ls8, rfl, h8⟩ := gI_ok h7; obtain ⟨x8, ls9, rfl, h9⟩ := gI_ok h8; obtain ⟨x9, ls10, rfl, h10⟩ := gI_ok h9; obtain ⟨x10, ls11, rfl, h11⟩ := gI_ok h10; obtain ⟨x11, ls12, rfl, h12⟩ := gI_ok h11; obtain ⟨x12, ls13, rfl, h13⟩ := gI_ok h12; obtain ⟨x13, ls14, rfl, h14⟩ := gI_ok h13; obtain ⟨x14, ls15, rfl, h15⟩ := gI_ok h14; obtain ⟨x15, ls16, rfl, h16⟩ := gI_ok h15; obtain ⟨x16, ls17, rfl, h17⟩ := gI_ok h16; obtain ⟨x17, ls18, rfl, h18⟩ := gI_ok h17; obtain ⟨x18, ls19, rfl, h19⟩ := gI_ok h18; obtain ⟨x19, ls20, rfl, h20⟩ := gI_ok h19; obtain ⟨x20, ls21, rfl, h21⟩ := gI_ok h20; obtain ⟨x21, ls22, rfl, h22⟩ := gI_ok h21; obtain ⟨x22, ls23, rfl, h23⟩ := gI_ok h22; obtain ⟨x23, ls24, rfl, h24⟩ := gI_ok h23; obtain ⟨x24, ls25, rfl, h25⟩ := gI_ok h24; obtain ⟨x25, ls26, rfl, h26⟩ := gI_ok h25; obtain ⟨x26, ls27, rfl, h27⟩ := gI_ok h26; obtain ⟨x27, ls28, rfl, h28⟩ := gI_ok h27; obtain ⟨x28, ls29, rfl, h29⟩ := gI_ok h28; obtain ⟨x29, ls30, rfl, h30⟩ := gI_ok h29; obtain ⟨x30, ls31, rfl, h31⟩ := gI_ok h30; obtain ⟨x31, ls32, rfl, h32⟩ := gI_ok h31; obtain ⟨x32, ls33, rfl, h33⟩ := gI_ok h32; obtain ⟨x33, ls34, rfl, h34⟩ := gI_ok h33; obtain ⟨x34, ls35, rfl, h35⟩ := gI_ok h34; obtain ⟨x35, ls36, rfl, h36⟩ := gI_ok h35; obtain ⟨x36, ls37, rfl, h37⟩ := gI_ok h36; obtain ⟨x37, ls38, rfl, h38⟩ := gL_ok h37; obtain ⟨rfl, h39⟩ := gE_ok h38; simp only [F38_c0] at h39; cases h39
  · replace h : g38_0 (n + 1) ls = some r := h
    unfold g38_0 at h
    obtain ⟨x0, ls1, rfl, h1⟩ := gI_ok h; obtain ⟨x1, ls2, rfl, h2⟩ := gI_ok h1; obtain ⟨x2, ls3, rfl, h3⟩ := gI_ok h2; obtain ⟨x3, ls4, rfl, h4⟩ := gI_ok h3; obtain ⟨x4, ls5, rfl, h5⟩ := gI_ok h4; obtain ⟨x5, ls6, rfl, h6⟩ := gI_ok h5; obtain ⟨x6, ls7, rfl, h7⟩ := gI_ok h6; obtain ⟨x7, ls8, rfl, h8⟩ := gI_ok h7; obtain ⟨x8, ls9, rfl, h9⟩ := gI_ok h8; obtain ⟨x9, ls10, rfl, h10⟩ := gI_ok h9; obtain ⟨x10, ls11, rfl, h11⟩ := gI_ok h10; obtain ⟨x11, ls12, rfl, h12⟩ := gI_ok h11; obtain ⟨x12, ls13, rfl, h13⟩ := gI_ok h12; obtain ⟨x13, ls14, rfl, h14⟩ := gI_ok h13; obtain ⟨x14, ls15, rfl, h15⟩ := gI_ok h14; obtain ⟨x15, ls16, rfl, h16⟩ := gI_ok h15; obtain ⟨x16, ls17, rfl, h17⟩ := gI_ok h16; obtain ⟨x17, ls18, rfl, h18⟩ := gI_ok h17; obtain ⟨x18, ls19, rfl, h19⟩ := gI_ok h18; obtain ⟨x19, ls20, rfl, h20⟩ := gI_ok h19; obtain ⟨x20, ls21, rfl, h21⟩ := gI_ok h20; obtain ⟨x21, ls22, rfl, h22⟩ := gI_ok h21; obtain ⟨x22, ls23, rfl, h23⟩ := gI_ok h22; obtain ⟨x23, ls24, rfl, h24⟩ := gI_ok h23; obtain ⟨x24, ls25, rfl, h25⟩ := gI_ok h24; obtain ⟨x25, ls26, rfl, h26⟩ := gI_ok h25; obtain ⟨x26, ls27, rfl, h27⟩ := gI_ok h26; obtain ⟨x27, ls28, rfl, h28⟩ := gI_ok h27; obtain ⟨x28, ls29, rfl, h29⟩ := gI_ok h28; obtain ⟨x29, ls30, rfl, h30⟩ := gI_ok h29; obtain ⟨x30, ls31, rfl, h31⟩ := gI_ok h30; obtain ⟨x31, ls32, rfl, h32⟩ := gI_ok h31; obtain ⟨x32, ls33, rfl, h33⟩ := gI_ok h32; obtain ⟨x33, ls34, rfl, h34⟩ := gI_ok h33; obtain ⟨x34, ls35, rfl, h35⟩ := gI_ok h34; obtain ⟨x35, ls36, rfl, h36⟩ := gI_ok h35; obtain ⟨x36, ls37, rfl, h37⟩ := gI_ok h36; obtain ⟨x37, ls38, rfl, h38⟩ := gL_ok h37; obtain ⟨rfl, h39⟩ := gE_ok h38
    exact (e38_0 n x0 x1 x2 x3 x4 x5 x6 x7 x8 x9 x10 x11 x12 x13 x14 x15 x16 x17 x18 x19 x20 x21 x22 x23 x24 x25 x26 x27 x28 x29 x30 x31 x32 x33 x34 x35 x36 x37).trans h39
theorem sp38 {n : Nat} (a0 : Int) (a1 : List (Int)) {y : Si19l} (h : F38 n a0 a1 = some y) : SpecF T Try.prog 38 pa38 [.i a0, .l [.int .i64] a1] sr38 (ofB38 y) :=
  fun_ok (X := X38) tok (sfok_of ⟨ok21, trivial⟩) mixed 38 8 cuts38 rfl toB38_ok ⟨c38_0, trivial⟩ ((e38 n a0 a1).trans h)
theorem ok38 {R : Type} : SFone T Try.prog 38 (run38 : SF R) := by
  intro ls K r h
  simp only [run38] at h
  obtain ⟨a0, ls1, rfl, h1⟩ := gI_ok h; obtain ⟨a1, ls2, rfl, h2⟩ := gL_ok h1; obtain ⟨rfl, h3⟩ := gE_ok h2
  obtain ⟨y, k1, k2⟩ := Option.bind_eq_some_iff.1 h3
  exact ⟨_, k2, sp38 a0 a1 k1⟩

/-! ### garland/garlandlaw15.nine -/
def pa24 : List VP := []
def sr24 : RShape := ⟨.agg [.i .i64, .row 0, .nil, .i .i64, .i .i64, .i .i64, .i .i64, .i .i64, .i .i64, .i .i64, .i .i64, .i .i64, .i .i64, .i .i64, .i .i64, .i .i64, .i .i64, .i .i64, .i .i64, .i .i64], [.row true [.int .i64]], none⟩
def toB24 : List Leaf → Option (Si18l) := gI (fun b0 => gI (fun b1 => gI (fun b2 => gI (fun b3 => gI (fun b4 => gI (fun b5 => gI (fun b6 => gI (fun b7 => gI (fun b8 => gI (fun b9 => gI (fun b10 => gI (fun b11 => gI (fun b12 => gI (fun b13 => gI (fun b14 => gI (fun b15 => gI (fun b16 => gI (fun b17 => gL [.int .i64] (fun b18 => gE (some ⟨b0, b1, b2, b3, b4, b5, b6, b7, b8, b9, b10, b11, b12, b13, b14, b15, b16, b17, b18⟩))))))))))))))))))))
def ofB24 (y : Si18l) : List Leaf := [.i y.q0, .i y.q1, .i y.q2, .i y.q3, .i y.q4, .i y.q5, .i y.q6, .i y.q7, .i y.q8, .i y.q9, .i y.q10, .i y.q11, .i y.q12, .i y.q13, .i y.q14, .i y.q15, .i y.q16, .i y.q17, .l [.int .i64] y.q18]
theorem toB24_ok : ∀ ls b, toB24 ls = some b → ls = ofB24 b := by
  intro ls b h
  unfold toB24 at h
  obtain ⟨b0, ls1, rfl, h1⟩ := gI_ok h; obtain ⟨b1, ls2, rfl, h2⟩ := gI_ok h1; obtain ⟨b2, ls3, rfl, h3⟩ := gI_ok h2; obtain ⟨b3, ls4, rfl, h4⟩ := gI_ok h3; obtain ⟨b4, ls5, rfl, h5⟩ := gI_ok h4; obtain ⟨b5, ls6, rfl, h6⟩ := gI_ok h5; obtain ⟨b6, ls7, rfl, h7⟩ := gI_ok h6; obtain ⟨b7, ls8, rfl, h8⟩ := gI_ok h7; obtain ⟨b8, ls9, rfl, h9⟩ := gI_ok h8; obtain ⟨b9, ls10, rfl, h10⟩ := gI_ok h9; obtain ⟨b10, ls11, rfl, h11⟩ := gI_ok h10; obtain ⟨b11, ls12, rfl, h12⟩ := gI_ok h11; obtain ⟨b12, ls13, rfl, h13⟩ := gI_ok h12; obtain ⟨b13, ls14, rfl, h14⟩ := gI_ok h13; obtain ⟨b14, ls15, rfl, h15⟩ := gI_ok h14; obtain ⟨b15, ls16, rfl, h16⟩ := gI_ok h15; obtain ⟨b16, ls17, rfl, h17⟩ := gI_ok h16; obtain ⟨b17, ls18, rfl, h18⟩ := gI_ok h17; obtain ⟨b18, ls19, rfl, h19⟩ := gL_ok h18; obtain ⟨rfl, h20⟩ := gE_ok h19
  cases h20; rfl
def run24 {R : Type} : SF R := ⟨pa24, sr24, fun ls K => (gE (Option.bind (F24 FUEL ) fun y => K (ofB24 y))) ls⟩
def cuts24 : List (List Nat × Cut (Si18l)) := []
noncomputable def X24 : Px (Si18l) := ⟨T, Try.prog, lkF [(38, run38)], mkCuts 24 cuts24, altN, altN_ok⟩
theorem e24 (n : Nat) : entF X24 8 24 pa24 (endK sr24 toB24) n [] = F24 n  := by kernel_rfl
theorem sp24 {n : Nat} {y : Si18l} (h : F24 n  = some y) : SpecF T Try.prog 24 pa24 [] sr24 (ofB24 y) :=
  fun_ok (X := X24) tok (sfok_of ⟨ok38, trivial⟩) mixed 24 8 cuts24 rfl toB24_ok trivial ((e24 n ).trans h)
theorem ok24 {R : Type} : SFone T Try.prog 24 (run24 : SF R) := by
  intro ls K r h
  simp only [run24] at h
  obtain ⟨rfl, h1⟩ := gE_ok h
  obtain ⟨y, k1, k2⟩ := Option.bind_eq_some_iff.1 h1
  exact ⟨_, k2, sp24  k1⟩

/-! ### slices.Clone[[]int,int] -/
def pa46 : List VP := [.sl false [.int .i64]]
def sr46 : RShape := ⟨.row 0, [.row true [.int .i64]], none⟩
def toB46 : List Leaf → Option ((List (Int))) := gL [.int .i64] (fun b0 => gE (some b0))
def ofB46 (y : (List (Int))) : List Leaf := [.l [.int .i64] y]
theorem toB46_ok : ∀ ls b, toB46 ls = some b → ls = ofB46 b := by
  intro ls b h
  unfold toB46 at h
  obtain ⟨b0, ls1, rfl, h1⟩ := gL_ok h; obtain ⟨rfl, h2⟩ := gE_ok h1
  cases h2; rfl
def run46 {R : Type} : SF R := ⟨pa46, sr46, fun ls K => (gL [.int .i64] (fun a0 => gE (Option.bind (F46 FUEL a0) fun y => K (ofB46 y)))) ls⟩
def cuts46 : List (List Nat × Cut ((List (Int)))) := []
noncomputable def X46 : Px ((List (Int))) := ⟨T, Try.prog, lkF [], mkCuts 46 cuts46, altE, altE_ok⟩
theorem e46 (n : Nat) (a0 : List (Int)) : entF X46 8 46 pa46 (endK sr46 toB46) n [.l [.int .i64] a0] = F46 n a0 := by kernel_rfl
theorem sp46 {n : Nat} (a0 : List (Int)) {y : (List (Int))} (h : F46 n a0 = some y) : SpecF T Try.prog 46 pa46 [.l [.int .i64] a0] sr46 (ofB46 y) :=
  fun_ok (X := X46) tok (sfok_of trivial) mixed 46 8 cuts46 rfl toB46_ok trivial ((e46 n a0).trans h)
theorem ok46 {R : Type} : SFone T Try.prog 46 (run46 : SF R) := by
  intro ls K r h
  simp only [run46] at h
  obtain ⟨a0, ls1, rfl, h1⟩ := gL_ok h; obtain ⟨rfl, h2⟩ := gE_ok h1
  obtain ⟨y, k1, k2⟩ := Option.bind_eq_some_iff.1 h2
  exact ⟨_, k2, sp46 a0 k1⟩

/-! ### garland/view.Own -/
def pa29 : List VP := [.agg [.i .i64, .sl false [.int .i64], .sl false [.int .i64], .i .i64, .i .i64, .i .i64, .i .i64, .i .i64, .i .i64, .i .i64, .i .i64, .i .i64, .i .i64, .i .i64, .i .i64, .i .i64, .i .i64, .i .i64, .i .i64, .i .i64]]
def sr29 : RShape := ⟨.agg [.i .i64, .row 0, .row 1, .i .i64, .i .i64, .i .i64, .i .i64, .i .i64, .i .i64, .i .i64, .i .i64, .i .i64, .i .i64, .i .i64, .i .i64, .i .i64, .i .i64, .i .i64, .i .i64, .i .i64], [.row true [.int .i64], .row true [.int .i64]], none⟩
def toB29 : List Leaf → Option (Si18l2) := gI (fun b0 => gI (fun b1 => gI (fun b2 => gI (fun b3 => gI (fun b4 => gI (fun b5 => gI (fun b6 => gI (fun b7 => gI (fun b8 => gI (fun b9 => gI (fun b10 => gI (fun b11 => gI (fun b12 => gI (fun b13 => gI (fun b14 => gI (fun b15 => gI (fun b16 => gI (fun b17 => gL [.int .i64] (fun b18 => gL [.int .i64] (fun b19 => gE (some ⟨b0, b1, b2, b3, b4, b5, b6, b7, b8, b9, b10, b11, b12, b13, b14, b15, b16, b17, b18, b19⟩)))))))))))))))))))))
def ofB29 (y : Si18l2) : List Leaf := [.i y.q0, .i y.q1, .i y.q2, .i y.q3, .i y.q4, .i y.q5, .i y.q6, .i y.q7, .i y.q8, .i y.q9, .i y.q10, .i y.q11, .i y.q12, .i y.q13, .i y.q14, .i y.q15, .i y.q16, .i y.q17, .l [.int .i64] y.q18, .l [.int .i64] y.q19]
theorem toB29_ok : ∀ ls b, toB29 ls = some b → ls = ofB29 b := by
  intro ls b h
  unfold toB29 at h
  obtain ⟨b0, ls1, rfl, h1⟩ := gI_ok h; obtain ⟨b1, ls2, rfl, h2⟩ := gI_ok h1; obtain ⟨b2, ls3, rfl, h3⟩ := gI_ok h2; obtain ⟨b3, ls4, rfl, h4⟩ := gI_ok h3; obtain ⟨b4, ls5, rfl, h5⟩ := gI_ok h4; obtain ⟨b5, ls6, rfl, h6⟩ := gI_ok h5; obtain ⟨b6, ls7, rfl, h7⟩ := gI_ok h6; obtain ⟨b7, ls8, rfl, h8⟩ := gI_ok h7; obtain ⟨b8, ls9, rfl, h9⟩ := gI_ok h8; obtain ⟨b9, ls10, rfl, h10⟩ := gI_ok h9; obtain ⟨b10, ls11, rfl, h11⟩ := gI_ok h10; obtain ⟨b11, ls12, rfl, h12⟩ := gI_ok h11; obtain ⟨b12, ls13, rfl, h13⟩ := gI_ok h12; obtain ⟨b13, ls14, rfl, h14⟩ := gI_ok h13; obtain ⟨b14, ls15, rfl, h15⟩ := gI_ok h14; obtain ⟨b15, ls16, rfl, h16⟩ := gI_ok h15; obtain ⟨b16, ls17, rfl, h17⟩ := gI_ok h16; obtain ⟨b17, ls18, rfl, h18⟩ := gI_ok h17; obtain ⟨b18, ls19, rfl, h19⟩ := gL_ok h18; obtain ⟨b19, ls20, rfl, h20⟩ := gL_ok h19; obtain ⟨rfl, h21⟩ := gE_ok h20
  cases h21; rfl
def run29 {R : Type} : SF R := ⟨pa29, sr29, fun ls K => (gI (fun a0 => gL [.int .i64] (fun a1 => gL [.int .i64] (fun a2 => gI (fun a3 => gI (fun a4 => gI (fun a5 => gI (fun a6 => gI (fun a7 => gI (fun a8 => gI (fun a9 => gI (fun a10 => gI (fun a11 => gI (fun a12 => gI (fun a13 => gI (fun a14 => gI (fun a15 => gI (fun a16 => gI (fun a17 => gI (fun a18 => gI (fun a19 => gE (Option.bind (F29 FUEL a0 a1 a2 a3 a4 a5 a6 a7 a8 a9 a10 a11 a12 a13 a14 a15 a16 a17 a18 a19) fun y => K (ofB29 y))))))))))))))))))))))) ls⟩
def cuts29 : List (List Nat × Cut (Si18l2)) := []
noncomputable def X29 : Px (Si18l2) := ⟨T, Try.prog, lkF [(46, run46)], mkCuts 29 cuts29, altN, altN_ok⟩
theorem e29 (n : Nat) (a0 : Int) (a1 : List (Int)) (a2 : List (Int)) (a3 : Int) (a4 : Int) (a5 : Int) (a6 : Int) (a7 : Int) (a8 : Int) (a9 : Int) (a10 : Int) (a11 : Int) (a12 : Int) (a13 : Int) (a14 : Int) (a15 : Int) (a16 : Int) (a17 : Int) (a18 : Int) (a19 : Int) : entF X29 8 29 pa29 (endK sr29 toB29) n [.i a0, .l [.int .i64] a1, .l [.int .i64] a2, .i a3, .i a4, .i a5, .i a6, .i a7, .i a8, .i a9, .i a10, .i a11, .i a12, .i a13, .i a14, .i a15, .i a16, .i a17, .i a18, .i a19] = F29 n a0 a1 a2 a3 a4 a5 a6 a7 a8 a9 a10 a11 a12 a13 a14 a15 a16 a17 a18 a19 := by kernel_rfl
theorem sp29 {n : Nat} (a0 : Int) (a1 : List (Int)) (a2 : List (Int)) (a3 : Int) (a4 : Int) (a5 : Int) (a6 : Int) (a7 : Int) (a8 : Int) (a9 : Int) (a10 : Int) (a11 : Int) (a12 : Int) (a13 : Int) (a14 : Int) (a15 : Int) (a16 : Int) (a17 : Int) (a18 : Int) (a19 : Int) {y : Si18l2} (h : F29 n a0 a1 a2 a3 a4 a5 a6 a7 a8 a9 a10 a11 a12 a13 a14 a15 a16 a17 a18 a19 = some y) : SpecF T Try.prog 29 pa29 [.i a0, .l [.int .i64] a1, .l [.int .i64] a2, .i a3, .i a4, .i a5, .i a6, .i a7, .i a8, .i a9, .i a10, .i a11, .i a12, .i a13, .i a14, .i a15, .i a16, .i a17, .i a18, .i a19] sr29 (ofB29 y) :=
  fun_ok (X := X29) tok (sfok_of ⟨ok46, trivial⟩) mixed 29 8 cuts29 rfl toB29_ok trivial ((e29 n a0 a1 a2 a3 a4 a5 a6 a7 a8 a9 a10 a11 a12 a13 a14 a15 a16 a17 a18 a19).trans h)
theorem ok29 {R : Type} : SFone T Try.prog 29 (run29 : SF R) := by
  intro ls K r h
  simp only [run29] at h
  obtain ⟨a0, ls1, rfl, h1⟩ := gI_ok h; obtain ⟨a1, ls2, rfl, h2⟩ := gL_ok h1; obtain ⟨a2, ls3, rfl, h3⟩ := gL_ok h2; obtain ⟨a3, ls4, rfl, h4⟩ := gI_ok h3; obtain ⟨a4, ls5, rfl, h5⟩ := gI_ok h4; obtain ⟨a5, ls6, rfl, h6⟩ := gI_ok h5; obtain ⟨a6, ls7, rfl, h7⟩ := gI_ok h6; obtain ⟨a7, ls8, rfl, h8⟩ := gI_ok h7; obtain ⟨a8, ls9, rfl, h9⟩ := gI_ok h8; obtain ⟨a9, ls10, rfl, h10⟩ := gI_ok h9; obtain ⟨a10, ls11, rfl, h11⟩ := gI_ok h10; obtain ⟨a11, ls12, rfl, h12⟩ := gI_ok h11; obtain ⟨a12, ls13, rfl, h13⟩ := gI_ok h12; obtain ⟨a13, ls14, rfl, h14⟩ := gI_ok h13; obtain ⟨a14, ls15, rfl, h15⟩ := gI_ok h14; obtain ⟨a15, ls16, rfl, h16⟩ := gI_ok h15; obtain ⟨a16, ls17, rfl, h17⟩ := gI_ok h16; obtain ⟨a17, ls18, rfl, h18⟩ := gI_ok h17; obtain ⟨a18, ls19, rfl, h19⟩ := gI_ok h18; obtain ⟨a19, ls20, rfl, h20⟩ := gI_ok h19; obtain ⟨rfl, h21⟩ := gE_ok h20
  obtain ⟨y, k1, k2⟩ := Option.bind_eq_some_iff.1 h21
  exact ⟨_, k2, sp29 a0 a1 a2 a3 a4 a5 a6 a7 a8 a9 a10 a11 a12 a13 a14 a15 a16 a17 a18 a19 k1⟩

/-! ### garland/rect.isPlace -/
def pa44 : List VP := [.i .i64]
def sr44 : RShape := ⟨.b, [], none⟩
def toB44 : List Leaf → Option (Bool) := gB (fun b0 => gE (some b0))
def ofB44 (y : Bool) : List Leaf := [.b y]
theorem toB44_ok : ∀ ls b, toB44 ls = some b → ls = ofB44 b := by
  intro ls b h
  unfold toB44 at h
  obtain ⟨b0, ls1, rfl, h1⟩ := gB_ok h; obtain ⟨rfl, h2⟩ := gE_ok h1
  cases h2; rfl
def run44 {R : Type} : SF R := ⟨pa44, sr44, fun ls K => (gI (fun a0 => gE (Option.bind (F44 FUEL a0) fun y => K (ofB44 y)))) ls⟩
def cuts44 : List (List Nat × Cut (Bool)) := []
noncomputable def X44 : Px (Bool) := ⟨T, Try.prog, lkF [], mkCuts 44 cuts44, altN, altN_ok⟩
theorem e44 (n : Nat) (a0 : Int) : entF X44 8 44 pa44 (endK sr44 toB44) n [.i a0] = F44 n a0 := by kernel_rfl
theorem sp44 {n : Nat} (a0 : Int) {y : Bool} (h : F44 n a0 = some y) : SpecF T Try.prog 44 pa44 [.i a0] sr44 (ofB44 y) :=
  fun_ok (X := X44) tok (sfok_of trivial) mixed 44 8 cuts44 rfl toB44_ok trivial ((e44 n a0).trans h)
theorem ok44 {R : Type} : SFone T Try.prog 44 (run44 : SF R) := by
  intro ls K r h
  simp only [run44] at h
  obtain ⟨a0, ls1, rfl, h1⟩ := gI_ok h; obtain ⟨rfl, h2⟩ := gE_ok h1
  obtain ⟨y, k1, k2⟩ := Option.bind_eq_some_iff.1 h2
  exact ⟨_, k2, sp44 a0 k1⟩

/-! ### garland/arc.Place -/
def pa48 : List VP := [.i .i64]
def sr48 : RShape := ⟨.i .i64, [], none⟩
def toB48 : List Leaf → Option (Int) := gI (fun b0 => gE (some b0))
def ofB48 (y : Int) : List Leaf := [.i y]
theorem toB48_ok : ∀ ls b, toB48 ls = some b → ls = ofB48 b := by
  intro ls b h
  unfold toB48 at h
  obtain ⟨b0, ls1, rfl, h1⟩ := gI_ok h; obtain ⟨rfl, h2⟩ := gE_ok h1
  cases h2; rfl
def run48 {R : Type} : SF R := ⟨pa48, sr48, fun ls K => (gI (fun a0 => gE (Option.bind (F48 FUEL a0) fun y => K (ofB48 y)))) ls⟩
def cuts48 : List (List Nat × Cut (Int)) := []
noncomputable def X48 : Px (Int) := ⟨T, Try.prog, lkF [], mkCuts 48 cuts48, altN, altN_ok⟩
theorem e48 (n : Nat) (a0 : Int) : entF X48 8 48 pa48 (endK sr48 toB48) n [.i a0] = F48 n a0 := by kernel_rfl
theorem sp48 {n : Nat} (a0 : Int) {y : Int} (h : F48 n a0 = some y) : SpecF T Try.prog 48 pa48 [.i a0] sr48 (ofB48 y) :=
  fun_ok (X := X48) tok (sfok_of trivial) mixed 48 8 cuts48 rfl toB48_ok trivial ((e48 n a0).trans h)
theorem ok48 {R : Type} : SFone T Try.prog 48 (run48 : SF R) := by
  intro ls K r h
  simp only [run48] at h
  obtain ⟨a0, ls1, rfl, h1⟩ := gI_ok h; obtain ⟨rfl, h2⟩ := gE_ok h1
  obtain ⟨y, k1, k2⟩ := Option.bind_eq_some_iff.1 h2
  exact ⟨_, k2, sp48 a0 k1⟩

/-! ### garland/arc.Far -/
def pa54 : List VP := [.i .i64, .i .i64]
def sr54 : RShape := ⟨.i .i64, [], none⟩
def toB54 : List Leaf → Option (Int) := gI (fun b0 => gE (some b0))
def ofB54 (y : Int) : List Leaf := [.i y]
theorem toB54_ok : ∀ ls b, toB54 ls = some b → ls = ofB54 b := by
  intro ls b h
  unfold toB54 at h
  obtain ⟨b0, ls1, rfl, h1⟩ := gI_ok h; obtain ⟨rfl, h2⟩ := gE_ok h1
  cases h2; rfl
def run54 {R : Type} : SF R := ⟨pa54, sr54, fun ls K => (gI (fun a0 => gI (fun a1 => gE (Option.bind (F54 FUEL a0 a1) fun y => K (ofB54 y))))) ls⟩
def cuts54 : List (List Nat × Cut (Int)) := []
noncomputable def X54 : Px (Int) := ⟨T, Try.prog, lkF [(48, run48)], mkCuts 54 cuts54, altN, altN_ok⟩
theorem e54 (n : Nat) (a0 : Int) (a1 : Int) : entF X54 8 54 pa54 (endK sr54 toB54) n [.i a0, .i a1] = F54 n a0 a1 := by kernel_rfl
theorem sp54 {n : Nat} (a0 : Int) (a1 : Int) {y : Int} (h : F54 n a0 a1 = some y) : SpecF T Try.prog 54 pa54 [.i a0, .i a1] sr54 (ofB54 y) :=
  fun_ok (X := X54) tok (sfok_of ⟨ok48, trivial⟩) mixed 54 8 cuts54 rfl toB54_ok trivial ((e54 n a0 a1).trans h)
theorem ok54 {R : Type} : SFone T Try.prog 54 (run54 : SF R) := by
  intro ls K r h
  simp only [run54] at h
  obtain ⟨a0, ls1, rfl, h1⟩ := gI_ok h; obtain ⟨a1, ls2, rfl, h2⟩ := gI_ok h1; obtain ⟨rfl, h3⟩ := gE_ok h2
  obtain ⟨y, k1, k2⟩ := Option.bind_eq_some_iff.1 h3
  exact ⟨_, k2, sp54 a0 a1 k1⟩

/-! ### garland/arc.In -/
def pa45 : List VP := [.i .i64, .i .i64, .i .i64]
def sr45 : RShape := ⟨.b, [], none⟩
def toB45 : List Leaf → Option (Bool) := gB (fun b0 => gE (some b0))
def ofB45 (y : Bool) : List Leaf := [.b y]
theorem toB45_ok : ∀ ls b, toB45 ls = some b → ls = ofB45 b := by
  intro ls b h
  unfold toB45 at h
  obtain ⟨b0, ls1, rfl, h1⟩ := gB_ok h; obtain ⟨rfl, h2⟩ := gE_ok h1
  cases h2; rfl
def run45 {R : Type} : SF R := ⟨pa45, sr45, fun ls K => (gI (fun a0 => gI (fun a1 => gI (fun a2 => gE (Option.bind (F45 FUEL a0 a1 a2) fun y => K (ofB45 y)))))) ls⟩
def cuts45 : List (List Nat × Cut (Bool)) := []
noncomputable def X45 : Px (Bool) := ⟨T, Try.prog, lkF [(54, run54)], mkCuts 45 cuts45, altN, altN_ok⟩
theorem e45 (n : Nat) (a0 : Int) (a1 : Int) (a2 : Int) : entF X45 8 45 pa45 (endK sr45 toB45) n [.i a0, .i a1, .i a2] = F45 n a0 a1 a2 := by kernel_rfl
theorem sp45 {n : Nat} (a0 : Int) (a1 : Int) (a2 : Int) {y : Bool} (h : F45 n a0 a1 a2 = some y) : SpecF T Try.prog 45 pa45 [.i a0, .i a1, .i a2] sr45 (ofB45 y) :=
  fun_ok (X := X45) tok (sfok_of ⟨ok54, trivial⟩) mixed 45 8 cuts45 rfl toB45_ok trivial ((e45 n a0 a1 a2).trans h)
theorem ok45 {R : Type} : SFone T Try.prog 45 (run45 : SF R) := by
  intro ls K r h
  simp only [run45] at h
  obtain ⟨a0, ls1, rfl, h1⟩ := gI_ok h; obtain ⟨a1, ls2, rfl, h2⟩ := gI_ok h1; obtain ⟨a2, ls3, rfl, h3⟩ := gI_ok h2; obtain ⟨rfl, h4⟩ := gE_ok h3
  obtain ⟨y, k1, k2⟩ := Option.bind_eq_some_iff.1 h4
  exact ⟨_, k2, sp45 a0 a1 a2 k1⟩

/-! ### garland/view.isPlace -/
def pa39 : List VP := [.i .i64]
def sr39 : RShape := ⟨.b, [], none⟩
def toB39 : List Leaf → Option (Bool) := gB (fun b0 => gE (some b0))
def ofB39 (y : Bool) : List Leaf := [.b y]
theorem toB39_ok : ∀ ls b, toB39 ls = some b → ls = ofB39 b := by
  intro ls b h
  unfold toB39 at h
  obtain ⟨b0, ls1, rfl, h1⟩ := gB_ok h; obtain ⟨rfl, h2⟩ := gE_ok h1
  cases h2; rfl
def run39 {R : Type} : SF R := ⟨pa39, sr39, fun ls K => (gI (fun a0 => gE (Option.bind (F39 FUEL a0) fun y => K (ofB39 y)))) ls⟩
def cuts39 : List (List Nat × Cut (Bool)) := []
noncomputable def X39 : Px (Bool) := ⟨T, Try.prog, lkF [], mkCuts 39 cuts39, altN, altN_ok⟩
theorem e39 (n : Nat) (a0 : Int) : entF X39 8 39 pa39 (endK sr39 toB39) n [.i a0] = F39 n a0 := by kernel_rfl
theorem sp39 {n : Nat} (a0 : Int) {y : Bool} (h : F39 n a0 = some y) : SpecF T Try.prog 39 pa39 [.i a0] sr39 (ofB39 y) :=
  fun_ok (X := X39) tok (sfok_of trivial) mixed 39 8 cuts39 rfl toB39_ok trivial ((e39 n a0).trans h)
theorem ok39 {R : Type} : SFone T Try.prog 39 (run39 : SF R) := by
  intro ls K r h
  simp only [run39] at h
  obtain ⟨a0, ls1, rfl, h1⟩ := gI_ok h; obtain ⟨rfl, h2⟩ := gE_ok h1
  obtain ⟨y, k1, k2⟩ := Option.bind_eq_some_iff.1 h2
  exact ⟨_, k2, sp39 a0 k1⟩

/-! ### garland/view.rightBase -/
def pa40 : List VP := [.sl false [.int .i64]]
def sr40 : RShape := ⟨.b, [], none⟩
def toB40 : List Leaf → Option (Bool) := gB (fun b0 => gE (some b0))
def ofB40 (y : Bool) : List Leaf := [.b y]
theorem toB40_ok : ∀ ls b, toB40 ls = some b → ls = ofB40 b := by
  intro ls b h
  unfold toB40 at h
  obtain ⟨b0, ls1, rfl, h1⟩ := gB_ok h; obtain ⟨rfl, h2⟩ := gE_ok h1
  cases h2; rfl
def run40 {R : Type} : SF R := ⟨pa40, sr40, fun ls K => (gL [.int .i64] (fun a0 => gE (Option.bind (F40 FUEL a0) fun y => K (ofB40 y)))) ls⟩
def sh40_0 : Shape := ⟨[(37, [(0, .sl false [.int .i64]), (13, .sl false [.int .i64]), (14, .i .i64), (15, .i .i64)])], []⟩
def g40_0 (n : Nat) : List Leaf → Option (Bool) := gL [.int .i64] (fun x0 => gL [.int .i64] (fun x1 => gI (fun x2 => gI (fun x3 => gE (F40_c0 n x0 x1 x2 x3)))))
def cuts40 : List (List Nat × Cut (Bool)) := [([1, 1, 0, 1, 0], ⟨sh40_0, g40_0⟩)]
noncomputable def X40 : Px (Bool) := ⟨T, Try.prog, lkF [(39, run39)], mkCuts 40 cuts40, altN, altN_ok⟩
theorem e40_0 (n : Nat) (x0 : List (Int)) (x1 : List (Int)) (x2 : Int) (x3 : Int) : stepF X40 8 40 (endK sr40 toB40) [1, 1, 0, 1, 0] sh40_0 n [.l [.int .i64] x0, .l [.int .i64] x1, .i x2, .i x3] = F40_c0 (n + 1) x0 x1 x2 x3 := by kernel_rfl
theorem e40 (n : Nat) (a0 : List (Int)) : entF X40 8 40 pa40 (endK sr40 toB40) n [.l [.int .i64] a0] = F40 n a0 := by kernel_rfl
theorem c40_0 : CutOK X40 8 40 (endK sr40 toB40) [1, 1, 0, 1, 0] ⟨sh40_0, g40_0⟩ := by
  refine ⟨fun ls => ?_, fun n ls r h => ?_⟩
  · cases h : g40_0 0 ls with
    | none => exact h
    | some r =>
      unfold g40_0 at h; obtain ⟨x0, ls1, rfl, h1⟩ := gL_ok h; obtain ⟨x1, ls2, rfl, h2⟩ := gL_ok h1; obtain ⟨x2, ls3, rfl, h3⟩ := gI_ok h2; obtain ⟨x3, ls4, rfl, h4⟩ := gI_ok h3; obtain ⟨rfl, h5⟩ := gE_ok h4; simp only [F40_c0] at h5; cases h5
  · replace h : g40_0 (n + 1) ls = some r := h
    unfold g40_0 at h
    obtain ⟨x0, ls1, rfl, h1⟩ := gL_ok h; obtain ⟨x1, ls2, rfl, h2⟩ := gL_ok h1; obtain ⟨x2, ls3, rfl, h3⟩ := gI_ok h2; obtain ⟨x3, ls4, rfl, h4⟩ := gI_ok h3; obtain ⟨rfl, h5⟩ := gE_ok h4
    exact (e40_0 n x0 x1 x2 x3).trans h5
theorem sp40 {n : Nat} (a0 : List (Int)) {y : Bool} (h : F40 n a0 = some y) : SpecF T Try.prog 40 pa40 [.l [.int .i64] a0] sr40 (ofB40 y) :=
  fun_ok (X := X40) tok (sfok_of ⟨ok39, trivial⟩) mixed 40 8 cuts40 rfl toB40_ok ⟨c40_0, trivial⟩ ((e40 n a0).trans h)
theorem ok40 {R : Type} : SFone T Try.prog 40 (run40 : SF R) := by
  intro ls K r h
  simp only [run40] at h
  obtain ⟨a0, ls1, rfl, h1⟩ := gL_ok h; obtain ⟨rfl, h2⟩ := gE_ok h1
  obtain ⟨y, k1, k2⟩ := Option.bind_eq_some_iff.1 h2
  exact ⟨_, k2, sp40 a0 k1⟩

/-! ### garland/list.isPlace -/
def pa53 : List VP := [.i .i64]
def sr53 : RShape := ⟨.b, [], none⟩
def toB53 : List Leaf → Option (Bool) := gB (fun b0 => gE (some b0))
def ofB53 (y : Bool) : List Leaf := [.b y]
theorem toB53_ok : ∀ ls b, toB53 ls = some b → ls = ofB53 b := by
  intro ls b h
  unfold toB53 at h
  obtain ⟨b0, ls1, rfl, h1⟩ := gB_ok h; obtain ⟨rfl, h2⟩ := gE_ok h1
  cases h2; rfl
def run53 {R : Type} : SF R := ⟨pa53, sr53, fun ls K => (gI (fun a0 => gE (Option.bind (F53 FUEL a0) fun y => K (ofB53 y)))) ls⟩
def cuts53 : List (List Nat × Cut (Bool)) := []
noncomputable def X53 : Px (Bool) := ⟨T, Try.prog, lkF [], mkCuts 53 cuts53, altN, altN_ok⟩
theorem e53 (n : Nat) (a0 : Int) : entF X53 8 53 pa53 (endK sr53 toB53) n [.i a0] = F53 n a0 := by kernel_rfl
theorem sp53 {n : Nat} (a0 : Int) {y : Bool} (h : F53 n a0 = some y) : SpecF T Try.prog 53 pa53 [.i a0] sr53 (ofB53 y) :=
  fun_ok (X := X53) tok (sfok_of trivial) mixed 53 8 cuts53 rfl toB53_ok trivial ((e53 n a0).trans h)
theorem ok53 {R : Type} : SFone T Try.prog 53 (run53 : SF R) := by
  intro ls K r h
  simp only [run53] at h
  obtain ⟨a0, ls1, rfl, h1⟩ := gI_ok h; obtain ⟨rfl, h2⟩ := gE_ok h1
  obtain ⟨y, k1, k2⟩ := Option.bind_eq_some_iff.1 h2
  exact ⟨_, k2, sp53 a0 k1⟩

/-! ### garland/list.Right -/
def pa41 : List VP := [.i .i64, .sl false [.int .i64]]
def sr41 : RShape := ⟨.b, [], none⟩
def toB41 : List Leaf → Option (Bool) := gB (fun b0 => gE (some b0))
def ofB41 (y : Bool) : List Leaf := [.b y]
theorem toB41_ok : ∀ ls b, toB41 ls = some b → ls = ofB41 b := by
  intro ls b h
  unfold toB41 at h
  obtain ⟨b0, ls1, rfl, h1⟩ := gB_ok h; obtain ⟨rfl, h2⟩ := gE_ok h1
  cases h2; rfl
def run41 {R : Type} : SF R := ⟨pa41, sr41, fun ls K => (gI (fun a0 => gL [.int .i64] (fun a1 => gE (Option.bind (F41 FUEL a0 a1) fun y => K (ofB41 y))))) ls⟩
def sh41_0 : Shape := ⟨[(21, [(0, .yield 7), (4, .i .i64), (8, .sl false [.int .i64]), (9, .i .i64), (10, .i .i64)]), (29, [(2, .ref 0 0), (4, .ref 1 0)])], [.cells [.i .i64], .cells [.b]]⟩
def g41_0 (n : Nat) : List Leaf → Option (Bool) := gI (fun x0 => gL [.int .i64] (fun x1 => gI (fun x2 => gI (fun x3 => gI (fun x4 => gB (fun x5 => gE (F41_c0 n x0 x1 x2 x3 x4 x5)))))))
def cuts41 : List (List Nat × Cut (Bool)) := [([1, 1, 1, 0, 1, 0, 112, 1, 1, 0], ⟨sh41_0, g41_0⟩)]
noncomputable def X41 : Px (Bool) := ⟨T, Try.prog, lkF [(48, run48), (53, run53), (54, run54)], mkCuts 41 cuts41, altN, altN_ok⟩
theorem e41_0 (n : Nat) (x0 : Int) (x1 : List (Int)) (x2 : Int) (x3 : Int) (x4 : Int) (x5 : Bool) : stepF X41 8 41 (endK sr41 toB41) [1, 1, 1, 0, 1, 0, 112, 1, 1, 0] sh41_0 n [.i x0, .l [.int .i64] x1, .i x2, .i x3, .i x4, .b x5] = F41_c0 (n + 1) x0 x1 x2 x3 x4 x5 := by kernel_rfl
theorem e41 (n : Nat) (a0 : Int) (a1 : List (Int)) : entF X41 8 41 pa41 (endK sr41 toB41) n [.i a0, .l [.int .i64] a1] = F41 n a0 a1 := by kernel_rfl
theorem c41_0 : CutOK X41 8 41 (endK sr41 toB41) [1, 1, 1, 0, 1, 0, 112, 1, 1, 0] ⟨sh41_0, g41_0⟩ := by
  refine ⟨fun ls => ?_, fun n ls r h => ?_⟩
  · cases h : g41_0 0 ls with
    | none => exact h
    | some r =>
      unfold g41_0 at h; obtain ⟨x0, ls1, rfl, h1⟩ := gI_ok h; obtain ⟨x1, ls2, rfl, h2⟩ := gL_ok h1; obtain ⟨x2, ls3, rfl, h3⟩ := gI_ok h2; obtain ⟨x3, ls4, rfl, h4⟩ := gI_ok h3; obtain ⟨x4, ls5, rfl, h5⟩ := gI_ok h4; obtain ⟨x5, ls6, rfl, h6⟩ := gB_ok h5; obtain ⟨rfl, h7⟩ := gE_ok h6; simp only [F41_c0] at h7; cases h7
  · replace h : g41_0 (n + 1) ls = some r := h
    unfold g41_0 at h
    obtain ⟨x0, ls1, rfl, h1⟩ := gI_ok h; obtain ⟨x1, ls2, rfl, h2⟩ := gL_ok h1; obtain ⟨x2, ls3, rfl, h3⟩ := gI_ok h2; obtain ⟨x3, ls4, rfl, h4⟩ := gI_ok h3; obtain ⟨x4, ls5, rfl, h5⟩ := gI_ok h4; obtain ⟨x5, ls6, rfl, h6⟩ := gB_ok h5; obtain ⟨rfl, h7⟩ := gE_ok h6
    exact (e41_0 n x0 x1 x2 x3 x4 x5).trans h7
theorem sp41 {n : Nat} (a0 : Int) (a1 : List (Int)) {y : Bool} (h : F41 n a0 a1 = some y) : SpecF T Try.prog 41 pa41 [.i a0, .l [.int .i64] a1] sr41 (ofB41 y) :=
  fun_ok (X := X41) tok (sfok_of ⟨ok48, ok53, ok54, trivial⟩) mixed 41 8 cuts41 rfl toB41_ok ⟨c41_0, trivial⟩ ((e41 n a0 a1).trans h)
theorem ok41 {R : Type} : SFone T Try.prog 41 (run41 : SF R) := by
  intro ls K r h
  simp only [run41] at h
  obtain ⟨a0, ls1, rfl, h1⟩ := gI_ok h; obtain ⟨a1, ls2, rfl, h2⟩ := gL_ok h1; obtain ⟨rfl, h3⟩ := gE_ok h2
  obtain ⟨y, k1, k2⟩ := Option.bind_eq_some_iff.1 h3
  exact ⟨_, k2, sp41 a0 a1 k1⟩

/-! ### garland/view.Right -/
def pa25 : List VP := [.agg [.i .i64, .sl false [.int .i64], .sl false [.int .i64], .i .i64, .i .i64, .i .i64, .i .i64, .i .i64, .i .i64, .i .i64, .i .i64, .i .i64, .i .i64, .i .i64, .i .i64, .i .i64, .i .i64, .i .i64, .i .i64, .i .i64]]
def sr25 : RShape := ⟨.b, [], none⟩
def toB25 : List Leaf → Option (Bool) := gB (fun b0 => gE (some b0))
def ofB25 (y : Bool) : List Leaf := [.b y]
theorem toB25_ok : ∀ ls b, toB25 ls = some b → ls = ofB25 b := by
  intro ls b h
  unfold toB25 at h
  obtain ⟨b0, ls1, rfl, h1⟩ := gB_ok h; obtain ⟨rfl, h2⟩ := gE_ok h1
  cases h2; rfl
def run25 {R : Type} : SF R := ⟨pa25, sr25, fun ls K => (gI (fun a0 => gL [.int .i64] (fun a1 => gL [.int .i64] (fun a2 => gI (fun a3 => gI (fun a4 => gI (fun a5 => gI (fun a6 => gI (fun a7 => gI (fun a8 => gI (fun a9 => gI (fun a10 => gI (fun a11 => gI (fun a12 => gI (fun a13 => gI (fun a14 => gI (fun a15 => gI (fun a16 => gI (fun a17 => gI (fun a18 => gI (fun a19 => gE (Option.bind (F25 FUEL a0 a1 a2 a3 a4 a5 a6 a7 a8 a9 a10 a11 a12 a13 a14 a15 a16 a17 a18 a19) fun y => K (ofB25 y))))))))))))))))))))))) ls⟩
def sh25_0 : Shape := ⟨[(38, [])], []⟩
def g25_0 (n : Nat) : List Leaf → Option (Bool) := gE (F25_c0 n )
def sh25_1 : Shape := ⟨[(20, [(0, .yield 7), (11, .agg [.i .i64, .i .i64, .i .i64, .i .i64, .i .i64, .i .i64, .i .i64, .i .i64, .i .i64, .i .i64, .i .i64, .i .i64, .i .i64, .i .i64, .i .i64, .i .i64]), (12, .i .i64)]), (38, [(1, .ref 0 0)])], [.cells [.i .i64, .sl false [.int .i64], .sl false [.int .i64], .i .i64, .i .i64, .i .i64, .i .i64, .i .i64, .i .i64, .i .i64, .i .i64, .i .i64, .i .i64, .i .i64, .i .i64, .i .i64, .i .i64, .i .i64, .i .i64, .i .i64]]⟩
def g25_1 (n : Nat) : List Leaf → Option (Bool) := gI (fun x0 => gI (fun x1 => gI (fun x2 => gI (fun x3 => gI (fun x4 => gI (fun x5 => gI (fun x6 => gI (fun x7 => gI (fun x8 => gI (fun x9 => gI (fun x10 => gI (fun x11 => gI (fun x12 => gI (fun x13 => gI (fun x14 => gI (fun x15 => gI (fun x16 => gI (fun x17 => gL [.int .i64] (fun x18 => gL [.int .i64] (fun x19 => gI (fun x20 => gI (fun x21 => gI (fun x22 => gI (fun x23 => gI (fun x24 => gI (fun x25 => gI (fun x26 => gI (fun x27 => gI (fun x28 => gI (fun x29 => gI (fun x30 => gI (fun x31 => gI (fun x32 => gI (fun x33 => gI (fun x34 => gI (fun x35 => gI (fun x36 => gE (F25_c1 n x0 x1 x2 x3 x4 x5 x6 x7 x8 x9 x10 x11 x12 x13 x14 x15 x16 x17 x18 x19 x20 x21 x22 x23 x24 x25 x26 x27 x28 x29 x30 x31 x32 x33 x34 x35 x36))))))))))))))))))))))))))))))))))))))
def cuts25 : List (List Nat × Cut (Bool)) := [([1, 10], ⟨sh25_0, g25_0⟩), ([1, 0, 1, 0, 1, 0, 110, 1, 1, 0], ⟨sh25_1, g25_1⟩)]
noncomputable def X25 : Px (Bool) := ⟨T, Try.prog, lkF [(39, run39), (40, run40), (41, run41)], mkCuts 25 cuts25, altN, altN_ok⟩
theorem e25_0 (n : Nat) : stepF X25 8 25 (endK sr25 toB25) [1, 10] sh25_0 n [] = F25_c0 (n + 1)  := by kernel_rfl
theorem e25_1 (n : Nat) (x0 : Int) (x1 : Int) (x2 : Int) (x3 : Int) (x4 : Int) (x5 : Int) (x6 : Int) (x7 : Int) (x8 : Int) (x9 : Int) (x10 : Int) (x11 : Int) (x12 : Int) (x13 : Int) (x14 : Int) (x15 : Int) (x16 : Int) (x17 : Int) (x18 : List (Int)) (x19 : List (Int)) (x20 : Int) (x21 : Int) (x22 : Int) (x23 : Int) (x24 : Int) (x25 : Int) (x26 : Int) (x27 : Int) (x28 : Int) (x29 : Int) (x30 : Int) (x31 : Int) (x32 : Int) (x33 : Int) (x34 : Int) (x35 : Int) (x36 : Int) : stepF X25 8 25 (endK sr25 toB25) [1, 0, 1, 0, 1, 0, 110, 1, 1, 0] sh25_1 n [.i x0, .i x1, .i x2, .i x3, .i x4, .i x5, .i x6, .i x7, .i x8, .i x9, .i x10, .i x11, .i x12, .i x13, .i x14, .i x15, .i x16, .i x17, .l [.int .i64] x18, .l [.int .i64] x19, .i x20, .i x21, .i x22, .i x23, .i x24, .i x25, .i x26, .i x27, .i x28, .i x29, .i x30, .i x31, .i x32, .i x33, .i x34, .i x35, .i x36] = F25_c1 (n + 1) x0 x1 x2 x3 x4 x5 x6 x7 x8 x9 x10 x11 x12 x13 x14 x15 x16 x17 x18 x19 x20 x21 x22 x23 x24 x25 x26 x27 x28 x29 x30 x31 x32 x33 x34 x35 x36 := by kernel_rfl
theorem e25 (n : Nat) (a0 : Int) (a1 : List (Int)) (a2 : List (Int)) (a3 : Int) (a4 : Int) (a5 : Int) (a6 : Int) (a7 : Int) (a8 : Int) (a9 : Int) (a10 : Int) (a11 : Int) (a12 : Int) (a13 : Int) (a14 : Int) (a15 : Int) (a16 : Int) (a17 : Int) (a18 : Int) (a19 : Int) : entF X25 8 25 pa25 (endK sr25 toB25) n [.i a0, .l [.int .i64] a1, .l [.int .i64] a2, .i a3, .i a4, .i a5, .i a6, .i a7, .i a8, .i a9, .i a10, .i a11, .i a12, .i a13, .i a14, .i a15, .i a16, .i a17, .i a18, .i a19] = F25 n a0 a1 a2 a3 a4 a5 a6 a7 a8 a9 a10 a11 a12 a13 a14 a15 a16 a17 a18 a19 := by kernel_rfl
theorem c25_0 : CutOK X25 8 25 (endK sr25 toB25) [1, 10] ⟨sh25_0, g25_0⟩ := by
  refine ⟨fun ls => ?_, fun n ls r h => ?_⟩
  · cases h : g25_0 0 ls with
    | none => exact h
    | some r =>
      unfold g25_0 at h; obtain ⟨rfl, h1⟩ := gE_ok h; simp only [F25_c0] at h1; cases h1
  · replace h : g25_0 (n + 1) ls = some r := h
    unfold g25_0 at h
    obtain ⟨rfl, h1⟩ := gE_ok h
    exact (e25_0 n ).trans h1
theorem c25_1 : CutOK X25 8 25 (endK sr25 toB25) [1, 0, 1, 0, 1, 0, 110, 1, 1, 0] ⟨sh25_1, g25_1⟩ := by
  refine ⟨fun ls => ?_, fun n ls r h => ?_⟩
  · cases h : g25_1 0 ls with
    | none => exact h
    | some r =>
      unfold g25_1 at h; obtain ⟨x0, ls1, rfl, h1⟩ := gI_ok h; obtain ⟨x1, ls2, rfl, h2⟩ := gI_ok h1; obtain ⟨x2, ls3, rfl, h3⟩ := gI_ok h2; obtain ⟨x3, ls4, rfl, h4⟩ := gI_ok h3; obtain ⟨x4, ls5, rfl, h5⟩ := gI_ok h4; obtain ⟨x5, ls6, rfl, h6⟩ := gI_ok h5; obtain ⟨x6, ls7, rfl, h7⟩ := gI_ok h6; obtain ⟨x7, ls8, rfl, h8⟩ := gI_ok h7; obtain ⟨x8, ls9, rfl, h9⟩ := gI_ok h8; obtain ⟨x9, ls10, rfl, h10⟩ := gI_ok h9; obtain ⟨x10, ls11, rfl, h11⟩ := gI_ok h10; obtain ⟨x11, ls12, rfl, h12⟩ := gI_ok h11; obtain ⟨x12, ls13, rfl, h13⟩ := gI_ok h12; obtain ⟨x13, ls14, rfl, h14⟩ := gI_ok h13; obtain ⟨x14, ls15, rfl, h15⟩ := gI_ok h14; obtain ⟨x15, ls16, rfl, h16⟩ := gI_ok h15; obtain ⟨x16, ls17, rfl, h17⟩ := gI_ok h16; obtain ⟨x17, ls18, rfl, h18⟩ := gI_ok h17; obtain ⟨x18, ls19, rfl, h19⟩ := gL_ok h18; obtain ⟨x19, ls20, rfl, h20⟩ := gL_ok h19; obtain ⟨x20, ls21, rfl, h21⟩ := gI_ok h20; obtain ⟨x21, ls22, rfl, h22⟩ := gI_ok h21; obtain ⟨x22, ls23, rfl, h23⟩ := gI_ok h22; obtain ⟨x23, ls24, rfl, h24⟩ := gI_ok h23; obtain ⟨x24, ls25, rfl, h25⟩ := gI_ok h24; obtain ⟨x25, ls26, rfl, h26⟩ := gI_ok h25; obtain ⟨x26, ls27, rfl, h27⟩ := gI_ok h26; obtain ⟨x27, ls28, rfl, h28⟩ := gI_ok h27; obtain ⟨x28, ls29, rfl, h29⟩ := gI_ok h28; obtain ⟨x29, ls30, rfl, h30⟩ := gI_ok h29; obtain ⟨x30, ls31, rfl, h31⟩ := gI_ok h30; obtain ⟨x31, ls32, rfl, h32⟩ := gI_ok h31; obtain ⟨x32, ls33, rfl, h33⟩ := gI_ok h32; obtain ⟨x33, ls34, rfl, h34⟩ := gI_ok h33; obtain ⟨x34, ls35, rfl, h35⟩ := gI_ok h34; obtain ⟨x35, ls36, rfl, h36⟩ := gI_ok h35; obtain ⟨x36, ls37, rfl, h37⟩ := gI_ok h36; obtain ⟨rfl, h38⟩ := gE_ok h37; simp only [F25_c1] at h38; cases h38
  · replace h : g25_1 (n + 1) ls = some r := h
    unfold g25_1 at h
    obtain ⟨x0, ls1, rfl, h1⟩ := gI_ok h; obtain ⟨x1, ls2, rfl, h2⟩ := gI_ok h1; obtain ⟨x2, ls3, rfl, h3⟩ := gI_ok h2; obtain ⟨x3, ls4, rfl, h4⟩ := gI_ok h3; obtain ⟨x4, ls5, rfl, h5⟩ := gI_ok h4; obtain ⟨x5, ls6, rfl, h6⟩ := gI_ok h5; obtain ⟨x6, ls7, rfl, h7⟩ := gI_ok h6; obtain ⟨x7, ls8, rfl, h8⟩ := gI_ok h7; obtain ⟨x8, ls9, rfl, h9⟩ := gI_ok h8; obtain ⟨x9, ls10, rfl, h10⟩ := gI_ok h9; obtain ⟨x10, ls11, rfl, h11⟩ := gI_ok h10; obtain ⟨x11, ls12, rfl, h12⟩ := gI_ok h11; obtain ⟨x12, ls13, rfl, h13⟩ := gI_ok h12; obtain ⟨x13, ls14, rfl, h14⟩ := gI_ok h13; obtain ⟨x14, ls15, rfl, h15⟩ := gI_ok h14; obtain ⟨x15, ls16, rfl, h16⟩ := gI_ok h15; obtain ⟨x16, ls17, rfl, h17⟩ := gI_ok h16; obtain ⟨x17, ls18, rfl, h18⟩ := gI_ok h17; obtain ⟨x18, ls19, rfl, h19⟩ := gL_ok h18; obtain ⟨x19, ls20, rfl, h20⟩ := gL_ok h19; obtain ⟨x20, ls21, rfl, h21⟩ := gI_ok h20; obtain ⟨x21, ls22, rfl, h22⟩ := gI_ok h21; obtain ⟨x22, ls23, rfl, h23⟩ := gI_ok h22; obtain ⟨x23, ls24, rfl, h24⟩ := gI_ok h23; obtain ⟨x24, ls25, rfl, h25⟩ := gI_ok h24; obtain ⟨x25, ls26, rfl, h26⟩ := gI_ok h25; obtain ⟨x26, ls27, rfl, h27⟩ := gI_ok h26; obtain ⟨x27, ls28, rfl, h28⟩ := gI_ok h27; obtain ⟨x28, ls29, rfl, h29⟩ := gI_ok h28; obtain ⟨x29, ls30, rfl, h30⟩ := gI_ok h29; obtain ⟨x30, ls31, rfl, h31⟩ := gI_ok h30; obtain ⟨x31, ls32, rfl, h32⟩ := gI_ok h31; obtain ⟨x32, ls33, rfl, h33⟩ := gI_ok h32; obtain ⟨x33, ls34, rfl, h34⟩ := gI_ok h33; obtain ⟨x34, ls35, rfl, h35⟩ := gI_ok h34; obtain ⟨x35, ls36, rfl, h36⟩ := gI_ok h35; obtain ⟨x36, ls37, rfl, h37⟩ := gI_ok h36; obtain ⟨rfl, h38⟩ := gE_ok h37
    exact (e25_1 n x0 x1 x2 x3 x4 x5 x6 x7 x8 x9 x10 x11 x12 x13 x14 x15 x16 x17 x18 x19 x20 x21 x22 x23 x24 x25 x26 x27 x28 x29 x30 x31 x32 x33 x34 x35 x36).trans h38
theorem sp25 {n : Nat} (a0 : Int) (a1 : List (Int)) (a2 : List (Int)) (a3 : Int) (a4 : Int) (a5 : Int) (a6 : Int) (a7 : Int) (a8 : Int) (a9 : Int) (a10 : Int) (a11 : Int) (a12 : Int) (a13 : Int) (a14 : Int) (a15 : Int) (a16 : Int) (a17 : Int) (a18 : Int) (a19 : Int) {y : Bool} (h : F25 n a0 a1 a2 a3 a4 a5 a6 a7 a8 a9 a10 a11 a12 a13 a14 a15 a16 a17 a18 a19 = some y) : SpecF T Try.prog 25 pa25 [.i a0, .l [.int .i64] a1, .l [.int .i64] a2, .i a3, .i a4, .i a5, .i a6, .i a7, .i a8, .i a9, .i a10, .i a11, .i a12, .i a13, .i a14, .i a15, .i a16, .i a17, .i a18, .i a19] sr25 (ofB25 y) :=
  fun_ok (X := X25) tok (sfok_of ⟨ok39, ok40, ok41, trivial⟩) mixed 25 8 cuts25 rfl toB25_ok ⟨c25_0, c25_1, trivial⟩ ((e25 n a0 a1 a2 a3 a4 a5 a6 a7 a8 a9 a10 a11 a12 a13 a14 a15 a16 a17 a18 a19).trans h)
theorem ok25 {R : Type} : SFone T Try.prog 25 (run25 : SF R) := by
  intro ls K r h
  simp only [run25] at h
  obtain ⟨a0, ls1, rfl, h1⟩ := gI_ok h; obtain ⟨a1, ls2, rfl, h2⟩ := gL_ok h1; obtain ⟨a2, ls3, rfl, h3⟩ := gL_ok h2; obtain ⟨a3, ls4, rfl, h4⟩ := gI_ok h3; obtain ⟨a4, ls5, rfl, h5⟩ := gI_ok h4; obtain ⟨a5, ls6, rfl, h6⟩ := gI_ok h5; obtain ⟨a6, ls7, rfl, h7⟩ := gI_ok h6; obtain ⟨a7, ls8, rfl, h8⟩ := gI_ok h7; obtain ⟨a8, ls9, rfl, h9⟩ := gI_ok h8; obtain ⟨a9, ls10, rfl, h10⟩ := gI_ok h9; obtain ⟨a10, ls11, rfl, h11⟩ := gI_ok h10; obtain ⟨a11, ls12, rfl, h12⟩ := gI_ok h11; obtain ⟨a12, ls13, rfl, h13⟩ := gI_ok h12; obtain ⟨a13, ls14, rfl, h14⟩ := gI_ok h13; obtain ⟨a14, ls15, rfl, h15⟩ := gI_ok h14; obtain ⟨a15, ls16, rfl, h16⟩ := gI_ok h15; obtain ⟨a16, ls17, rfl, h17⟩ := gI_ok h16; obtain ⟨a17, ls18, rfl, h18⟩ := gI_ok h17; obtain ⟨a18, ls19, rfl, h19⟩ := gI_ok h18; obtain ⟨a19, ls20, rfl, h20⟩ := gI_ok h19; obtain ⟨rfl, h21⟩ := gE_ok h20
  obtain ⟨y, k1, k2⟩ := Option.bind_eq_some_iff.1 h21
  exact ⟨_, k2, sp25 a0 a1 a2 a3 a4 a5 a6 a7 a8 a9 a10 a11 a12 a13 a14 a15 a16 a17 a18 a19 k1⟩

/-! ### garland/rect.Notify -/
def pa15 : List VP := [.agg [.i .i64, .sl false [.int .i64], .sl false [.int .i64], .i .i64, .i .i64, .i .i64, .i .i64, .i .i64, .i .i64, .i .i64, .i .i64, .i .i64, .i .i64, .i .i64, .i .i64, .i .i64, .i .i64, .i .i64, .i .i64, .i .i64], .sl false [.int .i64]]
def sr15 : RShape := ⟨.agg [.i .i64, .row 0, .row 1, .i .i64, .i .i64, .i .i64, .i .i64, .i .i64, .i .i64, .i .i64, .i .i64, .i .i64, .i .i64, .i .i64, .i .i64, .i .i64, .i .i64, .i .i64, .i .i64, .i .i64], [.row true [.int .i64], .row true [.int .i64]], none⟩
def toB15 : List Leaf → Option (Si18l2) := gI (fun b0 => gI (fun b1 => gI (fun b2 => gI (fun b3 => gI (fun b4 => gI (fun b5 => gI (fun b6 => gI (fun b7 => gI (fun b8 => gI (fun b9 => gI (fun b10 => gI (fun b11 => gI (fun b12 => gI (fun b13 => gI (fun b14 => gI (fun b15 => gI (fun b16 => gI (fun b17 => gL [.int .i64] (fun b18 => gL [.int .i64] (fun b19 => gE (some ⟨b0, b1, b2, b3, b4, b5, b6, b7, b8, b9, b10, b11, b12, b13, b14, b15, b16, b17, b18, b19⟩)))))))))))))))))))))
def ofB15 (y : Si18l2) : List Leaf := [.i y.q0, .i y.q1, .i y.q2, .i y.q3, .i y.q4, .i y.q5, .i y.q6, .i y.q7, .i y.q8, .i y.q9, .i y.q10, .i y.q11, .i y.q12, .i y.q13, .i y.q14, .i y.q15, .i y.q16, .i y.q17, .l [.int .i64] y.q18, .l [.int .i64] y.q19]
theorem toB15_ok : ∀ ls b, toB15 ls = some b → ls = ofB15 b := by
  intro ls b h
  unfold toB15 at h
  obtain ⟨b0, ls1, rfl, h1⟩ := gI_ok h; obtain ⟨b1, ls2, rfl, h2⟩ := gI_ok h1; obtain ⟨b2, ls3, rfl, h3⟩ := gI_ok h2; obtain ⟨b3, ls4, rfl, h4⟩ := gI_ok h3; obtain ⟨b4, ls5, rfl, h5⟩ := gI_ok h4; obtain ⟨b5, ls6, rfl, h6⟩ := gI_ok h5; obtain ⟨b6, ls7, rfl, h7⟩ := gI_ok h6; obtain ⟨b7, ls8, rfl, h8⟩ := gI_ok h7; obtain ⟨b8, ls9, rfl, h9⟩ := gI_ok h8; obtain ⟨b9, ls10, rfl, h10⟩ := gI_ok h9; obtain ⟨b10, ls11, rfl, h11⟩ := gI_ok h10; obtain ⟨b11, ls12, rfl, h12⟩ := gI_ok h11; obtain ⟨b12, ls13, rfl, h13⟩ := gI_ok h12; obtain ⟨b13, ls14, rfl, h14⟩ := gI_ok h13; obtain ⟨b14, ls15, rfl, h15⟩ := gI_ok h14; obtain ⟨b15, ls16, rfl, h16⟩ := gI_ok h15; obtain ⟨b16, ls17, rfl, h17⟩ := gI_ok h16; obtain ⟨b17, ls18, rfl, h18⟩ := gI_ok h17; obtain ⟨b18, ls19, rfl, h19⟩ := gL_ok h18; obtain ⟨b19, ls20, rfl, h20⟩ := gL_ok h19; obtain ⟨rfl, h21⟩ := gE_ok h20
  cases h21; rfl
def run15 {R : Type} : SF R := ⟨pa15, sr15, fun ls K => (gI (fun a0 => gL [.int .i64] (fun a1 => gL [.int .i64] (fun a2 => gI (fun a3 => gI (fun a4 => gI (fun a5 => gI (fun a6 => gI (fun a7 => gI (fun a8 => gI (fun a9 => gI (fun a10 => gI (fun a11 => gI (fun a12 => gI (fun a13 => gI (fun a14 => gI (fun a15 => gI (fun a16 => gI (fun a17 => gI (fun a18 => gI (fun a19 => gL [.int .i64] (fun a20 => gE (Option.bind (F15 FUEL a0 a1 a2 a3 a4 a5 a6 a7 a8 a9 a10 a11 a12 a13 a14 a15 a16 a17 a18 a19 a20) fun y => K (ofB15 y)))))))))))))))))))))))) ls⟩
def sh15_0 : Shape := ⟨[(23, [(4, .ref 0 0), (5, .ref 1 0)])], [.cells [.i .i64, .nil, .nil, .i .i64, .i .i64, .i .i64, .i .i64, .i .i64, .i .i64, .i .i64, .i .i64, .i .i64, .i .i64, .i .i64, .i .i64, .i .i64, .i .i64, .i .i64, .i .i64, .i .i64], .cells [.i .i64, .row 2, .row 3, .i .i64, .i .i64, .i .i64, .i .i64, .i .i64, .i .i64, .i .i64, .i .i64, .i .i64, .i .i64, .i .i64, .i .i64, .i .i64, .i .i64, .i .i64, .i .i64, .i .i64], .row true [.int .i64], .row true [.int .i64]]⟩
def g15_0 (n : Nat) : List Leaf → Option (Si18l2) := gI (fun x0 => gI (fun x1 => gI (fun x2 => gI (fun x3 => gI (fun x4 => gI (fun x5 => gI (fun x6 => gI (fun x7 => gI (fun x8 => gI (fun x9 => gI (fun x10 => gI (fun x11 => gI (fun x12 => gI (fun x13 => gI (fun x14 => gI (fun x15 => gI (fun x16 => gI (fun x17 => gI (fun x18 => gI (fun x19 => gI (fun x20 => gI (fun x21 => gI (fun x22 => gI (fun x23 => gI (fun x24 => gI (fun x25 => gI (fun x26 => gI (fun x27 => gI (fun x28 => gI (fun x29 => gI (fun x30 => gI (fun x31 => gI (fun x32 => gI (fun x33 => gI (fun x34 => gI (fun x35 => gL [.int .i64] (fun x36 => gL [.int .i64] (fun x37 => gE (F15_c0 n x0 x1 x2 x3 x4 x5 x6 x7 x8 x9 x10 x11 x12 x13 x14 x15 x16 x17 x18 x19 x20 x21 x22 x23 x24 x25 x26 x27 x28 x29 x30 x31 x32 x33 x34 x35 x36 x37)))))))))))))))))))))))))))))))))))))))
def sh15_1 : Shape := ⟨[(16, [(0, .yield 9), (5, .sl false [.int .i64]), (6, .i .i64), (7, .i .i64)]), (23, [(4, .ref 0 0), (5, .ref 1 0), (6, .ref 2 0)])], [.cells [.i .i64, .nil, .nil, .i .i64, .i .i64, .i .i64, .i .i64, .i .i64, .i .i64, .i .i64, .i .i64, .i .i64, .i .i64, .i .i64, .i .i64, .i .i64, .i .i64, .i .i64, .i .i64, .i .i64], .cells [.i .i64, .row 3, .row 4, .i .i64, .i .i64, .i .i64, .i .i64, .i .i64, .i .i64, .i .i64, .i .i64, .i .i64, .i .i64, .i .i64, .i .i64, .i .i64, .i .i64, .i .i64, .i .i64, .i .i64], .cells [.clos 43 [.ref 5 0]], .row true [.int .i64], .row true [.int .i64], .cells [.ref 1 0]]⟩
def g15_1 (n : Nat) : List Leaf → Option (Si18l2) := gL [.int .i64] (fun x0 => gI (fun x1 => gI (fun x2 => gI (fun x3 => gI (fun x4 => gI (fun x5 => gI (fun x6 => gI (fun x7 => gI (fun x8 => gI (fun x9 => gI (fun x10 => gI (fun x11 => gI (fun x12 => gI (fun x13 => gI (fun x14 => gI (fun x15 => gI (fun x16 => gI (fun x17 => gI (fun x18 => gI (fun x19 => gI (fun x20 => gI (fun x21 => gI (fun x22 => gI (fun x23 => gI (fun x24 => gI (fun x25 => gI (fun x26 => gI (fun x27 => gI (fun x28 => gI (fun x29 => gI (fun x30 => gI (fun x31 => gI (fun x32 => gI (fun x33 => gI (fun x34 => gI (fun x35 => gI (fun x36 => gI (fun x37 => gI (fun x38 => gL [.int .i64] (fun x39 => gL [.int .i64] (fun x40 => gE (F15_c1 n x0 x1 x2 x3 x4 x5 x6 x7 x8 x9 x10 x11 x12 x13 x14 x15 x16 x17 x18 x19 x20 x21 x22 x23 x24 x25 x26 x27 x28 x29 x30 x31 x32 x33 x34 x35 x36 x37 x38 x39 x40))))))))))))))))))))))))))))))))))))))))))
def cuts15 : List (List Nat × Cut (Si18l2)) := [([1, 10], ⟨sh15_0, g15_0⟩), ([1, 0, 1, 1, 1, 0, 1, 0, 94, 1, 0], ⟨sh15_1, g15_1⟩)]
noncomputable def X15 : Px (Si18l2) := ⟨T, Try.prog, lkF [(29, run29), (25, run25), (44, run44), (45, run45)], mkCuts 15 cuts15, altN, altN_ok⟩
theorem e15_0 (n : Nat) (x0 : Int) (x1 : Int) (x2 : Int) (x3 : Int) (x4 : Int) (x5 : Int) (x6 : Int) (x7 : Int) (x8 : Int) (x9 : Int) (x10 : Int) (x11 : Int) (x12 : Int) (x13 : Int) (x14 : Int) (x15 : Int) (x16 : Int) (x17 : Int) (x18 : Int) (x19 : Int) (x20 : Int) (x21 : Int) (x22 : Int) (x23 : Int) (x24 : Int) (x25 : Int) (x26 : Int) (x27 : Int) (x28 : Int) (x29 : Int) (x30 : Int) (x31 : Int) (x32 : Int) (x33 : Int) (x34 : Int) (x35 : Int) (x36 : List (Int)) (x37 : List (Int)) : stepF X15 8 15 (endK sr15 toB15) [1, 10] sh15_0 n [.i x0, .i x1, .i x2, .i x3, .i x4, .i x5, .i x6, .i x7, .i x8, .i x9, .i x10, .i x11, .i x12, .i x13, .i x14, .i x15, .i x16, .i x17, .i x18, .i x19, .i x20, .i x21, .i x22, .i x23, .i x24, .i x25, .i x26, .i x27, .i x28, .i x29, .i x30, .i x31, .i x32, .i x33, .i x34, .i x35, .l [.int .i64] x36, .l [.int .i64] x37] = F15_c0 (n + 1) x0 x1 x2 x3 x4 x5 x6 x7 x8 x9 x10 x11 x12 x13 x14 x15 x16 x17 x18 x19 x20 x21 x22 x23 x24 x25 x26 x27 x28 x29 x30 x31 x32 x33 x34 x35 x36 x37 := by kernel_rfl
theorem e15_1 (n : Nat) (x0 : List (Int)) (x1 : Int) (x2 : Int) (x3 : Int) (x4 : Int) (x5 : Int) (x6 : Int) (x7 : Int) (x8 : Int) (x9 : Int) (x10 : Int) (x11 : Int) (x12 : Int) (x13 : Int) (x14 : Int) (x15 : Int) (x16 : Int) (x17 : Int) (x18 : Int) (x19 : Int) (x20 : Int) (x21 : Int) (x22 : Int) (x23 : Int) (x24 : Int) (x25 : Int) (x26 : Int) (x27 : Int) (x28 : Int) (x29 : Int) (x30 : Int) (x31 : Int) (x32 : Int) (x33 : Int) (x34 : Int) (x35 : Int) (x36 : Int) (x37 : Int) (x38 : Int) (x39 : List (Int)) (x40 : List (Int)) : stepF X15 8 15 (endK sr15 toB15) [1, 0, 1, 1, 1, 0, 1, 0, 94, 1, 0] sh15_1 n [.l [.int .i64] x0, .i x1, .i x2, .i x3, .i x4, .i x5, .i x6, .i x7, .i x8, .i x9, .i x10, .i x11, .i x12, .i x13, .i x14, .i x15, .i x16, .i x17, .i x18, .i x19, .i x20, .i x21, .i x22, .i x23, .i x24, .i x25, .i x26, .i x27, .i x28, .i x29, .i x30, .i x31, .i x32, .i x33, .i x34, .i x35, .i x36, .i x37, .i x38, .l [.int .i64] x39, .l [.int .i64] x40] = F15_c1 (n + 1) x0 x1 x2 x3 x4 x5 x6 x7 x8 x9 x10 x11 x12 x13 x14 x15 x16 x17 x18 x19 x20 x21 x22 x23 x24 x25 x26 x27 x28 x29 x30 x31 x32 x33 x34 x35 x36 x37 x38 x39 x40 := by kernel_rfl
theorem e15 (n : Nat) (a0 : Int) (a1 : List (Int)) (a2 : List (Int)) (a3 : Int) (a4 : Int) (a5 : Int) (a6 : Int) (a7 : Int) (a8 : Int) (a9 : Int) (a10 : Int) (a11 : Int) (a12 : Int) (a13 : Int) (a14 : Int) (a15 : Int) (a16 : Int) (a17 : Int) (a18 : Int) (a19 : Int) (a20 : List (Int)) : entF X15 8 15 pa15 (endK sr15 toB15) n [.i a0, .l [.int .i64] a1, .l [.int .i64] a2, .i a3, .i a4, .i a5, .i a6, .i a7, .i a8, .i a9, .i a10, .i a11, .i a12, .i a13, .i a14, .i a15, .i a16, .i a17, .i a18, .i a19, .l [.int .i64] a20] = F15 n a0 a1 a2 a3 a4 a5 a6 a7 a8 a9 a10 a11 a12 a13 a14 a15 a16 a17 a18 a19 a20 := by kernel_rfl
theorem c15_0 : CutOK X15 8 15 (endK sr15 toB15) [1, 10] ⟨sh15_0, g15_0⟩ := by
  refine ⟨fun ls => ?_, fun n ls r h => ?_⟩
  · cases h : g15_0 0 ls with
    | none => exact h
    | some r =>
      unfold g15_0 at h; obtain ⟨x0, ls1, rfl, h1⟩ := gI_ok h; obtain ⟨x1, ls2, rfl, h2⟩ := gI_ok h1; obtain ⟨x2, ls3, rfl, h3⟩ := gI_ok h2; obtain ⟨x3, ls4, rfl, h4⟩ := gI_ok h3; obtain ⟨x4, ls5, rfl, h5⟩ := gI_ok h4; obtain ⟨x5, ls6, rfl, h6⟩ := gI_ok h5; obtain ⟨x6, ls7, rfl, h7⟩ := gI_ok h6; obtain ⟨x7, ls8, rfl, h8⟩ := gI_ok h7; obtain ⟨x8, ls9, rfl, h9⟩ := gI_ok h8; obtain ⟨x9, ls10, rfl, h10⟩ := gI_ok h9; obtain ⟨x10, ls11, rfl, h11⟩ := gI_ok h10; obtain ⟨x11, ls12, rfl, h12⟩ := gI_ok h11; obtain ⟨x12, ls13, rfl, h13⟩ := gI_ok h12; obtain ⟨x13, ls14, rfl, h14⟩ := gI_ok h13; obtain ⟨x14, ls15, rfl, h15⟩ := gI_ok h14; obtain ⟨x15, ls16, rfl, h16⟩ := gI_ok h15; obtain ⟨x16, ls17, rfl, h17⟩ := gI_ok h16; obtain ⟨x17, ls18, rfl, h18⟩ := gI_ok h17; obtain ⟨x18, ls19, rfl, h19⟩ := gI_ok h18; obtain ⟨x19, ls20, rfl, h20⟩ := gI_ok h19; obtain ⟨x20, ls21, rfl, h21⟩ := gI_ok h20; obtain ⟨x21, ls22, rfl, h22⟩ := gI_ok h21; obtain ⟨x22, ls23, rfl, h23⟩ := gI_ok h22; obtain ⟨x23, ls24, rfl, h24⟩ := gI_ok h23; obtain ⟨x24, ls25, rfl, h25⟩ := gI_ok h24; obtain ⟨x25, ls26, rfl, h26⟩ := gI_ok h25; obtain ⟨x26, ls27, rfl, h27⟩ := gI_ok h26; obtain ⟨x27, ls28, rfl, h28⟩ := gI_ok h27; obtain ⟨x28, ls29, rfl, h29⟩ := gI_ok h28; obtain ⟨x29, ls30, rfl, h30⟩ := gI_ok h29; obtain ⟨x30, ls31, rfl, h31⟩ := gI_ok h30; obtain ⟨x31, ls32, rfl, h32⟩ := gI_ok h31; obtain ⟨x32, ls33, rfl, h33⟩ := gI_ok h32; obtain ⟨x33, ls34, rfl, h34⟩ := gI_ok h33; obtain ⟨x34, ls35, rfl, h35⟩ := gI_ok h34; obtain ⟨x35, ls36, rfl, h36⟩ := gI_ok h35; obtain ⟨x36, ls37, rfl, h37⟩ := gL_ok h36; obtain ⟨x37, ls38, rfl, h38⟩ := gL_ok h37; obtain ⟨rfl, h39⟩ := gE_ok h38; simp only [F15_c0] at h39; cases h39
  · replace h : g15_0 (n + 1) ls = some r := h
    unfold g15_0 at h
    obtain ⟨x0, ls1, rfl, h1⟩ := gI_ok h; obtain ⟨x1, ls2, rfl, h2⟩ := gI_ok h1; obtain ⟨x2, ls3, rfl, h3⟩ := gI_ok h2; obtain ⟨x3, ls4, rfl, h4⟩ := gI_ok h3; obtain ⟨x4, ls5, rfl, h5⟩ := gI_ok h4; obtain ⟨x5, ls6, rfl, h6⟩ := gI_ok h5; obtain ⟨x6, ls7, rfl, h7⟩ := gI_ok h6; obtain ⟨x7, ls8, rfl, h8⟩ := gI_ok h7; obtain ⟨x8, ls9, rfl, h9⟩ := gI_ok h8; obtain ⟨x9, ls10, rfl, h10⟩ := gI_ok h9; obtain ⟨x10, ls11, rfl, h11⟩ := gI_ok h10; obtain ⟨x11, ls12, rfl, h12⟩ := gI_ok h11; obtain ⟨x12, ls13, rfl, h13⟩ := gI_ok h12; obtain ⟨x13, ls14, rfl, h14⟩ := gI_ok h13; obtain ⟨x14, ls15, rfl, h15⟩ := gI_ok h14; obtain ⟨x15, ls16, rfl, h16⟩ := gI_ok h15; obtain ⟨x16, ls17, rfl, h17⟩ := gI_ok h16; obtain ⟨x17, ls18, rfl, h18⟩ := gI_ok h17; obtain ⟨x18, ls19, rfl, h19⟩ := gI_ok h18; obtain ⟨x19, ls20, rfl, h20⟩ := gI_ok h19; obtain ⟨x20, ls21, rfl, h21⟩ := gI_ok h20; obtain ⟨x21, ls22, rfl, h22⟩ := gI_ok h21; obtain ⟨x22, ls23, rfl, h23⟩ := gI_ok h22; obtain ⟨x23, ls24, rfl, h24⟩ := gI_ok h23; obtain ⟨x24, ls25, rfl, h25⟩ := gI_ok h24; obtain ⟨x25, ls26, rfl, h26⟩ := gI_ok h25; obtain ⟨x26, ls27, rfl, h27⟩ := gI_ok h26; obtain ⟨x27, ls28, rfl, h28⟩ := gI_ok h27; obtain ⟨x28, ls29, rfl, h29⟩ := gI_ok h28; obtain ⟨x29, ls30, rfl, h30⟩ := gI_ok h29; obtain ⟨x30, ls31, rfl, h31⟩ := gI_ok h30; obtain ⟨x31, ls32, rfl, h32⟩ := gI_ok h31; obtain ⟨x32, ls33, rfl, h33⟩ := gI_ok h32; obtain ⟨x33, ls34, rfl, h34⟩ := gI_ok h33; obtain ⟨x34, ls35, rfl, h35⟩ := gI_ok h34; obtain ⟨x35, ls36, rfl, h36⟩ := gI_ok h35; obtain ⟨x36, ls37, rfl, h37⟩ := gL_ok h36; obtain ⟨x37, ls38, rfl, h38⟩ := gL_ok h37; obtain ⟨rfl, h39⟩ := gE_ok h38
    exact (e15_0 n x0 x1 x2 x3 x4 x5 x6 x7 x8 x9 x10 x11 x12 x13 x14 x15 x16 x17 x18 x19 x20 x21 x22 x23 x24 x25 x26 x27 x28 x29 x30 x31 x32 x33 x34 x35 x36 x37).trans h39
theorem c15_1 : CutOK X15 8 15 (endK sr15 toB15) [1, 0, 1, 1, 1, 0, 1, 0, 94, 1, 0] ⟨sh15_1, g15_1⟩ := by
  refine ⟨fun ls => ?_, fun n ls r h => ?_⟩
  · cases h : g15_1 0 ls with
    | none => exact h
    | some r =>
      unfold g15_1 at h; obtain ⟨x0, ls1, rfl, h1⟩ := gL_ok h; obtain ⟨x1, ls2, rfl, h2⟩ := gI_ok h1; obtain ⟨x2, ls3, rfl, h3⟩ := gI_ok h2; obtain ⟨x3, ls4, rfl, h4⟩ := gI_ok h3; obtain ⟨x4, ls5, rfl, h5⟩ := gI_ok h4; obtain ⟨x5, ls6, rfl, h6⟩ := gI_ok h5; obtain ⟨x6, ls7, rfl, h7⟩ := gI_ok h6; obtain ⟨x7, ls8, rfl, h8⟩ := gI_ok h7; obtain ⟨x8, ls9, rfl, h9⟩ := gI_ok h8; obtain ⟨x9, ls10, rfl, h10⟩ := gI_ok h9; obtain ⟨x10, ls11, rfl, h11⟩ := gI_ok h10; obtain ⟨x11, ls12, rfl, h12⟩ := gI_ok h11; obtain ⟨x12, ls13, rfl, h13⟩ := gI_ok h12; obtain ⟨x13, ls14, rfl, h14⟩ := gI_ok h13; obtain ⟨x14, ls15, rfl, h15⟩ := gI_ok h14; obtain ⟨x15, ls16, rfl, h16⟩ := gI_ok h15; obtain ⟨x16, ls17, rfl, h17⟩ := gI_ok h16; obtain ⟨x17, ls18, rfl, h18⟩ := gI_ok h17; obtain ⟨x18, ls19, rfl, h19⟩ := gI_ok h18; obtain ⟨x19, ls20, rfl, h20⟩ := gI_ok h19; obtain ⟨x20, ls21, rfl, h21⟩ := gI_ok h20; obtain ⟨x21, ls22, rfl, h22⟩ := gI_ok h21; obtain ⟨x22, ls23, rfl, h23⟩ := gI_ok h22; obtain ⟨x23, ls24, rfl, h24⟩ := gI_ok h23; obtain ⟨x24, ls25, rfl, h25⟩ := gI_ok h24; obtain ⟨x25, ls26, rfl, h26⟩ := gI_ok h25; obtain ⟨x26, ls27, rfl, h27⟩ := gI_ok h26; obtain ⟨x27, ls28, rfl, h28⟩ := gI_ok h27; obtain ⟨x28, ls29, rfl, h29⟩ := gI_ok h28; obtain ⟨x29, ls30, rfl, h30⟩ := gI_ok h29; obtain ⟨x30, ls31, rfl, h31⟩ := gI_ok h30; obtain ⟨x31, ls32, rfl, h32⟩ := gI_ok h31; obtain ⟨x32, ls33, rfl, h33⟩ := gI_ok h32; obtain ⟨x33, ls34, rfl, h34⟩ := gI_ok h33; obtain ⟨x34, ls35, rfl, h35⟩ := gI_ok h34; obtain ⟨x35, ls36, rfl, h36⟩ := gI_ok h35; obtain ⟨x36, ls37, rfl, h37⟩ := gI_ok h36; obtain ⟨x37, ls38, rfl, h38⟩ := gI_ok h37; obtain ⟨x38, ls39, rfl, h39⟩ := gI_ok h38; obtain ⟨x39, ls40, rfl, h40⟩ := gL_ok h39; obtain ⟨x40, ls41, rfl, h41⟩ := gL_ok h40; obtain ⟨rfl, h42⟩ := gE_ok h41; simp only [F15_c1] at h42; cases h42
  · replace h : g15_1 (n + 1) ls = some r := h
    unfold g15_1 at h
    obtain ⟨x0, ls1, rfl, h1⟩ := gL_ok h; obtain ⟨x1, ls2, rfl, h2⟩ := gI_ok h1; obtain ⟨x2, ls3, rfl, h3⟩ := gI_ok h2; obtain ⟨x3, ls4, rfl, h4⟩ := gI_ok h3; obtain ⟨x4, ls5, rfl, h5⟩ := gI_ok h4; obtain ⟨x5, ls6, rfl, h6⟩ := gI_ok h5; obtain ⟨x6, ls7, rfl, h7⟩ := gI_ok h6; obtain ⟨x7, ls8, rfl, h8⟩ := gI_ok h7; obtain ⟨x8, ls9, rfl, h9⟩ := gI_ok h8; obtain ⟨x9, ls10, rfl, h10⟩ := gI_ok h9; obtain ⟨x10, ls11, rfl, h11⟩ := gI_ok h10; obtain ⟨x11, ls12, rfl, h12⟩ := gI_ok h11; obtain ⟨x12, ls13, rfl, h13⟩ := gI_ok h12; obtain ⟨x13, ls14, rfl, h14⟩ := gI_ok h13; obtain ⟨x14, ls15, rfl, h15⟩ := gI_ok h14; obtain ⟨x15, ls16, rfl, h16⟩ := gI_ok h15; obtain ⟨x16, ls17, rfl, h17⟩ := gI_ok h16; obtain ⟨x17, ls18, rfl, h18⟩ := gI_ok h17; obtain ⟨x18, ls19, rfl, h19⟩ := gI_ok h18; obtain ⟨x19, ls20, rfl, h20⟩ := gI_ok h19; obtain ⟨x20, ls21, rfl, h21⟩ := gI_ok h20; obtain ⟨x21, ls22, rfl, h22⟩ := gI_ok h21; obtain ⟨x22, ls23, rfl, h23⟩ := gI_ok h22; obtain ⟨x23, ls24, rfl, h24⟩ := gI_ok h23; obtain ⟨x24, ls25, rfl, h25⟩ := gI_ok h24; obtain ⟨x25, ls26, rfl, h26⟩ := gI_ok h25; obtain ⟨x26, ls27, rfl, h27⟩ := gI_ok h26; obtain ⟨x27, ls28, rfl, h28⟩ := gI_ok h27; obtain ⟨x28, ls29, rfl, h29⟩ := gI_ok h28; obtain ⟨x29, ls30, rfl, h30⟩ := gI_ok h29; obtain ⟨x30, ls31, rfl, h31⟩ := gI_ok h30; obtain ⟨x31, ls32, rfl, h32⟩ := gI_ok h31; obtain ⟨x32, ls33, rfl, h33⟩ := gI_ok h32; obtain ⟨x33, ls34, rfl, h34⟩ := gI_ok h33; obtain ⟨x34, ls35, rfl, h35⟩ := gI_ok h34; obtain ⟨x35, ls36, rfl, h36⟩ := gI_ok h35; obtain ⟨x36, ls37, rfl, h37⟩ := gI_ok h36; obtain ⟨x37, ls38, rfl, h38⟩ := gI_ok h37; obtain ⟨x38, ls39, rfl, h39⟩ := gI_ok h38; obtain ⟨x39, ls40, rfl, h40⟩ := gL_ok h39; obtain ⟨x40, ls41, rfl, h41⟩ := gL_ok h40; obtain ⟨rfl, h42⟩ := gE_ok h41
    exact (e15_1 n x0 x1 x2 x3 x4 x5 x6 x7 x8 x9 x10 x11 x12 x13 x14 x15 x16 x17 x18 x19 x20 x21 x22 x23 x24 x25 x26 x27 x28 x29 x30 x31 x32 x33 x34 x35 x36 x37 x38 x39 x40).trans h42
theorem sp15 {n : Nat} (a0 : Int) (a1 : List (Int)) (a2 : List (Int)) (a3 : Int) (a4 : Int) (a5 : Int) (a6 : Int) (a7 : Int) (a8 : Int) (a9 : Int) (a10 : Int) (a11 : Int) (a12 : Int) (a13 : Int) (a14 : Int) (a15 : Int) (a16 : Int) (a17 : Int) (a18 : Int) (a19 : Int) (a20 : List (Int)) {y : Si18l2} (h : F15 n a0 a1 a2 a3 a4 a5 a6 a7 a8 a9 a10 a11 a12 a13 a14 a15 a16 a17 a18 a19 a20 = some y) : SpecF T Try.prog 15 pa15 [.i a0, .l [.int .i64] a1, .l [.int .i64] a2, .i a3, .i a4, .i a5, .i a6, .i a7, .i a8, .i a9, .i a10, .i a11, .i a12, .i a13, .i a14, .i a15, .i a16, .i a17, .i a18, .i a19, .l [.int .i64] a20] sr15 (ofB15 y) :=
  fun_ok (X := X15) tok (sfok_of ⟨ok29, ok25, ok44, ok45, trivial⟩) mixed 15 8 cuts15 rfl toB15_ok ⟨c15_0, c15_1, trivial⟩ ((e15 n a0 a1 a2 a3 a4 a5 a6 a7 a8 a9 a10 a11 a12 a13 a14 a15 a16 a17 a18 a19 a20).trans h)
theorem ok15 {R : Type} : SFone T Try.prog 15 (run15 : SF R) := by
  intro ls K r h
  simp only [run15] at h
  obtain ⟨a0, ls1, rfl, h1⟩ := gI_ok h; obtain ⟨a1, ls2, rfl, h2⟩ := gL_ok h1; obtain ⟨a2, ls3, rfl, h3⟩ := gL_ok h2; obtain ⟨a3, ls4, rfl, h4⟩ := gI_ok h3; obtain ⟨a4, ls5, rfl, h5⟩ := gI_ok h4; obtain ⟨a5, ls6, rfl, h6⟩ := gI_ok h5; obtain ⟨a6, ls7, rfl, h7⟩ := gI_ok h6; obtain ⟨a7, ls8, rfl, h8⟩ := gI_ok h7; obtain ⟨a8, ls9, rfl, h9⟩ := gI_ok h8; obtain ⟨a9, ls10, rfl, h10⟩ := gI_ok h9; obtain ⟨a10, ls11, rfl, h11⟩ := gI_ok h10; obtain ⟨a11, ls12, rfl, h12⟩ := gI_ok h11; obtain ⟨a12, ls13, rfl, h13⟩ := gI_ok h12; obtain ⟨a13, ls14, rfl, h14⟩ := gI_ok h13; obtain ⟨a14, ls15, rfl, h15⟩ := gI_ok h14; obtain ⟨a15, ls16, rfl, h16⟩ := gI_ok h15; obtain ⟨a16, ls17, rfl, h17⟩ := gI_ok h16; obtain ⟨a17, ls18, rfl, h18⟩ := gI_ok h17; obtain ⟨a18, ls19, rfl, h19⟩ := gI_ok h18; obtain ⟨a19, ls20, rfl, h20⟩ := gI_ok h19; obtain ⟨a20, ls21, rfl, h21⟩ := gL_ok h20; obtain ⟨rfl, h22⟩ := gE_ok h21
  obtain ⟨y, k1, k2⟩ := Option.bind_eq_some_iff.1 h22
  exact ⟨_, k2, sp15 a0 a1 a2 a3 a4 a5 a6 a7 a8 a9 a10 a11 a12 a13 a14 a15 a16 a17 a18 a19 a20 k1⟩

/-! ### garland/rect.Asks -/
def pa10 : List VP := [.agg [.i .i64, .sl false [.int .i64], .sl false [.int .i64], .i .i64, .i .i64, .i .i64, .i .i64, .i .i64, .i .i64, .i .i64, .i .i64, .i .i64, .i .i64, .i .i64, .i .i64, .i .i64, .i .i64, .i .i64, .i .i64, .i .i64]]
def sr10 : RShape := ⟨.tup [.i .i64, .b], [], none⟩
def toB10 : List Leaf → Option (Int × Bool) := gI (fun b0 => gB (fun b1 => gE (some (b0, b1))))
def ofB10 (y : Int × Bool) : List Leaf := [.i y.1, .b y.2]
theorem toB10_ok : ∀ ls b, toB10 ls = some b → ls = ofB10 b := by
  intro ls b h
  unfold toB10 at h
  obtain ⟨b0, ls1, rfl, h1⟩ := gI_ok h; obtain ⟨b1, ls2, rfl, h2⟩ := gB_ok h1; obtain ⟨rfl, h3⟩ := gE_ok h2
  cases h3; rfl
def run10 {R : Type} : SF R := ⟨pa10, sr10, fun ls K => (gI (fun a0 => gL [.int .i64] (fun a1 => gL [.int .i64] (fun a2 => gI (fun a3 => gI (fun a4 => gI (fun a5 => gI (fun a6 => gI (fun a7 => gI (fun a8 => gI (fun a9 => gI (fun a10 => gI (fun a11 => gI (fun a12 => gI (fun a13 => gI (fun a14 => gI (fun a15 => gI (fun a16 => gI (fun a17 => gI (fun a18 => gI (fun a19 => gE (Option.bind (F10 FUEL a0 a1 a2 a3 a4 a5 a6 a7 a8 a9 a10 a11 a12 a13 a14 a15 a16 a17 a18 a19) fun y => K (ofB10 y))))))))))))))))))))))) ls⟩
def cuts10 : List (List Nat × Cut (Int × Bool)) := []
noncomputable def X10 : Px (Int × Bool) := ⟨T, Try.prog, lkF [(25, run25)], mkCuts 10 cuts10, altN, altN_ok⟩
theorem e10 (n : Nat) (a0 : Int) (a1 : List (Int)) (a2 : List (Int)) (a3 : Int) (a4 : Int) (a5 : Int) (a6 : Int) (a7 : Int) (a8 : Int) (a9 : Int) (a10 : Int) (a11 : Int) (a12 : Int) (a13 : Int) (a14 : Int) (a15 : Int) (a16 : Int) (a17 : Int) (a18 : Int) (a19 : Int) : entF X10 8 10 pa10 (endK sr10 toB10) n [.i a0, .l [.int .i64] a1, .l [.int .i64] a2, .i a3, .i a4, .i a5, .i a6, .i a7, .i a8, .i a9, .i a10, .i a11, .i a12, .i a13, .i a14, .i a15, .i a16, .i a17, .i a18, .i a19] = F10 n a0 a1 a2 a3 a4 a5 a6 a7 a8 a9 a10 a11 a12 a13 a14 a15 a16 a17 a18 a19 := by kernel_rfl
theorem sp10 {n : Nat} (a0 : Int) (a1 : List (Int)) (a2 : List (Int)) (a3 : Int) (a4 : Int) (a5 : Int) (a6 : Int) (a7 : Int) (a8 : Int) (a9 : Int) (a10 : Int) (a11 : Int) (a12 : Int) (a13 : Int) (a14 : Int) (a15 : Int) (a16 : Int) (a17 : Int) (a18 : Int) (a19 : Int) {y : Int × Bool} (h : F10 n a0 a1 a2 a3 a4 a5 a6 a7 a8 a9 a10 a11 a12 a13 a14 a15 a16 a17 a18 a19 = some y) : SpecF T Try.prog 10 pa10 [.i a0, .l [.int .i64] a1, .l [.int .i64] a2, .i a3, .i a4, .i a5, .i a6, .i a7, .i a8, .i a9, .i a10, .i a11, .i a12, .i a13, .i a14, .i a15, .i a16, .i a17, .i a18, .i a19] sr10 (ofB10 y) :=
  fun_ok (X := X10) tok (sfok_of ⟨ok25, trivial⟩) mixed 10 8 cuts10 rfl toB10_ok trivial ((e10 n a0 a1 a2 a3 a4 a5 a6 a7 a8 a9 a10 a11 a12 a13 a14 a15 a16 a17 a18 a19).trans h)
theorem ok10 {R : Type} : SFone T Try.prog 10 (run10 : SF R) := by
  intro ls K r h
  simp only [run10] at h
  obtain ⟨a0, ls1, rfl, h1⟩ := gI_ok h; obtain ⟨a1, ls2, rfl, h2⟩ := gL_ok h1; obtain ⟨a2, ls3, rfl, h3⟩ := gL_ok h2; obtain ⟨a3, ls4, rfl, h4⟩ := gI_ok h3; obtain ⟨a4, ls5, rfl, h5⟩ := gI_ok h4; obtain ⟨a5, ls6, rfl, h6⟩ := gI_ok h5; obtain ⟨a6, ls7, rfl, h7⟩ := gI_ok h6; obtain ⟨a7, ls8, rfl, h8⟩ := gI_ok h7; obtain ⟨a8, ls9, rfl, h9⟩ := gI_ok h8; obtain ⟨a9, ls10, rfl, h10⟩ := gI_ok h9; obtain ⟨a10, ls11, rfl, h11⟩ := gI_ok h10; obtain ⟨a11, ls12, rfl, h12⟩ := gI_ok h11; obtain ⟨a12, ls13, rfl, h13⟩ := gI_ok h12; obtain ⟨a13, ls14, rfl, h14⟩ := gI_ok h13; obtain ⟨a14, ls15, rfl, h15⟩ := gI_ok h14; obtain ⟨a15, ls16, rfl, h16⟩ := gI_ok h15; obtain ⟨a16, ls17, rfl, h17⟩ := gI_ok h16; obtain ⟨a17, ls18, rfl, h18⟩ := gI_ok h17; obtain ⟨a18, ls19, rfl, h19⟩ := gI_ok h18; obtain ⟨a19, ls20, rfl, h20⟩ := gI_ok h19; obtain ⟨rfl, h21⟩ := gE_ok h20
  obtain ⟨y, k1, k2⟩ := Option.bind_eq_some_iff.1 h21
  exact ⟨_, k2, sp10 a0 a1 a2 a3 a4 a5 a6 a7 a8 a9 a10 a11 a12 a13 a14 a15 a16 a17 a18 a19 k1⟩

/-! ### slices.Index[[]int,int] -/
def pa49 : List VP := [.sl false [.int .i64], .i .i64]
def sr49 : RShape := ⟨.i .i64, [], none⟩
def toB49 : List Leaf → Option (Int) := gI (fun b0 => gE (some b0))
def ofB49 (y : Int) : List Leaf := [.i y]
theorem toB49_ok : ∀ ls b, toB49 ls = some b → ls = ofB49 b := by
  intro ls b h
  unfold toB49 at h
  obtain ⟨b0, ls1, rfl, h1⟩ := gI_ok h; obtain ⟨rfl, h2⟩ := gE_ok h1
  cases h2; rfl
def run49 {R : Type} : SF R := ⟨pa49, sr49, fun ls K => (gL [.int .i64] (fun a0 => gI (fun a1 => gE (Option.bind (F49 FUEL a0 a1) fun y => K (ofB49 y))))) ls⟩
def sh49_0 : Shape := ⟨[(19, [(0, .sl false [.int .i64]), (1, .i .i64), (7, .i .i64), (8, .i .i64)])], []⟩
def g49_0 (n : Nat) : List Leaf → Option (Int) := gL [.int .i64] (fun x0 => gI (fun x1 => gI (fun x2 => gI (fun x3 => gE (F49_c0 n x0 x1 x2 x3)))))
def cuts49 : List (List Nat × Cut (Int)) := [([1, 0, 1, 0], ⟨sh49_0, g49_0⟩)]
noncomputable def X49 : Px (Int) := ⟨T, Try.prog, lkF [], mkCuts 49 cuts49, altN, altN_ok⟩
theorem e49_0 (n : Nat) (x0 : List (Int)) (x1 : Int) (x2 : Int) (x3 : Int) : stepF X49 8 49 (endK sr49 toB49) [1, 0, 1, 0] sh49_0 n [.l [.int .i64] x0, .i x1, .i x2, .i x3] = F49_c0 (n + 1) x0 x1 x2 x3 := by kernel_rfl
theorem e49 (n : Nat) (a0 : List (Int)) (a1 : Int) : entF X49 8 49 pa49 (endK sr49 toB49) n [.l [.int .i64] a0, .i a1] = F49 n a0 a1 := by kernel_rfl
theorem c49_0 : CutOK X49 8 49 (endK sr49 toB49) [1, 0, 1, 0] ⟨sh49_0, g49_0⟩ := by
  refine ⟨fun ls => ?_, fun n ls r h => ?_⟩
  · cases h : g49_0 0 ls with
    | none => exact h
    | some r =>
      unfold g49_0 at h; obtain ⟨x0, ls1, rfl, h1⟩ := gL_ok h; obtain ⟨x1, ls2, rfl, h2⟩ := gI_ok h1; obtain ⟨x2, ls3, rfl, h3⟩ := gI_ok h2; obtain ⟨x3, ls4, rfl, h4⟩ := gI_ok h3; obtain ⟨rfl, h5⟩ := gE_ok h4; simp only [F49_c0] at h5; cases h5
  · replace h : g49_0 (n + 1) ls = some r := h
    unfold g49_0 at h
    obtain ⟨x0, ls1, rfl, h1⟩ := gL_ok h; obtain ⟨x1, ls2, rfl, h2⟩ := gI_ok h1; obtain ⟨x2, ls3, rfl, h3⟩ := gI_ok h2; obtain ⟨x3, ls4, rfl, h4⟩ := gI_ok h3; obtain ⟨rfl, h5⟩ := gE_ok h4
    exact (e49_0 n x0 x1 x2 x3).trans h5
theorem sp49 {n : Nat} (a0 : List (Int)) (a1 : Int) {y : Int} (h : F49 n a0 a1 = some y) : SpecF T Try.prog 49 pa49 [.l [.int .i64] a0, .i a1] sr49 (ofB49 y) :=
  fun_ok (X := X49) tok (sfok_of trivial) mixed 49 8 cuts49 rfl toB49_ok ⟨c49_0, trivial⟩ ((e49 n a0 a1).trans h)
theorem ok49 {R : Type} : SFone T Try.prog 49 (run49 : SF R) := by
  intro ls K r h
  simp only [run49] at h
  obtain ⟨a0, ls1, rfl, h1⟩ := gL_ok h; obtain ⟨a1, ls2, rfl, h2⟩ := gI_ok h1; obtain ⟨rfl, h3⟩ := gE_ok h2
  obtain ⟨y, k1, k2⟩ := Option.bind_eq_some_iff.1 h3
  exact ⟨_, k2, sp49 a0 a1 k1⟩

/-! ### slices.Contains[[]int,int] -/
def pa33 : List VP := [.sl false [.int .i64], .i .i64]
def sr33 : RShape := ⟨.b, [], none⟩
def toB33 : List Leaf → Option (Bool) := gB (fun b0 => gE (some b0))
def ofB33 (y : Bool) : List Leaf := [.b y]
theorem toB33_ok : ∀ ls b, toB33 ls = some b → ls = ofB33 b := by
  intro ls b h
  unfold toB33 at h
  obtain ⟨b0, ls1, rfl, h1⟩ := gB_ok h; obtain ⟨rfl, h2⟩ := gE_ok h1
  cases h2; rfl
def run33 {R : Type} : SF R := ⟨pa33, sr33, fun ls K => (gL [.int .i64] (fun a0 => gI (fun a1 => gE (Option.bind (F33 FUEL a0 a1) fun y => K (ofB33 y))))) ls⟩
def cuts33 : List (List Nat × Cut (Bool)) := []
noncomputable def X33 : Px (Bool) := ⟨T, Try.prog, lkF [(49, run49)], mkCuts 33 cuts33, altN, altN_ok⟩
theorem e33 (n : Nat) (a0 : List (Int)) (a1 : Int) : entF X33 8 33 pa33 (endK sr33 toB33) n [.l [.int .i64] a0, .i a1] = F33 n a0 a1 := by kernel_rfl
theorem sp33 {n : Nat} (a0 : List (Int)) (a1 : Int) {y : Bool} (h : F33 n a0 a1 = some y) : SpecF T Try.prog 33 pa33 [.l [.int .i64] a0, .i a1] sr33 (ofB33 y) :=
  fun_ok (X := X33) tok (sfok_of ⟨ok49, trivial⟩) mixed 33 8 cuts33 rfl toB33_ok trivial ((e33 n a0 a1).trans h)
theorem ok33 {R : Type} : SFone T Try.prog 33 (run33 : SF R) := by
  intro ls K r h
  simp only [run33] at h
  obtain ⟨a0, ls1, rfl, h1⟩ := gL_ok h; obtain ⟨a1, ls2, rfl, h2⟩ := gI_ok h1; obtain ⟨rfl, h3⟩ := gE_ok h2
  obtain ⟨y, k1, k2⟩ := Option.bind_eq_some_iff.1 h3
  exact ⟨_, k2, sp33 a0 a1 k1⟩

/-! ### garland/rect.Gone -/
def pa19 : List VP := [.agg [.i .i64, .sl false [.int .i64], .sl false [.int .i64], .i .i64, .i .i64, .i .i64, .i .i64, .i .i64, .i .i64, .i .i64, .i .i64, .i .i64, .i .i64, .i .i64, .i .i64, .i .i64, .i .i64, .i .i64, .i .i64, .i .i64], .i .i64]
def sr19 : RShape := ⟨.agg [.i .i64, .row 0, .row 1, .i .i64, .i .i64, .i .i64, .i .i64, .i .i64, .i .i64, .i .i64, .i .i64, .i .i64, .i .i64, .i .i64, .i .i64, .i .i64, .i .i64, .i .i64, .i .i64, .i .i64], [.row true [.int .i64], .row true [.int .i64]], none⟩
def toB19 : List Leaf → Option (Si18l2) := gI (fun b0 => gI (fun b1 => gI (fun b2 => gI (fun b3 => gI (fun b4 => gI (fun b5 => gI (fun b6 => gI (fun b7 => gI (fun b8 => gI (fun b9 => gI (fun b10 => gI (fun b11 => gI (fun b12 => gI (fun b13 => gI (fun b14 => gI (fun b15 => gI (fun b16 => gI (fun b17 => gL [.int .i64] (fun b18 => gL [.int .i64] (fun b19 => gE (some ⟨b0, b1, b2, b3, b4, b5, b6, b7, b8, b9, b10, b11, b12, b13, b14, b15, b16, b17, b18, b19⟩)))))))))))))))))))))
def ofB19 (y : Si18l2) : List Leaf := [.i y.q0, .i y.q1, .i y.q2, .i y.q3, .i y.q4, .i y.q5, .i y.q6, .i y.q7, .i y.q8, .i y.q9, .i y.q10, .i y.q11, .i y.q12, .i y.q13, .i y.q14, .i y.q15, .i y.q16, .i y.q17, .l [.int .i64] y.q18, .l [.int .i64] y.q19]
theorem toB19_ok : ∀ ls b, toB19 ls = some b → ls = ofB19 b := by
  intro ls b h
  unfold toB19 at h
  obtain ⟨b0, ls1, rfl, h1⟩ := gI_ok h; obtain ⟨b1, ls2, rfl, h2⟩ := gI_ok h1; obtain ⟨b2, ls3, rfl, h3⟩ := gI_ok h2; obtain ⟨b3, ls4, rfl, h4⟩ := gI_ok h3; obtain ⟨b4, ls5, rfl, h5⟩ := gI_ok h4; obtain ⟨b5, ls6, rfl, h6⟩ := gI_ok h5; obtain ⟨b6, ls7, rfl, h7⟩ := gI_ok h6; obtain ⟨b7, ls8, rfl, h8⟩ := gI_ok h7; obtain ⟨b8, ls9, rfl, h9⟩ := gI_ok h8; obtain ⟨b9, ls10, rfl, h10⟩ := gI_ok h9; obtain ⟨b10, ls11, rfl, h11⟩ := gI_ok h10; obtain ⟨b11, ls12, rfl, h12⟩ := gI_ok h11; obtain ⟨b12, ls13, rfl, h13⟩ := gI_ok h12; obtain ⟨b13, ls14, rfl, h14⟩ := gI_ok h13; obtain ⟨b14, ls15, rfl, h15⟩ := gI_ok h14; obtain ⟨b15, ls16, rfl, h16⟩ := gI_ok h15; obtain ⟨b16, ls17, rfl, h17⟩ := gI_ok h16; obtain ⟨b17, ls18, rfl, h18⟩ := gI_ok h17; obtain ⟨b18, ls19, rfl, h19⟩ := gL_ok h18; obtain ⟨b19, ls20, rfl, h20⟩ := gL_ok h19; obtain ⟨rfl, h21⟩ := gE_ok h20
  cases h21; rfl
def run19 {R : Type} : SF R := ⟨pa19, sr19, fun ls K => (gI (fun a0 => gL [.int .i64] (fun a1 => gL [.int .i64] (fun a2 => gI (fun a3 => gI (fun a4 => gI (fun a5 => gI (fun a6 => gI (fun a7 => gI (fun a8 => gI (fun a9 => gI (fun a10 => gI (fun a11 => gI (fun a12 => gI (fun a13 => gI (fun a14 => gI (fun a15 => gI (fun a16 => gI (fun a17 => gI (fun a18 => gI (fun a19 => gI (fun a20 => gE (Option.bind (F19 FUEL a0 a1 a2 a3 a4 a5 a6 a7 a8 a9 a10 a11 a12 a13 a14 a15 a16 a17 a18 a19 a20) fun y => K (ofB19 y)))))))))))))))))))))))) ls⟩
def cuts19 : List (List Nat × Cut (Si18l2)) := []
noncomputable def X19 : Px (Si18l2) := ⟨T, Try.prog, lkF [(29, run29), (25, run25), (33, run33)], mkCuts 19 cuts19, altN, altN_ok⟩
theorem e19 (n : Nat) (a0 : Int) (a1 : List (Int)) (a2 : List (Int)) (a3 : Int) (a4 : Int) (a5 : Int) (a6 : Int) (a7 : Int) (a8 : Int) (a9 : Int) (a10 : Int) (a11 : Int) (a12 : Int) (a13 : Int) (a14 : Int) (a15 : Int) (a16 : Int) (a17 : Int) (a18 : Int) (a19 : Int) (a20 : Int) : entF X19 8 19 pa19 (endK sr19 toB19) n [.i a0, .l [.int .i64] a1, .l [.int .i64] a2, .i a3, .i a4, .i a5, .i a6, .i a7, .i a8, .i a9, .i a10, .i a11, .i a12, .i a13, .i a14, .i a15, .i a16, .i a17, .i a18, .i a19, .i a20] = F19 n a0 a1 a2 a3 a4 a5 a6 a7 a8 a9 a10 a11 a12 a13 a14 a15 a16 a17 a18 a19 a20 := by kernel_rfl
theorem sp19 {n : Nat} (a0 : Int) (a1 : List (Int)) (a2 : List (Int)) (a3 : Int) (a4 : Int) (a5 : Int) (a6 : Int) (a7 : Int) (a8 : Int) (a9 : Int) (a10 : Int) (a11 : Int) (a12 : Int) (a13 : Int) (a14 : Int) (a15 : Int) (a16 : Int) (a17 : Int) (a18 : Int) (a19 : Int) (a20 : Int) {y : Si18l2} (h : F19 n a0 a1 a2 a3 a4 a5 a6 a7 a8 a9 a10 a11 a12 a13 a14 a15 a16 a17 a18 a19 a20 = some y) : SpecF T Try.prog 19 pa19 [.i a0, .l [.int .i64] a1, .l [.int .i64] a2, .i a3, .i a4, .i a5, .i a6, .i a7, .i a8, .i a9, .i a10, .i a11, .i a12, .i a13, .i a14, .i a15, .i a16, .i a17, .i a18, .i a19, .i a20] sr19 (ofB19 y) :=
  fun_ok (X := X19) tok (sfok_of ⟨ok29, ok25, ok33, trivial⟩) mixed 19 8 cuts19 rfl toB19_ok trivial ((e19 n a0 a1 a2 a3 a4 a5 a6 a7 a8 a9 a10 a11 a12 a13 a14 a15 a16 a17 a18 a19 a20).trans h)
theorem ok19 {R : Type} : SFone T Try.prog 19 (run19 : SF R) := by
  intro ls K r h
  simp only [run19] at h
  obtain ⟨a0, ls1, rfl, h1⟩ := gI_ok h; obtain ⟨a1, ls2, rfl, h2⟩ := gL_ok h1; obtain ⟨a2, ls3, rfl, h3⟩ := gL_ok h2; obtain ⟨a3, ls4, rfl, h4⟩ := gI_ok h3; obtain ⟨a4, ls5, rfl, h5⟩ := gI_ok h4; obtain ⟨a5, ls6, rfl, h6⟩ := gI_ok h5; obtain ⟨a6, ls7, rfl, h7⟩ := gI_ok h6; obtain ⟨a7, ls8, rfl, h8⟩ := gI_ok h7; obtain ⟨a8, ls9, rfl, h9⟩ := gI_ok h8; obtain ⟨a9, ls10, rfl, h10⟩ := gI_ok h9; obtain ⟨a10, ls11, rfl, h11⟩ := gI_ok h10; obtain ⟨a11, ls12, rfl, h12⟩ := gI_ok h11; obtain ⟨a12, ls13, rfl, h13⟩ := gI_ok h12; obtain ⟨a13, ls14, rfl, h14⟩ := gI_ok h13; obtain ⟨a14, ls15, rfl, h15⟩ := gI_ok h14; obtain ⟨a15, ls16, rfl, h16⟩ := gI_ok h15; obtain ⟨a16, ls17, rfl, h17⟩ := gI_ok h16; obtain ⟨a17, ls18, rfl, h18⟩ := gI_ok h17; obtain ⟨a18, ls19, rfl, h19⟩ := gI_ok h18; obtain ⟨a19, ls20, rfl, h20⟩ := gI_ok h19; obtain ⟨a20, ls21, rfl, h21⟩ := gI_ok h20; obtain ⟨rfl, h22⟩ := gE_ok h21
  obtain ⟨y, k1, k2⟩ := Option.bind_eq_some_iff.1 h22
  exact ⟨_, k2, sp19 a0 a1 a2 a3 a4 a5 a6 a7 a8 a9 a10 a11 a12 a13 a14 a15 a16 a17 a18 a19 a20 k1⟩

/-! ### garland/arc.UpTo -/
def pa31 : List VP := [.i .i64, .i .i64, .i .i64]
def sr31 : RShape := ⟨.b, [], none⟩
def toB31 : List Leaf → Option (Bool) := gB (fun b0 => gE (some b0))
def ofB31 (y : Bool) : List Leaf := [.b y]
theorem toB31_ok : ∀ ls b, toB31 ls = some b → ls = ofB31 b := by
  intro ls b h
  unfold toB31 at h
  obtain ⟨b0, ls1, rfl, h1⟩ := gB_ok h; obtain ⟨rfl, h2⟩ := gE_ok h1
  cases h2; rfl
def run31 {R : Type} : SF R := ⟨pa31, sr31, fun ls K => (gI (fun a0 => gI (fun a1 => gI (fun a2 => gE (Option.bind (F31 FUEL a0 a1 a2) fun y => K (ofB31 y)))))) ls⟩
def cuts31 : List (List Nat × Cut (Bool)) := []
noncomputable def X31 : Px (Bool) := ⟨T, Try.prog, lkF [(45, run45), (48, run48)], mkCuts 31 cuts31, altN, altN_ok⟩
theorem e31 (n : Nat) (a0 : Int) (a1 : Int) (a2 : Int) : entF X31 8 31 pa31 (endK sr31 toB31) n [.i a0, .i a1, .i a2] = F31 n a0 a1 a2 := by kernel_rfl
theorem sp31 {n : Nat} (a0 : Int) (a1 : Int) (a2 : Int) {y : Bool} (h : F31 n a0 a1 a2 = some y) : SpecF T Try.prog 31 pa31 [.i a0, .i a1, .i a2] sr31 (ofB31 y) :=
  fun_ok (X := X31) tok (sfok_of ⟨ok45, ok48, trivial⟩) mixed 31 8 cuts31 rfl toB31_ok trivial ((e31 n a0 a1 a2).trans h)
theorem ok31 {R : Type} : SFone T Try.prog 31 (run31 : SF R) := by
  intro ls K r h
  simp only [run31] at h
  obtain ⟨a0, ls1, rfl, h1⟩ := gI_ok h; obtain ⟨a1, ls2, rfl, h2⟩ := gI_ok h1; obtain ⟨a2, ls3, rfl, h3⟩ := gI_ok h2; obtain ⟨rfl, h4⟩ := gE_ok h3
  obtain ⟨y, k1, k2⟩ := Option.bind_eq_some_iff.1 h4
  exact ⟨_, k2, sp31 a0 a1 a2 k1⟩

/-! ### garland/rect.Owns -/
def pa17 : List VP := [.agg [.i .i64, .sl false [.int .i64], .sl false [.int .i64], .i .i64, .i .i64, .i .i64, .i .i64, .i .i64, .i .i64, .i .i64, .i .i64, .i .i64, .i .i64, .i .i64, .i .i64, .i .i64, .i .i64, .i .i64, .i .i64, .i .i64], .i .i64]
def sr17 : RShape := ⟨.b, [], none⟩
def toB17 : List Leaf → Option (Bool) := gB (fun b0 => gE (some b0))
def ofB17 (y : Bool) : List Leaf := [.b y]
theorem toB17_ok : ∀ ls b, toB17 ls = some b → ls = ofB17 b := by
  intro ls b h
  unfold toB17 at h
  obtain ⟨b0, ls1, rfl, h1⟩ := gB_ok h; obtain ⟨rfl, h2⟩ := gE_ok h1
  cases h2; rfl
def run17 {R : Type} : SF R := ⟨pa17, sr17, fun ls K => (gI (fun a0 => gL [.int .i64] (fun a1 => gL [.int .i64] (fun a2 => gI (fun a3 => gI (fun a4 => gI (fun a5 => gI (fun a6 => gI (fun a7 => gI (fun a8 => gI (fun a9 => gI (fun a10 => gI (fun a11 => gI (fun a12 => gI (fun a13 => gI (fun a14 => gI (fun a15 => gI (fun a16 => gI (fun a17 => gI (fun a18 => gI (fun a19 => gI (fun a20 => gE (Option.bind (F17 FUEL a0 a1 a2 a3 a4 a5 a6 a7 a8 a9 a10 a11 a12 a13 a14 a15 a16 a17 a18 a19 a20) fun y => K (ofB17 y)))))))))))))))))))))))) ls⟩
def cuts17 : List (List Nat × Cut (Bool)) := []
noncomputable def X17 : Px (Bool) := ⟨T, Try.prog, lkF [(25, run25), (31, run31)], mkCuts 17 cuts17, altN, altN_ok⟩
theorem e17 (n : Nat) (a0 : Int) (a1 : List (Int)) (a2 : List (Int)) (a3 : Int) (a4 : Int) (a5 : Int) (a6 : Int) (a7 : Int) (a8 : Int) (a9 : Int) (a10 : Int) (a11 : Int) (a12 : Int) (a13 : Int) (a14 : Int) (a15 : Int) (a16 : Int) (a17 : Int) (a18 : Int) (a19 : Int) (a20 : Int) : entF X17 8 17 pa17 (endK sr17 toB17) n [.i a0, .l [.int .i64] a1, .l [.int .i64] a2, .i a3, .i a4, .i a5, .i a6, .i a7, .i a8, .i a9, .i a10, .i a11, .i a12, .i a13, .i a14, .i a15, .i a16, .i a17, .i a18, .i a19, .i a20] = F17 n a0 a1 a2 a3 a4 a5 a6 a7 a8 a9 a10 a11 a12 a13 a14 a15 a16 a17 a18 a19 a20 := by kernel_rfl
theorem sp17 {n : Nat} (a0 : Int) (a1 : List (Int)) (a2 : List (Int)) (a3 : Int) (a4 : Int) (a5 : Int) (a6 : Int) (a7 : Int) (a8 : Int) (a9 : Int) (a10 : Int) (a11 : Int) (a12 : Int) (a13 : Int) (a14 : Int) (a15 : Int) (a16 : Int) (a17 : Int) (a18 : Int) (a19 : Int) (a20 : Int) {y : Bool} (h : F17 n a0 a1 a2 a3 a4 a5 a6 a7 a8 a9 a10 a11 a12 a13 a14 a15 a16 a17 a18 a19 a20 = some y) : SpecF T Try.prog 17 pa17 [.i a0, .l [.int .i64] a1, .l [.int .i64] a2, .i a3, .i a4, .i a5, .i a6, .i a7, .i a8, .i a9, .i a10, .i a11, .i a12, .i a13, .i a14, .i a15, .i a16, .i a17, .i a18, .i a19, .i a20] sr17 (ofB17 y) :=
  fun_ok (X := X17) tok (sfok_of ⟨ok25, ok31, trivial⟩) mixed 17 8 cuts17 rfl toB17_ok trivial ((e17 n a0 a1 a2 a3 a4 a5 a6 a7 a8 a9 a10 a11 a12 a13 a14 a15 a16 a17 a18 a19 a20).trans h)
theorem ok17 {R : Type} : SFone T Try.prog 17 (run17 : SF R) := by
  intro ls K r h
  simp only [run17] at h
  obtain ⟨a0, ls1, rfl, h1⟩ := gI_ok h; obtain ⟨a1, ls2, rfl, h2⟩ := gL_ok h1; obtain ⟨a2, ls3, rfl, h3⟩ := gL_ok h2; obtain ⟨a3, ls4, rfl, h4⟩ := gI_ok h3; obtain ⟨a4, ls5, rfl, h5⟩ := gI_ok h4; obtain ⟨a5, ls6, rfl, h6⟩ := gI_ok h5; obtain ⟨a6, ls7, rfl, h7⟩ := gI_ok h6; obtain ⟨a7, ls8, rfl, h8⟩ := gI_ok h7; obtain ⟨a8, ls9, rfl, h9⟩ := gI_ok h8; obtain ⟨a9, ls10, rfl, h10⟩ := gI_ok h9; obtain ⟨a10, ls11, rfl, h11⟩ := gI_ok h10; obtain ⟨a11, ls12, rfl, h12⟩ := gI_ok h11; obtain ⟨a12, ls13, rfl, h13⟩ := gI_ok h12; obtain ⟨a13, ls14, rfl, h14⟩ := gI_ok h13; obtain ⟨a14, ls15, rfl, h15⟩ := gI_ok h14; obtain ⟨a15, ls16, rfl, h16⟩ := gI_ok h15; obtain ⟨a16, ls17, rfl, h17⟩ := gI_ok h16; obtain ⟨a17, ls18, rfl, h18⟩ := gI_ok h17; obtain ⟨a18, ls19, rfl, h19⟩ := gI_ok h18; obtain ⟨a19, ls20, rfl, h20⟩ := gI_ok h19; obtain ⟨a20, ls21, rfl, h21⟩ := gI_ok h20; obtain ⟨rfl, h22⟩ := gE_ok h21
  obtain ⟨y, k1, k2⟩ := Option.bind_eq_some_iff.1 h22
  exact ⟨_, k2, sp17 a0 a1 a2 a3 a4 a5 a6 a7 a8 a9 a10 a11 a12 a13 a14 a15 a16 a17 a18 a19 a20 k1⟩

/-! ### garland/rect.Better -/
def pa12 : List VP := [.agg [.i .i64, .sl false [.int .i64], .sl false [.int .i64], .i .i64, .i .i64, .i .i64, .i .i64, .i .i64, .i .i64, .i .i64, .i .i64, .i .i64, .i .i64, .i .i64, .i .i64, .i .i64, .i .i64, .i .i64, .i .i64, .i .i64], .i .i64]
def sr12 : RShape := ⟨.b, [], none⟩
def toB12 : List Leaf → Option (Bool) := gB (fun b0 => gE (some b0))
def ofB12 (y : Bool) : List Leaf := [.b y]
theorem toB12_ok : ∀ ls b, toB12 ls = some b → ls = ofB12 b := by
  intro ls b h
  unfold toB12 at h
  obtain ⟨b0, ls1, rfl, h1⟩ := gB_ok h; obtain ⟨rfl, h2⟩ := gE_ok h1
  cases h2; rfl
def run12 {R : Type} : SF R := ⟨pa12, sr12, fun ls K => (gI (fun a0 => gL [.int .i64] (fun a1 => gL [.int .i64] (fun a2 => gI (fun a3 => gI (fun a4 => gI (fun a5 => gI (fun a6 => gI (fun a7 => gI (fun a8 => gI (fun a9 => gI (fun a10 => gI (fun a11 => gI (fun a12 => gI (fun a13 => gI (fun a14 => gI (fun a15 => gI (fun a16 => gI (fun a17 => gI (fun a18 => gI (fun a19 => gI (fun a20 => gE (Option.bind (F12 FUEL a0 a1 a2 a3 a4 a5 a6 a7 a8 a9 a10 a11 a12 a13 a14 a15 a16 a17 a18 a19 a20) fun y => K (ofB12 y)))))))))))))))))))))))) ls⟩
def cuts12 : List (List Nat × Cut (Bool)) := []
noncomputable def X12 : Px (Bool) := ⟨T, Try.prog, lkF [(25, run25), (44, run44), (45, run45)], mkCuts 12 cuts12, altN, altN_ok⟩
theorem e12 (n : Nat) (a0 : Int) (a1 : List (Int)) (a2 : List (Int)) (a3 : Int) (a4 : Int) (a5 : Int) (a6 : Int) (a7 : Int) (a8 : Int) (a9 : Int) (a10 : Int) (a11 : Int) (a12 : Int) (a13 : Int) (a14 : Int) (a15 : Int) (a16 : Int) (a17 : Int) (a18 : Int) (a19 : Int) (a20 : Int) : entF X12 8 12 pa12 (endK sr12 toB12) n [.i a0, .l [.int .i64] a1, .l [.int .i64] a2, .i a3, .i a4, .i a5, .i a6, .i a7, .i a8, .i a9, .i a10, .i a11, .i a12, .i a13, .i a14, .i a15, .i a16, .i a17, .i a18, .i a19, .i a20] = F12 n a0 a1 a2 a3 a4 a5 a6 a7 a8 a9 a10 a11 a12 a13 a14 a15 a16 a17 a18 a19 a20 := by kernel_rfl
theorem sp12 {n : Nat} (a0 : Int) (a1 : List (Int)) (a2 : List (Int)) (a3 : Int) (a4 : Int) (a5 : Int) (a6 : Int) (a7 : Int) (a8 : Int) (a9 : Int) (a10 : Int) (a11 : Int) (a12 : Int) (a13 : Int) (a14 : Int) (a15 : Int) (a16 : Int) (a17 : Int) (a18 : Int) (a19 : Int) (a20 : Int) {y : Bool} (h : F12 n a0 a1 a2 a3 a4 a5 a6 a7 a8 a9 a10 a11 a12 a13 a14 a15 a16 a17 a18 a19 a20 = some y) : SpecF T Try.prog 12 pa12 [.i a0, .l [.int .i64] a1, .l [.int .i64] a2, .i a3, .i a4, .i a5, .i a6, .i a7, .i a8, .i a9, .i a10, .i a11, .i a12, .i a13, .i a14, .i a15, .i a16, .i a17, .i a18, .i a19, .i a20] sr12 (ofB12 y) :=
  fun_ok (X := X12) tok (sfok_of ⟨ok25, ok44, ok45, trivial⟩) mixed 12 8 cuts12 rfl toB12_ok trivial ((e12 n a0 a1 a2 a3 a4 a5 a6 a7 a8 a9 a10 a11 a12 a13 a14 a15 a16 a17 a18 a19 a20).trans h)
theorem ok12 {R : Type} : SFone T Try.prog 12 (run12 : SF R) := by
  intro ls K r h
  simp only [run12] at h
  obtain ⟨a0, ls1, rfl, h1⟩ := gI_ok h; obtain ⟨a1, ls2, rfl, h2⟩ := gL_ok h1; obtain ⟨a2, ls3, rfl, h3⟩ := gL_ok h2; obtain ⟨a3, ls4, rfl, h4⟩ := gI_ok h3; obtain ⟨a4, ls5, rfl, h5⟩ := gI_ok h4; obtain ⟨a5, ls6, rfl, h6⟩ := gI_ok h5; obtain ⟨a6, ls7, rfl, h7⟩ := gI_ok h6; obtain ⟨a7, ls8, rfl, h8⟩ := gI_ok h7; obtain ⟨a8, ls9, rfl, h9⟩ := gI_ok h8; obtain ⟨a9, ls10, rfl, h10⟩ := gI_ok h9; obtain ⟨a10, ls11, rfl, h11⟩ := gI_ok h10; obtain ⟨a11, ls12, rfl, h12⟩ := gI_ok h11; obtain ⟨a12, ls13, rfl, h13⟩ := gI_ok h12; obtain ⟨a13, ls14, rfl, h14⟩ := gI_ok h13; obtain ⟨a14, ls15, rfl, h15⟩ := gI_ok h14; obtain ⟨a15, ls16, rfl, h16⟩ := gI_ok h15; obtain ⟨a16, ls17, rfl, h17⟩ := gI_ok h16; obtain ⟨a17, ls18, rfl, h18⟩ := gI_ok h17; obtain ⟨a18, ls19, rfl, h19⟩ := gI_ok h18; obtain ⟨a19, ls20, rfl, h20⟩ := gI_ok h19; obtain ⟨a20, ls21, rfl, h21⟩ := gI_ok h20; obtain ⟨rfl, h22⟩ := gE_ok h21
  obtain ⟨y, k1, k2⟩ := Option.bind_eq_some_iff.1 h22
  exact ⟨_, k2, sp12 a0 a1 a2 a3 a4 a5 a6 a7 a8 a9 a10 a11 a12 a13 a14 a15 a16 a17 a18 a19 a20 k1⟩

/-! ### garland/garlandlaw15.wakes -/
def pa9 : List VP := []
def sr9 : RShape := ⟨.b, [], none⟩
def toB9 : List Leaf → Option (Bool) := gB (fun b0 => gE (some b0))
def ofB9 (y : Bool) : List Leaf := [.b y]
theorem toB9_ok : ∀ ls b, toB9 ls = some b → ls = ofB9 b := by
  intro ls b h
  unfold toB9 at h
  obtain ⟨b0, ls1, rfl, h1⟩ := gB_ok h; obtain ⟨rfl, h2⟩ := gE_ok h1
  cases h2; rfl
def run9 {R : Type} : SF R := ⟨pa9, sr9, fun ls K => (gE (Option.bind (F9 FUEL ) fun y => K (ofB9 y))) ls⟩
def cuts9 : List (List Nat × Cut (Bool)) := []
noncomputable def X9 : Px (Bool) := ⟨T, Try.prog, lkF [(24, run24), (15, run15), (10, run10), (19, run19), (17, run17), (12, run12)], mkCuts 9 cuts9, altN, altN_ok⟩
theorem e9 (n : Nat) : entF X9 8 9 pa9 (endK sr9 toB9) n [] = F9 n  := by kernel_rfl
theorem sp9 {n : Nat} {y : Bool} (h : F9 n  = some y) : SpecF T Try.prog 9 pa9 [] sr9 (ofB9 y) :=
  fun_ok (X := X9) tok (sfok_of ⟨ok24, ok15, ok10, ok19, ok17, ok12, trivial⟩) mixed 9 8 cuts9 rfl toB9_ok trivial ((e9 n ).trans h)
theorem ok9 {R : Type} : SFone T Try.prog 9 (run9 : SF R) := by
  intro ls K r h
  simp only [run9] at h
  obtain ⟨rfl, h1⟩ := gE_ok h
  obtain ⟨y, k1, k2⟩ := Option.bind_eq_some_iff.1 h1
  exact ⟨_, k2, sp9  k1⟩

/-! ### garland/garlandref15.Asks -/
def pa11 : List VP := [.agg [.i .i64, .sl false [.int .i64], .sl false [.int .i64], .i .i64, .i .i64, .i .i64, .i .i64, .i .i64, .i .i64, .i .i64, .i .i64, .i .i64, .i .i64, .i .i64, .i .i64, .i .i64, .i .i64, .i .i64, .i .i64, .i .i64]]
def sr11 : RShape := ⟨.tup [.i .i64, .b], [], none⟩
def toB11 : List Leaf → Option (Int × Bool) := gI (fun b0 => gB (fun b1 => gE (some (b0, b1))))
def ofB11 (y : Int × Bool) : List Leaf := [.i y.1, .b y.2]
theorem toB11_ok : ∀ ls b, toB11 ls = some b → ls = ofB11 b := by
  intro ls b h
  unfold toB11 at h
  obtain ⟨b0, ls1, rfl, h1⟩ := gI_ok h; obtain ⟨b1, ls2, rfl, h2⟩ := gB_ok h1; obtain ⟨rfl, h3⟩ := gE_ok h2
  cases h3; rfl
def run11 {R : Type} : SF R := ⟨pa11, sr11, fun ls K => (gI (fun a0 => gL [.int .i64] (fun a1 => gL [.int .i64] (fun a2 => gI (fun a3 => gI (fun a4 => gI (fun a5 => gI (fun a6 => gI (fun a7 => gI (fun a8 => gI (fun a9 => gI (fun a10 => gI (fun a11 => gI (fun a12 => gI (fun a13 => gI (fun a14 => gI (fun a15 => gI (fun a16 => gI (fun a17 => gI (fun a18 => gI (fun a19 => gE (Option.bind (F11 FUEL a0 a1 a2 a3 a4 a5 a6 a7 a8 a9 a10 a11 a12 a13 a14 a15 a16 a17 a18 a19) fun y => K (ofB11 y))))))))))))))))))))))) ls⟩
def cuts11 : List (List Nat × Cut (Int × Bool)) := []
noncomputable def X11 : Px (Int × Bool) := ⟨T, Try.prog, lkF [(21, run21)], mkCuts 11 cuts11, altN, altN_ok⟩
theorem e11 (n : Nat) (a0 : Int) (a1 : List (Int)) (a2 : List (Int)) (a3 : Int) (a4 : Int) (a5 : Int) (a6 : Int) (a7 : Int) (a8 : Int) (a9 : Int) (a10 : Int) (a11 : Int) (a12 : Int) (a13 : Int) (a14 : Int) (a15 : Int) (a16 : Int) (a17 : Int) (a18 : Int) (a19 : Int) : entF X11 8 11 pa11 (endK sr11 toB11) n [.i a0, .l [.int .i64] a1, .l [.int .i64] a2, .i a3, .i a4, .i a5, .i a6, .i a7, .i a8, .i a9, .i a10, .i a11, .i a12, .i a13, .i a14, .i a15, .i a16, .i a17, .i a18, .i a19] = F11 n a0 a1 a2 a3 a4 a5 a6 a7 a8 a9 a10 a11 a12 a13 a14 a15 a16 a17 a18 a19 := by kernel_rfl
theorem sp11 {n : Nat} (a0 : Int) (a1 : List (Int)) (a2 : List (Int)) (a3 : Int) (a4 : Int) (a5 : Int) (a6 : Int) (a7 : Int) (a8 : Int) (a9 : Int) (a10 : Int) (a11 : Int) (a12 : Int) (a13 : Int) (a14 : Int) (a15 : Int) (a16 : Int) (a17 : Int) (a18 : Int) (a19 : Int) {y : Int × Bool} (h : F11 n a0 a1 a2 a3 a4 a5 a6 a7 a8 a9 a10 a11 a12 a13 a14 a15 a16 a17 a18 a19 = some y) : SpecF T Try.prog 11 pa11 [.i a0, .l [.int .i64] a1, .l [.int .i64] a2, .i a3, .i a4, .i a5, .i a6, .i a7, .i a8, .i a9, .i a10, .i a11, .i a12, .i a13, .i a14, .i a15, .i a16, .i a17, .i a18, .i a19] sr11 (ofB11 y) :=
  fun_ok (X := X11) tok (sfok_of ⟨ok21, trivial⟩) mixed 11 8 cuts11 rfl toB11_ok trivial ((e11 n a0 a1 a2 a3 a4 a5 a6 a7 a8 a9 a10 a11 a12 a13 a14 a15 a16 a17 a18 a19).trans h)
theorem ok11 {R : Type} : SFone T Try.prog 11 (run11 : SF R) := by
  intro ls K r h
  simp only [run11] at h
  obtain ⟨a0, ls1, rfl, h1⟩ := gI_ok h; obtain ⟨a1, ls2, rfl, h2⟩ := gL_ok h1; obtain ⟨a2, ls3, rfl, h3⟩ := gL_ok h2; obtain ⟨a3, ls4, rfl, h4⟩ := gI_ok h3; obtain ⟨a4, ls5, rfl, h5⟩ := gI_ok h4; obtain ⟨a5, ls6, rfl, h6⟩ := gI_ok h5; obtain ⟨a6, ls7, rfl, h7⟩ := gI_ok h6; obtain ⟨a7, ls8, rfl, h8⟩ := gI_ok h7; obtain ⟨a8, ls9, rfl, h9⟩ := gI_ok h8; obtain ⟨a9, ls10, rfl, h10⟩ := gI_ok h9; obtain ⟨a10, ls11, rfl, h11⟩ := gI_ok h10; obtain ⟨a11, ls12, rfl, h12⟩ := gI_ok h11; obtain ⟨a12, ls13, rfl, h13⟩ := gI_ok h12; obtain ⟨a13, ls14, rfl, h14⟩ := gI_ok h13; obtain ⟨a14, ls15, rfl, h15⟩ := gI_ok h14; obtain ⟨a15, ls16, rfl, h16⟩ := gI_ok h15; obtain ⟨a16, ls17, rfl, h17⟩ := gI_ok h16; obtain ⟨a17, ls18, rfl, h18⟩ := gI_ok h17; obtain ⟨a18, ls19, rfl, h19⟩ := gI_ok h18; obtain ⟨a19, ls20, rfl, h20⟩ := gI_ok h19; obtain ⟨rfl, h21⟩ := gE_ok h20
  obtain ⟨y, k1, k2⟩ := Option.bind_eq_some_iff.1 h21
  exact ⟨_, k2, sp11 a0 a1 a2 a3 a4 a5 a6 a7 a8 a9 a10 a11 a12 a13 a14 a15 a16 a17 a18 a19 k1⟩

/-! ### garland/garlandref03.In -/
def pa27 : List VP := [.i .i64, .i .i64, .i .i64]
def sr27 : RShape := ⟨.b, [], none⟩
def toB27 : List Leaf → Option (Bool) := gB (fun b0 => gE (some b0))
def ofB27 (y : Bool) : List Leaf := [.b y]
theorem toB27_ok : ∀ ls b, toB27 ls = some b → ls = ofB27 b := by
  intro ls b h
  unfold toB27 at h
  obtain ⟨b0, ls1, rfl, h1⟩ := gB_ok h; obtain ⟨rfl, h2⟩ := gE_ok h1
  cases h2; rfl
def run27 {R : Type} : SF R := ⟨pa27, sr27, fun ls K => (gI (fun a0 => gI (fun a1 => gI (fun a2 => gE (Option.bind (F27 FUEL a0 a1 a2) fun y => K (ofB27 y)))))) ls⟩
def cuts27 : List (List Nat × Cut (Bool)) := []
noncomputable def X27 : Px (Bool) := ⟨T, Try.prog, lkF [(37, run37), (22, run22)], mkCuts 27 cuts27, altN, altN_ok⟩
theorem e27 (n : Nat) (a0 : Int) (a1 : Int) (a2 : Int) : entF X27 8 27 pa27 (endK sr27 toB27) n [.i a0, .i a1, .i a2] = F27 n a0 a1 a2 := by kernel_rfl
theorem sp27 {n : Nat} (a0 : Int) (a1 : Int) (a2 : Int) {y : Bool} (h : F27 n a0 a1 a2 = some y) : SpecF T Try.prog 27 pa27 [.i a0, .i a1, .i a2] sr27 (ofB27 y) :=
  fun_ok (X := X27) tok (sfok_of ⟨ok37, ok22, trivial⟩) mixed 27 8 cuts27 rfl toB27_ok trivial ((e27 n a0 a1 a2).trans h)
theorem ok27 {R : Type} : SFone T Try.prog 27 (run27 : SF R) := by
  intro ls K r h
  simp only [run27] at h
  obtain ⟨a0, ls1, rfl, h1⟩ := gI_ok h; obtain ⟨a1, ls2, rfl, h2⟩ := gI_ok h1; obtain ⟨a2, ls3, rfl, h3⟩ := gI_ok h2; obtain ⟨rfl, h4⟩ := gE_ok h3
  obtain ⟨y, k1, k2⟩ := Option.bind_eq_some_iff.1 h4
  exact ⟨_, k2, sp27 a0 a1 a2 k1⟩

/-! ### garland/garlandref15.Better -/
def pa13 : List VP := [.agg [.i .i64, .sl false [.int .i64], .sl false [.int .i64], .i .i64, .i .i64, .i .i64, .i .i64, .i .i64, .i .i64, .i .i64, .i .i64, .i .i64, .i .i64, .i .i64, .i .i64, .i .i64, .i .i64, .i .i64, .i .i64, .i .i64], .i .i64]
def sr13 : RShape := ⟨.b, [], none⟩
def toB13 : List Leaf → Option (Bool) := gB (fun b0 => gE (some b0))
def ofB13 (y : Bool) : List Leaf := [.b y]
theorem toB13_ok : ∀ ls b, toB13 ls = some b → ls = ofB13 b := by
  intro ls b h
  unfold toB13 at h
  obtain ⟨b0, ls1, rfl, h1⟩ := gB_ok h; obtain ⟨rfl, h2⟩ := gE_ok h1
  cases h2; rfl
def run13 {R : Type} : SF R := ⟨pa13, sr13, fun ls K => (gI (fun a0 => gL [.int .i64] (fun a1 => gL [.int .i64] (fun a2 => gI (fun a3 => gI (fun a4 => gI (fun a5 => gI (fun a6 => gI (fun a7 => gI (fun a8 => gI (fun a9 => gI (fun a10 => gI (fun a11 => gI (fun a12 => gI (fun a13 => gI (fun a14 => gI (fun a15 => gI (fun a16 => gI (fun a17 => gI (fun a18 => gI (fun a19 => gI (fun a20 => gE (Option.bind (F13 FUEL a0 a1 a2 a3 a4 a5 a6 a7 a8 a9 a10 a11 a12 a13 a14 a15 a16 a17 a18 a19 a20) fun y => K (ofB13 y)))))))))))))))))))))))) ls⟩
def cuts13 : List (List Nat × Cut (Bool)) := []
noncomputable def X13 : Px (Bool) := ⟨T, Try.prog, lkF [(21, run21), (27, run27)], mkCuts 13 cuts13, altN, altN_ok⟩
theorem e13 (n : Nat) (a0 : Int) (a1 : List (Int)) (a2 : List (Int)) (a3 : Int) (a4 : Int) (a5 : Int) (a6 : Int) (a7 : Int) (a8 : Int) (a9 : Int) (a10 : Int) (a11 : Int) (a12 : Int) (a13 : Int) (a14 : Int) (a15 : Int) (a16 : Int) (a17 : Int) (a18 : Int) (a19 : Int) (a20 : Int) : entF X13 8 13 pa13 (endK sr13 toB13) n [.i a0, .l [.int .i64] a1, .l [.int .i64] a2, .i a3, .i a4, .i a5, .i a6, .i a7, .i a8, .i a9, .i a10, .i a11, .i a12, .i a13, .i a14, .i a15, .i a16, .i a17, .i a18, .i a19, .i a20] = F13 n a0 a1 a2 a3 a4 a5 a6 a7 a8 a9 a10 a11 a12 a13 a14 a15 a16 a17 a18 a19 a20 := by kernel_rfl
theorem sp13 {n : Nat} (a0 : Int) (a1 : List (Int)) (a2 : List (Int)) (a3 : Int) (a4 : Int) (a5 : Int) (a6 : Int) (a7 : Int) (a8 : Int) (a9 : Int) (a10 : Int) (a11 : Int) (a12 : Int) (a13 : Int) (a14 : Int) (a15 : Int) (a16 : Int) (a17 : Int) (a18 : Int) (a19 : Int) (a20 : Int) {y : Bool} (h : F13 n a0 a1 a2 a3 a4 a5 a6 a7 a8 a9 a10 a11 a12 a13 a14 a15 a16 a17 a18 a19 a20 = some y) : SpecF T Try.prog 13 pa13 [.i a0, .l [.int .i64] a1, .l [.int .i64] a2, .i a3, .i a4, .i a5, .i a6, .i a7, .i a8, .i a9, .i a10, .i a11, .i a12, .i a13, .i a14, .i a15, .i a16, .i a17, .i a18, .i a19, .i a20] sr13 (ofB13 y) :=
  fun_ok (X := X13) tok (sfok_of ⟨ok21, ok27, trivial⟩) mixed 13 8 cuts13 rfl toB13_ok trivial ((e13 n a0 a1 a2 a3 a4 a5 a6 a7 a8 a9 a10 a11 a12 a13 a14 a15 a16 a17 a18 a19 a20).trans h)
theorem ok13 {R : Type} : SFone T Try.prog 13 (run13 : SF R) := by
  intro ls K r h
  simp only [run13] at h
  obtain ⟨a0, ls1, rfl, h1⟩ := gI_ok h; obtain ⟨a1, ls2, rfl, h2⟩ := gL_ok h1; obtain ⟨a2, ls3, rfl, h3⟩ := gL_ok h2; obtain ⟨a3, ls4, rfl, h4⟩ := gI_ok h3; obtain ⟨a4, ls5, rfl, h5⟩ := gI_ok h4; obtain ⟨a5, ls6, rfl, h6⟩ := gI_ok h5; obtain ⟨a6, ls7, rfl, h7⟩ := gI_ok h6; obtain ⟨a7, ls8, rfl, h8⟩ := gI_ok h7; obtain ⟨a8, ls9, rfl, h9⟩ := gI_ok h8; obtain ⟨a9, ls10, rfl, h10⟩ := gI_ok h9; obtain ⟨a10, ls11, rfl, h11⟩ := gI_ok h10; obtain ⟨a11, ls12, rfl, h12⟩ := gI_ok h11; obtain ⟨a12, ls13, rfl, h13⟩ := gI_ok h12; obtain ⟨a13, ls14, rfl, h14⟩ := gI_ok h13; obtain ⟨a14, ls15, rfl, h15⟩ := gI_ok h14; obtain ⟨a15, ls16, rfl, h16⟩ := gI_ok h15; obtain ⟨a16, ls17, rfl, h17⟩ := gI_ok h16; obtain ⟨a17, ls18, rfl, h18⟩ := gI_ok h17; obtain ⟨a18, ls19, rfl, h19⟩ := gI_ok h18; obtain ⟨a19, ls20, rfl, h20⟩ := gI_ok h19; obtain ⟨a20, ls21, rfl, h21⟩ := gI_ok h20; obtain ⟨rfl, h22⟩ := gE_ok h21
  obtain ⟨y, k1, k2⟩ := Option.bind_eq_some_iff.1 h22
  exact ⟨_, k2, sp13 a0 a1 a2 a3 a4 a5 a6 a7 a8 a9 a10 a11 a12 a13 a14 a15 a16 a17 a18 a19 a20 k1⟩

/-! ### garland/garlandref13.Own -/
def pa23 : List VP := [.agg [.i .i64, .sl false [.int .i64], .sl false [.int .i64], .i .i64, .i .i64, .i .i64, .i .i64, .i .i64, .i .i64, .i .i64, .i .i64, .i .i64, .i .i64, .i .i64, .i .i64, .i .i64, .i .i64, .i .i64, .i .i64, .i .i64]]
def sr23 : RShape := ⟨.agg [.i .i64, .row 0, .row 1, .i .i64, .i .i64, .i .i64, .i .i64, .i .i64, .i .i64, .i .i64, .i .i64, .i .i64, .i .i64, .i .i64, .i .i64, .i .i64, .i .i64, .i .i64, .i .i64, .i .i64], [.row true [.int .i64], .row true [.int .i64]], none⟩
def toB23 : List Leaf → Option (Si18l2) := gI (fun b0 => gI (fun b1 => gI (fun b2 => gI (fun b3 => gI (fun b4 => gI (fun b5 => gI (fun b6 => gI (fun b7 => gI (fun b8 => gI (fun b9 => gI (fun b10 => gI (fun b11 => gI (fun b12 => gI (fun b13 => gI (fun b14 => gI (fun b15 => gI (fun b16 => gI (fun b17 => gL [.int .i64] (fun b18 => gL [.int .i64] (fun b19 => gE (some ⟨b0, b1, b2, b3, b4, b5, b6, b7, b8, b9, b10, b11, b12, b13, b14, b15, b16, b17, b18, b19⟩)))))))))))))))))))))
def ofB23 (y : Si18l2) : List Leaf := [.i y.q0, .i y.q1, .i y.q2, .i y.q3, .i y.q4, .i y.q5, .i y.q6, .i y.q7, .i y.q8, .i y.q9, .i y.q10, .i y.q11, .i y.q12, .i y.q13, .i y.q14, .i y.q15, .i y.q16, .i y.q17, .l [.int .i64] y.q18, .l [.int .i64] y.q19]
theorem toB23_ok : ∀ ls b, toB23 ls = some b → ls = ofB23 b := by
  intro ls b h
  unfold toB23 at h
  obtain ⟨b0, ls1, rfl, h1⟩ := gI_ok h; obtain ⟨b1, ls2, rfl, h2⟩ := gI_ok h1; obtain ⟨b2, ls3, rfl, h3⟩ := gI_ok h2; obtain ⟨b3, ls4, rfl, h4⟩ := gI_ok h3; obtain ⟨b4, ls5, rfl, h5⟩ := gI_ok h4; obtain ⟨b5, ls6, rfl, h6⟩ := gI_ok h5; obtain ⟨b6, ls7, rfl, h7⟩ := gI_ok h6; obtain ⟨b7, ls8, rfl, h8⟩ := gI_ok h7; obtain ⟨b8, ls9, rfl, h9⟩ := gI_ok h8; obtain ⟨b9, ls10, rfl, h10⟩ := gI_ok h9; obtain ⟨b10, ls11, rfl, h11⟩ := gI_ok h10; obtain ⟨b11, ls12, rfl, h12⟩ := gI_ok h11; obtain ⟨b12, ls13, rfl, h13⟩ := gI_ok h12; obtain ⟨b13, ls14, rfl, h14⟩ := gI_ok h13; obtain ⟨b14, ls15, rfl, h15⟩ := gI_ok h14; obtain ⟨b15, ls16, rfl, h16⟩ := gI_ok h15; obtain ⟨b16, ls17, rfl, h17⟩ := gI_ok h16; obtain ⟨b17, ls18, rfl, h18⟩ := gI_ok h17; obtain ⟨b18, ls19, rfl, h19⟩ := gL_ok h18; obtain ⟨b19, ls20, rfl, h20⟩ := gL_ok h19; obtain ⟨rfl, h21⟩ := gE_ok h20
  cases h21; rfl
def run23 {R : Type} : SF R := ⟨pa23, sr23, fun ls K => (gI (fun a0 => gL [.int .i64] (fun a1 => gL [.int .i64] (fun a2 => gI (fun a3 => gI (fun a4 => gI (fun a5 => gI (fun a6 => gI (fun a7 => gI (fun a8 => gI (fun a9 => gI (fun a10 => gI (fun a11 => gI (fun a12 => gI (fun a13 => gI (fun a14 => gI (fun a15 => gI (fun a16 => gI (fun a17 => gI (fun a18 => gI (fun a19 => gE (Option.bind (F23 FUEL a0 a1 a2 a3 a4 a5 a6 a7 a8 a9 a10 a11 a12 a13 a14 a15 a16 a17 a18 a19) fun y => K (ofB23 y))))))))))))))))))))))) ls⟩
def cuts23 : List (List Nat × Cut (Si18l2)) := []
noncomputable def X23 : Px (Si18l2) := ⟨T, Try.prog, lkF [], mkCuts 23 cuts23, altN, altN_ok⟩
theorem e23 (n : Nat) (a0 : Int) (a1 : List (Int)) (a2 : List (Int)) (a3 : Int) (a4 : Int) (a5 : Int) (a6 : Int) (a7 : Int) (a8 : Int) (a9 : Int) (a10 : Int) (a11 : Int) (a12 : Int) (a13 : Int) (a14 : Int) (a15 : Int) (a16 : Int) (a17 : Int) (a18 : Int) (a19 : Int) : entF X23 8 23 pa23 (endK sr23 toB23) n [.i a0, .l [.int .i64] a1, .l [.int .i64] a2, .i a3, .i a4, .i a5, .i a6, .i a7, .i a8, .i a9, .i a10, .i a11, .i a12, .i a13, .i a14, .i a15, .i a16, .i a17, .i a18, .i a19] = F23 n a0 a1 a2 a3 a4 a5 a6 a7 a8 a9 a10 a11 a12 a13 a14 a15 a16 a17 a18 a19 := by kernel_rfl
theorem sp23 {n : Nat} (a0 : Int) (a1 : List (Int)) (a2 : List (Int)) (a3 : Int) (a4 : Int) (a5 : Int) (a6 : Int) (a7 : Int) (a8 : Int) (a9 : Int) (a10 : Int) (a11 : Int) (a12 : Int) (a13 : Int) (a14 : Int) (a15 : Int) (a16 : Int) (a17 : Int) (a18 : Int) (a19 : Int) {y : Si18l2} (h : F23 n a0 a1 a2 a3 a4 a5 a6 a7 a8 a9 a10 a11 a12 a13 a14 a15 a16 a17 a18 a19 = some y) : SpecF T Try.prog 23 pa23 [.i a0, .l [.int .i64] a1, .l [.int .i64] a2, .i a3, .i a4, .i a5, .i a6, .i a7, .i a8, .i a9, .i a10, .i a11, .i a12, .i a13, .i a14, .i a15, .i a16, .i a17, .i a18, .i a19] sr23 (ofB23 y) :=
  fun_ok (X := X23) tok (sfok_of trivial) mixed 23 8 cuts23 rfl toB23_ok trivial ((e23 n a0 a1 a2 a3 a4 a5 a6 a7 a8 a9 a10 a11 a12 a13 a14 a15 a16 a17 a18 a19).trans h)
theorem ok23 {R : Type} : SFone T Try.prog 23 (run23 : SF R) := by
  intro ls K r h
  simp only [run23] at h
  obtain ⟨a0, ls1, rfl, h1⟩ := gI_ok h; obtain ⟨a1, ls2, rfl, h2⟩ := gL_ok h1; obtain ⟨a2, ls3, rfl, h3⟩ := gL_ok h2; obtain ⟨a3, ls4, rfl, h4⟩ := gI_ok h3; obtain ⟨a4, ls5, rfl, h5⟩ := gI_ok h4; obtain ⟨a5, ls6, rfl, h6⟩ := gI_ok h5; obtain ⟨a6, ls7, rfl, h7⟩ := gI_ok h6; obtain ⟨a7, ls8, rfl, h8⟩ := gI_ok h7; obtain ⟨a8, ls9, rfl, h9⟩ := gI_ok h8; obtain ⟨a9, ls10, rfl, h10⟩ := gI_ok h9; obtain ⟨a10, ls11, rfl, h11⟩ := gI_ok h10; obtain ⟨a11, ls12, rfl, h12⟩ := gI_ok h11; obtain ⟨a12, ls13, rfl, h13⟩ := gI_ok h12; obtain ⟨a13, ls14, rfl, h14⟩ := gI_ok h13; obtain ⟨a14, ls15, rfl, h15⟩ := gI_ok h14; obtain ⟨a15, ls16, rfl, h16⟩ := gI_ok h15; obtain ⟨a16, ls17, rfl, h17⟩ := gI_ok h16; obtain ⟨a17, ls18, rfl, h18⟩ := gI_ok h17; obtain ⟨a18, ls19, rfl, h19⟩ := gI_ok h18; obtain ⟨a19, ls20, rfl, h20⟩ := gI_ok h19; obtain ⟨rfl, h21⟩ := gE_ok h20
  obtain ⟨y, k1, k2⟩ := Option.bind_eq_some_iff.1 h21
  exact ⟨_, k2, sp23 a0 a1 a2 a3 a4 a5 a6 a7 a8 a9 a10 a11 a12 a13 a14 a15 a16 a17 a18 a19 k1⟩

/-! ### garland/garlandref15.Notify -/
def pa16 : List VP := [.agg [.i .i64, .sl false [.int .i64], .sl false [.int .i64], .i .i64, .i .i64, .i .i64, .i .i64, .i .i64, .i .i64, .i .i64, .i .i64, .i .i64, .i .i64, .i .i64, .i .i64, .i .i64, .i .i64, .i .i64, .i .i64, .i .i64], .sl false [.int .i64]]
def sr16 : RShape := ⟨.agg [.i .i64, .row 0, .row 1, .i .i64, .i .i64, .i .i64, .i .i64, .i .i64, .i .i64, .i .i64, .i .i64, .i .i64, .i .i64, .i .i64, .i .i64, .i .i64, .i .i64, .i .i64, .i .i64, .i .i64], [.row true [.int .i64], .row true [.int .i64]], none⟩
def toB16 : List Leaf → Option (Si18l2) := gI (fun b0 => gI (fun b1 => gI (fun b2 => gI (fun b3 => gI (fun b4 => gI (fun b5 => gI (fun b6 => gI (fun b7 => gI (fun b8 => gI (fun b9 => gI (fun b10 => gI (fun b11 => gI (fun b12 => gI (fun b13 => gI (fun b14 => gI (fun b15 => gI (fun b16 => gI (fun b17 => gL [.int .i64] (fun b18 => gL [.int .i64] (fun b19 => gE (some ⟨b0, b1, b2, b3, b4, b5, b6, b7, b8, b9, b10, b11, b12, b13, b14, b15, b16, b17, b18, b19⟩)))))))))))))))))))))
def ofB16 (y : Si18l2) : List Leaf := [.i y.q0, .i y.q1, .i y.q2, .i y.q3, .i y.q4, .i y.q5, .i y.q6, .i y.q7, .i y.q8, .i y.q9, .i y.q10, .i y.q11, .i y.q12, .i y.q13, .i y.q14, .i y.q15, .i y.q16, .i y.q17, .l [.int .i64] y.q18, .l [.int .i64] y.q19]
theorem toB16_ok : ∀ ls b, toB16 ls = some b → ls = ofB16 b := by
  intro ls b h
  unfold toB16 at h
  obtain ⟨b0, ls1, rfl, h1⟩ := gI_ok h; obtain ⟨b1, ls2, rfl, h2⟩ := gI_ok h1; obtain ⟨b2, ls3, rfl, h3⟩ := gI_ok h2; obtain ⟨b3, ls4, rfl, h4⟩ := gI_ok h3; obtain ⟨b4, ls5, rfl, h5⟩ := gI_ok h4; obtain ⟨b5, ls6, rfl, h6⟩ := gI_ok h5; obtain ⟨b6, ls7, rfl, h7⟩ := gI_ok h6; obtain ⟨b7, ls8, rfl, h8⟩ := gI_ok h7; obtain ⟨b8, ls9, rfl, h9⟩ := gI_ok h8; obtain ⟨b9, ls10, rfl, h10⟩ := gI_ok h9; obtain ⟨b10, ls11, rfl, h11⟩ := gI_ok h10; obtain ⟨b11, ls12, rfl, h12⟩ := gI_ok h11; obtain ⟨b12, ls13, rfl, h13⟩ := gI_ok h12; obtain ⟨b13, ls14, rfl, h14⟩ := gI_ok h13; obtain ⟨b14, ls15, rfl, h15⟩ := gI_ok h14; obtain ⟨b15, ls16, rfl, h16⟩ := gI_ok h15; obtain ⟨b16, ls17, rfl, h17⟩ := gI_ok h16; obtain ⟨b17, ls18, rfl, h18⟩ := gI_ok h17; obtain ⟨b18, ls19, rfl, h19⟩ := gL_ok h18; obtain ⟨b19, ls20, rfl, h20⟩ := gL_ok h19; obtain ⟨rfl, h21⟩ := gE_ok h20
  cases h21; rfl
def run16 {R : Type} : SF R := ⟨pa16, sr16, fun ls K => (gI (fun a0 => gL [.int .i64] (fun a1 => gL [.int .i64] (fun a2 => gI (fun a3 => gI (fun a4 => gI (fun a5 => gI (fun a6 => gI (fun a7 => gI (fun a8 => gI (fun a9 => gI (fun a10 => gI (fun a11 => gI (fun a12 => gI (fun a13 => gI (fun a14 => gI (fun a15 => gI (fun a16 => gI (fun a17 => gI (fun a18 => gI (fun a19 => gL [.int .i64] (fun a20 => gE (Option.bind (F16 FUEL a0 a1 a2 a3 a4 a5 a6 a7 a8 a9 a10 a11 a12 a13 a14 a15 a16 a17 a18 a19 a20) fun y => K (ofB16 y)))))))))))))))))))))))) ls⟩
def sh16_0 : Shape := ⟨[(26, [(1, .sl false [.int .i64]), (2, .ref 0 0), (4, .ref 1 0), (5, .i .i64)])], [.cells [.i .i64, .row 2, .row 3, .i .i64, .i .i64, .i .i64, .i .i64, .i .i64, .i .i64, .i .i64, .i .i64, .i .i64, .i .i64, .i .i64, .i .i64, .i .i64, .i .i64, .i .i64, .i .i64, .i .i64], .cells [.i .i64, .nil, .nil, .i .i64, .i .i64, .i .i64, .i .i64, .i .i64, .i .i64, .i .i64, .i .i64, .i .i64, .i .i64, .i .i64, .i .i64, .i .i64, .i .i64, .i .i64, .i .i64, .i .i64], .row true [.int .i64], .row true [.int .i64]]⟩
def g16_0 (n : Nat) : List Leaf → Option (Si18l2) := gL [.int .i64] (fun x0 => gI (fun x1 => gI (fun x2 => gI (fun x3 => gI (fun x4 => gI (fun x5 => gI (fun x6 => gI (fun x7 => gI (fun x8 => gI (fun x9 => gI (fun x10 => gI (fun x11 => gI (fun x12 => gI (fun x13 => gI (fun x14 => gI (fun x15 => gI (fun x16 => gI (fun x17 => gI (fun x18 => gI (fun x19 => gI (fun x20 => gI (fun x21 => gI (fun x22 => gI (fun x23 => gI (fun x24 => gI (fun x25 => gI (fun x26 => gI (fun x27 => gI (fun x28 => gI (fun x29 => gI (fun x30 => gI (fun x31 => gI (fun x32 => gI (fun x33 => gI (fun x34 => gI (fun x35 => gI (fun x36 => gI (fun x37 => gL [.int .i64] (fun x38 => gL [.int .i64] (fun x39 => gE (F16_c0 n x0 x1 x2 x3 x4 x5 x6 x7 x8 x9 x10 x11 x12 x13 x14 x15 x16 x17 x18 x19 x20 x21 x22 x23 x24 x25 x26 x27 x28 x29 x30 x31 x32 x33 x34 x35 x36 x37 x38 x39)))))))))))))))))))))))))))))))))))))))))
def cuts16 : List (List Nat × Cut (Si18l2)) := [([1, 1, 0, 1, 0], ⟨sh16_0, g16_0⟩)]
noncomputable def X16 : Px (Si18l2) := ⟨T, Try.prog, lkF [(23, run23), (13, run13)], mkCuts 16 cuts16, altN, altN_ok⟩
theorem e16_0 (n : Nat) (x0 : List (Int)) (x1 : Int) (x2 : Int) (x3 : Int) (x4 : Int) (x5 : Int) (x6 : Int) (x7 : Int) (x8 : Int) (x9 : Int) (x10 : Int) (x11 : Int) (x12 : Int) (x13 : Int) (x14 : Int) (x15 : Int) (x16 : Int) (x17 : Int) (x18 : Int) (x19 : Int) (x20 : Int) (x21 : Int) (x22 : Int) (x23 : Int) (x24 : Int) (x25 : Int) (x26 : Int) (x27 : Int) (x28 : Int) (x29 : Int) (x30 : Int) (x31 : Int) (x32 : Int) (x33 : Int) (x34 : Int) (x35 : Int) (x36 : Int) (x37 : Int) (x38 : List (Int)) (x39 : List (Int)) : stepF X16 8 16 (endK sr16 toB16) [1, 1, 0, 1, 0] sh16_0 n [.l [.int .i64] x0, .i x1, .i x2, .i x3, .i x4, .i x5, .i x6, .i x7, .i x8, .i x9, .i x10, .i x11, .i x12, .i x13, .i x14, .i x15, .i x16, .i x17, .i x18, .i x19, .i x20, .i x21, .i x22, .i x23, .i x24, .i x25, .i x26, .i x27, .i x28, .i x29, .i x30, .i x31, .i x32, .i x33, .i x34, .i x35, .i x36, .i x37, .l [.int .i64] x38, .l [.int .i64] x39] = F16_c0 (n + 1) x0 x1 x2 x3 x4 x5 x6 x7 x8 x9 x10 x11 x12 x13 x14 x15 x16 x17 x18 x19 x20 x21 x22 x23 x24 x25 x26 x27 x28 x29 x30 x31 x32 x33 x34 x35 x36 x37 x38 x39 := by kernel_rfl
theorem e16 (n : Nat) (a0 : Int) (a1 : List (Int)) (a2 : List (Int)) (a3 : Int) (a4 : Int) (a5 : Int) (a6 : Int) (a7 : Int) (a8 : Int) (a9 : Int) (a10 : Int) (a11 : Int) (a12 : Int) (a13 : Int) (a14 : Int) (a15 : Int) (a16 : Int) (a17 : Int) (a18 : Int) (a19 : Int) (a20 : List (Int)) : entF X16 8 16 pa16 (endK sr16 toB16) n [.i a0, .l [.int .i64] a1, .l [.int .i64] a2, .i a3, .i a4, .i a5, .i a6, .i a7, .i a8, .i a9, .i a10, .i a11, .i a12, .i a13, .i a14, .i a15, .i a16, .i a17, .i a18, .i a19, .l [.int .i64] a20] = F16 n a0 a1 a2 a3 a4 a5 a6 a7 a8 a9 a10 a11 a12 a13 a14 a15 a16 a17 a18 a19 a20 := by kernel_rfl
theorem c16_0 : CutOK X16 8 16 (endK sr16 toB16) [1, 1, 0, 1, 0] ⟨sh16_0, g16_0⟩ := by
  refine ⟨fun ls => ?_, fun n ls r h => ?_⟩
  · cases h : g16_0 0 ls with
    | none => exact h
    | some r =>
      unfold g16_0 at h; obtain ⟨x0, ls1, rfl, h1⟩ := gL_ok h; obtain ⟨x1, ls2, rfl, h2⟩ := gI_ok h1; obtain ⟨x2, ls3, rfl, h3⟩ := gI_ok h2; obtain ⟨x3, ls4, rfl, h4⟩ := gI_ok h3; obtain ⟨x4, ls5, rfl, h5⟩ := gI_ok h4; obtain ⟨x5, ls6, rfl, h6⟩ := gI_ok h5; obtain ⟨x6, ls7, rfl, h7⟩ := gI_ok h6; obtain ⟨x7, ls8, rfl, h8⟩ := gI_ok h7; obtain ⟨x8, ls9, rfl, h9⟩ := gI_ok h8; obtain ⟨x9, ls10, rfl, h10⟩ := gI_ok h9; obtain ⟨x10, ls11, rfl, h11⟩ := gI_ok h10; obtain ⟨x11, ls12, rfl, h12⟩ := gI_ok h11; obtain ⟨x12, ls13, rfl, h13⟩ := gI_ok h12; obtain ⟨x13, ls14, rfl, h14⟩ := gI_ok h13; obtain ⟨x14, ls15, rfl, h15⟩ := gI_ok h14; obtain ⟨x15, ls16, rfl, h16⟩ := gI_ok h15; obtain ⟨x16, ls17, rfl, h17⟩ := gI_ok h16; obtain ⟨x17, ls18, rfl, h18⟩ := gI_ok h17; obtain ⟨x18, ls19, rfl, h19⟩ := gI_ok h18; obtain ⟨x19, ls20, rfl, h20⟩ := gI_ok h19; obtain ⟨x20, ls21, rfl, h21⟩ := gI_ok h20; obtain ⟨x21, ls22, rfl, h22⟩ := gI_ok h21; obtain ⟨x22, ls23, rfl, h23⟩ := gI_ok h22; obtain ⟨x23, ls24, rfl, h24⟩ := gI_ok h23; obtain ⟨x24, ls25, rfl, h25⟩ := gI_ok h24; obtain ⟨x25, ls26, rfl, h26⟩ := gI_ok h25; obtain ⟨x26, ls27, rfl, h27⟩ := gI_ok h26; obtain ⟨x27, ls28, rfl, h28⟩ := gI_ok h27; obtain ⟨x28, ls29, rfl, h29⟩ := gI_ok h28; obtain ⟨x29, ls30, rfl, h30⟩ := gI_ok h29; obtain ⟨x30, ls31, rfl, h31⟩ := gI_ok h30; obtain ⟨x31, ls32, rfl, h32⟩ := gI_ok h31; obtain ⟨x32, ls33, rfl, h33⟩ := gI_ok h32; obtain ⟨x33, ls34, rfl, h34⟩ := gI_ok h33; obtain ⟨x34, ls35, rfl, h35⟩ := gI_ok h34; obtain ⟨x35, ls36, rfl, h36⟩ := gI_ok h35; obtain ⟨x36, ls37, rfl, h37⟩ := gI_ok h36; obtain ⟨x37, ls38, rfl, h38⟩ := gI_ok h37; obtain ⟨x38, ls39, rfl, h39⟩ := gL_ok h38; obtain ⟨x39, ls40, rfl, h40⟩ := gL_ok h39; obtain ⟨rfl, h41⟩ := gE_ok h40; simp only [F16_c0] at h41; cases h41
  · replace h : g16_0 (n + 1) ls = some r := h
    unfold g16_0 at h
    obtain ⟨x0, ls1, rfl, h1⟩ := gL_ok h; obtain ⟨x1, ls2, rfl, h2⟩ := gI_ok h1; obtain ⟨x2, ls3, rfl, h3⟩ := gI_ok h2; obtain ⟨x3, ls4, rfl, h4⟩ := gI_ok h3; obtain ⟨x4, ls5, rfl, h5⟩ := gI_ok h4; obtain ⟨x5, ls6, rfl, h6⟩ := gI_ok h5; obtain ⟨x6, ls7, rfl, h7⟩ := gI_ok h6; obtain ⟨x7, ls8, rfl, h8⟩ := gI_ok h7; obtain ⟨x8, ls9, rfl, h9⟩ := gI_ok h8; obtain ⟨x9, ls10, rfl, h10⟩ := gI_ok h9; obtain ⟨x10, ls11, rfl, h11⟩ := gI_ok h10; obtain ⟨x11, ls12, rfl, h12⟩ := gI_ok h11; obtain ⟨x12, ls13, rfl, h13⟩ := gI_ok h12; obtain ⟨x13, ls14, rfl, h14⟩ := gI_ok h13; obtain ⟨x14, ls15, rfl, h15⟩ := gI_ok h14; obtain ⟨x15, ls16, rfl, h16⟩ := gI_ok h15; obtain ⟨x16, ls17, rfl, h17⟩ := gI_ok h16; obtain ⟨x17, ls18, rfl, h18⟩ := gI_ok h17; obtain ⟨x18, ls19, rfl, h19⟩ := gI_ok h18; obtain ⟨x19, ls20, rfl, h20⟩ := gI_ok h19; obtain ⟨x20, ls21, rfl, h21⟩ := gI_ok h20; obtain ⟨x21, ls22, rfl, h22⟩ := gI_ok h21; obtain ⟨x22, ls23, rfl, h23⟩ := gI_ok h22; obtain ⟨x23, ls24, rfl, h24⟩ := gI_ok h23; obtain ⟨x24, ls25, rfl, h25⟩ := gI_ok h24; obtain ⟨x25, ls26, rfl, h26⟩ := gI_ok h25; obtain ⟨x26, ls27, rfl, h27⟩ := gI_ok h26; obtain ⟨x27, ls28, rfl, h28⟩ := gI_ok h27; obtain ⟨x28, ls29, rfl, h29⟩ := gI_ok h28; obtain ⟨x29, ls30, rfl, h30⟩ := gI_ok h29; obtain ⟨x30, ls31, rfl, h31⟩ := gI_ok h30; obtain ⟨x31, ls32, rfl, h32⟩ := gI_ok h31; obtain ⟨x32, ls33, rfl, h33⟩ := gI_ok h32; obtain ⟨x33, ls34, rfl, h34⟩ := gI_ok h33; obtain ⟨x34, ls35, rfl, h35⟩ := gI_ok h34; obtain ⟨x35, ls36, rfl, h36⟩ := gI_ok h35; obtain ⟨x36, ls37, rfl, h37⟩ := gI_ok h36; obtain ⟨x37, ls38, rfl, h38⟩ := gI_ok h37; obtain ⟨x38, ls39, rfl, h39⟩ := gL_ok h38; obtain ⟨x39, ls40, rfl, h40⟩ := gL_ok h39; obtain ⟨rfl, h41⟩ := gE_ok h40
    exact (e16_0 n x0 x1 x2 x3 x4 x5 x6 x7 x8 x9 x10 x11 x12 x13 x14 x15 x16 x17 x18 x19 x20 x21 x22 x23 x24 x25 x26 x27 x28 x29 x30 x31 x32 x33 x34 x35 x36 x37 x38 x39).trans h41
theorem sp16 {n : Nat} (a0 : Int) (a1 : List (Int)) (a2 : List (Int)) (a3 : Int) (a4 : Int) (a5 : Int) (a6 : Int) (a7 : Int) (a8 : Int) (a9 : Int) (a10 : Int) (a11 : Int) (a12 : Int) (a13 : Int) (a14 : Int) (a15 : Int) (a16 : Int) (a17 : Int) (a18 : Int) (a19 : Int) (a20 : List (Int)) {y : Si18l2} (h : F16 n a0 a1 a2 a3 a4 a5 a6 a7 a8 a9 a10 a11 a12 a13 a14 a15 a16 a17 a18 a19 a20 = some y) : SpecF T Try.prog 16 pa16 [.i a0, .l [.int .i64] a1, .l [.int .i64] a2, .i a3, .i a4, .i a5, .i a6, .i a7, .i a8, .i a9, .i a10, .i a11, .i a12, .i a13, .i a14, .i a15, .i a16, .i a17, .i a18, .i a19, .l [.int .i64] a20] sr16 (ofB16 y) :=
  fun_ok (X := X16) tok (sfok_of ⟨ok23, ok13, trivial⟩) mixed 16 8 cuts16 rfl toB16_ok ⟨c16_0, trivial⟩ ((e16 n a0 a1 a2 a3 a4 a5 a6 a7 a8 a9 a10 a11 a12 a13 a14 a15 a16 a17 a18 a19 a20).trans h)
theorem ok16 {R : Type} : SFone T Try.prog 16 (run16 : SF R) := by
  intro ls K r h
  simp only [run16] at h
  obtain ⟨a0, ls1, rfl, h1⟩ := gI_ok h; obtain ⟨a1, ls2, rfl, h2⟩ := gL_ok h1; obtain ⟨a2, ls3, rfl, h3⟩ := gL_ok h2; obtain ⟨a3, ls4, rfl, h4⟩ := gI_ok h3; obtain ⟨a4, ls5, rfl, h5⟩ := gI_ok h4; obtain ⟨a5, ls6, rfl, h6⟩ := gI_ok h5; obtain ⟨a6, ls7, rfl, h7⟩ := gI_ok h6; obtain ⟨a7, ls8, rfl, h8⟩ := gI_ok h7; obtain ⟨a8, ls9, rfl, h9⟩ := gI_ok h8; obtain ⟨a9, ls10, rfl, h10⟩ := gI_ok h9; obtain ⟨a10, ls11, rfl, h11⟩ := gI_ok h10; obtain ⟨a11, ls12, rfl, h12⟩ := gI_ok h11; obtain ⟨a12, ls13, rfl, h13⟩ := gI_ok h12; obtain ⟨a13, ls14, rfl, h14⟩ := gI_ok h13; obtain ⟨a14, ls15, rfl, h15⟩ := gI_ok h14; obtain ⟨a15, ls16, rfl, h16⟩ := gI_ok h15; obtain ⟨a16, ls17, rfl, h17⟩ := gI_ok h16; obtain ⟨a17, ls18, rfl, h18⟩ := gI_ok h17; obtain ⟨a18, ls19, rfl, h19⟩ := gI_ok h18; obtain ⟨a19, ls20, rfl, h20⟩ := gI_ok h19; obtain ⟨a20, ls21, rfl, h21⟩ := gL_ok h20; obtain ⟨rfl, h22⟩ := gE_ok h21
  obtain ⟨y, k1, k2⟩ := Option.bind_eq_some_iff.1 h22
  exact ⟨_, k2, sp16 a0 a1 a2 a3 a4 a5 a6 a7 a8 a9 a10 a11 a12 a13 a14 a15 a16 a17 a18 a19 a20 k1⟩

/-! ### garland/garlandref12.Ints -/
def pa28 : List VP := [.sl false [.int .i64], .sl false [.int .i64]]
def sr28 : RShape := ⟨.b, [], none⟩
def toB28 : List Leaf → Option (Bool) := gB (fun b0 => gE (some b0))
def ofB28 (y : Bool) : List Leaf := [.b y]
theorem toB28_ok : ∀ ls b, toB28 ls = some b → ls = ofB28 b := by
  intro ls b h
  unfold toB28 at h
  obtain ⟨b0, ls1, rfl, h1⟩ := gB_ok h; obtain ⟨rfl, h2⟩ := gE_ok h1
  cases h2; rfl
def run28 {R : Type} : SF R := ⟨pa28, sr28, fun ls K => (gL [.int .i64] (fun a0 => gL [.int .i64] (fun a1 => gE (Option.bind (F28 FUEL a0 a1) fun y => K (ofB28 y))))) ls⟩
def sh28_0 : Shape := ⟨[(26, [(0, .sl false [.int .i64]), (1, .sl false [.int .i64]), (5, .i .i64)])], []⟩
def g28_0 (n : Nat) : List Leaf → Option (Bool) := gL [.int .i64] (fun x0 => gL [.int .i64] (fun x1 => gI (fun x2 => gE (F28_c0 n x0 x1 x2))))
def cuts28 : List (List Nat × Cut (Bool)) := [([1, 1, 0, 1, 0], ⟨sh28_0, g28_0⟩)]
noncomputable def X28 : Px (Bool) := ⟨T, Try.prog, lkF [], mkCuts 28 cuts28, altN, altN_ok⟩
theorem e28_0 (n : Nat) (x0 : List (Int)) (x1 : List (Int)) (x2 : Int) : stepF X28 8 28 (endK sr28 toB28) [1, 1, 0, 1, 0] sh28_0 n [.l [.int .i64] x0, .l [.int .i64] x1, .i x2] = F28_c0 (n + 1) x0 x1 x2 := by kernel_rfl
theorem e28 (n : Nat) (a0 : List (Int)) (a1 : List (Int)) : entF X28 8 28 pa28 (endK sr28 toB28) n [.l [.int .i64] a0, .l [.int .i64] a1] = F28 n a0 a1 := by kernel_rfl
theorem c28_0 : CutOK X28 8 28 (endK sr28 toB28) [1, 1, 0, 1, 0] ⟨sh28_0, g28_0⟩ := by
  refine ⟨fun ls => ?_, fun n ls r h => ?_⟩
  · cases h : g28_0 0 ls with
    | none => exact h
    | some r =>
      unfold g28_0 at h; obtain ⟨x0, ls1, rfl, h1⟩ := gL_ok h; obtain ⟨x1, ls2, rfl, h2⟩ := gL_ok h1; obtain ⟨x2, ls3, rfl, h3⟩ := gI_ok h2; obtain ⟨rfl, h4⟩ := gE_ok h3; simp only [F28_c0] at h4; cases h4
  · replace h : g28_0 (n + 1) ls = some r := h
    unfold g28_0 at h
    obtain ⟨x0, ls1, rfl, h1⟩ := gL_ok h; obtain ⟨x1, ls2, rfl, h2⟩ := gL_ok h1; obtain ⟨x2, ls3, rfl, h3⟩ := gI_ok h2; obtain ⟨rfl, h4⟩ := gE_ok h3
    exact (e28_0 n x0 x1 x2).trans h4
theorem sp28 {n : Nat} (a0 : List (Int)) (a1 : List (Int)) {y : Bool} (h : F28 n a0 a1 = some y) : SpecF T Try.prog 28 pa28 [.l [.int .i64] a0, .l [.int .i64] a1] sr28 (ofB28 y) :=
  fun_ok (X := X28) tok (sfok_of trivial) mixed 28 8 cuts28 rfl toB28_ok ⟨c28_0, trivial⟩ ((e28 n a0 a1).trans h)
theorem ok28 {R : Type} : SFone T Try.prog 28 (run28 : SF R) := by
  intro ls K r h
  simp only [run28] at h
  obtain ⟨a0, ls1, rfl, h1⟩ := gL_ok h; obtain ⟨a1, ls2, rfl, h2⟩ := gL_ok h1; obtain ⟨rfl, h3⟩ := gE_ok h2
  obtain ⟨y, k1, k2⟩ := Option.bind_eq_some_iff.1 h3
  exact ⟨_, k2, sp28 a0 a1 k1⟩

/-! ### garland/garlandref13.Same -/
def pa14 : List VP := [.agg [.i .i64, .sl false [.int .i64], .sl false [.int .i64], .i .i64, .i .i64, .i .i64, .i .i64, .i .i64, .i .i64, .i .i64, .i .i64, .i .i64, .i .i64, .i .i64, .i .i64, .i .i64, .i .i64, .i .i64, .i .i64, .i .i64], .agg [.i .i64, .sl false [.int .i64], .sl false [.int .i64], .i .i64, .i .i64, .i .i64, .i .i64, .i .i64, .i .i64, .i .i64, .i .i64, .i .i64, .i .i64, .i .i64, .i .i64, .i .i64, .i .i64, .i .i64, .i .i64, .i .i64]]
def sr14 : RShape := ⟨.b, [], none⟩
def toB14 : List Leaf → Option (Bool) := gB (fun b0 => gE (some b0))
def ofB14 (y : Bool) : List Leaf := [.b y]
theorem toB14_ok : ∀ ls b, toB14 ls = some b → ls = ofB14 b := by
  intro ls b h
  unfold toB14 at h
  obtain ⟨b0, ls1, rfl, h1⟩ := gB_ok h; obtain ⟨rfl, h2⟩ := gE_ok h1
  cases h2; rfl
def run14 {R : Type} : SF R := ⟨pa14, sr14, fun ls K => (gI (fun a0 => gL [.int .i64] (fun a1 => gL [.int .i64] (fun a2 => gI (fun a3 => gI (fun a4 => gI (fun a5 => gI (fun a6 => gI (fun a7 => gI (fun a8 => gI (fun a9 => gI (fun a10 => gI (fun a11 => gI (fun a12 => gI (fun a13 => gI (fun a14 => gI (fun a15 => gI (fun a16 => gI (fun a17 => gI (fun a18 => gI (fun a19 => gI (fun a20 => gL [.int .i64] (fun a21 => gL [.int .i64] (fun a22 => gI (fun a23 => gI (fun a24 => gI (fun a25 => gI (fun a26 => gI (fun a27 => gI (fun a28 => gI (fun a29 => gI (fun a30 => gI (fun a31 => gI (fun a32 => gI (fun a33 => gI (fun a34 => gI (fun a35 => gI (fun a36 => gI (fun a37 => gI (fun a38 => gI (fun a39 => gE (Option.bind (F14 FUEL a0 a1 a2 a3 a4 a5 a6 a7 a8 a9 a10 a11 a12 a13 a14 a15 a16 a17 a18 a19 a20 a21 a22 a23 a24 a25 a26 a27 a28 a29 a30 a31 a32 a33 a34 a35 a36 a37 a38 a39) fun y => K (ofB14 y))))))))))))))))))))))))))))))))))))))))))) ls⟩
def cuts14 : List (List Nat × Cut (Bool)) := []
noncomputable def X14 : Px (Bool) := ⟨T, Try.prog, lkF [(28, run28)], mkCuts 14 cuts14, altN, altN_ok⟩
theorem e14 (n : Nat) (a0 : Int) (a1 : List (Int)) (a2 : List (Int)) (a3 : Int) (a4 : Int) (a5 : Int) (a6 : Int) (a7 : Int) (a8 : Int) (a9 : Int) (a10 : Int) (a11 : Int) (a12 : Int) (a13 : Int) (a14 : Int) (a15 : Int) (a16 : Int) (a17 : Int) (a18 : Int) (a19 : Int) (a20 : Int) (a21 : List (Int)) (a22 : List (Int)) (a23 : Int) (a24 : Int) (a25 : Int) (a26 : Int) (a27 : Int) (a28 : Int) (a29 : Int) (a30 : Int) (a31 : Int) (a32 : Int) (a33 : Int) (a34 : Int) (a35 : Int) (a36 : Int) (a37 : Int) (a38 : Int) (a39 : Int) : entF X14 8 14 pa14 (endK sr14 toB14) n [.i a0, .l [.int .i64] a1, .l [.int .i64] a2, .i a3, .i a4, .i a5, .i a6, .i a7, .i a8, .i a9, .i a10, .i a11, .i a12, .i a13, .i a14, .i a15, .i a16, .i a17, .i a18, .i a19, .i a20, .l [.int .i64] a21, .l [.int .i64] a22, .i a23, .i a24, .i a25, .i a26, .i a27, .i a28, .i a29, .i a30, .i a31, .i a32, .i a33, .i a34, .i a35, .i a36, .i a37, .i a38, .i a39] = F14 n a0 a1 a2 a3 a4 a5 a6 a7 a8 a9 a10 a11 a12 a13 a14 a15 a16 a17 a18 a19 a20 a21 a22 a23 a24 a25 a26 a27 a28 a29 a30 a31 a32 a33 a34 a35 a36 a37 a38 a39 := by kernel_rfl
theorem sp14 {n : Nat} (a0 : Int) (a1 : List (Int)) (a2 : List (Int)) (a3 : Int) (a4 : Int) (a5 : Int) (a6 : Int) (a7 : Int) (a8 : Int) (a9 : Int) (a10 : Int) (a11 : Int) (a12 : Int) (a13 : Int) (a14 : Int) (a15 : Int) (a16 : Int) (a17 : Int) (a18 : Int) (a19 : Int) (a20 : Int) (a21 : List (Int)) (a22 : List (Int)) (a23 : Int) (a24 : Int) (a25 : Int) (a26 : Int) (a27 : Int) (a28 : Int) (a29 : Int) (a30 : Int) (a31 : Int) (a32 : Int) (a33 : Int) (a34 : Int) (a35 : Int) (a36 : Int) (a37 : Int) (a38 : Int) (a39 : Int) {y : Bool} (h : F14 n a0 a1 a2 a3 a4 a5 a6 a7 a8 a9 a10 a11 a12 a13 a14 a15 a16 a17 a18 a19 a20 a21 a22 a23 a24 a25 a26 a27 a28 a29 a30 a31 a32 a33 a34 a35 a36 a37 a38 a39 = some y) : SpecF T Try.prog 14 pa14 [.i a0, .l [.int .i64] a1, .l [.int .i64] a2, .i a3, .i a4, .i a5, .i a6, .i a7, .i a8, .i a9, .i a10, .i a11, .i a12, .i a13, .i a14, .i a15, .i a16, .i a17, .i a18, .i a19, .i a20, .l [.int .i64] a21, .l [.int .i64] a22, .i a23, .i a24, .i a25, .i a26, .i a27, .i a28, .i a29, .i a30, .i a31, .i a32, .i a33, .i a34, .i a35, .i a36, .i a37, .i a38, .i a39] sr14 (ofB14 y) :=
  fun_ok (X := X14) tok (sfok_of ⟨ok28, trivial⟩) mixed 14 8 cuts14 rfl toB14_ok trivial ((e14 n a0 a1 a2 a3 a4 a5 a6 a7 a8 a9 a10 a11 a12 a13 a14 a15 a16 a17 a18 a19 a20 a21 a22 a23 a24 a25 a26 a27 a28 a29 a30 a31 a32 a33 a34 a35 a36 a37 a38 a39).trans h)
theorem ok14 {R : Type} : SFone T Try.prog 14 (run14 : SF R) := by
  intro ls K r h
  simp only [run14] at h
  obtain ⟨a0, ls1, rfl, h1⟩ := gI_ok h; obtain ⟨a1, ls2, rfl, h2⟩ := gL_ok h1; obtain ⟨a2, ls3, rfl, h3⟩ := gL_ok h2; obtain ⟨a3, ls4, rfl, h4⟩ := gI_ok h3; obtain ⟨a4, ls5, rfl, h5⟩ := gI_ok h4; obtain ⟨a5, ls6, rfl, h6⟩ := gI_ok h5; obtain ⟨a6, ls7, rfl, h7⟩ := gI_ok h6; obtain ⟨a7, ls8, rfl, h8⟩ := gI_ok h7; obtain ⟨a8, ls9, rfl, h9⟩ := gI_ok h8; obtain ⟨a9, ls10, rfl, h10⟩ := gI_ok h9; obtain ⟨a10, ls11, rfl, h11⟩ := gI_ok h10; obtain ⟨a11, ls12, rfl, h12⟩ := gI_ok h11; obtain ⟨a12, ls13, rfl, h13⟩ := gI_ok h12; obtain ⟨a13, ls14, rfl, h14⟩ := gI_ok h13; obtain ⟨a14, ls15, rfl, h15⟩ := gI_ok h14; obtain ⟨a15, ls16, rfl, h16⟩ := gI_ok h15; obtain ⟨a16, ls17, rfl, h17⟩ := gI_ok h16; obtain ⟨a17, ls18, rfl, h18⟩ := gI_ok h17; obtain ⟨a18, ls19, rfl, h19⟩ := gI_ok h18; obtain ⟨a19, ls20, rfl, h20⟩ := gI_ok h19; obtain ⟨a20, ls21, rfl, h21⟩ := gI_ok h20; obtain ⟨a21, ls22, rfl, h22⟩ := gL_ok h21; obtain ⟨a22, ls23, rfl, h23⟩ := gL_ok h22; obtain ⟨a23, ls24, rfl, h24⟩ := gI_ok h23; obtain ⟨a24, ls25, rfl, h25⟩ := gI_ok h24; obtain ⟨a25, ls26, rfl, h26⟩ := gI_ok h25; obtain ⟨a26, ls27, rfl, h27⟩ := gI_ok h26; obtain ⟨a27, ls28, rfl, h28⟩ := gI_ok h27; obtain ⟨a28, ls29, rfl, h29⟩ := gI_ok h28; obtain ⟨a29, ls30, rfl, h30⟩ := gI_ok h29; obtain ⟨a30, ls31, rfl, h31⟩ := gI_ok h30; obtain ⟨a31, ls32, rfl, h32⟩ := gI_ok h31; obtain ⟨a32, ls33, rfl, h33⟩ := gI_ok h32; obtain ⟨a33, ls34, rfl, h34⟩ := gI_ok h33; obtain ⟨a34, ls35, rfl, h35⟩ := gI_ok h34; obtain ⟨a35, ls36, rfl, h36⟩ := gI_ok h35; obtain ⟨a36, ls37, rfl, h37⟩ := gI_ok h36; obtain ⟨a37, ls38, rfl, h38⟩ := gI_ok h37; obtain ⟨a38, ls39, rfl, h39⟩ := gI_ok h38; obtain ⟨a39, ls40, rfl, h40⟩ := gI_ok h39; obtain ⟨rfl, h41⟩ := gE_ok h40
  obtain ⟨y, k1, k2⟩ := Option.bind_eq_some_iff.1 h41
  exact ⟨_, k2, sp14 a0 a1 a2 a3 a4 a5 a6 a7 a8 a9 a10 a11 a12 a13 a14 a15 a16 a17 a18 a19 a20 a21 a22 a23 a24 a25 a26 a27 a28 a29 a30 a31 a32 a33 a34 a35 a36 a37 a38 a39 k1⟩

/-! ### garland/garlandref03.UpTo -/
def pa32 : List VP := [.i .i64, .i .i64, .i .i64]
def sr32 : RShape := ⟨.b, [], none⟩
def toB32 : List Leaf → Option (Bool) := gB (fun b0 => gE (some b0))
def ofB32 (y : Bool) : List Leaf := [.b y]
theorem toB32_ok : ∀ ls b, toB32 ls = some b → ls = ofB32 b := by
  intro ls b h
  unfold toB32 at h
  obtain ⟨b0, ls1, rfl, h1⟩ := gB_ok h; obtain ⟨rfl, h2⟩ := gE_ok h1
  cases h2; rfl
def run32 {R : Type} : SF R := ⟨pa32, sr32, fun ls K => (gI (fun a0 => gI (fun a1 => gI (fun a2 => gE (Option.bind (F32 FUEL a0 a1 a2) fun y => K (ofB32 y)))))) ls⟩
def cuts32 : List (List Nat × Cut (Bool)) := []
noncomputable def X32 : Px (Bool) := ⟨T, Try.prog, lkF [(27, run27), (37, run37)], mkCuts 32 cuts32, altN, altN_ok⟩
theorem e32 (n : Nat) (a0 : Int) (a1 : Int) (a2 : Int) : entF X32 8 32 pa32 (endK sr32 toB32) n [.i a0, .i a1, .i a2] = F32 n a0 a1 a2 := by kernel_rfl
theorem sp32 {n : Nat} (a0 : Int) (a1 : Int) (a2 : Int) {y : Bool} (h : F32 n a0 a1 a2 = some y) : SpecF T Try.prog 32 pa32 [.i a0, .i a1, .i a2] sr32 (ofB32 y) :=
  fun_ok (X := X32) tok (sfok_of ⟨ok27, ok37, trivial⟩) mixed 32 8 cuts32 rfl toB32_ok trivial ((e32 n a0 a1 a2).trans h)
theorem ok32 {R : Type} : SFone T Try.prog 32 (run32 : SF R) := by
  intro ls K r h
  simp only [run32] at h
  obtain ⟨a0, ls1, rfl, h1⟩ := gI_ok h; obtain ⟨a1, ls2, rfl, h2⟩ := gI_ok h1; obtain ⟨a2, ls3, rfl, h3⟩ := gI_ok h2; obtain ⟨rfl, h4⟩ := gE_ok h3
  obtain ⟨y, k1, k2⟩ := Option.bind_eq_some_iff.1 h4
  exact ⟨_, k2, sp32 a0 a1 a2 k1⟩

/-! ### garland/garlandref15.Owns -/
def pa18 : List VP := [.agg [.i .i64, .sl false [.int .i64], .sl false [.int .i64], .i .i64, .i .i64, .i .i64, .i .i64, .i .i64, .i .i64, .i .i64, .i .i64, .i .i64, .i .i64, .i .i64, .i .i64, .i .i64, .i .i64, .i .i64, .i .i64, .i .i64], .i .i64]
def sr18 : RShape := ⟨.b, [], none⟩
def toB18 : List Leaf → Option (Bool) := gB (fun b0 => gE (some b0))
def ofB18 (y : Bool) : List Leaf := [.b y]
theorem toB18_ok : ∀ ls b, toB18 ls = some b → ls = ofB18 b := by
  intro ls b h
  unfold toB18 at h
  obtain ⟨b0, ls1, rfl, h1⟩ := gB_ok h; obtain ⟨rfl, h2⟩ := gE_ok h1
  cases h2; rfl
def run18 {R : Type} : SF R := ⟨pa18, sr18, fun ls K => (gI (fun a0 => gL [.int .i64] (fun a1 => gL [.int .i64] (fun a2 => gI (fun a3 => gI (fun a4 => gI (fun a5 => gI (fun a6 => gI (fun a7 => gI (fun a8 => gI (fun a9 => gI (fun a10 => gI (fun a11 => gI (fun a12 => gI (fun a13 => gI (fun a14 => gI (fun a15 => gI (fun a16 => gI (fun a17 => gI (fun a18 => gI (fun a19 => gI (fun a20 => gE (Option.bind (F18 FUEL a0 a1 a2 a3 a4 a5 a6 a7 a8 a9 a10 a11 a12 a13 a14 a15 a16 a17 a18 a19 a20) fun y => K (ofB18 y)))))))))))))))))))))))) ls⟩
def cuts18 : List (List Nat × Cut (Bool)) := []
noncomputable def X18 : Px (Bool) := ⟨T, Try.prog, lkF [(21, run21), (32, run32)], mkCuts 18 cuts18, altN, altN_ok⟩
theorem e18 (n : Nat) (a0 : Int) (a1 : List (Int)) (a2 : List (Int)) (a3 : Int) (a4 : Int) (a5 : Int) (a6 : Int) (a7 : Int) (a8 : Int) (a9 : Int) (a10 : Int) (a11 : Int) (a12 : Int) (a13 : Int) (a14 : Int) (a15 : Int) (a16 : Int) (a17 : Int) (a18 : Int) (a19 : Int) (a20 : Int) : entF X18 8 18 pa18 (endK sr18 toB18) n [.i a0, .l [.int .i64] a1, .l [.int .i64] a2, .i a3, .i a4, .i a5, .i a6, .i a7, .i a8, .i a9, .i a10, .i a11, .i a12, .i a13, .i a14, .i a15, .i a16, .i a17, .i a18, .i a19, .i a20] = F18 n a0 a1 a2 a3 a4 a5 a6 a7 a8 a9 a10 a11 a12 a13 a14 a15 a16 a17 a18 a19 a20 := by kernel_rfl
theorem sp18 {n : Nat} (a0 : Int) (a1 : List (Int)) (a2 : List (Int)) (a3 : Int) (a4 : Int) (a5 : Int) (a6 : Int) (a7 : Int) (a8 : Int) (a9 : Int) (a10 : Int) (a11 : Int) (a12 : Int) (a13 : Int) (a14 : Int) (a15 : Int) (a16 : Int) (a17 : Int) (a18 : Int) (a19 : Int) (a20 : Int) {y : Bool} (h : F18 n a0 a1 a2 a3 a4 a5 a6 a7 a8 a9 a10 a11 a12 a13 a14 a15 a16 a17 a18 a19 a20 = some y) : SpecF T Try.prog 18 pa18 [.i a0, .l [.int .i64] a1, .l [.int .i64] a2, .i a3, .i a4, .i a5, .i a6, .i a7, .i a8, .i a9, .i a10, .i a11, .i a12, .i a13, .i a14, .i a15, .i a16, .i a17, .i a18, .i a19, .i a20] sr18 (ofB18 y) :=
  fun_ok (X := X18) tok (sfok_of ⟨ok21, ok32, trivial⟩) mixed 18 8 cuts18 rfl toB18_ok trivial ((e18 n a0 a1 a2 a3 a4 a5 a6 a7 a8 a9 a10 a11 a12 a13 a14 a15 a16 a17 a18 a19 a20).trans h)
theorem ok18 {R : Type} : SFone T Try.prog 18 (run18 : SF R) := by
  intro ls K r h
  simp only [run18] at h
  obtain ⟨a0, ls1, rfl, h1⟩ := gI_ok h; obtain ⟨a1, ls2, rfl, h2⟩ := gL_ok h1; obtain ⟨a2, ls3, rfl, h3⟩ := gL_ok h2; obtain ⟨a3, ls4, rfl, h4⟩ := gI_ok h3; obtain ⟨a4, ls5, rfl, h5⟩ := gI_ok h4; obtain ⟨a5, ls6, rfl, h6⟩ := gI_ok h5; obtain ⟨a6, ls7, rfl, h7⟩ := gI_ok h6; obtain ⟨a7, ls8, rfl, h8⟩ := gI_ok h7; obtain ⟨a8, ls9, rfl, h9⟩ := gI_ok h8; obtain ⟨a9, ls10, rfl, h10⟩ := gI_ok h9; obtain ⟨a10, ls11, rfl, h11⟩ := gI_ok h10; obtain ⟨a11, ls12, rfl, h12⟩ := gI_ok h11; obtain ⟨a12, ls13, rfl, h13⟩ := gI_ok h12; obtain ⟨a13, ls14, rfl, h14⟩ := gI_ok h13; obtain ⟨a14, ls15, rfl, h15⟩ := gI_ok h14; obtain ⟨a15, ls16, rfl, h16⟩ := gI_ok h15; obtain ⟨a16, ls17, rfl, h17⟩ := gI_ok h16; obtain ⟨a17, ls18, rfl, h18⟩ := gI_ok h17; obtain ⟨a18, ls19, rfl, h19⟩ := gI_ok h18; obtain ⟨a19, ls20, rfl, h20⟩ := gI_ok h19; obtain ⟨a20, ls21, rfl, h21⟩ := gI_ok h20; obtain ⟨rfl, h22⟩ := gE_ok h21
  obtain ⟨y, k1, k2⟩ := Option.bind_eq_some_iff.1 h22
  exact ⟨_, k2, sp18 a0 a1 a2 a3 a4 a5 a6 a7 a8 a9 a10 a11 a12 a13 a14 a15 a16 a17 a18 a19 a20 k1⟩

/-! ### garland/garlandref15.Gone -/
def pa20 : List VP := [.agg [.i .i64, .sl false [.int .i64], .sl false [.int .i64], .i .i64, .i .i64, .i .i64, .i .i64, .i .i64, .i .i64, .i .i64, .i .i64, .i .i64, .i .i64, .i .i64, .i .i64, .i .i64, .i .i64, .i .i64, .i .i64, .i .i64], .i .i64]
def sr20 : RShape := ⟨.agg [.i .i64, .row 0, .row 1, .i .i64, .i .i64, .i .i64, .i .i64, .i .i64, .i .i64, .i .i64, .i .i64, .i .i64, .i .i64, .i .i64, .i .i64, .i .i64, .i .i64, .i .i64, .i .i64, .i .i64], [.row true [.int .i64], .row true [.int .i64]], none⟩
def toB20 : List Leaf → Option (Si18l2) := gI (fun b0 => gI (fun b1 => gI (fun b2 => gI (fun b3 => gI (fun b4 => gI (fun b5 => gI (fun b6 => gI (fun b7 => gI (fun b8 => gI (fun b9 => gI (fun b10 => gI (fun b11 => gI (fun b12 => gI (fun b13 => gI (fun b14 => gI (fun b15 => gI (fun b16 => gI (fun b17 => gL [.int .i64] (fun b18 => gL [.int .i64] (fun b19 => gE (some ⟨b0, b1, b2, b3, b4, b5, b6, b7, b8, b9, b10, b11, b12, b13, b14, b15, b16, b17, b18, b19⟩)))))))))))))))))))))
def ofB20 (y : Si18l2) : List Leaf := [.i y.q0, .i y.q1, .i y.q2, .i y.q3, .i y.q4, .i y.q5, .i y.q6, .i y.q7, .i y.q8, .i y.q9, .i y.q10, .i y.q11, .i y.q12, .i y.q13, .i y.q14, .i y.q15, .i y.q16, .i y.q17, .l [.int .i64] y.q18, .l [.int .i64] y.q19]
theorem toB20_ok : ∀ ls b, toB20 ls = some b → ls = ofB20 b := by
  intro ls b h
  unfold toB20 at h
  obtain ⟨b0, ls1, rfl, h1⟩ := gI_ok h; obtain ⟨b1, ls2, rfl, h2⟩ := gI_ok h1; obtain ⟨b2, ls3, rfl, h3⟩ := gI_ok h2; obtain ⟨b3, ls4, rfl, h4⟩ := gI_ok h3; obtain ⟨b4, ls5, rfl, h5⟩ := gI_ok h4; obtain ⟨b5, ls6, rfl, h6⟩ := gI_ok h5; obtain ⟨b6, ls7, rfl, h7⟩ := gI_ok h6; obtain ⟨b7, ls8, rfl, h8⟩ := gI_ok h7; obtain ⟨b8, ls9, rfl, h9⟩ := gI_ok h8; obtain ⟨b9, ls10, rfl, h10⟩ := gI_ok h9; obtain ⟨b10, ls11, rfl, h11⟩ := gI_ok h10; obtain ⟨b11, ls12, rfl, h12⟩ := gI_ok h11; obtain ⟨b12, ls13, rfl, h13⟩ := gI_ok h12; obtain ⟨b13, ls14, rfl, h14⟩ := gI_ok h13; obtain ⟨b14, ls15, rfl, h15⟩ := gI_ok h14; obtain ⟨b15, ls16, rfl, h16⟩ := gI_ok h15; obtain ⟨b16, ls17, rfl, h17⟩ := gI_ok h16; obtain ⟨b17, ls18, rfl, h18⟩ := gI_ok h17; obtain ⟨b18, ls19, rfl, h19⟩ := gL_ok h18; obtain ⟨b19, ls20, rfl, h20⟩ := gL_ok h19; obtain ⟨rfl, h21⟩ := gE_ok h20
  cases h21; rfl
def run20 {R : Type} : SF R := ⟨pa20, sr20, fun ls K => (gI (fun a0 => gL [.int .i64] (fun a1 => gL [.int .i64] (fun a2 => gI (fun a3 => gI (fun a4 => gI (fun a5 => gI (fun a6 => gI (fun a7 => gI (fun a8 => gI (fun a9 => gI (fun a10 => gI (fun a11 => gI (fun a12 => gI (fun a13 => gI (fun a14 => gI (fun a15 => gI (fun a16 => gI (fun a17 => gI (fun a18 => gI (fun a19 => gI (fun a20 => gE (Option.bind (F20 FUEL a0 a1 a2 a3 a4 a5 a6 a7 a8 a9 a10 a11 a12 a13 a14 a15 a16 a17 a18 a19 a20) fun y => K (ofB20 y)))))))))))))))))))))))) ls⟩
def sh20_0 : Shape := ⟨[(40, [(1, .i .i64), (2, .ref 0 0), (4, .ref 1 0), (5, .b), (6, .i .i64)])], [.cells [.i .i64, .row 2, .row 3, .i .i64, .i .i64, .i .i64, .i .i64, .i .i64, .i .i64, .i .i64, .i .i64, .i .i64, .i .i64, .i .i64, .i .i64, .i .i64, .i .i64, .i .i64, .i .i64, .i .i64], .cells [.i .i64, .nil, .nil, .i .i64, .i .i64, .i .i64, .i .i64, .i .i64, .i .i64, .i .i64, .i .i64, .i .i64, .i .i64, .i .i64, .i .i64, .i .i64, .i .i64, .i .i64, .i .i64, .i .i64], .row true [.int .i64], .row true [.int .i64]]⟩
def g20_0 (n : Nat) : List Leaf → Option (Si18l2) := gI (fun x0 => gB (fun x1 => gI (fun x2 => gI (fun x3 => gI (fun x4 => gI (fun x5 => gI (fun x6 => gI (fun x7 => gI (fun x8 => gI (fun x9 => gI (fun x10 => gI (fun x11 => gI (fun x12 => gI (fun x13 => gI (fun x14 => gI (fun x15 => gI (fun x16 => gI (fun x17 => gI (fun x18 => gI (fun x19 => gI (fun x20 => gI (fun x21 => gI (fun x22 => gI (fun x23 => gI (fun x24 => gI (fun x25 => gI (fun x26 => gI (fun x27 => gI (fun x28 => gI (fun x29 => gI (fun x30 => gI (fun x31 => gI (fun x32 => gI (fun x33 => gI (fun x34 => gI (fun x35 => gI (fun x36 => gI (fun x37 => gI (fun x38 => gL [.int .i64] (fun x39 => gL [.int .i64] (fun x40 => gE (F20_c0 n x0 x1 x2 x3 x4 x5 x6 x7 x8 x9 x10 x11 x12 x13 x14 x15 x16 x17 x18 x19 x20 x21 x22 x23 x24 x25 x26 x27 x28 x29 x30 x31 x32 x33 x34 x35 x36 x37 x38 x39 x40))))))))))))))))))))))))))))))))))))))))))
def cuts20 : List (List Nat × Cut (Si18l2)) := [([1, 1, 1, 0, 1, 0], ⟨sh20_0, g20_0⟩)]
noncomputable def X20 : Px (Si18l2) := ⟨T, Try.prog, lkF [(23, run23), (21, run21)], mkCuts 20 cuts20, altN, altN_ok⟩
theorem e20_0 (n : Nat) (x0 : Int) (x1 : Bool) (x2 : Int) (x3 : Int) (x4 : Int) (x5 : Int) (x6 : Int) (x7 : Int) (x8 : Int) (x9 : Int) (x10 : Int) (x11 : Int) (x12 : Int) (x13 : Int) (x14 : Int) (x15 : Int) (x16 : Int) (x17 : Int) (x18 : Int) (x19 : Int) (x20 : Int) (x21 : Int) (x22 : Int) (x23 : Int) (x24 : Int) (x25 : Int) (x26 : Int) (x27 : Int) (x28 : Int) (x29 : Int) (x30 : Int) (x31 : Int) (x32 : Int) (x33 : Int) (x34 : Int) (x35 : Int) (x36 : Int) (x37 : Int) (x38 : Int) (x39 : List (Int)) (x40 : List (Int)) : stepF X20 8 20 (endK sr20 toB20) [1, 1, 1, 0, 1, 0] sh20_0 n [.i x0, .b x1, .i x2, .i x3, .i x4, .i x5, .i x6, .i x7, .i x8, .i x9, .i x10, .i x11, .i x12, .i x13, .i x14, .i x15, .i x16, .i x17, .i x18, .i x19, .i x20, .i x21, .i x22, .i x23, .i x24, .i x25, .i x26, .i x27, .i x28, .i x29, .i x30, .i x31, .i x32, .i x33, .i x34, .i x35, .i x36, .i x37, .i x38, .l [.int .i64] x39, .l [.int .i64] x40] = F20_c0 (n + 1) x0 x1 x2 x3 x4 x5 x6 x7 x8 x9 x10 x11 x12 x13 x14 x15 x16 x17 x18 x19 x20 x21 x22 x23 x24 x25 x26 x27 x28 x29 x30 x31 x32 x33 x34 x35 x36 x37 x38 x39 x40 := by kernel_rfl
theorem e20 (n : Nat) (a0 : Int) (a1 : List (Int)) (a2 : List (Int)) (a3 : Int) (a4 : Int) (a5 : Int) (a6 : Int) (a7 : Int) (a8 : Int) (a9 : Int) (a10 : Int) (a11 : Int) (a12 : Int) (a13 : Int) (a14 : Int) (a15 : Int) (a16 : Int) (a17 : Int) (a18 : Int) (a19 : Int) (a20 : Int) : entF X20 8 20 pa20 (endK sr20 toB20) n [.i a0, .l [.int .i64] a1, .l [.int .i64] a2, .i a3, .i a4, .i a5, .i a6, .i a7, .i a8, .i a9, .i a10, .i a11, .i a12, .i a13, .i a14, .i a15, .i a16, .i a17, .i a18, .i a19, .i a20] = F20 n a0 a1 a2 a3 a4 a5 a6 a7 a8 a9 a10 a11 a12 a13 a14 a15 a16 a17 a18 a19 a20 := by kernel_rfl
theorem c20_0 : CutOK X20 8 20 (endK sr20 toB20) [1, 1, 1, 0, 1, 0] ⟨sh20_0, g20_0⟩ := by
  refine ⟨fun ls => ?_, fun n ls r h => ?_⟩
  · cases h : g20_0 0 ls with
    | none => exact h
    | some r =>
      unfold g20_0 at h; obtain ⟨x0, ls1, rfl, h1⟩ := gI_ok h; obtain ⟨x1, ls2, rfl, h2⟩ := gB_ok h1; obtain ⟨x2, ls3, rfl, h3⟩ := gI_ok h2; obtain ⟨x3, ls4, rfl, h4⟩ := gI_ok h3; obtain ⟨x4, ls5, rfl, h5⟩ := gI_ok h4; obtain ⟨x5, ls6, rfl, h6⟩ := gI_ok h5; obtain ⟨x6, ls7, rfl, h7⟩ := gI_ok h6; obtain ⟨x7, ls8, rfl, h8⟩ := gI_ok h7; obtain ⟨x8, ls9, rfl, h9⟩ := gI_ok h8; obtain ⟨x9, ls10, rfl, h10⟩ := gI_ok h9; obtain ⟨x10, ls11, rfl, h11⟩ := gI_ok h10; obtain ⟨x11, ls12, rfl, h12⟩ := gI_ok h11; obtain ⟨x12, ls13, rfl, h13⟩ := gI_ok h12; obtain ⟨x13, ls14, rfl, h14⟩ := gI_ok h13; obtain ⟨x14, ls15, rfl, h15⟩ := gI_ok h14; obtain ⟨x15, ls16, rfl, h16⟩ := gI_ok h15; obtain ⟨x16, ls17, rfl, h17⟩ := gI_ok h16; obtain ⟨x17, ls18, rfl, h18⟩ := gI_ok h17; obtain ⟨x18, ls19, rfl, h19⟩ := gI_ok h18; obtain ⟨x19, ls20, rfl, h20⟩ := gI_ok h19; obtain ⟨x20, ls21, rfl, h21⟩ := gI_ok h20; obtain ⟨x21, ls22, rfl, h22⟩ := gI_ok h21; obtain ⟨x22, ls23, rfl, h23⟩ := gI_ok h22; obtain ⟨x23, ls24, rfl, h24⟩ := gI_ok h23; obtain ⟨x24, ls25, rfl, h25⟩ := gI_ok h24; obtain ⟨x25, ls26, rfl, h26⟩ := gI_ok h25; obtain ⟨x26, ls27, rfl, h27⟩ := gI_ok h26; obtain ⟨x27, ls28, rfl, h28⟩ := gI_ok h27; obtain ⟨x28, ls29, rfl, h29⟩ := gI_ok h28; obtain ⟨x29, ls30, rfl, h30⟩ := gI_ok h29; obtain ⟨x30, ls31, rfl, h31⟩ := gI_ok h30; obtain ⟨x31, ls32, rfl, h32⟩ := gI_ok h31; obtain ⟨x32, ls33, rfl, h33⟩ := gI_ok h32; obtain ⟨x33, ls34, rfl, h34⟩ := gI_ok h33; obtain ⟨x34, ls35, rfl, h35⟩ := gI_ok h34; obtain ⟨x35, ls36, rfl, h36⟩ := gI_ok h35; obtain ⟨x36, ls37, rfl, h37⟩ := gI_ok h36; obtain ⟨x37, ls38, rfl, h38⟩ := gI_ok h37; obtain ⟨x38, ls39, rfl, h39⟩ := gI_ok h38; obtain ⟨x39, ls40, rfl, h40⟩ := gL_ok h39; obtain ⟨x40, ls41, rfl, h41⟩ := gL_ok h40; obtain ⟨rfl, h42⟩ := gE_ok h41; simp only [F20_c0] at h42; cases h42
  · replace h : g20_0 (n + 1) ls = some r := h
    unfold g20_0 at h
    obtain ⟨x0, ls1, rfl, h1⟩ := gI_ok h; obtain ⟨x1, ls2, rfl, h2⟩ := gB_ok h1; obtain ⟨x2, ls3, rfl, h3⟩ := gI_ok h2; obtain ⟨x3, ls4, rfl, h4⟩ := gI_ok h3; obtain ⟨x4, ls5, rfl, h5⟩ := gI_ok h4; obtain ⟨x5, ls6, rfl, h6⟩ := gI_ok h5; obtain ⟨x6, ls7, rfl, h7⟩ := gI_ok h6; obtain ⟨x7, ls8, rfl, h8⟩ := gI_ok h7; obtain ⟨x8, ls9, rfl, h9⟩ := gI_ok h8; obtain ⟨x9, ls10, rfl, h10⟩ := gI_ok h9; obtain ⟨x10, ls11, rfl, h11⟩ := gI_ok h10; obtain ⟨x11, ls12, rfl, h12⟩ := gI_ok h11; obtain ⟨x12, ls13, rfl, h13⟩ := gI_ok h12; obtain ⟨x13, ls14, rfl, h14⟩ := gI_ok h13; obtain ⟨x14, ls15, rfl, h15⟩ := gI_ok h14; obtain ⟨x15, ls16, rfl, h16⟩ := gI_ok h15; obtain ⟨x16, ls17, rfl, h17⟩ := gI_ok h16; obtain ⟨x17, ls18, rfl, h18⟩ := gI_ok h17; obtain ⟨x18, ls19, rfl, h19⟩ := gI_ok h18; obtain ⟨x19, ls20, rfl, h20⟩ := gI_ok h19; obtain ⟨x20, ls21, rfl, h21⟩ := gI_ok h20; obtain ⟨x21, ls22, rfl, h22⟩ := gI_ok h21; obtain ⟨x22, ls23, rfl, h23⟩ := gI_ok h22; obtain ⟨x23, ls24, rfl, h24⟩ := gI_ok h23; obtain ⟨x24, ls25, rfl, h25⟩ := gI_ok h24; obtain ⟨x25, ls26, rfl, h26⟩ := gI_ok h25; obtain ⟨x26, ls27, rfl, h27⟩ := gI_ok h26; obtain ⟨x27, ls28, rfl, h28⟩ := gI_ok h27; obtain ⟨x28, ls29, rfl, h29⟩ := gI_ok h28; obtain ⟨x29, ls30, rfl, h30⟩ := gI_ok h29; obtain ⟨x30, ls31, rfl, h31⟩ := gI_ok h30; obtain ⟨x31, ls32, rfl, h32⟩ := gI_ok h31; obtain ⟨x32, ls33, rfl, h33⟩ := gI_ok h32; obtain ⟨x33, ls34, rfl, h34⟩ := gI_ok h33; obtain ⟨x34, ls35, rfl, h35⟩ := gI_ok h34; obtain ⟨x35, ls36, rfl, h36⟩ := gI_ok h35; obtain ⟨x36, ls37, rfl, h37⟩ := gI_ok h36; obtain ⟨x37, ls38, rfl, h38⟩ := gI_ok h37; obtain ⟨x38, ls39, rfl, h39⟩ := gI_ok h38; obtain ⟨x39, ls40, rfl, h40⟩ := gL_ok h39; obtain ⟨x40, ls41, rfl, h41⟩ := gL_ok h40; obtain ⟨rfl, h42⟩ := gE_ok h41
    exact (e20_0 n x0 x1 x2 x3 x4 x5 x6 x7 x8 x9 x10 x11 x12 x13 x14 x15 x16 x17 x18 x19 x20 x21 x22 x23 x24 x25 x26 x27 x28 x29 x30 x31 x32 x33 x34 x35 x36 x37 x38 x39 x40).trans h42
theorem sp20 {n : Nat} (a0 : Int) (a1 : List (Int)) (a2 : List (Int)) (a3 : Int) (a4 : Int) (a5 : Int) (a6 : Int) (a7 : Int) (a8 : Int) (a9 : Int) (a10 : Int) (a11 : Int) (a12 : Int) (a13 : Int) (a14 : Int) (a15 : Int) (a16 : Int) (a17 : Int) (a18 : Int) (a19 : Int) (a20 : Int) {y : Si18l2} (h : F20 n a0 a1 a2 a3 a4 a5 a6 a7 a8 a9 a10 a11 a12 a13 a14 a15 a16 a17 a18 a19 a20 = some y) : SpecF T Try.prog 20 pa20 [.i a0, .l [.int .i64] a1, .l [.int .i64] a2, .i a3, .i a4, .i a5, .i a6, .i a7, .i a8, .i a9, .i a10, .i a11, .i a12, .i a13, .i a14, .i a15, .i a16, .i a17, .i a18, .i a19, .i a20] sr20 (ofB20 y) :=
  fun_ok (X := X20) tok (sfok_of ⟨ok23, ok21, trivial⟩) mixed 20 8 cuts20 rfl toB20_ok ⟨c20_0, trivial⟩ ((e20 n a0 a1 a2 a3 a4 a5 a6 a7 a8 a9 a10 a11 a12 a13 a14 a15 a16 a17 a18 a19 a20).trans h)
theorem ok20 {R : Type} : SFone T Try.prog 20 (run20 : SF R) := by
  intro ls K r h
  simp only [run20] at h
  obtain ⟨a0, ls1, rfl, h1⟩ := gI_ok h; obtain ⟨a1, ls2, rfl, h2⟩ := gL_ok h1; obtain ⟨a2, ls3, rfl, h3⟩ := gL_ok h2; obtain ⟨a3, ls4, rfl, h4⟩ := gI_ok h3; obtain ⟨a4, ls5, rfl, h5⟩ := gI_ok h4; obtain ⟨a5, ls6, rfl, h6⟩ := gI_ok h5; obtain ⟨a6, ls7, rfl, h7⟩ := gI_ok h6; obtain ⟨a7, ls8, rfl, h8⟩ := gI_ok h7; obtain ⟨a8, ls9, rfl, h9⟩ := gI_ok h8; obtain ⟨a9, ls10, rfl, h10⟩ := gI_ok h9; obtain ⟨a10, ls11, rfl, h11⟩ := gI_ok h10; obtain ⟨a11, ls12, rfl, h12⟩ := gI_ok h11; obtain ⟨a12, ls13, rfl, h13⟩ := gI_ok h12; obtain ⟨a13, ls14, rfl, h14⟩ := gI_ok h13; obtain ⟨a14, ls15, rfl, h15⟩ := gI_ok h14; obtain ⟨a15, ls16, rfl, h16⟩ := gI_ok h15; obtain ⟨a16, ls17, rfl, h17⟩ := gI_ok h16; obtain ⟨a17, ls18, rfl, h18⟩ := gI_ok h17; obtain ⟨a18, ls19, rfl, h19⟩ := gI_ok h18; obtain ⟨a19, ls20, rfl, h20⟩ := gI_ok h19; obtain ⟨a20, ls21, rfl, h21⟩ := gI_ok h20; obtain ⟨rfl, h22⟩ := gE_ok h21
  obtain ⟨y, k1, k2⟩ := Option.bind_eq_some_iff.1 h22
  exact ⟨_, k2, sp20 a0 a1 a2 a3 a4 a5 a6 a7 a8 a9 a10 a11 a12 a13 a14 a15 a16 a17 a18 a19 a20 k1⟩

/-! ### garland/garlandlaw15.RectTells -/
def pa3 : List VP := [.agg [.i .i64, .sl false [.int .i64], .sl false [.int .i64], .i .i64, .i .i64, .i .i64, .i .i64, .i .i64, .i .i64, .i .i64, .i .i64, .i .i64, .i .i64, .i .i64, .i .i64, .i .i64, .i .i64, .i .i64, .i .i64, .i .i64], .i .i64, .sl false [.int .i64]]
def sr3 : RShape := ⟨.b, [], none⟩
def toB3 : List Leaf → Option (Bool) := gB (fun b0 => gE (some b0))
def ofB3 (y : Bool) : List Leaf := [.b y]
theorem toB3_ok : ∀ ls b, toB3 ls = some b → ls = ofB3 b := by
  intro ls b h
  unfold toB3 at h
  obtain ⟨b0, ls1, rfl, h1⟩ := gB_ok h; obtain ⟨rfl, h2⟩ := gE_ok h1
  cases h2; rfl
def run3 {R : Type} : SF R := ⟨pa3, sr3, fun ls K => (gI (fun a0 => gL [.int .i64] (fun a1 => gL [.int .i64] (fun a2 => gI (fun a3 => gI (fun a4 => gI (fun a5 => gI (fun a6 => gI (fun a7 => gI (fun a8 => gI (fun a9 => gI (fun a10 => gI (fun a11 => gI (fun a12 => gI (fun a13 => gI (fun a14 => gI (fun a15 => gI (fun a16 => gI (fun a17 => gI (fun a18 => gI (fun a19 => gI (fun a20 => gL [.int .i64] (fun a21 => gE (Option.bind (F3 FUEL a0 a1 a2 a3 a4 a5 a6 a7 a8 a9 a10 a11 a12 a13 a14 a15 a16 a17 a18 a19 a20 a21) fun y => K (ofB3 y))))))))))))))))))))))))) ls⟩
def cuts3 : List (List Nat × Cut (Bool)) := []
noncomputable def X3 : Px (Bool) := ⟨T, Try.prog, lkF [(8, run8), (9, run9), (10, run10), (11, run11), (12, run12), (13, run13), (15, run15), (16, run16), (14, run14), (17, run17), (18, run18), (19, run19), (20, run20)], mkCuts 3 cuts3, altN, altN_ok⟩
theorem e3 (n : Nat) (a0 : Int) (a1 : List (Int)) (a2 : List (Int)) (a3 : Int) (a4 : Int) (a5 : Int) (a6 : Int) (a7 : Int) (a8 : Int) (a9 : Int) (a10 : Int) (a11 : Int) (a12 : Int) (a13 : Int) (a14 : Int) (a15 : Int) (a16 : Int) (a17 : Int) (a18 : Int) (a19 : Int) (a20 : Int) (a21 : List (Int)) : entF X3 8 3 pa3 (endK sr3 toB3) n [.i a0, .l [.int .i64] a1, .l [.int .i64] a2, .i a3, .i a4, .i a5, .i a6, .i a7, .i a8, .i a9, .i a10, .i a11, .i a12, .i a13, .i a14, .i a15, .i a16, .i a17, .i a18, .i a19, .i a20, .l [.int .i64] a21] = F3 n a0 a1 a2 a3 a4 a5 a6 a7 a8 a9 a10 a11 a12 a13 a14 a15 a16 a17 a18 a19 a20 a21 := by kernel_rfl
theorem sp3 {n : Nat} (a0 : Int) (a1 : List (Int)) (a2 : List (Int)) (a3 : Int) (a4 : Int) (a5 : Int) (a6 : Int) (a7 : Int) (a8 : Int) (a9 : Int) (a10 : Int) (a11 : Int) (a12 : Int) (a13 : Int) (a14 : Int) (a15 : Int) (a16 : Int) (a17 : Int) (a18 : Int) (a19 : Int) (a20 : Int) (a21 : List (Int)) {y : Bool} (h : F3 n a0 a1 a2 a3 a4 a5 a6 a7 a8 a9 a10 a11 a12 a13 a14 a15 a16 a17 a18 a19 a20 a21 = some y) : SpecF T Try.prog 3 pa3 [.i a0, .l [.int .i64] a1, .l [.int .i64] a2, .i a3, .i a4, .i a5, .i a6, .i a7, .i a8, .i a9, .i a10, .i a11, .i a12, .i a13, .i a14, .i a15, .i a16, .i a17, .i a18, .i a19, .i a20, .l [.int .i64] a21] sr3 (ofB3 y) :=
  fun_ok (X := X3) tok (sfok_of ⟨ok8, ok9, ok10, ok11, ok12, ok13, ok15, ok16, ok14, ok17, ok18, ok19, ok20, trivial⟩) mixed 3 8 cuts3 rfl toB3_ok trivial ((e3 n a0 a1 a2 a3 a4 a5 a6 a7 a8 a9 a10 a11 a12 a13 a14 a15 a16 a17 a18 a19 a20 a21).trans h)
theorem ok3 {R : Type} : SFone T Try.prog 3 (run3 : SF R) := by
  intro ls K r h
  simp only [run3] at h
  obtain ⟨a0, ls1, rfl, h1⟩ := gI_ok h; obtain ⟨a1, ls2, rfl, h2⟩ := gL_ok h1; obtain ⟨a2, ls3, rfl, h3⟩ := gL_ok h2; obtain ⟨a3, ls4, rfl, h4⟩ := gI_ok h3; obtain ⟨a4, ls5, rfl, h5⟩ := gI_ok h4; obtain ⟨a5, ls6, rfl, h6⟩ := gI_ok h5; obtain ⟨a6, ls7, rfl, h7⟩ := gI_ok h6; obtain ⟨a7, ls8, rfl, h8⟩ := gI_ok h7; obtain ⟨a8, ls9, rfl, h9⟩ := gI_ok h8; obtain ⟨a9, ls10, rfl, h10⟩ := gI_ok h9; obtain ⟨a10, ls11, rfl, h11⟩ := gI_ok h10; obtain ⟨a11, ls12, rfl, h12⟩ := gI_ok h11; obtain ⟨a12, ls13, rfl, h13⟩ := gI_ok h12; obtain ⟨a13, ls14, rfl, h14⟩ := gI_ok h13; obtain ⟨a14, ls15, rfl, h15⟩ := gI_ok h14; obtain ⟨a15, ls16, rfl, h16⟩ := gI_ok h15; obtain ⟨a16, ls17, rfl, h17⟩ := gI_ok h16; obtain ⟨a17, ls18, rfl, h18⟩ := gI_ok h17; obtain ⟨a18, ls19, rfl, h19⟩ := gI_ok h18; obtain ⟨a19, ls20, rfl, h20⟩ := gI_ok h19; obtain ⟨a20, ls21, rfl, h21⟩ := gI_ok h20; obtain ⟨a21, ls22, rfl, h22⟩ := gL_ok h21; obtain ⟨rfl, h23⟩ := gE_ok h22
  obtain ⟨y, k1, k2⟩ := Option.bind_eq_some_iff.1 h23
  exact ⟨_, k2, sp3 a0 a1 a2 a3 a4 a5 a6 a7 a8 a9 a10 a11 a12 a13 a14 a15 a16 a17 a18 a19 a20 a21 k1⟩

/-! ### garland/garlandlaw15.RectBest -/
def pa4 : List VP := [.agg [.i .i64, .sl false [.int .i64], .sl false [.int .i64], .i .i64, .i .i64, .i .i64, .i .i64, .i .i64, .i .i64, .i .i64, .i .i64, .i .i64, .i .i64, .i .i64, .i .i64, .i .i64, .i .i64, .i .i64, .i .i64, .i .i64], .sl false [.int .i64]]
def sr4 : RShape := ⟨.b, [], none⟩
def toB4 : List Leaf → Option (Bool) := gB (fun b0 => gE (some b0))
def ofB4 (y : Bool) : List Leaf := [.b y]
theorem toB4_ok : ∀ ls b, toB4 ls = some b → ls = ofB4 b := by
  intro ls b h
  unfold toB4 at h
  obtain ⟨b0, ls1, rfl, h1⟩ := gB_ok h; obtain ⟨rfl, h2⟩ := gE_ok h1
  cases h2; rfl
def run4 {R : Type} : SF R := ⟨pa4, sr4, fun ls K => (gI (fun a0 => gL [.int .i64] (fun a1 => gL [.int .i64] (fun a2 => gI (fun a3 => gI (fun a4 => gI (fun a5 => gI (fun a6 => gI (fun a7 => gI (fun a8 => gI (fun a9 => gI (fun a10 => gI (fun a11 => gI (fun a12 => gI (fun a13 => gI (fun a14 => gI (fun a15 => gI (fun a16 => gI (fun a17 => gI (fun a18 => gI (fun a19 => gL [.int .i64] (fun a20 => gE (Option.bind (F4 FUEL a0 a1 a2 a3 a4 a5 a6 a7 a8 a9 a10 a11 a12 a13 a14 a15 a16 a17 a18 a19 a20) fun y => K (ofB4 y)))))))))))))))))))))))) ls⟩
def sh4_0 : Shape := ⟨[(121, [(1, .sl false [.int .i64]), (2, .ref 0 0), (5, .i .i64), (6, .row 1), (7, .i .i64)])], [.cells [.i .i64, .sl false [.int .i64], .sl false [.int .i64], .i .i64, .i .i64, .i .i64, .i .i64, .i .i64, .i .i64, .i .i64, .i .i64, .i .i64, .i .i64, .i .i64, .i .i64, .i .i64, .i .i64, .i .i64, .i .i64, .i .i64], .row true [.int .i64]]⟩
def g4_0 (n : Nat) : List Leaf → Option (Bool) := gL [.int .i64] (fun x0 => gI (fun x1 => gI (fun x2 => gI (fun x3 => gL [.int .i64] (fun x4 => gL [.int .i64] (fun x5 => gI (fun x6 => gI (fun x7 => gI (fun x8 => gI (fun x9 => gI (fun x10 => gI (fun x11 => gI (fun x12 => gI (fun x13 => gI (fun x14 => gI (fun x15 => gI (fun x16 => gI (fun x17 => gI (fun x18 => gI (fun x19 => gI (fun x20 => gI (fun x21 => gI (fun x22 => gL [.int .i64] (fun x23 => gE (F4_c0 n x0 x1 x2 x3 x4 x5 x6 x7 x8 x9 x10 x11 x12 x13 x14 x15 x16 x17 x18 x19 x20 x21 x22 x23)))))))))))))))))))))))))
def cuts4 : List (List Nat × Cut (Bool)) := [([1, 1, 1, 1, 0, 1, 0], ⟨sh4_0, g4_0⟩)]
noncomputable def X4 : Px (Bool) := ⟨T, Try.prog, lkF [(8, run8), (9, run9), (21, run21), (22, run22), (23, run23), (15, run15), (14, run14)], mkCuts 4 cuts4, altN, altN_ok⟩
theorem e4_0 (n : Nat) (x0 : List (Int)) (x1 : Int) (x2 : Int) (x3 : Int) (x4 : List (Int)) (x5 : List (Int)) (x6 : Int) (x7 : Int) (x8 : Int) (x9 : Int) (x10 : Int) (x11 : Int) (x12 : Int) (x13 : Int) (x14 : Int) (x15 : Int) (x16 : Int) (x17 : Int) (x18 : Int) (x19 : Int) (x20 : Int) (x21 : Int) (x22 : Int) (x23 : List (Int)) : stepF X4 8 4 (endK sr4 toB4) [1, 1, 1, 1, 0, 1, 0] sh4_0 n [.l [.int .i64] x0, .i x1, .i x2, .i x3, .l [.int .i64] x4, .l [.int .i64] x5, .i x6, .i x7, .i x8, .i x9, .i x10, .i x11, .i x12, .i x13, .i x14, .i x15, .i x16, .i x17, .i x18, .i x19, .i x20, .i x21, .i x22, .l [.int .i64] x23] = F4_c0 (n + 1) x0 x1 x2 x3 x4 x5 x6 x7 x8 x9 x10 x11 x12 x13 x14 x15 x16 x17 x18 x19 x20 x21 x22 x23 := by kernel_rfl
theorem e4 (n : Nat) (a0 : Int) (a1 : List (Int)) (a2 : List (Int)) (a3 : Int) (a4 : Int) (a5 : Int) (a6 : Int) (a7 : Int) (a8 : Int) (a9 : Int) (a10 : Int) (a11 : Int) (a12 : Int) (a13 : Int) (a14 : Int) (a15 : Int) (a16 : Int) (a17 : Int) (a18 : Int) (a19 : Int) (a20 : List (Int)) : entF X4 8 4 pa4 (endK sr4 toB4) n [.i a0, .l [.int .i64] a1, .l [.int .i64] a2, .i a3, .i a4, .i a5, .i a6, .i a7, .i a8, .i a9, .i a10, .i a11, .i a12, .i a13, .i a14, .i a15, .i a16, .i a17, .i a18, .i a19, .l [.int .i64] a20] = F4 n a0 a1 a2 a3 a4 a5 a6 a7 a8 a9 a10 a11 a12 a13 a14 a15 a16 a17 a18 a19 a20 := by kernel_rfl
theorem c4_0 : CutOK X4 8 4 (endK sr4 toB4) [1, 1, 1, 1, 0, 1, 0] ⟨sh4_0, g4_0⟩ := by
  refine ⟨fun ls => ?_, fun n ls r h => ?_⟩
  · cases h : g4_0 0 ls with
    | none => exact h
    | some r =>
      unfold g4_0 at h; obtain ⟨x0, ls1, rfl, h1⟩ := gL_ok h; obtain ⟨x1, ls2, rfl, h2⟩ := gI_ok h1; obtain ⟨x2, ls3, rfl, h3⟩ := gI_ok h2; obtain ⟨x3, ls4, rfl, h4⟩ := gI_ok h3; obtain ⟨x4, ls5, rfl, h5⟩ := gL_ok h4; obtain ⟨x5, ls6, rfl, h6⟩ := gL_ok h5; obtain ⟨x6, ls7, rfl, h7⟩ := gI_ok h6; obtain ⟨x7, ls8, rfl, h8⟩ := gI_ok h7; obtain ⟨x8, ls9, rfl, h9⟩ := gI_ok h8; obtain ⟨x9, ls10, rfl, h10⟩ := gI_ok h9; obtain ⟨x10, ls11, rfl, h11⟩ := gI_ok h10; obtain ⟨x11, ls12, rfl, h12⟩ := gI_ok h11; obtain ⟨x12, ls13, rfl, h13⟩ := gI_ok h12; obtain ⟨x13, ls14, rfl, h14⟩ := gI_ok h13; obtain ⟨x14, ls15, rfl, h15⟩ := gI_ok h14; obtain ⟨x15, ls16, rfl, h16⟩ := gI_ok h15; obtain ⟨x16, ls17, rfl, h17⟩ := gI_ok h16; obtain ⟨x17, ls18, rfl, h18⟩ := gI_ok h17; obtain ⟨x18, ls19, rfl, h19⟩ := gI_ok h18; obtain ⟨x19, ls20, rfl, h20⟩ := gI_ok h19; obtain ⟨x20, ls21, rfl, h21⟩ := gI_ok h20; obtain ⟨x21, ls22, rfl, h22⟩ := gI_ok h21; obtain ⟨x22, ls23, rfl, h23⟩ := gI_ok h22; obtain ⟨x23, ls24, rfl, h24⟩ := gL_ok h23; obtain ⟨rfl, h25⟩ := gE_ok h24; simp only [F4_c0] at h25; cases h25
  · replace h : g4_0 (n + 1) ls = some r := h
    unfold g4_0 at h
    obtain ⟨x0, ls1, rfl, h1⟩ := gL_ok h; obtain ⟨x1, ls2, rfl, h2⟩ := gI_ok h1; obtain ⟨x2, ls3, rfl, h3⟩ := gI_ok h2; obtain ⟨x3, ls4, rfl, h4⟩ := gI_ok h3; obtain ⟨x4, ls5, rfl, h5⟩ := gL_ok h4; obtain ⟨x5, ls6, rfl, h6⟩ := gL_ok h5; obtain ⟨x6, ls7, rfl, h7⟩ := gI_ok h6; obtain ⟨x7, ls8, rfl, h8⟩ := gI_ok h7; obtain ⟨x8, ls9, rfl, h9⟩ := gI_ok h8; obtain ⟨x9, ls10, rfl, h10⟩ := gI_ok h9; obtain ⟨x10, ls11, rfl, h11⟩ := gI_ok h10; obtain ⟨x11, ls12, rfl, h12⟩ := gI_ok h11; obtain ⟨x12, ls13, rfl, h13⟩ := gI_ok h12; obtain ⟨x13, ls14, rfl, h14⟩ := gI_ok h13; obtain ⟨x14, ls15, rfl, h15⟩ := gI_ok h14; obtain ⟨x15, ls16, rfl, h16⟩ := gI_ok h15; obtain ⟨x16, ls17, rfl, h17⟩ := gI_ok h16; obtain ⟨x17, ls18, rfl, h18⟩ := gI_ok h17; obtain ⟨x18, ls19, rfl, h19⟩ := gI_ok h18; obtain ⟨x19, ls20, rfl, h20⟩ := gI_ok h19; obtain ⟨x20, ls21, rfl, h21⟩ := gI_ok h20; obtain ⟨x21, ls22, rfl, h22⟩ := gI_ok h21; obtain ⟨x22, ls23, rfl, h23⟩ := gI_ok h22; obtain ⟨x23, ls24, rfl, h24⟩ := gL_ok h23; obtain ⟨rfl, h25⟩ := gE_ok h24
    exact (e4_0 n x0 x1 x2 x3 x4 x5 x6 x7 x8 x9 x10 x11 x12 x13 x14 x15 x16 x17 x18 x19 x20 x21 x22 x23).trans h25
theorem sp4 {n : Nat} (a0 : Int) (a1 : List (Int)) (a2 : List (Int)) (a3 : Int) (a4 : Int) (a5 : Int) (a6 : Int) (a7 : Int) (a8 : Int) (a9 : Int) (a10 : Int) (a11 : Int) (a12 : Int) (a13 : Int) (a14 : Int) (a15 : Int) (a16 : Int) (a17 : Int) (a18 : Int) (a19 : Int) (a20 : List (Int)) {y : Bool} (h : F4 n a0 a1 a2 a3 a4 a5 a6 a7 a8 a9 a10 a11 a12 a13 a14 a15 a16 a17 a18 a19 a20 = some y) : SpecF T Try.prog 4 pa4 [.i a0, .l [.int .i64] a1, .l [.int .i64] a2, .i a3, .i a4, .i a5, .i a6, .i a7, .i a8, .i a9, .i a10, .i a11, .i a12, .i a13, .i a14, .i a15, .i a16, .i a17, .i a18, .i a19, .l [.int .i64] a20] sr4 (ofB4 y) :=
  fun_ok (X := X4) tok (sfok_of ⟨ok8, ok9, ok21, ok22, ok23, ok15, ok14, trivial⟩) mixed 4 8 cuts4 rfl toB4_ok ⟨c4_0, trivial⟩ ((e4 n a0 a1 a2 a3 a4 a5 a6 a7 a8 a9 a10 a11 a12 a13 a14 a15 a16 a17 a18 a19 a20).trans h)
theorem ok4 {R : Type} : SFone T Try.prog 4 (run4 : SF R) := by
  intro ls K r h
  simp only [run4] at h
  obtain ⟨a0, ls1, rfl, h1⟩ := gI_ok h; obtain ⟨a1, ls2, rfl, h2⟩ := gL_ok h1; obtain ⟨a2, ls3, rfl, h3⟩ := gL_ok h2; obtain ⟨a3, ls4, rfl, h4⟩ := gI_ok h3; obtain ⟨a4, ls5, rfl, h5⟩ := gI_ok h4; obtain ⟨a5, ls6, rfl, h6⟩ := gI_ok h5; obtain ⟨a6, ls7, rfl, h7⟩ := gI_ok h6; obtain ⟨a7, ls8, rfl, h8⟩ := gI_ok h7; obtain ⟨a8, ls9, rfl, h9⟩ := gI_ok h8; obtain ⟨a9, ls10, rfl, h10⟩ := gI_ok h9; obtain ⟨a10, ls11, rfl, h11⟩ := gI_ok h10; obtain ⟨a11, ls12, rfl, h12⟩ := gI_ok h11; obtain ⟨a12, ls13, rfl, h13⟩ := gI_ok h12; obtain ⟨a13, ls14, rfl, h14⟩ := gI_ok h13; obtain ⟨a14, ls15, rfl, h15⟩ := gI_ok h14; obtain ⟨a15, ls16, rfl, h16⟩ := gI_ok h15; obtain ⟨a16, ls17, rfl, h17⟩ := gI_ok h16; obtain ⟨a17, ls18, rfl, h18⟩ := gI_ok h17; obtain ⟨a18, ls19, rfl, h19⟩ := gI_ok h18; obtain ⟨a19, ls20, rfl, h20⟩ := gI_ok h19; obtain ⟨a20, ls21, rfl, h21⟩ := gL_ok h20; obtain ⟨rfl, h22⟩ := gE_ok h21
  obtain ⟨y, k1, k2⟩ := Option.bind_eq_some_iff.1 h22
  exact ⟨_, k2, sp4 a0 a1 a2 a3 a4 a5 a6 a7 a8 a9 a10 a11 a12 a13 a14 a15 a16 a17 a18 a19 a20 k1⟩

/-! ### garland/garlandlaw15.RectOwns -/
def pa5 : List VP := [.agg [.i .i64, .sl false [.int .i64], .sl false [.int .i64], .i .i64, .i .i64, .i .i64, .i .i64, .i .i64, .i .i64, .i .i64, .i .i64, .i .i64, .i .i64, .i .i64, .i .i64, .i .i64, .i .i64, .i .i64, .i .i64, .i .i64], .i .i64, .i .i64]
def sr5 : RShape := ⟨.b, [], none⟩
def toB5 : List Leaf → Option (Bool) := gB (fun b0 => gE (some b0))
def ofB5 (y : Bool) : List Leaf := [.b y]
theorem toB5_ok : ∀ ls b, toB5 ls = some b → ls = ofB5 b := by
  intro ls b h
  unfold toB5 at h
  obtain ⟨b0, ls1, rfl, h1⟩ := gB_ok h; obtain ⟨rfl, h2⟩ := gE_ok h1
  cases h2; rfl
def run5 {R : Type} : SF R := ⟨pa5, sr5, fun ls K => (gI (fun a0 => gL [.int .i64] (fun a1 => gL [.int .i64] (fun a2 => gI (fun a3 => gI (fun a4 => gI (fun a5 => gI (fun a6 => gI (fun a7 => gI (fun a8 => gI (fun a9 => gI (fun a10 => gI (fun a11 => gI (fun a12 => gI (fun a13 => gI (fun a14 => gI (fun a15 => gI (fun a16 => gI (fun a17 => gI (fun a18 => gI (fun a19 => gI (fun a20 => gI (fun a21 => gE (Option.bind (F5 FUEL a0 a1 a2 a3 a4 a5 a6 a7 a8 a9 a10 a11 a12 a13 a14 a15 a16 a17 a18 a19 a20 a21) fun y => K (ofB5 y))))))))))))))))))))))))) ls⟩
def sh5_0 : Shape := ⟨[(86, [(1, .i .i64), (2, .i .i64), (3, .ref 0 0), (7, .ref 1 0), (8, .ref 2 0), (9, .i .i64)])], [.cells [.i .i64, .sl false [.int .i64], .sl false [.int .i64], .i .i64, .i .i64, .i .i64, .i .i64, .i .i64, .i .i64, .i .i64, .i .i64, .i .i64, .i .i64, .i .i64, .i .i64, .i .i64, .i .i64, .i .i64, .i .i64, .i .i64], .cells [.i .i64, .sl true [.int .i64], .sl true [.int .i64], .i .i64, .i .i64, .i .i64, .i .i64, .i .i64, .i .i64, .i .i64, .i .i64, .i .i64, .i .i64, .i .i64, .i .i64, .i .i64, .i .i64, .i .i64, .i .i64, .i .i64], .cells [.i .i64, .sl true [.int .i64], .nil, .i .i64, .i .i64, .i .i64, .i .i64, .i .i64, .i .i64, .i .i64, .i .i64, .i .i64, .i .i64, .i .i64, .i .i64, .i .i64, .i .i64, .i .i64, .i .i64, .i .i64]]⟩
def g5_0 (n : Nat) : List Leaf → Option (Bool) := gI (fun x0 => gI (fun x1 => gI (fun x2 => gI (fun x3 => gL [.int .i64] (fun x4 => gL [.int .i64] (fun x5 => gI (fun x6 => gI (fun x7 => gI (fun x8 => gI (fun x9 => gI (fun x10 => gI (fun x11 => gI (fun x12 => gI (fun x13 => gI (fun x14 => gI (fun x15 => gI (fun x16 => gI (fun x17 => gI (fun x18 => gI (fun x19 => gI (fun x20 => gI (fun x21 => gI (fun x22 => gI (fun x23 => gL [.int .i64] (fun x24 => gL [.int .i64] (fun x25 => gI (fun x26 => gI (fun x27 => gI (fun x28 => gI (fun x29 => gI (fun x30 => gI (fun x31 => gI (fun x32 => gI (fun x33 => gI (fun x34 => gI (fun x35 => gI (fun x36 => gI (fun x37 => gI (fun x38 => gI (fun x39 => gI (fun x40 => gI (fun x41 => gI (fun x42 => gI (fun x43 => gL [.int .i64] (fun x44 => gI (fun x45 => gI (fun x46 => gI (fun x47 => gI (fun x48 => gI (fun x49 => gI (fun x50 => gI (fun x51 => gI (fun x52 => gI (fun x53 => gI (fun x54 => gI (fun x55 => gI (fun x56 => gI (fun x57 => gI (fun x58 => gI (fun x59 => gI (fun x60 => gI (fun x61 => gE (F5_c0 n x0 x1 x2 x3 x4 x5 x6 x7 x8 x9 x10 x11 x12 x13 x14 x15 x16 x17 x18 x19 x20 x21 x22 x23 x24 x25 x26 x27 x28 x29 x30 x31 x32 x33 x34 x35 x36 x37 x38 x39 x40 x41 x42 x43 x44 x45 x46 x47 x48 x49 x50 x51 x52 x53 x54 x55 x56 x57 x58 x59 x60 x61)))))))))))))))))))))))))))))))))))))))))))))))))))))))))))))))
def cuts5 : List (List Nat × Cut (Bool)) := [([1, 1, 1, 1, 0, 1, 0], ⟨sh5_0, g5_0⟩)]
noncomputable def X5 : Px (Bool) := ⟨T, Try.prog, lkF [(8, run8), (9, run9), (21, run21), (23, run23), (17, run17), (15, run15)], mkCuts 5 cuts5, altN, altN_ok⟩
theorem e5_0 (n : Nat) (x0 : Int) (x1 : Int) (x2 : Int) (x3 : Int) (x4 : List (Int)) (x5 : List (Int)) (x6 : Int) (x7 : Int) (x8 : Int) (x9 : Int) (x10 : Int) (x11 : Int) (x12 : Int) (x13 : Int) (x14 : Int) (x15 : Int) (x16 : Int) (x17 : Int) (x18 : Int) (x19 : Int) (x20 : Int) (x21 : Int) (x22 : Int) (x23 : Int) (x24 : List (Int)) (x25 : List (Int)) (x26 : Int) (x27 : Int) (x28 : Int) (x29 : Int) (x30 : Int) (x31 : Int) (x32 : Int) (x33 : Int) (x34 : Int) (x35 : Int) (x36 : Int) (x37 : Int) (x38 : Int) (x39 : Int) (x40 : Int) (x41 : Int) (x42 : Int) (x43 : Int) (x44 : List (Int)) (x45 : Int) (x46 : Int) (x47 : Int) (x48 : Int) (x49 : Int) (x50 : Int) (x51 : Int) (x52 : Int) (x53 : Int) (x54 : Int) (x55 : Int) (x56 : Int) (x57 : Int) (x58 : Int) (x59 : Int) (x60 : Int) (x61 : Int) : stepF X5 8 5 (endK sr5 toB5) [1, 1, 1, 1, 0, 1, 0] sh5_0 n [.i x0, .i x1, .i x2, .i x3, .l [.int .i64] x4, .l [.int .i64] x5, .i x6, .i x7, .i x8, .i x9, .i x10, .i x11, .i x12, .i x13, .i x14, .i x15, .i x16, .i x17, .i x18, .i x19, .i x20, .i x21, .i x22, .i x23, .l [.int .i64] x24, .l [.int .i64] x25, .i x26, .i x27, .i x28, .i x29, .i x30, .i x31, .i x32, .i x33, .i x34, .i x35, .i x36, .i x37, .i x38, .i x39, .i x40, .i x41, .i x42, .i x43, .l [.int .i64] x44, .i x45, .i x46, .i x47, .i x48, .i x49, .i x50, .i x51, .i x52, .i x53, .i x54, .i x55, .i x56, .i x57, .i x58, .i x59, .i x60, .i x61] = F5_c0 (n + 1) x0 x1 x2 x3 x4 x5 x6 x7 x8 x9 x10 x11 x12 x13 x14 x15 x16 x17 x18 x19 x20 x21 x22 x23 x24 x25 x26 x27 x28 x29 x30 x31 x32 x33 x34 x35 x36 x37 x38 x39 x40 x41 x42 x43 x44 x45 x46 x47 x48 x49 x50 x51 x52 x53 x54 x55 x56 x57 x58 x59 x60 x61 := by kernel_rfl
theorem e5 (n : Nat) (a0 : Int) (a1 : List (Int)) (a2 : List (Int)) (a3 : Int) (a4 : Int) (a5 : Int) (a6 : Int) (a7 : Int) (a8 : Int) (a9 : Int) (a10 : Int) (a11 : Int) (a12 : Int) (a13 : Int) (a14 : Int) (a15 : Int) (a16 : Int) (a17 : Int) (a18 : Int) (a19 : Int) (a20 : Int) (a21 : Int) : entF X5 8 5 pa5 (endK sr5 toB5) n [.i a0, .l [.int .i64] a1, .l [.int .i64] a2, .i a3, .i a4, .i a5, .i a6, .i a7, .i a8, .i a9, .i a10, .i a11, .i a12, .i a13, .i a14, .i a15, .i a16, .i a17, .i a18, .i a19, .i a20, .i a21] = F5 n a0 a1 a2 a3 a4 a5 a6 a7 a8 a9 a10 a11 a12 a13 a14 a15 a16 a17 a18 a19 a20 a21 := by kernel_rfl
theorem c5_0 : CutOK X5 8 5 (endK sr5 toB5) [1, 1, 1, 1, 0, 1, 0] ⟨sh5_0, g5_0⟩ := by
  refine ⟨fun ls => ?_, fun n ls r h => ?_⟩
  · cases h : g5_0 0 ls with
    | none => exact h
    | some r =>
      unfold g5_0 at h; obtain ⟨x0, ls1, rfl, h1⟩ := gI_ok h; obtain ⟨x1, ls2, rfl, h2⟩ := gI_ok h1; obtain ⟨x2, ls3, rfl, h3⟩ := gI_ok h2; obtain ⟨x3, ls4, rfl, h4⟩ := gI_ok h3; obtain ⟨x4, ls5, rfl, h5⟩ := gL_ok h4; obtain ⟨x5, ls6, rfl, h6⟩ := gL_ok h5; obtain ⟨x6, ls7, rfl, h7⟩ := gI_ok h6; obtain ⟨x7, ls8, rfl, h8⟩ := gI_ok h7; obtain ⟨x8, ls9, rfl, h9⟩ := gI_ok h8; obtain ⟨x9, ls10, rfl, h10⟩ := gI_ok h9; obtain ⟨x10, ls11, rfl, h11⟩ := gI_ok h10; obtain ⟨x11, ls12, rfl, h12⟩ := gI_ok h11; obtain ⟨x12, ls13, rfl, h13⟩ := gI_ok h12; obtain ⟨x13, ls14, rfl, h14⟩ := gI_ok h13; obtain ⟨x14, ls15, rfl, h15⟩ := gI_ok h14; obtain ⟨x15, ls16, rfl, h16⟩ := gI_ok h15; obtain ⟨x16, ls17, rfl, h17⟩ := gI_ok h16; obtain ⟨x17, ls18, rfl, h18⟩ := gI_ok h17; obtain ⟨x18, ls19, rfl, h19⟩ := gI_ok h18; obtain ⟨x19, ls20, rfl, h20⟩ := gI_ok h19; obtain ⟨x20, ls21, rfl, h21⟩ := gI_ok h20; obtain ⟨x21, ls22, rfl, h22⟩ := gI_ok h21; obtain ⟨x22, ls23, rfl, h23⟩ := gI_ok h22; obtain ⟨x23, ls24, rfl, h24⟩ := gI_ok h23; obtain ⟨x24, ls25, rfl, h25⟩ := gL_ok h24; obtain ⟨x25, ls26, rfl, h26⟩ := gL_ok h25; obtain ⟨x26, ls27, rfl, h27⟩ := gI_ok h26; obtain ⟨x27, ls28, rfl, h28⟩ := gI_ok h27; obtain ⟨x28, ls29, rfl, h29⟩ := gI_ok h28; obtain ⟨x29, ls30, rfl, h30⟩ := gI_ok h29; obtain ⟨x30, ls31, rfl, h31⟩ := gI_ok h30; obtain ⟨x31, ls32, rfl, h32⟩ := gI_ok h31; obtain ⟨x32, ls33, rfl, h33⟩ := gI_ok h32; obtain ⟨x33, ls34, rfl, h34⟩ := gI_ok h33; obtain ⟨x34, ls35, rfl, h35⟩ := gI_ok h34; obtain ⟨x35, ls36, rfl, h36⟩ := gI_ok h35; obtain ⟨x36, ls37, rfl, h37⟩ := gI_ok h36; obtain ⟨x37, ls38, rfl, h38⟩ := gI_ok h37; obtain ⟨x38, ls39, rfl, h39⟩ := gI_ok h38; obtain ⟨x39, ls40, rfl, h40⟩ := gI_ok h39; obtain ⟨x40, ls41, rfl, h41⟩ := gI_ok h40; obtain ⟨x41, ls42, rfl, h42⟩ := gI_ok h41; obtain ⟨x42, ls43, rfl, h43⟩ := gI_ok h42; obtain ⟨x43, ls44, rfl, h44⟩ := gI_ok h43; obtain ⟨x44, ls45, rfl, h45⟩ := gL_ok h44; obtain ⟨x45, ls46, rfl, h46⟩ := gI_ok h45; obtain ⟨x46, ls47, rfl, h47⟩ := gI_ok h46; obtain ⟨x47, ls48, rfl, h48⟩ := gI_ok h47; obtain ⟨x48, ls49, rfl, h49⟩ := gI_ok h48; obtain ⟨x49, ls50, rfl, h50⟩ := gI_ok h49; obtain ⟨x50, ls51, rfl, h51⟩ := gI_ok h50; obtain ⟨x51, ls52, rfl, h52⟩ := gI_ok h51; obtain ⟨x52, ls53, rfl, h53⟩ := gI_ok h52; obtain ⟨x53, ls54, rfl, h54⟩ := gI_ok h53; obtain ⟨x54, ls55, rfl, h55⟩ := gI_ok h54; obtain ⟨x55, ls56, rfl, h56⟩ := gI_ok h55; obtain ⟨x56, ls57, rfl, h57⟩ := gI_ok h56; obtain ⟨x57, ls58, rfl, h58⟩ := gI_ok h57; obtain ⟨x58, ls59, rfl, h59⟩ := gI_ok h58; obtain ⟨x59, ls60, rfl, h60⟩ := gI_ok h59; obtain ⟨x60, ls61, rfl, h61⟩ := gI_ok h60; obtain ⟨x61, ls62, rfl, h62⟩ := gI_ok h61; obtain ⟨rfl, h63⟩ := gE_ok h62; simp only [F5_c0] at h63; cases h63
  · replace h : g5_0 (n + 1) ls = some r := h
    unfold g5_0 at h
    obtain ⟨x0, ls1, rfl, h1⟩ := gI_ok h; obtain ⟨x1, ls2, rfl, h2⟩ := gI_ok h1; obtain ⟨x2, ls3, rfl, h3⟩ := gI_ok h2; obtain ⟨x3, ls4, rfl, h4⟩ := gI_ok h3; obtain ⟨x4, ls5, rfl, h5⟩ := gL_ok h4; obtain ⟨x5, ls6, rfl, h6⟩ := gL_ok h5; obtain ⟨x6, ls7, rfl, h7⟩ := gI_ok h6; obtain ⟨x7, ls8, rfl, h8⟩ := gI_ok h7; obtain ⟨x8, ls9, rfl, h9⟩ := gI_ok h8; obtain ⟨x9, ls10, rfl, h10⟩ := gI_ok h9; obtain ⟨x10, ls11, rfl, h11⟩ := gI_ok h10; obtain ⟨x11, ls12, rfl, h12⟩ := gI_ok h11; obtain ⟨x12, ls13, rfl, h13⟩ := gI_ok h12; obtain ⟨x13, ls14, rfl, h14⟩ := gI_ok h13; obtain ⟨x14, ls15, rfl, h15⟩ := gI_ok h14; obtain ⟨x15, ls16, rfl, h16⟩ := gI_ok h15; obtain ⟨x16, ls17, rfl, h17⟩ := gI_ok h16; obtain ⟨x17, ls18, rfl, h18⟩ := gI_ok h17; obtain ⟨x18, ls19, rfl, h19⟩ := gI_ok h18; obtain ⟨x19, ls20, rfl, h20⟩ := gI_ok h19; obtain ⟨x20, ls21, rfl, h21⟩ := gI_ok h20; obtain ⟨x21, ls22, rfl, h22⟩ := gI_ok h21; obtain ⟨x22, ls23, rfl, h23⟩ := gI_ok h22; obtain ⟨x23, ls24, rfl, h24⟩ := gI_ok h23; obtain ⟨x24, ls25, rfl, h25⟩ := gL_ok h24; obtain ⟨x25, ls26, rfl, h26⟩ := gL_ok h25; obtain ⟨x26, ls27, rfl, h27⟩ := gI_ok h26; obtain ⟨x27, ls28, rfl, h28⟩ := gI_ok h27; obtain ⟨x28, ls29, rfl, h29⟩ := gI_ok h28; obtain ⟨x29, ls30, rfl, h30⟩ := gI_ok h29; obtain ⟨x30, ls31, rfl, h31⟩ := gI_ok h30; obtain ⟨x31, ls32, rfl, h32⟩ := gI_ok h31; obtain ⟨x32, ls33, rfl, h33⟩ := gI_ok h32; obtain ⟨x33, ls34, rfl, h34⟩ := gI_ok h33; obtain ⟨x34, ls35, rfl, h35⟩ := gI_ok h34; obtain ⟨x35, ls36, rfl, h36⟩ := gI_ok h35; obtain ⟨x36, ls37, rfl, h37⟩ := gI_ok h36; obtain ⟨x37, ls38, rfl, h38⟩ := gI_ok h37; obtain ⟨x38, ls39, rfl, h39⟩ := gI_ok h38; obtain ⟨x39, ls40, rfl, h40⟩ := gI_ok h39; obtain ⟨x40, ls41, rfl, h41⟩ := gI_ok h40; obtain ⟨x41, ls42, rfl, h42⟩ := gI_ok h41; obtain ⟨x42, ls43, rfl, h43⟩ := gI_ok h42; obtain ⟨x43, ls44, rfl, h44⟩ := gI_ok h43; obtain ⟨x44, ls45, rfl, h45⟩ := gL_ok h44; obtain ⟨x45, ls46, rfl, h46⟩ := gI_ok h45; obtain ⟨x46, ls47, rfl, h47⟩ := gI_ok h46; obtain ⟨x47, ls48, rfl, h48⟩ := gI_ok h47; obtain ⟨x48, ls49, rfl, h49⟩ := gI_ok h48; obtain ⟨x49, ls50, rfl, h50⟩ := gI_ok h49; obtain ⟨x50, ls51, rfl, h51⟩ := gI_ok h50; obtain ⟨x51, ls52, rfl, h52⟩ := gI_ok h51; obtain ⟨x52, ls53, rfl, h53⟩ := gI_ok h52; obtain ⟨x53, ls54, rfl, h54⟩ := gI_ok h53; obtain ⟨x54, ls55, rfl, h55⟩ := gI_ok h54; obtain ⟨x55, ls56, rfl, h56⟩ := gI_ok h55; obtain ⟨x56, ls57, rfl, h57⟩ := gI_ok h56; obtain ⟨x57, ls58, rfl, h58⟩ := gI_ok h57; obtain ⟨x58, ls59, rfl, h59⟩ := gI_ok h58; obtain ⟨x59, ls60, rfl, h60⟩ := gI_ok h59; obtain ⟨x60, ls61, rfl, h61⟩ := gI_ok h60; obtain ⟨x61, ls62, rfl, h62⟩ := gI_ok h61; obtain ⟨rfl, h63⟩ := gE_ok h62
    exact (e5_0 n x0 x1 x2 x3 x4 x5 x6 x7 x8 x9 x10 x11 x12 x13 x14 x15 x16 x17 x18 x19 x20 x21 x22 x23 x24 x25 x26 x27 x28 x29 x30 x31 x32 x33 x34 x35 x36 x37 x38 x39 x40 x41 x42 x43 x44 x45 x46 x47 x48 x49 x50 x51 x52 x53 x54 x55 x56 x57 x58 x59 x60 x61).trans h63
theorem sp5 {n : Nat} (a0 : Int) (a1 : List (Int)) (a2 : List (Int)) (a3 : Int) (a4 : Int) (a5 : Int) (a6 : Int) (a7 : Int) (a8 : Int) (a9 : Int) (a10 : Int) (a11 : Int) (a12 : Int) (a13 : Int) (a14 : Int) (a15 : Int) (a16 : Int) (a17 : Int) (a18 : Int) (a19 : Int) (a20 : Int) (a21 : Int) {y : Bool} (h : F5 n a0 a1 a2 a3 a4 a5 a6 a7 a8 a9 a10 a11 a12 a13 a14 a15 a16 a17 a18 a19 a20 a21 = some y) : SpecF T Try.prog 5 pa5 [.i a0, .l [.int .i64] a1, .l [.int .i64] a2, .i a3, .i a4, .i a5, .i a6, .i a7, .i a8, .i a9, .i a10, .i a11, .i a12, .i a13, .i a14, .i a15, .i a16, .i a17, .i a18, .i a19, .i a20, .i a21] sr5 (ofB5 y) :=
  fun_ok (X := X5) tok (sfok_of ⟨ok8, ok9, ok21, ok23, ok17, ok15, trivial⟩) mixed 5 8 cuts5 rfl toB5_ok ⟨c5_0, trivial⟩ ((e5 n a0 a1 a2 a3 a4 a5 a6 a7 a8 a9 a10 a11 a12 a13 a14 a15 a16 a17 a18 a19 a20 a21).trans h)
theorem ok5 {R : Type} : SFone T Try.prog 5 (run5 : SF R) := by
  intro ls K r h
  simp only [run5] at h
  obtain ⟨a0, ls1, rfl, h1⟩ := gI_ok h; obtain ⟨a1, ls2, rfl, h2⟩ := gL_ok h1; obtain ⟨a2, ls3, rfl, h3⟩ := gL_ok h2; obtain ⟨a3, ls4, rfl, h4⟩ := gI_ok h3; obtain ⟨a4, ls5, rfl, h5⟩ := gI_ok h4; obtain ⟨a5, ls6, rfl, h6⟩ := gI_ok h5; obtain ⟨a6, ls7, rfl, h7⟩ := gI_ok h6; obtain ⟨a7, ls8, rfl, h8⟩ := gI_ok h7; obtain ⟨a8, ls9, rfl, h9⟩ := gI_ok h8; obtain ⟨a9, ls10, rfl, h10⟩ := gI_ok h9; obtain ⟨a10, ls11, rfl, h11⟩ := gI_ok h10; obtain ⟨a11, ls12, rfl, h12⟩ := gI_ok h11; obtain ⟨a12, ls13, rfl, h13⟩ := gI_ok h12; obtain ⟨a13, ls14, rfl, h14⟩ := gI_ok h13; obtain ⟨a14, ls15, rfl, h15⟩ := gI_ok h14; obtain ⟨a15, ls16, rfl, h16⟩ := gI_ok h15; obtain ⟨a16, ls17, rfl, h17⟩ := gI_ok h16; obtain ⟨a17, ls18, rfl, h18⟩ := gI_ok h17; obtain ⟨a18, ls19, rfl, h19⟩ := gI_ok h18; obtain ⟨a19, ls20, rfl, h20⟩ := gI_ok h19; obtain ⟨a20, ls21, rfl, h21⟩ := gI_ok h20; obtain ⟨a21, ls22, rfl, h22⟩ := gI_ok h21; obtain ⟨rfl, h23⟩ := gE_ok h22
  obtain ⟨y, k1, k2⟩ := Option.bind_eq_some_iff.1 h23
  exact ⟨_, k2, sp5 a0 a1 a2 a3 a4 a5 a6 a7 a8 a9 a10 a11 a12 a13 a14 a15 a16 a17 a18 a19 a20 a21 k1⟩

end Go.Proofs.Ytomgapihddmafaa
