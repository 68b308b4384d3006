/-
  The functions of this program, evaluated; each is as it is evaluated.
-/
import Derived.Test.YtomgapihddmafaaDoorEvR
import Derived.Test.YtomgapihddmafaaDoorEvY
import Derived.Test.YtomgapihddmafaaDoorVsT
import Derived.KernelRfl
namespace Go.Proofs.YtomgapihddmafaaDoor
open Go Go.RowKit
set_option maxRecDepth 100000

theorem mixed : Tryd.prog.follows .mixedOrders = true := by kernel_rfl


/-! ### garland/garlandref15.Great -/
def pa8 : List VP := [.agg [.i .i64, .sl false [.int .i64], .sl false [.int .i64], .i .i64, .i .i64, .i .i64, .i .i64, .i .i64, .i .i64, .i .i64, .i .i64, .i .i64, .i .i64, .i .i64, .i .i64, .i .i64, .i .i64, .i .i64, .i .i64, .i .i64]]
def sr8 : RShape := ⟨.b, [], none⟩
def toB8 : List Leaf → Option (Bool) := gB (fun b0 => gE (some b0))
def ofB8 (y : Bool) : List Leaf := [.b y]
theorem toB8_ok : ∀ ls b, toB8 ls = some b → ls = ofB8 b := by
  intro ls b h
  unfold toB8 at h
  obtain ⟨b0, ls1, rfl, h1⟩ := gB_ok h; obtain ⟨rfl, h2⟩ := gE_ok h1
  cases h2; rfl
def run8 {R : Type} : SF R := ⟨pa8, sr8, fun ls K => (gI (fun a0 => gL [.int .i64] (fun a1 => gL [.int .i64] (fun a2 => gI (fun a3 => gI (fun a4 => gI (fun a5 => gI (fun a6 => gI (fun a7 => gI (fun a8 => gI (fun a9 => gI (fun a10 => gI (fun a11 => gI (fun a12 => gI (fun a13 => gI (fun a14 => gI (fun a15 => gI (fun a16 => gI (fun a17 => gI (fun a18 => gI (fun a19 => gE (Option.bind (F8 FUEL a0 a1 a2 a3 a4 a5 a6 a7 a8 a9 a10 a11 a12 a13 a14 a15 a16 a17 a18 a19) fun y => K (ofB8 y))))))))))))))))))))))) ls⟩
def cuts8 : List (List Nat × Cut (Bool)) := []
noncomputable def X8 : Px (Bool) := ⟨T, Tryd.prog, lkF [], mkCuts 8 cuts8, altN, altN_ok⟩
theorem e8 (n : Nat) (a0 : Int) (a1 : List (Int)) (a2 : List (Int)) (a3 : Int) (a4 : Int) (a5 : Int) (a6 : Int) (a7 : Int) (a8 : Int) (a9 : Int) (a10 : Int) (a11 : Int) (a12 : Int) (a13 : Int) (a14 : Int) (a15 : Int) (a16 : Int) (a17 : Int) (a18 : Int) (a19 : Int) : entF X8 8 8 pa8 (endK sr8 toB8) n [.i a0, .l [.int .i64] a1, .l [.int .i64] a2, .i a3, .i a4, .i a5, .i a6, .i a7, .i a8, .i a9, .i a10, .i a11, .i a12, .i a13, .i a14, .i a15, .i a16, .i a17, .i a18, .i a19] = F8 n a0 a1 a2 a3 a4 a5 a6 a7 a8 a9 a10 a11 a12 a13 a14 a15 a16 a17 a18 a19 := by kernel_rfl
theorem sp8 {n : Nat} (a0 : Int) (a1 : List (Int)) (a2 : List (Int)) (a3 : Int) (a4 : Int) (a5 : Int) (a6 : Int) (a7 : Int) (a8 : Int) (a9 : Int) (a10 : Int) (a11 : Int) (a12 : Int) (a13 : Int) (a14 : Int) (a15 : Int) (a16 : Int) (a17 : Int) (a18 : Int) (a19 : Int) {y : Bool} (h : F8 n a0 a1 a2 a3 a4 a5 a6 a7 a8 a9 a10 a11 a12 a13 a14 a15 a16 a17 a18 a19 = some y) : SpecF T Tryd.prog 8 pa8 [.i a0, .l [.int .i64] a1, .l [.int .i64] a2, .i a3, .i a4, .i a5, .i a6, .i a7, .i a8, .i a9, .i a10, .i a11, .i a12, .i a13, .i a14, .i a15, .i a16, .i a17, .i a18, .i a19] sr8 (ofB8 y) :=
  fun_ok (X := X8) tok (sfok_of trivial) mixed 8 8 cuts8 rfl toB8_ok trivial ((e8 n a0 a1 a2 a3 a4 a5 a6 a7 a8 a9 a10 a11 a12 a13 a14 a15 a16 a17 a18 a19).trans h)
theorem ok8 {R : Type} : SFone T Tryd.prog 8 (run8 : SF R) := by
  intro ls K r h
  simp only [run8] at h
  obtain ⟨a0, ls1, rfl, h1⟩ := gI_ok h; obtain ⟨a1, ls2, rfl, h2⟩ := gL_ok h1; obtain ⟨a2, ls3, rfl, h3⟩ := gL_ok h2; obtain ⟨a3, ls4, rfl, h4⟩ := gI_ok h3; obtain ⟨a4, ls5, rfl, h5⟩ := gI_ok h4; obtain ⟨a5, ls6, rfl, h6⟩ := gI_ok h5; obtain ⟨a6, ls7, rfl, h7⟩ := gI_ok h6; obtain ⟨a7, ls8, rfl, h8⟩ := gI_ok h7; obtain ⟨a8, ls9, rfl, h9⟩ := gI_ok h8; obtain ⟨a9, ls10, rfl, h10⟩ := gI_ok h9; obtain ⟨a10, ls11, rfl, h11⟩ := gI_ok h10; obtain ⟨a11, ls12, rfl, h12⟩ := gI_ok h11; obtain ⟨a12, ls13, rfl, h13⟩ := gI_ok h12; obtain ⟨a13, ls14, rfl, h14⟩ := gI_ok h13; obtain ⟨a14, ls15, rfl, h15⟩ := gI_ok h14; obtain ⟨a15, ls16, rfl, h16⟩ := gI_ok h15; obtain ⟨a16, ls17, rfl, h17⟩ := gI_ok h16; obtain ⟨a17, ls18, rfl, h18⟩ := gI_ok h17; obtain ⟨a18, ls19, rfl, h19⟩ := gI_ok h18; obtain ⟨a19, ls20, rfl, h20⟩ := gI_ok h19; obtain ⟨rfl, h21⟩ := gE_ok h20
  obtain ⟨y, k1, k2⟩ := Option.bind_eq_some_iff.1 h21
  exact ⟨_, k2, sp8 a0 a1 a2 a3 a4 a5 a6 a7 a8 a9 a10 a11 a12 a13 a14 a15 a16 a17 a18 a19 k1⟩

/-! ### garland/garlandref13.place -/
def pa41 : List VP := [.i .i64]
def sr41 : RShape := ⟨.b, [], none⟩
def toB41 : List Leaf → Option (Bool) := gB (fun b0 => gE (some b0))
def ofB41 (y : Bool) : List Leaf := [.b y]
theorem toB41_ok : ∀ ls b, toB41 ls = some b → ls = ofB41 b := by
  intro ls b h
  unfold toB41 at h
  obtain ⟨b0, ls1, rfl, h1⟩ := gB_ok h; obtain ⟨rfl, h2⟩ := gE_ok h1
  cases h2; rfl
def run41 {R : Type} : SF R := ⟨pa41, sr41, fun ls K => (gI (fun a0 => gE (Option.bind (F41 FUEL a0) fun y => K (ofB41 y)))) ls⟩
def cuts41 : List (List Nat × Cut (Bool)) := []
noncomputable def X41 : Px (Bool) := ⟨T, Tryd.prog, lkF [], mkCuts 41 cuts41, altN, altN_ok⟩
theorem e41 (n : Nat) (a0 : Int) : entF X41 8 41 pa41 (endK sr41 toB41) n [.i a0] = F41 n a0 := by kernel_rfl
theorem sp41 {n : Nat} (a0 : Int) {y : Bool} (h : F41 n a0 = some y) : SpecF T Tryd.prog 41 pa41 [.i a0] sr41 (ofB41 y) :=
  fun_ok (X := X41) tok (sfok_of trivial) mixed 41 8 cuts41 rfl toB41_ok trivial ((e41 n a0).trans h)
theorem ok41 {R : Type} : SFone T Tryd.prog 41 (run41 : SF R) := by
  intro ls K r h
  simp only [run41] at h
  obtain ⟨a0, ls1, rfl, h1⟩ := gI_ok h; obtain ⟨rfl, h2⟩ := gE_ok h1
  obtain ⟨y, k1, k2⟩ := Option.bind_eq_some_iff.1 h2
  exact ⟨_, k2, sp41 a0 k1⟩

/-! ### garland/garlandref12.place -/
def pa58 : List VP := [.i .i64]
def sr58 : RShape := ⟨.b, [], none⟩
def toB58 : List Leaf → Option (Bool) := gB (fun b0 => gE (some b0))
def ofB58 (y : Bool) : List Leaf := [.b y]
theorem toB58_ok : ∀ ls b, toB58 ls = some b → ls = ofB58 b := by
  intro ls b h
  unfold toB58 at h
  obtain ⟨b0, ls1, rfl, h1⟩ := gB_ok h; obtain ⟨rfl, h2⟩ := gE_ok h1
  cases h2; rfl
def run58 {R : Type} : SF R := ⟨pa58, sr58, fun ls K => (gI (fun a0 => gE (Option.bind (F58 FUEL a0) fun y => K (ofB58 y)))) ls⟩
def cuts58 : List (List Nat × Cut (Bool)) := []
noncomputable def X58 : Px (Bool) := ⟨T, Tryd.prog, lkF [], mkCuts 58 cuts58, altN, altN_ok⟩
theorem e58 (n : Nat) (a0 : Int) : entF X58 8 58 pa58 (endK sr58 toB58) n [.i a0] = F58 n a0 := by kernel_rfl
theorem sp58 {n : Nat} (a0 : Int) {y : Bool} (h : F58 n a0 = some y) : SpecF T Tryd.prog 58 pa58 [.i a0] sr58 (ofB58 y) :=
  fun_ok (X := X58) tok (sfok_of trivial) mixed 58 8 cuts58 rfl toB58_ok trivial ((e58 n a0).trans h)
theorem ok58 {R : Type} : SFone T Tryd.prog 58 (run58 : SF R) := by
  intro ls K r h
  simp only [run58] at h
  obtain ⟨a0, ls1, rfl, h1⟩ := gI_ok h; obtain ⟨rfl, h2⟩ := gE_ok h1
  obtain ⟨y, k1, k2⟩ := Option.bind_eq_some_iff.1 h2
  exact ⟨_, k2, sp58 a0 k1⟩

/-! ### garland/garlandref03.Place -/
def pa44 : List VP := [.i .i64]
def sr44 : RShape := ⟨.i .i64, [], none⟩
def toB44 : List Leaf → Option (Int) := gI (fun b0 => gE (some b0))
def ofB44 (y : Int) : List Leaf := [.i y]
theorem toB44_ok : ∀ ls b, toB44 ls = some b → ls = ofB44 b := by
  intro ls b h
  unfold toB44 at h
  obtain ⟨b0, ls1, rfl, h1⟩ := gI_ok h; obtain ⟨rfl, h2⟩ := gE_ok h1
  cases h2; rfl
def run44 {R : Type} : SF R := ⟨pa44, sr44, fun ls K => (gI (fun a0 => gE (Option.bind (F44 FUEL a0) fun y => K (ofB44 y)))) ls⟩
def cuts44 : List (List Nat × Cut (Int)) := []
noncomputable def X44 : Px (Int) := ⟨T, Tryd.prog, lkF [], mkCuts 44 cuts44, altN, altN_ok⟩
theorem e44 (n : Nat) (a0 : Int) : entF X44 8 44 pa44 (endK sr44 toB44) n [.i a0] = F44 n a0 := by kernel_rfl
theorem sp44 {n : Nat} (a0 : Int) {y : Int} (h : F44 n a0 = some y) : SpecF T Tryd.prog 44 pa44 [.i a0] sr44 (ofB44 y) :=
  fun_ok (X := X44) tok (sfok_of trivial) mixed 44 8 cuts44 rfl toB44_ok trivial ((e44 n a0).trans h)
theorem ok44 {R : Type} : SFone T Tryd.prog 44 (run44 : SF R) := by
  intro ls K r h
  simp only [run44] at h
  obtain ⟨a0, ls1, rfl, h1⟩ := gI_ok h; obtain ⟨rfl, h2⟩ := gE_ok h1
  obtain ⟨y, k1, k2⟩ := Option.bind_eq_some_iff.1 h2
  exact ⟨_, k2, sp44 a0 k1⟩

/-! ### garland/garlandref03.Far -/
def pa26 : List VP := [.i .i64, .i .i64]
def sr26 : RShape := ⟨.i .i64, [], none⟩
def toB26 : List Leaf → Option (Int) := gI (fun b0 => gE (some b0))
def ofB26 (y : Int) : List Leaf := [.i y]
theorem toB26_ok : ∀ ls b, toB26 ls = some b → ls = ofB26 b := by
  intro ls b h
  unfold toB26 at h
  obtain ⟨b0, ls1, rfl, h1⟩ := gI_ok h; obtain ⟨rfl, h2⟩ := gE_ok h1
  cases h2; rfl
def run26 {R : Type} : SF R := ⟨pa26, sr26, fun ls K => (gI (fun a0 => gI (fun a1 => gE (Option.bind (F26 FUEL a0 a1) fun y => K (ofB26 y))))) ls⟩
def cuts26 : List (List Nat × Cut (Int)) := []
noncomputable def X26 : Px (Int) := ⟨T, Tryd.prog, lkF [(44, run44)], mkCuts 26 cuts26, altN, altN_ok⟩
theorem e26 (n : Nat) (a0 : Int) (a1 : Int) : entF X26 8 26 pa26 (endK sr26 toB26) n [.i a0, .i a1] = F26 n a0 a1 := by kernel_rfl
theorem sp26 {n : Nat} (a0 : Int) (a1 : Int) {y : Int} (h : F26 n a0 a1 = some y) : SpecF T Tryd.prog 26 pa26 [.i a0, .i a1] sr26 (ofB26 y) :=
  fun_ok (X := X26) tok (sfok_of ⟨ok44, trivial⟩) mixed 26 8 cuts26 rfl toB26_ok trivial ((e26 n a0 a1).trans h)
theorem ok26 {R : Type} : SFone T Tryd.prog 26 (run26 : SF R) := by
  intro ls K r h
  simp only [run26] at h
  obtain ⟨a0, ls1, rfl, h1⟩ := gI_ok h; obtain ⟨a1, ls2, rfl, h2⟩ := gI_ok h1; obtain ⟨rfl, h3⟩ := gE_ok h2
  obtain ⟨y, k1, k2⟩ := Option.bind_eq_some_iff.1 h3
  exact ⟨_, k2, sp26 a0 a1 k1⟩

/-! ### garland/garlandref12.farther -/
def pa59 : List VP := [.i .i64, .i .i64, .i .i64]
def sr59 : RShape := ⟨.b, [], none⟩
def toB59 : List Leaf → Option (Bool) := gB (fun b0 => gE (some b0))
def ofB59 (y : Bool) : List Leaf := [.b y]
theorem toB59_ok : ∀ ls b, toB59 ls = some b → ls = ofB59 b := by
  intro ls b h
  unfold toB59 at h
  obtain ⟨b0, ls1, rfl, h1⟩ := gB_ok h; obtain ⟨rfl, h2⟩ := gE_ok h1
  cases h2; rfl
def run59 {R : Type} : SF R := ⟨pa59, sr59, fun ls K => (gI (fun a0 => gI (fun a1 => gI (fun a2 => gE (Option.bind (F59 FUEL a0 a1 a2) fun y => K (ofB59 y)))))) ls⟩
def cuts59 : List (List Nat × Cut (Bool)) := []
noncomputable def X59 : Px (Bool) := ⟨T, Tryd.prog, lkF [(26, run26)], mkCuts 59 cuts59, altN, altN_ok⟩
theorem e59 (n : Nat) (a0 : Int) (a1 : Int) (a2 : Int) : entF X59 8 59 pa59 (endK sr59 toB59) n [.i a0, .i a1, .i a2] = F59 n a0 a1 a2 := by kernel_rfl
theorem sp59 {n : Nat} (a0 : Int) (a1 : Int) (a2 : Int) {y : Bool} (h : F59 n a0 a1 a2 = some y) : SpecF T Tryd.prog 59 pa59 [.i a0, .i a1, .i a2] sr59 (ofB59 y) :=
  fun_ok (X := X59) tok (sfok_of ⟨ok26, trivial⟩) mixed 59 8 cuts59 rfl toB59_ok trivial ((e59 n a0 a1 a2).trans h)
theorem ok59 {R : Type} : SFone T Tryd.prog 59 (run59 : SF R) := by
  intro ls K r h
  simp only [run59] at h
  obtain ⟨a0, ls1, rfl, h1⟩ := gI_ok h; obtain ⟨a1, ls2, rfl, h2⟩ := gI_ok h1; obtain ⟨a2, ls3, rfl, h3⟩ := gI_ok h2; obtain ⟨rfl, h4⟩ := gE_ok h3
  obtain ⟨y, k1, k2⟩ := Option.bind_eq_some_iff.1 h4
  exact ⟨_, k2, sp59 a0 a1 a2 k1⟩

/-! ### garland/garlandref12.Right -/
def pa42 : List VP := [.i .i64, .sl false [.int .i64]]
def sr42 : RShape := ⟨.b, [], none⟩
def toB42 : List Leaf → Option (Bool) := gB (fun b0 => gE (some b0))
def ofB42 (y : Bool) : List Leaf := [.b y]
theorem toB42_ok : ∀ ls b, toB42 ls = some b → ls = ofB42 b := by
  intro ls b h
  unfold toB42 at h
  obtain ⟨b0, ls1, rfl, h1⟩ := gB_ok h; obtain ⟨rfl, h2⟩ := gE_ok h1
  cases h2; rfl
def run42 {R : Type} : SF R := ⟨pa42, sr42, fun ls K => (gI (fun a0 => gL [.int .i64] (fun a1 => gE (Option.bind (F42 FUEL a0 a1) fun y => K (ofB42 y))))) ls⟩
def sh42_0 : Shape := ⟨[(48, [(0, .i .i64), (1, .sl false [.int .i64]), (5, .i .i64)])], []⟩
def g42_0 (n : Nat) : List Leaf → Option (Bool) := gI (fun x0 => gL [.int .i64] (fun x1 => gI (fun x2 => gE (F42_c0 n x0 x1 x2))))
def cuts42 : List (List Nat × Cut (Bool)) := [([1, 0, 1, 0], ⟨sh42_0, g42_0⟩)]
noncomputable def X42 : Px (Bool) := ⟨T, Tryd.prog, lkF [(58, run58), (44, run44), (59, run59)], mkCuts 42 cuts42, altN, altN_ok⟩
theorem e42_0 (n : Nat) (x0 : Int) (x1 : List (Int)) (x2 : Int) : stepF X42 8 42 (endK sr42 toB42) [1, 0, 1, 0] sh42_0 n [.i x0, .l [.int .i64] x1, .i x2] = F42_c0 (n + 1) x0 x1 x2 := by kernel_rfl
theorem e42 (n : Nat) (a0 : Int) (a1 : List (Int)) : entF X42 8 42 pa42 (endK sr42 toB42) n [.i a0, .l [.int .i64] a1] = F42 n a0 a1 := by kernel_rfl
theorem c42_0 : CutOK X42 8 42 (endK sr42 toB42) [1, 0, 1, 0] ⟨sh42_0, g42_0⟩ := by
  refine ⟨fun ls => ?_, fun n ls r h => ?_⟩
  · cases h : g42_0 0 ls with
    | none => exact h
    | some r =>
      unfold g42_0 at h; obtain ⟨x0, ls1, rfl, h1⟩ := gI_ok h; obtain ⟨x1, ls2, rfl, h2⟩ := gL_ok h1; obtain ⟨x2, ls3, rfl, h3⟩ := gI_ok h2; obtain ⟨rfl, h4⟩ := gE_ok h3; simp only [F42_c0] at h4; cases h4
  · replace h : g42_0 (n + 1) ls = some r := h
    unfold g42_0 at h
    obtain ⟨x0, ls1, rfl, h1⟩ := gI_ok h; obtain ⟨x1, ls2, rfl, h2⟩ := gL_ok h1; obtain ⟨x2, ls3, rfl, h3⟩ := gI_ok h2; obtain ⟨rfl, h4⟩ := gE_ok h3
    exact (e42_0 n x0 x1 x2).trans h4
theorem sp42 {n : Nat} (a0 : Int) (a1 : List (Int)) {y : Bool} (h : F42 n a0 a1 = some y) : SpecF T Tryd.prog 42 pa42 [.i a0, .l [.int .i64] a1] sr42 (ofB42 y) :=
  fun_ok (X := X42) tok (sfok_of ⟨ok58, ok44, ok59, trivial⟩) mixed 42 8 cuts42 rfl toB42_ok ⟨c42_0, trivial⟩ ((e42 n a0 a1).trans h)
theorem ok42 {R : Type} : SFone T Tryd.prog 42 (run42 : SF R) := by
  intro ls K r h
  simp only [run42] at h
  obtain ⟨a0, ls1, rfl, h1⟩ := gI_ok h; obtain ⟨a1, ls2, rfl, h2⟩ := gL_ok h1; obtain ⟨rfl, h3⟩ := gE_ok h2
  obtain ⟨y, k1, k2⟩ := Option.bind_eq_some_iff.1 h3
  exact ⟨_, k2, sp42 a0 a1 k1⟩

/-! ### garland/garlandref13.other -/
def pa43 : List VP := [.agg [.i .i64, .sl false [.int .i64], .sl false [.int .i64], .i .i64, .i .i64, .i .i64, .i .i64, .i .i64, .i .i64, .i .i64, .i .i64, .i .i64, .i .i64, .i .i64, .i .i64, .i .i64, .i .i64, .i .i64, .i .i64, .i .i64], .i .i64]
def sr43 : RShape := ⟨.b, [], none⟩
def toB43 : List Leaf → Option (Bool) := gB (fun b0 => gE (some b0))
def ofB43 (y : Bool) : List Leaf := [.b y]
theorem toB43_ok : ∀ ls b, toB43 ls = some b → ls = ofB43 b := by
  intro ls b h
  unfold toB43 at h
  obtain ⟨b0, ls1, rfl, h1⟩ := gB_ok h; obtain ⟨rfl, h2⟩ := gE_ok h1
  cases h2; rfl
def run43 {R : Type} : SF R := ⟨pa43, sr43, fun ls K => (gI (fun a0 => gL [.int .i64] (fun a1 => gL [.int .i64] (fun a2 => gI (fun a3 => gI (fun a4 => gI (fun a5 => gI (fun a6 => gI (fun a7 => gI (fun a8 => gI (fun a9 => gI (fun a10 => gI (fun a11 => gI (fun a12 => gI (fun a13 => gI (fun a14 => gI (fun a15 => gI (fun a16 => gI (fun a17 => gI (fun a18 => gI (fun a19 => gI (fun a20 => gE (Option.bind (F43 FUEL a0 a1 a2 a3 a4 a5 a6 a7 a8 a9 a10 a11 a12 a13 a14 a15 a16 a17 a18 a19 a20) fun y => K (ofB43 y)))))))))))))))))))))))) ls⟩
def cuts43 : List (List Nat × Cut (Bool)) := []
noncomputable def X43 : Px (Bool) := ⟨T, Tryd.prog, lkF [(41, run41)], mkCuts 43 cuts43, altN, altN_ok⟩
theorem e43 (n : Nat) (a0 : Int) (a1 : List (Int)) (a2 : List (Int)) (a3 : Int) (a4 : Int) (a5 : Int) (a6 : Int) (a7 : Int) (a8 : Int) (a9 : Int) (a10 : Int) (a11 : Int) (a12 : Int) (a13 : Int) (a14 : Int) (a15 : Int) (a16 : Int) (a17 : Int) (a18 : Int) (a19 : Int) (a20 : Int) : entF X43 8 43 pa43 (endK sr43 toB43) n [.i a0, .l [.int .i64] a1, .l [.int .i64] a2, .i a3, .i a4, .i a5, .i a6, .i a7, .i a8, .i a9, .i a10, .i a11, .i a12, .i a13, .i a14, .i a15, .i a16, .i a17, .i a18, .i a19, .i a20] = F43 n a0 a1 a2 a3 a4 a5 a6 a7 a8 a9 a10 a11 a12 a13 a14 a15 a16 a17 a18 a19 a20 := by kernel_rfl
theorem sp43 {n : Nat} (a0 : Int) (a1 : List (Int)) (a2 : List (Int)) (a3 : Int) (a4 : Int) (a5 : Int) (a6 : Int) (a7 : Int) (a8 : Int) (a9 : Int) (a10 : Int) (a11 : Int) (a12 : Int) (a13 : Int) (a14 : Int) (a15 : Int) (a16 : Int) (a17 : Int) (a18 : Int) (a19 : Int) (a20 : Int) {y : Bool} (h : F43 n a0 a1 a2 a3 a4 a5 a6 a7 a8 a9 a10 a11 a12 a13 a14 a15 a16 a17 a18 a19 a20 = some y) : SpecF T Tryd.prog 43 pa43 [.i a0, .l [.int .i64] a1, .l [.int .i64] a2, .i a3, .i a4, .i a5, .i a6, .i a7, .i a8, .i a9, .i a10, .i a11, .i a12, .i a13, .i a14, .i a15, .i a16, .i a17, .i a18, .i a19, .i a20] sr43 (ofB43 y) :=
  fun_ok (X := X43) tok (sfok_of ⟨ok41, trivial⟩) mixed 43 8 cuts43 rfl toB43_ok trivial ((e43 n a0 a1 a2 a3 a4 a5 a6 a7 a8 a9 a10 a11 a12 a13 a14 a15 a16 a17 a18 a19 a20).trans h)
theorem ok43 {R : Type} : SFone T Tryd.prog 43 (run43 : SF R) := by
  intro ls K r h
  simp only [run43] at h
  obtain ⟨a0, ls1, rfl, h1⟩ := gI_ok h; obtain ⟨a1, ls2, rfl, h2⟩ := gL_ok h1; obtain ⟨a2, ls3, rfl, h3⟩ := gL_ok h2; obtain ⟨a3, ls4, rfl, h4⟩ := gI_ok h3; obtain ⟨a4, ls5, rfl, h5⟩ := gI_ok h4; obtain ⟨a5, ls6, rfl, h6⟩ := gI_ok h5; obtain ⟨a6, ls7, rfl, h7⟩ := gI_ok h6; obtain ⟨a7, ls8, rfl, h8⟩ := gI_ok h7; obtain ⟨a8, ls9, rfl, h9⟩ := gI_ok h8; obtain ⟨a9, ls10, rfl, h10⟩ := gI_ok h9; obtain ⟨a10, ls11, rfl, h11⟩ := gI_ok h10; obtain ⟨a11, ls12, rfl, h12⟩ := gI_ok h11; obtain ⟨a12, ls13, rfl, h13⟩ := gI_ok h12; obtain ⟨a13, ls14, rfl, h14⟩ := gI_ok h13; obtain ⟨a14, ls15, rfl, h15⟩ := gI_ok h14; obtain ⟨a15, ls16, rfl, h16⟩ := gI_ok h15; obtain ⟨a16, ls17, rfl, h17⟩ := gI_ok h16; obtain ⟨a17, ls18, rfl, h18⟩ := gI_ok h17; obtain ⟨a18, ls19, rfl, h19⟩ := gI_ok h18; obtain ⟨a19, ls20, rfl, h20⟩ := gI_ok h19; obtain ⟨a20, ls21, rfl, h21⟩ := gI_ok h20; obtain ⟨rfl, h22⟩ := gE_ok h21
  obtain ⟨y, k1, k2⟩ := Option.bind_eq_some_iff.1 h22
  exact ⟨_, k2, sp43 a0 a1 a2 a3 a4 a5 a6 a7 a8 a9 a10 a11 a12 a13 a14 a15 a16 a17 a18 a19 a20 k1⟩

/-! ### garland/garlandref13.Right -/
def pa21 : List VP := [.agg [.i .i64, .sl false [.int .i64], .sl false [.int .i64], .i .i64, .i .i64, .i .i64, .i .i64, .i .i64, .i .i64, .i .i64, .i .i64, .i .i64, .i .i64, .i .i64, .i .i64, .i .i64, .i .i64, .i .i64, .i .i64, .i .i64]]
def sr21 : RShape := ⟨.b, [], none⟩
def toB21 : List Leaf → Option (Bool) := gB (fun b0 => gE (some b0))
def ofB21 (y : Bool) : List Leaf := [.b y]
theorem toB21_ok : ∀ ls b, toB21 ls = some b → ls = ofB21 b := by
  intro ls b h
  unfold toB21 at h
  obtain ⟨b0, ls1, rfl, h1⟩ := gB_ok h; obtain ⟨rfl, h2⟩ := gE_ok h1
  cases h2; rfl
def run21 {R : Type} : SF R := ⟨pa21, sr21, fun ls K => (gI (fun a0 => gL [.int .i64] (fun a1 => gL [.int .i64] (fun a2 => gI (fun a3 => gI (fun a4 => gI (fun a5 => gI (fun a6 => gI (fun a7 => gI (fun a8 => gI (fun a9 => gI (fun a10 => gI (fun a11 => gI (fun a12 => gI (fun a13 => gI (fun a14 => gI (fun a15 => gI (fun a16 => gI (fun a17 => gI (fun a18 => gI (fun a19 => gE (Option.bind (F21 FUEL a0 a1 a2 a3 a4 a5 a6 a7 a8 a9 a10 a11 a12 a13 a14 a15 a16 a17 a18 a19) fun y => K (ofB21 y))))))))))))))))))))))) ls⟩
def sh21_0 : Shape := ⟨[(79, [(1, .ref 0 0), (3, .i .i64)])], [.cells [.i .i64, .sl false [.int .i64], .sl false [.int .i64], .i .i64, .i .i64, .i .i64, .i .i64, .i .i64, .i .i64, .i .i64, .i .i64, .i .i64, .i .i64, .i .i64, .i .i64, .i .i64, .i .i64, .i .i64, .i .i64, .i .i64]]⟩
def g21_0 (n : Nat) : List Leaf → Option (Bool) := gI (fun x0 => gI (fun x1 => gL [.int .i64] (fun x2 => gL [.int .i64] (fun x3 => gI (fun x4 => gI (fun x5 => gI (fun x6 => gI (fun x7 => gI (fun x8 => gI (fun x9 => gI (fun x10 => gI (fun x11 => gI (fun x12 => gI (fun x13 => gI (fun x14 => gI (fun x15 => gI (fun x16 => gI (fun x17 => gI (fun x18 => gI (fun x19 => gI (fun x20 => gE (F21_c0 n x0 x1 x2 x3 x4 x5 x6 x7 x8 x9 x10 x11 x12 x13 x14 x15 x16 x17 x18 x19 x20))))))))))))))))))))))
def sh21_1 : Shape := ⟨[(79, [(1, .ref 0 0), (4, .i .i64)])], [.cells [.i .i64, .sl false [.int .i64], .sl false [.int .i64], .i .i64, .i .i64, .i .i64, .i .i64, .i .i64, .i .i64, .i .i64, .i .i64, .i .i64, .i .i64, .i .i64, .i .i64, .i .i64, .i .i64, .i .i64, .i .i64, .i .i64]]⟩
def g21_1 (n : Nat) : List Leaf → Option (Bool) := gI (fun x0 => gI (fun x1 => gL [.int .i64] (fun x2 => gL [.int .i64] (fun x3 => gI (fun x4 => gI (fun x5 => gI (fun x6 => gI (fun x7 => gI (fun x8 => gI (fun x9 => gI (fun x10 => gI (fun x11 => gI (fun x12 => gI (fun x13 => gI (fun x14 => gI (fun x15 => gI (fun x16 => gI (fun x17 => gI (fun x18 => gI (fun x19 => gI (fun x20 => gE (F21_c1 n x0 x1 x2 x3 x4 x5 x6 x7 x8 x9 x10 x11 x12 x13 x14 x15 x16 x17 x18 x19 x20))))))))))))))))))))))
def cuts21 : List (List Nat × Cut (Bool)) := [([1, 1, 0, 1, 0], ⟨sh21_0, g21_0⟩), ([1, 1, 1, 0, 1, 0], ⟨sh21_1, g21_1⟩)]
noncomputable def X21 : Px (Bool) := ⟨T, Tryd.prog, lkF [(41, run41), (42, run42), (43, run43)], mkCuts 21 cuts21, altN, altN_ok⟩
theorem e21_0 (n : Nat) (x0 : Int) (x1 : Int) (x2 : List (Int)) (x3 : List (Int)) (x4 : Int) (x5 : Int) (x6 : Int) (x7 : Int) (x8 : Int) (x9 : Int) (x10 : Int) (x11 : Int) (x12 : Int) (x13 : Int) (x14 : Int) (x15 : Int) (x16 : Int) (x17 : Int) (x18 : Int) (x19 : Int) (x20 : Int) : stepF X21 8 21 (endK sr21 toB21) [1, 1, 0, 1, 0] sh21_0 n [.i x0, .i x1, .l [.int .i64] x2, .l [.int .i64] x3, .i x4, .i x5, .i x6, .i x7, .i x8, .i x9, .i x10, .i x11, .i x12, .i x13, .i x14, .i x15, .i x16, .i x17, .i x18, .i x19, .i x20] = F21_c0 (n + 1) x0 x1 x2 x3 x4 x5 x6 x7 x8 x9 x10 x11 x12 x13 x14 x15 x16 x17 x18 x19 x20 := by kernel_rfl
theorem e21_1 (n : Nat) (x0 : Int) (x1 : Int) (x2 : List (Int)) (x3 : List (Int)) (x4 : Int) (x5 : Int) (x6 : Int) (x7 : Int) (x8 : Int) (x9 : Int) (x10 : Int) (x11 : Int) (x12 : Int) (x13 : Int) (x14 : Int) (x15 : Int) (x16 : Int) (x17 : Int) (x18 : Int) (x19 : Int) (x20 : Int) : stepF X21 8 21 (endK sr21 toB21) [1, 1, 1, 0, 1, 0] sh21_1 n [.i x0, .i x1, .l [.int .i64] x2, .l [.int .i64] x3, .i x4, .i x5, .i x6, .i x7, .i x8, .i x9, .i x10, .i x11, .i x12, .i x13, .i x14, .i x15, .i x16, .i x17, .i x18, .i x19, .i x20] = F21_c1 (n + 1) x0 x1 x2 x3 x4 x5 x6 x7 x8 x9 x10 x11 x12 x13 x14 x15 x16 x17 x18 x19 x20 := by kernel_rfl
theorem e21 (n : Nat) (a0 : Int) (a1 : List (Int)) (a2 : List (Int)) (a3 : Int) (a4 : Int) (a5 : Int) (a6 : Int) (a7 : Int) (a8 : Int) (a9 : Int) (a10 : Int) (a11 : Int) (a12 : Int) (a13 : Int) (a14 : Int) (a15 : Int) (a16 : Int) (a17 : Int) (a18 : Int) (a19 : Int) : entF X21 8 21 pa21 (endK sr21 toB21) n [.i a0, .l [.int .i64] a1, .l [.int .i64] a2, .i a3, .i a4, .i a5, .i a6, .i a7, .i a8, .i a9, .i a10, .i a11, .i a12, .i a13, .i a14, .i a15, .i a16, .i a17, .i a18, .i a19] = F21 n a0 a1 a2 a3 a4 a5 a6 a7 a8 a9 a10 a11 a12 a13 a14 a15 a16 a17 a18 a19 := by kernel_rfl
theorem c21_0 : CutOK X21 8 21 (endK sr21 toB21) [1, 1, 0, 1, 0] ⟨sh21_0, g21_0⟩ := by
  refine ⟨fun ls => ?_, fun n ls r h => ?_⟩
  · cases h : g21_0 0 ls with
    | none => exact h
    | some r =>
      unfold g21_0 at h; obtain ⟨x0, ls1, rfl, h1⟩ := gI_ok h; obtain ⟨x1, ls2, rfl, h2⟩ := gI_ok h1; obtain ⟨x2, ls3, rfl, h3⟩ := gL_ok h2; obtain ⟨x3, ls4, rfl, h4⟩ := gL_ok h3; obtain ⟨x4, ls5, rfl, h5⟩ := gI_ok h4; obtain ⟨x5, ls6, rfl, h6⟩ := gI_ok h5; obtain ⟨x6, ls7, rfl, h7⟩ := gI_ok h6; obtain ⟨x7, ls8, rfl, h8⟩ := gI_ok h7; obtain ⟨x8, ls9, rfl, h9⟩ := gI_ok h8; obtain ⟨x9, ls10, rfl, h10⟩ := gI_ok h9; obtain ⟨x10, ls11, rfl, h11⟩ := gI_ok h10; obtain ⟨x11, ls12, rfl, h12⟩ := gI_ok h11; obtain ⟨x12, ls13, rfl, h13⟩ := gI_ok h12; obtain ⟨x13, ls14, rfl, h14⟩ := gI_ok h13; obtain ⟨x14, ls15, rfl, h15⟩ := gI_ok h14; obtain ⟨x15, ls16, rfl, h16⟩ := gI_ok h15; obtain ⟨x16, ls17, rfl, h17⟩ := gI_ok h16; obtain ⟨x17, ls18, rfl, h18⟩ := gI_ok h17; obtain ⟨x18, ls19, rfl, h19⟩ := gI_ok h18; obtain ⟨x19, ls20, rfl, h20⟩ := gI_ok h19; obtain ⟨x20, ls21, rfl, h21⟩ := gI_ok h20; obtain ⟨rfl, h22⟩ := gE_ok h21; simp only [F21_c0] at h22; cases h22
  · replace h : g21_0 (n + 1) ls = some r := h
    unfold g21_0 at h
    obtain ⟨x0, ls1, rfl, h1⟩ := gI_ok h; obtain ⟨x1, ls2, rfl, h2⟩ := gI_ok h1; obtain ⟨x2, ls3, rfl, h3⟩ := gL_ok h2; obtain ⟨x3, ls4, rfl, h4⟩ := gL_ok h3; obtain ⟨x4, ls5, rfl, h5⟩ := gI_ok h4; obtain ⟨x5, ls6, rfl, h6⟩ := gI_ok h5; obtain ⟨x6, ls7, rfl, h7⟩ := gI_ok h6; obtain ⟨x7, ls8, rfl, h8⟩ := gI_ok h7; obtain ⟨x8, ls9, rfl, h9⟩ := gI_ok h8; obtain ⟨x9, ls10, rfl, h10⟩ := gI_ok h9; obtain ⟨x10, ls11, rfl, h11⟩ := gI_ok h10; obtain ⟨x11, ls12, rfl, h12⟩ := gI_ok h11; obtain ⟨x12, ls13, rfl, h13⟩ := gI_ok h12; obtain ⟨x13, ls14, rfl, h14⟩ := gI_ok h13; obtain ⟨x14, ls15, rfl, h15⟩ := gI_ok h14; obtain ⟨x15, ls16, rfl, h16⟩ := gI_ok h15; obtain ⟨x16, ls17, rfl, h17⟩ := gI_ok h16; obtain ⟨x17, ls18, rfl, h18⟩ := gI_ok h17; obtain ⟨x18, ls19, rfl, h19⟩ := gI_ok h18; obtain ⟨x19, ls20, rfl, h20⟩ := gI_ok h19; obtain ⟨x20, ls21, rfl, h21⟩ := gI_ok h20; obtain ⟨rfl, h22⟩ := gE_ok h21
    exact (e21_0 n x0 x1 x2 x3 x4 x5 x6 x7 x8 x9 x10 x11 x12 x13 x14 x15 x16 x17 x18 x19 x20).trans h22
theorem c21_1 : CutOK X21 8 21 (endK sr21 toB21) [1, 1, 1, 0, 1, 0] ⟨sh21_1, g21_1⟩ := by
  refine ⟨fun ls => ?_, fun n ls r h => ?_⟩
  · cases h : g21_1 0 ls with
    | none => exact h
    | some r =>
      unfold g21_1 at h; obtain ⟨x0, ls1, rfl, h1⟩ := gI_ok h; obtain ⟨x1, ls2, rfl, h2⟩ := gI_ok h1; obtain ⟨x2, ls3, rfl, h3⟩ := gL_ok h2; obtain ⟨x3, ls4, rfl, h4⟩ := gL_ok h3; obtain ⟨x4, ls5, rfl, h5⟩ := gI_ok h4; obtain ⟨x5, ls6, rfl, h6⟩ := gI_ok h5; obtain ⟨x6, ls7, rfl, h7⟩ := gI_ok h6; obtain ⟨x7, ls8, rfl, h8⟩ := gI_ok h7; obtain ⟨x8, ls9, rfl, h9⟩ := gI_ok h8; obtain ⟨x9, ls10, rfl, h10⟩ := gI_ok h9; obtain ⟨x10, ls11, rfl, h11⟩ := gI_ok h10; obtain ⟨x11, ls12, rfl, h12⟩ := gI_ok h11; obtain ⟨x12, ls13, rfl, h13⟩ := gI_ok h12; obtain ⟨x13, ls14, rfl, h14⟩ := gI_ok h13; obtain ⟨x14, ls15, rfl, h15⟩ := gI_ok h14; obtain ⟨x15, ls16, rfl, h16⟩ := gI_ok h15; obtain ⟨x16, ls17, rfl, h17⟩ := gI_ok h16; obtain ⟨x17, ls18, rfl, h18⟩ := gI_ok h17; obtain ⟨x18, ls19, rfl, h19⟩ := gI_ok h18; obtain ⟨x19, ls20, rfl, h20⟩ := gI_ok h19; obtain ⟨x20, ls21, rfl, h21⟩ := gI_ok h20; obtain ⟨rfl, h22⟩ := gE_ok h21; simp only [F21_c1] at h22; cases h22
  · replace h : g21_1 (n + 1) ls = some r := h
    unfold g21_1 at h
    obtain ⟨x0, ls1, rfl, h1⟩ := gI_ok h; obtain ⟨x1, ls2, rfl, h2⟩ := gI_ok h1; obtain ⟨x2, ls3, rfl, h3⟩ := gL_ok h2; obtain ⟨x3, ls4, rfl, h4⟩ := gL_ok h3; obtain ⟨x4, ls5, rfl, h5⟩ := gI_ok h4; obtain ⟨x5, ls6, rfl, h6⟩ := gI_ok h5; obtain ⟨x6, ls7, rfl, h7⟩ := gI_ok h6; obtain ⟨x7, ls8, rfl, h8⟩ := gI_ok h7; obtain ⟨x8, ls9, rfl, h9⟩ := gI_ok h8; obtain ⟨x9, ls10, rfl, h10⟩ := gI_ok h9; obtain ⟨x10, ls11, rfl, h11⟩ := gI_ok h10; obtain ⟨x11, ls12, rfl, h12⟩ := gI_ok h11; obtain ⟨x12, ls13, rfl, h13⟩ := gI_ok h12; obtain ⟨x13, ls14, rfl, h14⟩ := gI_ok h13; obtain ⟨x14, ls15, rfl, h15⟩ := gI_ok h14; obtain ⟨x15, ls16, rfl, h16⟩ := gI_ok h15; obtain ⟨x16, ls17, rfl, h17⟩ := gI_ok h16; obtain ⟨x17, ls18, rfl, h18⟩ := gI_ok h17; obtain ⟨x18, ls19, rfl, h19⟩ := gI_ok h18; obtain ⟨x19, ls20, rfl, h20⟩ := gI_ok h19; obtain ⟨x20, ls21, rfl, h21⟩ := gI_ok h20; obtain ⟨rfl, h22⟩ := gE_ok h21
    exact (e21_1 n x0 x1 x2 x3 x4 x5 x6 x7 x8 x9 x10 x11 x12 x13 x14 x15 x16 x17 x18 x19 x20).trans h22
theorem sp21 {n : Nat} (a0 : Int) (a1 : List (Int)) (a2 : List (Int)) (a3 : Int) (a4 : Int) (a5 : Int) (a6 : Int) (a7 : Int) (a8 : Int) (a9 : Int) (a10 : Int) (a11 : Int) (a12 : Int) (a13 : Int) (a14 : Int) (a15 : Int) (a16 : Int) (a17 : Int) (a18 : Int) (a19 : Int) {y : Bool} (h : F21 n a0 a1 a2 a3 a4 a5 a6 a7 a8 a9 a10 a11 a12 a13 a14 a15 a16 a17 a18 a19 = some y) : SpecF T Tryd.prog 21 pa21 [.i a0, .l [.int .i64] a1, .l [.int .i64] a2, .i a3, .i a4, .i a5, .i a6, .i a7, .i a8, .i a9, .i a10, .i a11, .i a12, .i a13, .i a14, .i a15, .i a16, .i a17, .i a18, .i a19] sr21 (ofB21 y) :=
  fun_ok (X := X21) tok (sfok_of ⟨ok41, ok42, ok43, trivial⟩) mixed 21 8 cuts21 rfl toB21_ok ⟨c21_0, c21_1, trivial⟩ ((e21 n a0 a1 a2 a3 a4 a5 a6 a7 a8 a9 a10 a11 a12 a13 a14 a15 a16 a17 a18 a19).trans h)
theorem ok21 {R : Type} : SFone T Tryd.prog 21 (run21 : SF R) := by
  intro ls K r h
  simp only [run21] at h
  obtain ⟨a0, ls1, rfl, h1⟩ := gI_ok h; obtain ⟨a1, ls2, rfl, h2⟩ := gL_ok h1; obtain ⟨a2, ls3, rfl, h3⟩ := gL_ok h2; obtain ⟨a3, ls4, rfl, h4⟩ := gI_ok h3; obtain ⟨a4, ls5, rfl, h5⟩ := gI_ok h4; obtain ⟨a5, ls6, rfl, h6⟩ := gI_ok h5; obtain ⟨a6, ls7, rfl, h7⟩ := gI_ok h6; obtain ⟨a7, ls8, rfl, h8⟩ := gI_ok h7; obtain ⟨a8, ls9, rfl, h9⟩ := gI_ok h8; obtain ⟨a9, ls10, rfl, h10⟩ := gI_ok h9; obtain ⟨a10, ls11, rfl, h11⟩ := gI_ok h10; obtain ⟨a11, ls12, rfl, h12⟩ := gI_ok h11; obtain ⟨a12, ls13, rfl, h13⟩ := gI_ok h12; obtain ⟨a13, ls14, rfl, h14⟩ := gI_ok h13; obtain ⟨a14, ls15, rfl, h15⟩ := gI_ok h14; obtain ⟨a15, ls16, rfl, h16⟩ := gI_ok h15; obtain ⟨a16, ls17, rfl, h17⟩ := gI_ok h16; obtain ⟨a17, ls18, rfl, h18⟩ := gI_ok h17; obtain ⟨a18, ls19, rfl, h19⟩ := gI_ok h18; obtain ⟨a19, ls20, rfl, h20⟩ := gI_ok h19; obtain ⟨rfl, h21⟩ := gE_ok h20
  obtain ⟨y, k1, k2⟩ := Option.bind_eq_some_iff.1 h21
  exact ⟨_, k2, sp21 a0 a1 a2 a3 a4 a5 a6 a7 a8 a9 a10 a11 a12 a13 a14 a15 a16 a17 a18 a19 k1⟩

/-! ### garland/garlandref13.New -/
def pa27 : List VP := [.i .i64, .sl false [.int .i64]]
def sr27 : RShape := ⟨.tup [.agg [.i .i64, .row 0, .nil, .i .i64, .i .i64, .i .i64, .i .i64, .i .i64, .i .i64, .i .i64, .i .i64, .i .i64, .i .i64, .i .i64, .i .i64, .i .i64, .i .i64, .i .i64, .i .i64, .i .i64], .i .i64], [.row true [.int .i64]], none⟩
def toB27 : List Leaf → Option (Si19l) := gI (fun b0 => gI (fun b1 => gI (fun b2 => gI (fun b3 => gI (fun b4 => gI (fun b5 => gI (fun b6 => gI (fun b7 => gI (fun b8 => gI (fun b9 => gI (fun b10 => gI (fun b11 => gI (fun b12 => gI (fun b13 => gI (fun b14 => gI (fun b15 => gI (fun b16 => gI (fun b17 => gI (fun b18 => gL [.int .i64] (fun b19 => gE (some ⟨b0, b1, b2, b3, b4, b5, b6, b7, b8, b9, b10, b11, b12, b13, b14, b15, b16, b17, b18, b19⟩)))))))))))))))))))))
def ofB27 (y : Si19l) : List Leaf := [.i y.q0, .i y.q1, .i y.q2, .i y.q3, .i y.q4, .i y.q5, .i y.q6, .i y.q7, .i y.q8, .i y.q9, .i y.q10, .i y.q11, .i y.q12, .i y.q13, .i y.q14, .i y.q15, .i y.q16, .i y.q17, .i y.q18, .l [.int .i64] y.q19]
theorem toB27_ok : ∀ ls b, toB27 ls = some b → ls = ofB27 b := by
  intro ls b h
  unfold toB27 at h
  obtain ⟨b0, ls1, rfl, h1⟩ := gI_ok h; obtain ⟨b1, ls2, rfl, h2⟩ := gI_ok h1; obtain ⟨b2, ls3, rfl, h3⟩ := gI_ok h2; obtain ⟨b3, ls4, rfl, h4⟩ := gI_ok h3; obtain ⟨b4, ls5, rfl, h5⟩ := gI_ok h4; obtain ⟨b5, ls6, rfl, h6⟩ := gI_ok h5; obtain ⟨b6, ls7, rfl, h7⟩ := gI_ok h6; obtain ⟨b7, ls8, rfl, h8⟩ := gI_ok h7; obtain ⟨b8, ls9, rfl, h9⟩ := gI_ok h8; obtain ⟨b9, ls10, rfl, h10⟩ := gI_ok h9; obtain ⟨b10, ls11, rfl, h11⟩ := gI_ok h10; obtain ⟨b11, ls12, rfl, h12⟩ := gI_ok h11; obtain ⟨b12, ls13, rfl, h13⟩ := gI_ok h12; obtain ⟨b13, ls14, rfl, h14⟩ := gI_ok h13; obtain ⟨b14, ls15, rfl, h15⟩ := gI_ok h14; obtain ⟨b15, ls16, rfl, h16⟩ := gI_ok h15; obtain ⟨b16, ls17, rfl, h17⟩ := gI_ok h16; obtain ⟨b17, ls18, rfl, h18⟩ := gI_ok h17; obtain ⟨b18, ls19, rfl, h19⟩ := gI_ok h18; obtain ⟨b19, ls20, rfl, h20⟩ := gL_ok h19; obtain ⟨rfl, h21⟩ := gE_ok h20
  cases h21; rfl
def run27 {R : Type} : SF R := ⟨pa27, sr27, fun ls K => (gI (fun a0 => gL [.int .i64] (fun a1 => gE (Option.bind (F27 FUEL a0 a1) fun y => K (ofB27 y))))) ls⟩
def sh27_0 : Shape := ⟨[(25, [(4, .ref 0 0), (6, .ref 1 0), (7, .i .i64)])], [.cells [.i .i64, .nil, .nil, .i .i64, .i .i64, .i .i64, .i .i64, .i .i64, .i .i64, .i .i64, .i .i64, .i .i64, .i .i64, .i .i64, .i .i64, .i .i64, .i .i64, .i .i64, .i .i64, .i .i64], .cells [.i .i64, .row 2, .nil, .i .i64, .i .i64, .i .i64, .i .i64, .i .i64, .i .i64, .i .i64, .i .i64, .i .i64, .i .i64, .i .i64, .i .i64, .i .i64, .i .i64, .i .i64, .i .i64, .i .i64], .row true [.int .i64]]⟩
def g27_0 (n : Nat) : List Leaf → Option (Si19l) := gI (fun x0 => gI (fun x1 => gI (fun x2 => gI (fun x3 => gI (fun x4 => gI (fun x5 => gI (fun x6 => gI (fun x7 => gI (fun x8 => gI (fun x9 => gI (fun x10 => gI (fun x11 => gI (fun x12 => gI (fun x13 => gI (fun x14 => gI (fun x15 => gI (fun x16 => gI (fun x17 => gI (fun x18 => gI (fun x19 => gI (fun x20 => gI (fun x21 => gI (fun x22 => gI (fun x23 => gI (fun x24 => gI (fun x25 => gI (fun x26 => gI (fun x27 => gI (fun x28 => gI (fun x29 => gI (fun x30 => gI (fun x31 => gI (fun x32 => gI (fun x33 => gI (fun x34 => gI (fun x35 => gI (fun x36 => gL [.int .i64] (fun x37 => gE (F27_c0 n x0 x1 x2 x3 x4 x5 x6 x7 x8 x9 x10 x11 x12 x13 x14 x15 x16 x17 x18 x19 x20 x21 x22 x23 x24 x25 x26 x27 x28 x29 x30 x31 x32 x33 x34 x35 x36 x37)))))))))))))))))))))))))))))))))))))))
def cuts27 : List (List Nat × Cut (Si19l)) := [([1, 1, 0, 1, 0], ⟨sh27_0, g27_0⟩)]
noncomputable def X27 : Px (Si19l) := ⟨T, Tryd.prog, lkF [(21, run21)], mkCuts 27 cuts27, altN, altN_ok⟩
theorem e27_0 (n : Nat) (x0 : Int) (x1 : Int) (x2 : Int) (x3 : Int) (x4 : Int) (x5 : Int) (x6 : Int) (x7 : Int) (x8 : Int) (x9 : Int) (x10 : Int) (x11 : Int) (x12 : Int) (x13 : Int) (x14 : Int) (x15 : Int) (x16 : Int) (x17 : Int) (x18 : Int) (x19 : Int) (x20 : Int) (x21 : Int) (x22 : Int) (x23 : Int) (x24 : Int) (x25 : Int) (x26 : Int) (x27 : Int) (x28 : Int) (x29 : Int) (x30 : Int) (x31 : Int) (x32 : Int) (x33 : Int) (x34 : Int) (x35 : Int) (x36 : Int) (x37 : List (Int)) : stepF X27 8 27 (endK sr27 toB27) [1, 1, 0, 1, 0] sh27_0 n [.i x0, .i x1, .i x2, .i x3, .i x4, .i x5, .i x6, .i x7, .i x8, .i x9, .i x10, .i x11, .i x12, .i x13, .i x14, .i x15, .i x16, .i x17, .i x18, .i x19, .i x20, .i x21, .i x22, .i x23, .i x24, .i x25, .i x26, .i x27, .i x28, .i x29, .i x30, .i x31, .i x32, .i x33, .i x34, .i x35, .i x36, .l [.int .i64] x37] = F27_c0 (n + 1) x0 x1 x2 x3 x4 x5 x6 x7 x8 x9 x10 x11 x12 x13 x14 x15 x16 x17 x18 x19 x20 x21 x22 x23 x24 x25 x26 x27 x28 x29 x30 x31 x32 x33 x34 x35 x36 x37 := by kernel_rfl
theorem e27 (n : Nat) (a0 : Int) (a1 : List (Int)) : entF X27 8 27 pa27 (endK sr27 toB27) n [.i a0, .l [.int .i64] a1] = F27 n a0 a1 := by kernel_rfl
theorem c27_0 : CutOK X27 8 27 (endK sr27 toB27) [1, 1, 0, 1, 0] ⟨sh27_0, g27_0⟩ := by
  refine ⟨fun ls => ?_, fun n ls r h => ?_⟩
  · cases h : g27_0 0 ls with
    | none => exact h
    | some r =>
      unfold g27_0 at h; obtain ⟨x0, ls1, rfl, h1⟩ := gI_ok h; obtain ⟨x1, ls2, rfl, h2⟩ := gI_ok h1; obtain ⟨x2, ls3, rfl, h3⟩ := gI_ok h2; obtain ⟨x3, ls4, rfl, h4⟩ := gI_ok h3; obtain ⟨x4, ls5, rfl, h5⟩ := gI_ok h4; obtain ⟨x5, ls6, rfl, h6⟩ := gI_ok h5; obtain ⟨x6, ls7, rfl, h7⟩ := gI_ok h6; obtain ⟨x7, ls8, rfl, h8⟩ := gI_ok h7; obtain ⟨x8, ls9, rfl, h9⟩ := gI_ok h8; obtain ⟨x9, ls10, rfl, h10⟩ := gI_ok h9; obtain ⟨x10, ls11, rfl, h11⟩ := gI_ok h10; obtain ⟨x11, ls12, rfl, h12⟩ := gI_ok h11; obtain ⟨x12, ls13, rfl, h13⟩ := gI_ok h12; obtain ⟨x13, ls14, rfl, h14⟩ := gI_ok h13; obtain ⟨x14, ls15, rfl, h15⟩ := gI_ok h14; obtain ⟨x15, ls16, rfl, h16⟩ := gI_ok h15; obtain ⟨x16, ls17, rfl, h17⟩ := gI_ok h16; obtain ⟨x17, ls18, rfl, h18⟩ := gI_ok h17; obtain ⟨x18, ls19, rfl, h19⟩ := gI_ok h18; obtain ⟨x19, ls20, rfl, h20⟩ := gI_ok h19; obtain ⟨x20, ls21, rfl, h21⟩ := gI_ok h20; obtain ⟨x21, ls22, rfl, h22⟩ := gI_ok h21; obtain ⟨x22, ls23, rfl, h23⟩ := gI_ok h22; obtain ⟨x23, ls24, rfl, h24⟩ := gI_ok h23; obtain ⟨x24, ls25, rfl, h25⟩ := gI_ok h24; obtain ⟨x25, ls26, rfl, h26⟩ := gI_ok h25; obtain ⟨x26, ls27, rfl, h27⟩ := gI_ok h26; obtain ⟨x27, ls28, rfl, h28⟩ := gI_ok h27; obtain ⟨x28, ls29, rfl, h29⟩ := gI_ok h28; obtain ⟨x29, ls30, rfl, h30⟩ := gI_ok h29; obtain ⟨x30, ls31, rfl, h31⟩ := gI_ok h30; obtain ⟨x31, ls32, rfl, h32⟩ := gI_ok h31; obtain ⟨x32, ls33, rfl, h33⟩ := gI_ok h32; obtain ⟨x33, ls34, rfl, h34⟩ := gI_ok h33; obtain ⟨x34, ls35, rfl, h35⟩ := gI_ok h34; obtain ⟨x35, ls36, rfl, h36⟩ := gI_ok h35; obtain ⟨x36, ls37, rfl, h37⟩ := gI_ok h36; obtain ⟨x37, ls38, rfl, h38⟩ := gL_ok h37; obtain ⟨rfl, h39⟩ := gE_ok h38; simp only [F27_c0] at h39; cases h39
  · replace h : g27_0 (n + 1) ls = some r := h
    unfold g27_0 at h
    obtain ⟨x0, ls1, rfl, h1⟩ := gI_ok h; obtain ⟨x1, ls2, rfl, h2⟩ := gI_ok h1; obtain ⟨x2, ls3, rfl, h3⟩ := gI_ok h2; obtain ⟨x3, ls4, rfl, h4⟩ := gI_ok h3; obtain ⟨x4, ls5, rfl, h5⟩ := gI_ok h4; obtain ⟨x5, ls6, rfl, h6⟩ := gI_ok h5; obtain ⟨x6, ls7, rfl, h7⟩ := gI_ok h6; obtain ⟨x7, ls8, rfl, h8⟩ := gI_ok h7; obtain ⟨x8, ls9, rfl, h9⟩ := gI_ok h8; obtain ⟨x9, ls10, rfl, h10⟩ := gI_ok h9; obtain ⟨x10, ls11, rfl, h11⟩ := gI_ok h10; obtain ⟨x11, ls12, rfl, h12⟩ := gI_ok h11; obtain ⟨x12, ls13, rfl, h13⟩ := gI_ok h12; obtain ⟨x13, ls14, rfl, h14⟩ := gI_ok h13; obtain ⟨x14, ls15, rfl, h15⟩ := gI_ok h14; obtain ⟨x15, ls16, rfl, h16⟩ := gI_ok h15; obtain ⟨x16, ls17, rfl, h17⟩ := gI_ok h16; obtain ⟨x17, ls18, rfl, h18⟩ := gI_ok h17; obtain ⟨x18, ls19, rfl, h19⟩ := gI_ok h18; obtain ⟨x19, ls20, rfl, h20⟩ := gI_ok h19; obtain ⟨x20, ls21, rfl, h21⟩ := gI_ok h20; obtain ⟨x21, ls22, rfl, h22⟩ := gI_ok h21; obtain ⟨x22, ls23, rfl, h23⟩ := gI_ok h22; obtain ⟨x23, ls24, rfl, h24⟩ := gI_ok h23; obtain ⟨x24, ls25, rfl, h25⟩ := gI_ok h24; obtain ⟨x25, ls26, rfl, h26⟩ := gI_ok h25; obtain ⟨x26, ls27, rfl, h27⟩ := gI_ok h26; obtain ⟨x27, ls28, rfl, h28⟩ := gI_ok h27; obtain ⟨x28, ls29, rfl, h29⟩ := gI_ok h28; obtain ⟨x29, ls30, rfl, h30⟩ := gI_ok h29; obtain ⟨x30, ls31, rfl, h31⟩ := gI_ok h30; obtain ⟨x31, ls32, rfl, h32⟩ := gI_ok h31; obtain ⟨x32, ls33, rfl, h33⟩ := gI_ok h32; obtain ⟨x33, ls34, rfl, h34⟩ := gI_ok h33; obtain ⟨x34, ls35, rfl, h35⟩ := gI_ok h34; obtain ⟨x35, ls36, rfl, h36⟩ := gI_ok h35; obtain ⟨x36, ls37, rfl, h37⟩ := gI_ok h36; obtain ⟨x37, ls38, rfl, h38⟩ := gL_ok h37; obtain ⟨rfl, h39⟩ := gE_ok h38
    exact (e27_0 n x0 x1 x2 x3 x4 x5 x6 x7 x8 x9 x10 x11 x12 x13 x14 x15 x16 x17 x18 x19 x20 x21 x22 x23 x24 x25 x26 x27 x28 x29 x30 x31 x32 x33 x34 x35 x36 x37).trans h39
theorem sp27 {n : Nat} (a0 : Int) (a1 : List (Int)) {y : Si19l} (h : F27 n a0 a1 = some y) : SpecF T Tryd.prog 27 pa27 [.i a0, .l [.int .i64] a1] sr27 (ofB27 y) :=
  fun_ok (X := X27) tok (sfok_of ⟨ok21, trivial⟩) mixed 27 8 cuts27 rfl toB27_ok ⟨c27_0, trivial⟩ ((e27 n a0 a1).trans h)
theorem ok27 {R : Type} : SFone T Tryd.prog 27 (run27 : SF R) := by
  intro ls K r h
  simp only [run27] at h
  obtain ⟨a0, ls1, rfl, h1⟩ := gI_ok h; obtain ⟨a1, ls2, rfl, h2⟩ := gL_ok h1; obtain ⟨rfl, h3⟩ := gE_ok h2
  obtain ⟨y, k1, k2⟩ := Option.bind_eq_some_iff.1 h3
  exact ⟨_, k2, sp27 a0 a1 k1⟩

/-! ### garland/view.isPlace -/
def pa46 : List VP := [.i .i64]
def sr46 : RShape := ⟨.b, [], none⟩
def toB46 : List Leaf → Option (Bool) := gB (fun b0 => gE (some b0))
def ofB46 (y : Bool) : List Leaf := [.b y]
theorem toB46_ok : ∀ ls b, toB46 ls = some b → ls = ofB46 b := by
  intro ls b h
  unfold toB46 at h
  obtain ⟨b0, ls1, rfl, h1⟩ := gB_ok h; obtain ⟨rfl, h2⟩ := gE_ok h1
  cases h2; rfl
def run46 {R : Type} : SF R := ⟨pa46, sr46, fun ls K => (gI (fun a0 => gE (Option.bind (F46 FUEL a0) fun y => K (ofB46 y)))) ls⟩
def cuts46 : List (List Nat × Cut (Bool)) := []
noncomputable def X46 : Px (Bool) := ⟨T, Tryd.prog, lkF [], mkCuts 46 cuts46, altN, altN_ok⟩
theorem e46 (n : Nat) (a0 : Int) : entF X46 8 46 pa46 (endK sr46 toB46) n [.i a0] = F46 n a0 := by kernel_rfl
theorem sp46 {n : Nat} (a0 : Int) {y : Bool} (h : F46 n a0 = some y) : SpecF T Tryd.prog 46 pa46 [.i a0] sr46 (ofB46 y) :=
  fun_ok (X := X46) tok (sfok_of trivial) mixed 46 8 cuts46 rfl toB46_ok trivial ((e46 n a0).trans h)
theorem ok46 {R : Type} : SFone T Tryd.prog 46 (run46 : SF R) := by
  intro ls K r h
  simp only [run46] at h
  obtain ⟨a0, ls1, rfl, h1⟩ := gI_ok h; obtain ⟨rfl, h2⟩ := gE_ok h1
  obtain ⟨y, k1, k2⟩ := Option.bind_eq_some_iff.1 h2
  exact ⟨_, k2, sp46 a0 k1⟩

/-! ### garland/view.rightBase -/
def pa47 : List VP := [.sl false [.int .i64]]
def sr47 : RShape := ⟨.b, [], none⟩
def toB47 : List Leaf → Option (Bool) := gB (fun b0 => gE (some b0))
def ofB47 (y : Bool) : List Leaf := [.b y]
theorem toB47_ok : ∀ ls b, toB47 ls = some b → ls = ofB47 b := by
  intro ls b h
  unfold toB47 at h
  obtain ⟨b0, ls1, rfl, h1⟩ := gB_ok h; obtain ⟨rfl, h2⟩ := gE_ok h1
  cases h2; rfl
def run47 {R : Type} : SF R := ⟨pa47, sr47, fun ls K => (gL [.int .i64] (fun a0 => gE (Option.bind (F47 FUEL a0) fun y => K (ofB47 y)))) ls⟩
def sh47_0 : Shape := ⟨[(37, [(0, .sl false [.int .i64]), (13, .sl false [.int .i64]), (14, .i .i64), (15, .i .i64)])], []⟩
def g47_0 (n : Nat) : List Leaf → Option (Bool) := gL [.int .i64] (fun x0 => gL [.int .i64] (fun x1 => gI (fun x2 => gI (fun x3 => gE (F47_c0 n x0 x1 x2 x3)))))
def cuts47 : List (List Nat × Cut (Bool)) := [([1, 1, 0, 1, 0], ⟨sh47_0, g47_0⟩)]
noncomputable def X47 : Px (Bool) := ⟨T, Tryd.prog, lkF [(46, run46)], mkCuts 47 cuts47, altN, altN_ok⟩
theorem e47_0 (n : Nat) (x0 : List (Int)) (x1 : List (Int)) (x2 : Int) (x3 : Int) : stepF X47 8 47 (endK sr47 toB47) [1, 1, 0, 1, 0] sh47_0 n [.l [.int .i64] x0, .l [.int .i64] x1, .i x2, .i x3] = F47_c0 (n + 1) x0 x1 x2 x3 := by kernel_rfl
theorem e47 (n : Nat) (a0 : List (Int)) : entF X47 8 47 pa47 (endK sr47 toB47) n [.l [.int .i64] a0] = F47 n a0 := by kernel_rfl
theorem c47_0 : CutOK X47 8 47 (endK sr47 toB47) [1, 1, 0, 1, 0] ⟨sh47_0, g47_0⟩ := by
  refine ⟨fun ls => ?_, fun n ls r h => ?_⟩
  · cases h : g47_0 0 ls with
    | none => exact h
    | some r =>
      unfold g47_0 at h; obtain ⟨x0, ls1, rfl, h1⟩ := gL_ok h; obtain ⟨x1, ls2, rfl, h2⟩ := gL_ok h1; obtain ⟨x2, ls3, rfl, h3⟩ := gI_ok h2; obtain ⟨x3, ls4, rfl, h4⟩ := gI_ok h3; obtain ⟨rfl, h5⟩ := gE_ok h4; simp only [F47_c0] at h5; cases h5
  · replace h : g47_0 (n + 1) ls = some r := h
    unfold g47_0 at h
    obtain ⟨x0, ls1, rfl, h1⟩ := gL_ok h; obtain ⟨x1, ls2, rfl, h2⟩ := gL_ok h1; obtain ⟨x2, ls3, rfl, h3⟩ := gI_ok h2; obtain ⟨x3, ls4, rfl, h4⟩ := gI_ok h3; obtain ⟨rfl, h5⟩ := gE_ok h4
    exact (e47_0 n x0 x1 x2 x3).trans h5
theorem sp47 {n : Nat} (a0 : List (Int)) {y : Bool} (h : F47 n a0 = some y) : SpecF T Tryd.prog 47 pa47 [.l [.int .i64] a0] sr47 (ofB47 y) :=
  fun_ok (X := X47) tok (sfok_of ⟨ok46, trivial⟩) mixed 47 8 cuts47 rfl toB47_ok ⟨c47_0, trivial⟩ ((e47 n a0).trans h)
theorem ok47 {R : Type} : SFone T Tryd.prog 47 (run47 : SF R) := by
  intro ls K r h
  simp only [run47] at h
  obtain ⟨a0, ls1, rfl, h1⟩ := gL_ok h; obtain ⟨rfl, h2⟩ := gE_ok h1
  obtain ⟨y, k1, k2⟩ := Option.bind_eq_some_iff.1 h2
  exact ⟨_, k2, sp47 a0 k1⟩

/-! ### garland/arc.Place -/
def pa50 : List VP := [.i .i64]
def sr50 : RShape := ⟨.i .i64, [], none⟩
def toB50 : List Leaf → Option (Int) := gI (fun b0 => gE (some b0))
def ofB50 (y : Int) : List Leaf := [.i y]
theorem toB50_ok : ∀ ls b, toB50 ls = some b → ls = ofB50 b := by
  intro ls b h
  unfold toB50 at h
  obtain ⟨b0, ls1, rfl, h1⟩ := gI_ok h; obtain ⟨rfl, h2⟩ := gE_ok h1
  cases h2; rfl
def run50 {R : Type} : SF R := ⟨pa50, sr50, fun ls K => (gI (fun a0 => gE (Option.bind (F50 FUEL a0) fun y => K (ofB50 y)))) ls⟩
def cuts50 : List (List Nat × Cut (Int)) := []
noncomputable def X50 : Px (Int) := ⟨T, Tryd.prog, lkF [], mkCuts 50 cuts50, altN, altN_ok⟩
theorem e50 (n : Nat) (a0 : Int) : entF X50 8 50 pa50 (endK sr50 toB50) n [.i a0] = F50 n a0 := by kernel_rfl
theorem sp50 {n : Nat} (a0 : Int) {y : Int} (h : F50 n a0 = some y) : SpecF T Tryd.prog 50 pa50 [.i a0] sr50 (ofB50 y) :=
  fun_ok (X := X50) tok (sfok_of trivial) mixed 50 8 cuts50 rfl toB50_ok trivial ((e50 n a0).trans h)
theorem ok50 {R : Type} : SFone T Tryd.prog 50 (run50 : SF R) := by
  intro ls K r h
  simp only [run50] at h
  obtain ⟨a0, ls1, rfl, h1⟩ := gI_ok h; obtain ⟨rfl, h2⟩ := gE_ok h1
  obtain ⟨y, k1, k2⟩ := Option.bind_eq_some_iff.1 h2
  exact ⟨_, k2, sp50 a0 k1⟩

/-! ### garland/list.isPlace -/
def pa61 : List VP := [.i .i64]
def sr61 : RShape := ⟨.b, [], none⟩
def toB61 : List Leaf → Option (Bool) := gB (fun b0 => gE (some b0))
def ofB61 (y : Bool) : List Leaf := [.b y]
theorem toB61_ok : ∀ ls b, toB61 ls = some b → ls = ofB61 b := by
  intro ls b h
  unfold toB61 at h
  obtain ⟨b0, ls1, rfl, h1⟩ := gB_ok h; obtain ⟨rfl, h2⟩ := gE_ok h1
  cases h2; rfl
def run61 {R : Type} : SF R := ⟨pa61, sr61, fun ls K => (gI (fun a0 => gE (Option.bind (F61 FUEL a0) fun y => K (ofB61 y)))) ls⟩
def cuts61 : List (List Nat × Cut (Bool)) := []
noncomputable def X61 : Px (Bool) := ⟨T, Tryd.prog, lkF [], mkCuts 61 cuts61, altN, altN_ok⟩
theorem e61 (n : Nat) (a0 : Int) : entF X61 8 61 pa61 (endK sr61 toB61) n [.i a0] = F61 n a0 := by kernel_rfl
theorem sp61 {n : Nat} (a0 : Int) {y : Bool} (h : F61 n a0 = some y) : SpecF T Tryd.prog 61 pa61 [.i a0] sr61 (ofB61 y) :=
  fun_ok (X := X61) tok (sfok_of trivial) mixed 61 8 cuts61 rfl toB61_ok trivial ((e61 n a0).trans h)
theorem ok61 {R : Type} : SFone T Tryd.prog 61 (run61 : SF R) := by
  intro ls K r h
  simp only [run61] at h
  obtain ⟨a0, ls1, rfl, h1⟩ := gI_ok h; obtain ⟨rfl, h2⟩ := gE_ok h1
  obtain ⟨y, k1, k2⟩ := Option.bind_eq_some_iff.1 h2
  exact ⟨_, k2, sp61 a0 k1⟩

/-! ### garland/arc.Far -/
def pa57 : List VP := [.i .i64, .i .i64]
def sr57 : RShape := ⟨.i .i64, [], none⟩
def toB57 : List Leaf → Option (Int) := gI (fun b0 => gE (some b0))
def ofB57 (y : Int) : List Leaf := [.i y]
theorem toB57_ok : ∀ ls b, toB57 ls = some b → ls = ofB57 b := by
  intro ls b h
  unfold toB57 at h
  obtain ⟨b0, ls1, rfl, h1⟩ := gI_ok h; obtain ⟨rfl, h2⟩ := gE_ok h1
  cases h2; rfl
def run57 {R : Type} : SF R := ⟨pa57, sr57, fun ls K => (gI (fun a0 => gI (fun a1 => gE (Option.bind (F57 FUEL a0 a1) fun y => K (ofB57 y))))) ls⟩
def cuts57 : List (List Nat × Cut (Int)) := []
noncomputable def X57 : Px (Int) := ⟨T, Tryd.prog, lkF [(50, run50)], mkCuts 57 cuts57, altN, altN_ok⟩
theorem e57 (n : Nat) (a0 : Int) (a1 : Int) : entF X57 8 57 pa57 (endK sr57 toB57) n [.i a0, .i a1] = F57 n a0 a1 := by kernel_rfl
theorem sp57 {n : Nat} (a0 : Int) (a1 : Int) {y : Int} (h : F57 n a0 a1 = some y) : SpecF T Tryd.prog 57 pa57 [.i a0, .i a1] sr57 (ofB57 y) :=
  fun_ok (X := X57) tok (sfok_of ⟨ok50, trivial⟩) mixed 57 8 cuts57 rfl toB57_ok trivial ((e57 n a0 a1).trans h)
theorem ok57 {R : Type} : SFone T Tryd.prog 57 (run57 : SF R) := by
  intro ls K r h
  simp only [run57] at h
  obtain ⟨a0, ls1, rfl, h1⟩ := gI_ok h; obtain ⟨a1, ls2, rfl, h2⟩ := gI_ok h1; obtain ⟨rfl, h3⟩ := gE_ok h2
  obtain ⟨y, k1, k2⟩ := Option.bind_eq_some_iff.1 h3
  exact ⟨_, k2, sp57 a0 a1 k1⟩

/-! ### garland/list.Right -/
def pa48 : List VP := [.i .i64, .sl false [.int .i64]]
def sr48 : RShape := ⟨.b, [], none⟩
def toB48 : List Leaf → Option (Bool) := gB (fun b0 => gE (some b0))
def ofB48 (y : Bool) : List Leaf := [.b y]
theorem toB48_ok : ∀ ls b, toB48 ls = some b → ls = ofB48 b := by
  intro ls b h
  unfold toB48 at h
  obtain ⟨b0, ls1, rfl, h1⟩ := gB_ok h; obtain ⟨rfl, h2⟩ := gE_ok h1
  cases h2; rfl
def run48 {R : Type} : SF R := ⟨pa48, sr48, fun ls K => (gI (fun a0 => gL [.int .i64] (fun a1 => gE (Option.bind (F48 FUEL a0 a1) fun y => K (ofB48 y))))) ls⟩
def sh48_0 : Shape := ⟨[(21, [(0, .yield 7), (4, .i .i64), (8, .sl false [.int .i64]), (9, .i .i64), (10, .i .i64)]), (29, [(2, .ref 0 0), (4, .ref 1 0)])], [.cells [.i .i64], .cells [.b]]⟩
def g48_0 (n : Nat) : List Leaf → Option (Bool) := gI (fun x0 => gL [.int .i64] (fun x1 => gI (fun x2 => gI (fun x3 => gI (fun x4 => gB (fun x5 => gE (F48_c0 n x0 x1 x2 x3 x4 x5)))))))
def cuts48 : List (List Nat × Cut (Bool)) := [([1, 1, 1, 0, 1, 0, 128, 1, 1, 0], ⟨sh48_0, g48_0⟩)]
noncomputable def X48 : Px (Bool) := ⟨T, Tryd.prog, lkF [(50, run50), (61, run61), (57, run57)], mkCuts 48 cuts48, altN, altN_ok⟩
theorem e48_0 (n : Nat) (x0 : Int) (x1 : List (Int)) (x2 : Int) (x3 : Int) (x4 : Int) (x5 : Bool) : stepF X48 8 48 (endK sr48 toB48) [1, 1, 1, 0, 1, 0, 128, 1, 1, 0] sh48_0 n [.i x0, .l [.int .i64] x1, .i x2, .i x3, .i x4, .b x5] = F48_c0 (n + 1) x0 x1 x2 x3 x4 x5 := by kernel_rfl
theorem e48 (n : Nat) (a0 : Int) (a1 : List (Int)) : entF X48 8 48 pa48 (endK sr48 toB48) n [.i a0, .l [.int .i64] a1] = F48 n a0 a1 := by kernel_rfl
theorem c48_0 : CutOK X48 8 48 (endK sr48 toB48) [1, 1, 1, 0, 1, 0, 128, 1, 1, 0] ⟨sh48_0, g48_0⟩ := by
  refine ⟨fun ls => ?_, fun n ls r h => ?_⟩
  · cases h : g48_0 0 ls with
    | none => exact h
    | some r =>
      unfold g48_0 at h; obtain ⟨x0, ls1, rfl, h1⟩ := gI_ok h; obtain ⟨x1, ls2, rfl, h2⟩ := gL_ok h1; obtain ⟨x2, ls3, rfl, h3⟩ := gI_ok h2; obtain ⟨x3, ls4, rfl, h4⟩ := gI_ok h3; obtain ⟨x4, ls5, rfl, h5⟩ := gI_ok h4; obtain ⟨x5, ls6, rfl, h6⟩ := gB_ok h5; obtain ⟨rfl, h7⟩ := gE_ok h6; simp only [F48_c0] at h7; cases h7
  · replace h : g48_0 (n + 1) ls = some r := h
    unfold g48_0 at h
    obtain ⟨x0, ls1, rfl, h1⟩ := gI_ok h; obtain ⟨x1, ls2, rfl, h2⟩ := gL_ok h1; obtain ⟨x2, ls3, rfl, h3⟩ := gI_ok h2; obtain ⟨x3, ls4, rfl, h4⟩ := gI_ok h3; obtain ⟨x4, ls5, rfl, h5⟩ := gI_ok h4; obtain ⟨x5, ls6, rfl, h6⟩ := gB_ok h5; obtain ⟨rfl, h7⟩ := gE_ok h6
    exact (e48_0 n x0 x1 x2 x3 x4 x5).trans h7
theorem sp48 {n : Nat} (a0 : Int) (a1 : List (Int)) {y : Bool} (h : F48 n a0 a1 = some y) : SpecF T Tryd.prog 48 pa48 [.i a0, .l [.int .i64] a1] sr48 (ofB48 y) :=
  fun_ok (X := X48) tok (sfok_of ⟨ok50, ok61, ok57, trivial⟩) mixed 48 8 cuts48 rfl toB48_ok ⟨c48_0, trivial⟩ ((e48 n a0 a1).trans h)
theorem ok48 {R : Type} : SFone T Tryd.prog 48 (run48 : SF R) := by
  intro ls K r h
  simp only [run48] at h
  obtain ⟨a0, ls1, rfl, h1⟩ := gI_ok h; obtain ⟨a1, ls2, rfl, h2⟩ := gL_ok h1; obtain ⟨rfl, h3⟩ := gE_ok h2
  obtain ⟨y, k1, k2⟩ := Option.bind_eq_some_iff.1 h3
  exact ⟨_, k2, sp48 a0 a1 k1⟩

/-! ### garland/view.Right -/
def pa28 : List VP := [.agg [.i .i64, .sl false [.int .i64], .sl false [.int .i64], .i .i64, .i .i64, .i .i64, .i .i64, .i .i64, .i .i64, .i .i64, .i .i64, .i .i64, .i .i64, .i .i64, .i .i64, .i .i64, .i .i64, .i .i64, .i .i64, .i .i64]]
def sr28 : RShape := ⟨.b, [], none⟩
def toB28 : List Leaf → Option (Bool) := gB (fun b0 => gE (some b0))
def ofB28 (y : Bool) : List Leaf := [.b y]
theorem toB28_ok : ∀ ls b, toB28 ls = some b → ls = ofB28 b := by
  intro ls b h
  unfold toB28 at h
  obtain ⟨b0, ls1, rfl, h1⟩ := gB_ok h; obtain ⟨rfl, h2⟩ := gE_ok h1
  cases h2; rfl
def run28 {R : Type} : SF R := ⟨pa28, sr28, fun ls K => (gI (fun a0 => gL [.int .i64] (fun a1 => gL [.int .i64] (fun a2 => gI (fun a3 => gI (fun a4 => gI (fun a5 => gI (fun a6 => gI (fun a7 => gI (fun a8 => gI (fun a9 => gI (fun a10 => gI (fun a11 => gI (fun a12 => gI (fun a13 => gI (fun a14 => gI (fun a15 => gI (fun a16 => gI (fun a17 => gI (fun a18 => gI (fun a19 => gE (Option.bind (F28 FUEL a0 a1 a2 a3 a4 a5 a6 a7 a8 a9 a10 a11 a12 a13 a14 a15 a16 a17 a18 a19) fun y => K (ofB28 y))))))))))))))))))))))) ls⟩
def sh28_0 : Shape := ⟨[(38, [])], []⟩
def g28_0 (n : Nat) : List Leaf → Option (Bool) := gE (F28_c0 n )
def sh28_1 : Shape := ⟨[(20, [(0, .yield 7), (11, .agg [.i .i64, .i .i64, .i .i64, .i .i64, .i .i64, .i .i64, .i .i64, .i .i64, .i .i64, .i .i64, .i .i64, .i .i64, .i .i64, .i .i64, .i .i64, .i .i64]), (12, .i .i64)]), (38, [(1, .ref 0 0)])], [.cells [.i .i64, .sl false [.int .i64], .sl false [.int .i64], .i .i64, .i .i64, .i .i64, .i .i64, .i .i64, .i .i64, .i .i64, .i .i64, .i .i64, .i .i64, .i .i64, .i .i64, .i .i64, .i .i64, .i .i64, .i .i64, .i .i64]]⟩
def g28_1 (n : Nat) : List Leaf → Option (Bool) := gI (fun x0 => gI (fun x1 => gI (fun x2 => gI (fun x3 => gI (fun x4 => gI (fun x5 => gI (fun x6 => gI (fun x7 => gI (fun x8 => gI (fun x9 => gI (fun x10 => gI (fun x11 => gI (fun x12 => gI (fun x13 => gI (fun x14 => gI (fun x15 => gI (fun x16 => gI (fun x17 => gL [.int .i64] (fun x18 => gL [.int .i64] (fun x19 => gI (fun x20 => gI (fun x21 => gI (fun x22 => gI (fun x23 => gI (fun x24 => gI (fun x25 => gI (fun x26 => gI (fun x27 => gI (fun x28 => gI (fun x29 => gI (fun x30 => gI (fun x31 => gI (fun x32 => gI (fun x33 => gI (fun x34 => gI (fun x35 => gI (fun x36 => gE (F28_c1 n x0 x1 x2 x3 x4 x5 x6 x7 x8 x9 x10 x11 x12 x13 x14 x15 x16 x17 x18 x19 x20 x21 x22 x23 x24 x25 x26 x27 x28 x29 x30 x31 x32 x33 x34 x35 x36))))))))))))))))))))))))))))))))))))))
def cuts28 : List (List Nat × Cut (Bool)) := [([1, 10], ⟨sh28_0, g28_0⟩), ([1, 0, 1, 0, 1, 0, 124, 1, 1, 0], ⟨sh28_1, g28_1⟩)]
noncomputable def X28 : Px (Bool) := ⟨T, Tryd.prog, lkF [(46, run46), (47, run47), (48, run48)], mkCuts 28 cuts28, altN, altN_ok⟩
theorem e28_0 (n : Nat) : stepF X28 8 28 (endK sr28 toB28) [1, 10] sh28_0 n [] = F28_c0 (n + 1)  := by kernel_rfl
theorem e28_1 (n : Nat) (x0 : Int) (x1 : Int) (x2 : Int) (x3 : Int) (x4 : Int) (x5 : Int) (x6 : Int) (x7 : Int) (x8 : Int) (x9 : Int) (x10 : Int) (x11 : Int) (x12 : Int) (x13 : Int) (x14 : Int) (x15 : Int) (x16 : Int) (x17 : Int) (x18 : List (Int)) (x19 : List (Int)) (x20 : Int) (x21 : Int) (x22 : Int) (x23 : Int) (x24 : Int) (x25 : Int) (x26 : Int) (x27 : Int) (x28 : Int) (x29 : Int) (x30 : Int) (x31 : Int) (x32 : Int) (x33 : Int) (x34 : Int) (x35 : Int) (x36 : Int) : stepF X28 8 28 (endK sr28 toB28) [1, 0, 1, 0, 1, 0, 124, 1, 1, 0] sh28_1 n [.i x0, .i x1, .i x2, .i x3, .i x4, .i x5, .i x6, .i x7, .i x8, .i x9, .i x10, .i x11, .i x12, .i x13, .i x14, .i x15, .i x16, .i x17, .l [.int .i64] x18, .l [.int .i64] x19, .i x20, .i x21, .i x22, .i x23, .i x24, .i x25, .i x26, .i x27, .i x28, .i x29, .i x30, .i x31, .i x32, .i x33, .i x34, .i x35, .i x36] = F28_c1 (n + 1) x0 x1 x2 x3 x4 x5 x6 x7 x8 x9 x10 x11 x12 x13 x14 x15 x16 x17 x18 x19 x20 x21 x22 x23 x24 x25 x26 x27 x28 x29 x30 x31 x32 x33 x34 x35 x36 := by kernel_rfl
theorem e28 (n : Nat) (a0 : Int) (a1 : List (Int)) (a2 : List (Int)) (a3 : Int) (a4 : Int) (a5 : Int) (a6 : Int) (a7 : Int) (a8 : Int) (a9 : Int) (a10 : Int) (a11 : Int) (a12 : Int) (a13 : Int) (a14 : Int) (a15 : Int) (a16 : Int) (a17 : Int) (a18 : Int) (a19 : Int) : entF X28 8 28 pa28 (endK sr28 toB28) n [.i a0, .l [.int .i64] a1, .l [.int .i64] a2, .i a3, .i a4, .i a5, .i a6, .i a7, .i a8, .i a9, .i a10, .i a11, .i a12, .i a13, .i a14, .i a15, .i a16, .i a17, .i a18, .i a19] = F28 n a0 a1 a2 a3 a4 a5 a6 a7 a8 a9 a10 a11 a12 a13 a14 a15 a16 a17 a18 a19 := by kernel_rfl
theorem c28_0 : CutOK X28 8 28 (endK sr28 toB28) [1, 10] ⟨sh28_0, g28_0⟩ := by
  refine ⟨fun ls => ?_, fun n ls r h => ?_⟩
  · cases h : g28_0 0 ls with
    | none => exact h
    | some r =>
      unfold g28_0 at h; obtain ⟨rfl, h1⟩ := gE_ok h; simp only [F28_c0] at h1; cases h1
  · replace h : g28_0 (n + 1) ls = some r := h
    unfold g28_0 at h
    obtain ⟨rfl, h1⟩ := gE_ok h
    exact (e28_0 n ).trans h1
theorem c28_1 : CutOK X28 8 28 (endK sr28 toB28) [1, 0, 1, 0, 1, 0, 124, 1, 1, 0] ⟨sh28_1, g28_1⟩ := by
  refine ⟨fun ls => ?_, fun n ls r h => ?_⟩
  · cases h : g28_1 0 ls with
    | none => exact h
    | some r =>
      unfold g28_1 at h; obtain ⟨x0, ls1, rfl, h1⟩ := gI_ok h; obtain ⟨x1, ls2, rfl, h2⟩ := gI_ok h1; obtain ⟨x2, ls3, rfl, h3⟩ := gI_ok h2; obtain ⟨x3, ls4, rfl, h4⟩ := gI_ok h3; obtain ⟨x4, ls5, rfl, h5⟩ := gI_ok h4; obtain ⟨x5, ls6, rfl, h6⟩ := gI_ok h5; obtain ⟨x6, ls7, rfl, h7⟩ := gI_ok h6; obtain ⟨x7, ls8, rfl, h8⟩ := gI_ok h7; obtain ⟨x8, ls9, rfl, h9⟩ := gI_ok h8; obtain ⟨x9, ls10, rfl, h10⟩ := gI_ok h9; obtain ⟨x10, ls11, rfl, h11⟩ := gI_ok h10; obtain ⟨x11, ls12, rfl, h12⟩ := gI_ok h11; obtain ⟨x12, ls13, rfl, h13⟩ := gI_ok h12; obtain ⟨x13, ls14, rfl, h14⟩ := gI_ok h13; obtain ⟨x14, ls15, rfl, h15⟩ := gI_ok h14; obtain ⟨x15, ls16, rfl, h16⟩ := gI_ok h15; obtain ⟨x16, ls17, rfl, h17⟩ := gI_ok h16; obtain ⟨x17, ls18, rfl, h18⟩ := gI_ok h17; obtain ⟨x18, ls19, rfl, h19⟩ := gL_ok h18; obtain ⟨x19, ls20, rfl, h20⟩ := gL_ok h19; obtain ⟨x20, ls21, rfl, h21⟩ := gI_ok h20; obtain ⟨x21, ls22, rfl, h22⟩ := gI_ok h21; obtain ⟨x22, ls23, rfl, h23⟩ := gI_ok h22; obtain ⟨x23, ls24, rfl, h24⟩ := gI_ok h23; obtain ⟨x24, ls25, rfl, h25⟩ := gI_ok h24; obtain ⟨x25, ls26, rfl, h26⟩ := gI_ok h25; obtain ⟨x26, ls27, rfl, h27⟩ := gI_ok h26; obtain ⟨x27, ls28, rfl, h28⟩ := gI_ok h27; obtain ⟨x28, ls29, rfl, h29⟩ := gI_ok h28; obtain ⟨x29, ls30, rfl, h30⟩ := gI_ok h29; obtain ⟨x30, ls31, rfl, h31⟩ := gI_ok h30; obtain ⟨x31, ls32, rfl, h32⟩ := gI_ok h31; obtain ⟨x32, ls33, rfl, h33⟩ := gI_ok h32; obtain ⟨x33, ls34, rfl, h34⟩ := gI_ok h33; obtain ⟨x34, ls35, rfl, h35⟩ := gI_ok h34; obtain ⟨x35, ls36, rfl, h36⟩ := gI_ok h35; obtain ⟨x36, ls37, rfl, h37⟩ := gI_ok h36; obtain ⟨rfl, h38⟩ := gE_ok h37; simp only [F28_c1] at h38; cases h38
  · replace h : g28_1 (n + 1) ls = some r := h
    unfold g28_1 at h
    obtain ⟨x0, ls1, rfl, h1⟩ := gI_ok h; obtain ⟨x1, ls2, rfl, h2⟩ := gI_ok h1; obtain ⟨x2, ls3, rfl, h3⟩ := gI_ok h2; obtain ⟨x3, ls4, rfl, h4⟩ := gI_ok h3; obtain ⟨x4, ls5, rfl, h5⟩ := gI_ok h4; obtain ⟨x5, ls6, rfl, h6⟩ := gI_ok h5; obtain ⟨x6, ls7, rfl, h7⟩ := gI_ok h6; obtain ⟨x7, ls8, rfl, h8⟩ := gI_ok h7; obtain ⟨x8, ls9, rfl, h9⟩ := gI_ok h8; obtain ⟨x9, ls10, rfl, h10⟩ := gI_ok h9; obtain ⟨x10, ls11, rfl, h11⟩ := gI_ok h10; obtain ⟨x11, ls12, rfl, h12⟩ := gI_ok h11; obtain ⟨x12, ls13, rfl, h13⟩ := gI_ok h12; obtain ⟨x13, ls14, rfl, h14⟩ := gI_ok h13; obtain ⟨x14, ls15, rfl, h15⟩ := gI_ok h14; obtain ⟨x15, ls16, rfl, h16⟩ := gI_ok h15; obtain ⟨x16, ls17, rfl, h17⟩ := gI_ok h16; obtain ⟨x17, ls18, rfl, h18⟩ := gI_ok h17; obtain ⟨x18, ls19, rfl, h19⟩ := gL_ok h18; obtain ⟨x19, ls20, rfl, h20⟩ := gL_ok h19; obtain ⟨x20, ls21, rfl, h21⟩ := gI_ok h20; obtain ⟨x21, ls22, rfl, h22⟩ := gI_ok h21; obtain ⟨x22, ls23, rfl, h23⟩ := gI_ok h22; obtain ⟨x23, ls24, rfl, h24⟩ := gI_ok h23; obtain ⟨x24, ls25, rfl, h25⟩ := gI_ok h24; obtain ⟨x25, ls26, rfl, h26⟩ := gI_ok h25; obtain ⟨x26, ls27, rfl, h27⟩ := gI_ok h26; obtain ⟨x27, ls28, rfl, h28⟩ := gI_ok h27; obtain ⟨x28, ls29, rfl, h29⟩ := gI_ok h28; obtain ⟨x29, ls30, rfl, h30⟩ := gI_ok h29; obtain ⟨x30, ls31, rfl, h31⟩ := gI_ok h30; obtain ⟨x31, ls32, rfl, h32⟩ := gI_ok h31; obtain ⟨x32, ls33, rfl, h33⟩ := gI_ok h32; obtain ⟨x33, ls34, rfl, h34⟩ := gI_ok h33; obtain ⟨x34, ls35, rfl, h35⟩ := gI_ok h34; obtain ⟨x35, ls36, rfl, h36⟩ := gI_ok h35; obtain ⟨x36, ls37, rfl, h37⟩ := gI_ok h36; obtain ⟨rfl, h38⟩ := gE_ok h37
    exact (e28_1 n x0 x1 x2 x3 x4 x5 x6 x7 x8 x9 x10 x11 x12 x13 x14 x15 x16 x17 x18 x19 x20 x21 x22 x23 x24 x25 x26 x27 x28 x29 x30 x31 x32 x33 x34 x35 x36).trans h38
theorem sp28 {n : Nat} (a0 : Int) (a1 : List (Int)) (a2 : List (Int)) (a3 : Int) (a4 : Int) (a5 : Int) (a6 : Int) (a7 : Int) (a8 : Int) (a9 : Int) (a10 : Int) (a11 : Int) (a12 : Int) (a13 : Int) (a14 : Int) (a15 : Int) (a16 : Int) (a17 : Int) (a18 : Int) (a19 : Int) {y : Bool} (h : F28 n a0 a1 a2 a3 a4 a5 a6 a7 a8 a9 a10 a11 a12 a13 a14 a15 a16 a17 a18 a19 = some y) : SpecF T Tryd.prog 28 pa28 [.i a0, .l [.int .i64] a1, .l [.int .i64] a2, .i a3, .i a4, .i a5, .i a6, .i a7, .i a8, .i a9, .i a10, .i a11, .i a12, .i a13, .i a14, .i a15, .i a16, .i a17, .i a18, .i a19] sr28 (ofB28 y) :=
  fun_ok (X := X28) tok (sfok_of ⟨ok46, ok47, ok48, trivial⟩) mixed 28 8 cuts28 rfl toB28_ok ⟨c28_0, c28_1, trivial⟩ ((e28 n a0 a1 a2 a3 a4 a5 a6 a7 a8 a9 a10 a11 a12 a13 a14 a15 a16 a17 a18 a19).trans h)
theorem ok28 {R : Type} : SFone T Tryd.prog 28 (run28 : SF R) := by
  intro ls K r h
  simp only [run28] at h
  obtain ⟨a0, ls1, rfl, h1⟩ := gI_ok h; obtain ⟨a1, ls2, rfl, h2⟩ := gL_ok h1; obtain ⟨a2, ls3, rfl, h3⟩ := gL_ok h2; obtain ⟨a3, ls4, rfl, h4⟩ := gI_ok h3; obtain ⟨a4, ls5, rfl, h5⟩ := gI_ok h4; obtain ⟨a5, ls6, rfl, h6⟩ := gI_ok h5; obtain ⟨a6, ls7, rfl, h7⟩ := gI_ok h6; obtain ⟨a7, ls8, rfl, h8⟩ := gI_ok h7; obtain ⟨a8, ls9, rfl, h9⟩ := gI_ok h8; obtain ⟨a9, ls10, rfl, h10⟩ := gI_ok h9; obtain ⟨a10, ls11, rfl, h11⟩ := gI_ok h10; obtain ⟨a11, ls12, rfl, h12⟩ := gI_ok h11; obtain ⟨a12, ls13, rfl, h13⟩ := gI_ok h12; obtain ⟨a13, ls14, rfl, h14⟩ := gI_ok h13; obtain ⟨a14, ls15, rfl, h15⟩ := gI_ok h14; obtain ⟨a15, ls16, rfl, h16⟩ := gI_ok h15; obtain ⟨a16, ls17, rfl, h17⟩ := gI_ok h16; obtain ⟨a17, ls18, rfl, h18⟩ := gI_ok h17; obtain ⟨a18, ls19, rfl, h19⟩ := gI_ok h18; obtain ⟨a19, ls20, rfl, h20⟩ := gI_ok h19; obtain ⟨rfl, h21⟩ := gE_ok h20
  obtain ⟨y, k1, k2⟩ := Option.bind_eq_some_iff.1 h21
  exact ⟨_, k2, sp28 a0 a1 a2 a3 a4 a5 a6 a7 a8 a9 a10 a11 a12 a13 a14 a15 a16 a17 a18 a19 k1⟩

/-! ### slices.Clone[[]int,int] -/
def pa55 : List VP := [.sl false [.int .i64]]
def sr55 : RShape := ⟨.row 0, [.row true [.int .i64]], none⟩
def toB55 : List Leaf → Option ((List (Int))) := gL [.int .i64] (fun b0 => gE (some b0))
def ofB55 (y : (List (Int))) : List Leaf := [.l [.int .i64] y]
theorem toB55_ok : ∀ ls b, toB55 ls = some b → ls = ofB55 b := by
  intro ls b h
  unfold toB55 at h
  obtain ⟨b0, ls1, rfl, h1⟩ := gL_ok h; obtain ⟨rfl, h2⟩ := gE_ok h1
  cases h2; rfl
def run55 {R : Type} : SF R := ⟨pa55, sr55, fun ls K => (gL [.int .i64] (fun a0 => gE (Option.bind (F55 FUEL a0) fun y => K (ofB55 y)))) ls⟩
def cuts55 : List (List Nat × Cut ((List (Int)))) := []
noncomputable def X55 : Px ((List (Int))) := ⟨T, Tryd.prog, lkF [], mkCuts 55 cuts55, altE, altE_ok⟩
theorem e55 (n : Nat) (a0 : List (Int)) : entF X55 8 55 pa55 (endK sr55 toB55) n [.l [.int .i64] a0] = F55 n a0 := by kernel_rfl
theorem sp55 {n : Nat} (a0 : List (Int)) {y : (List (Int))} (h : F55 n a0 = some y) : SpecF T Tryd.prog 55 pa55 [.l [.int .i64] a0] sr55 (ofB55 y) :=
  fun_ok (X := X55) tok (sfok_of trivial) mixed 55 8 cuts55 rfl toB55_ok trivial ((e55 n a0).trans h)
theorem ok55 {R : Type} : SFone T Tryd.prog 55 (run55 : SF R) := by
  intro ls K r h
  simp only [run55] at h
  obtain ⟨a0, ls1, rfl, h1⟩ := gL_ok h; obtain ⟨rfl, h2⟩ := gE_ok h1
  obtain ⟨y, k1, k2⟩ := Option.bind_eq_some_iff.1 h2
  exact ⟨_, k2, sp55 a0 k1⟩

/-! ### garland/view.Own -/
def pa36 : List VP := [.agg [.i .i64, .sl false [.int .i64], .sl false [.int .i64], .i .i64, .i .i64, .i .i64, .i .i64, .i .i64, .i .i64, .i .i64, .i .i64, .i .i64, .i .i64, .i .i64, .i .i64, .i .i64, .i .i64, .i .i64, .i .i64, .i .i64]]
def sr36 : RShape := ⟨.agg [.i .i64, .row 0, .row 1, .i .i64, .i .i64, .i .i64, .i .i64, .i .i64, .i .i64, .i .i64, .i .i64, .i .i64, .i .i64, .i .i64, .i .i64, .i .i64, .i .i64, .i .i64, .i .i64, .i .i64], [.row true [.int .i64], .row true [.int .i64]], none⟩
def toB36 : List Leaf → Option (Si18l2) := gI (fun b0 => gI (fun b1 => gI (fun b2 => gI (fun b3 => gI (fun b4 => gI (fun b5 => gI (fun b6 => gI (fun b7 => gI (fun b8 => gI (fun b9 => gI (fun b10 => gI (fun b11 => gI (fun b12 => gI (fun b13 => gI (fun b14 => gI (fun b15 => gI (fun b16 => gI (fun b17 => gL [.int .i64] (fun b18 => gL [.int .i64] (fun b19 => gE (some ⟨b0, b1, b2, b3, b4, b5, b6, b7, b8, b9, b10, b11, b12, b13, b14, b15, b16, b17, b18, b19⟩)))))))))))))))))))))
def ofB36 (y : Si18l2) : List Leaf := [.i y.q0, .i y.q1, .i y.q2, .i y.q3, .i y.q4, .i y.q5, .i y.q6, .i y.q7, .i y.q8, .i y.q9, .i y.q10, .i y.q11, .i y.q12, .i y.q13, .i y.q14, .i y.q15, .i y.q16, .i y.q17, .l [.int .i64] y.q18, .l [.int .i64] y.q19]
theorem toB36_ok : ∀ ls b, toB36 ls = some b → ls = ofB36 b := by
  intro ls b h
  unfold toB36 at h
  obtain ⟨b0, ls1, rfl, h1⟩ := gI_ok h; obtain ⟨b1, ls2, rfl, h2⟩ := gI_ok h1; obtain ⟨b2, ls3, rfl, h3⟩ := gI_ok h2; obtain ⟨b3, ls4, rfl, h4⟩ := gI_ok h3; obtain ⟨b4, ls5, rfl, h5⟩ := gI_ok h4; obtain ⟨b5, ls6, rfl, h6⟩ := gI_ok h5; obtain ⟨b6, ls7, rfl, h7⟩ := gI_ok h6; obtain ⟨b7, ls8, rfl, h8⟩ := gI_ok h7; obtain ⟨b8, ls9, rfl, h9⟩ := gI_ok h8; obtain ⟨b9, ls10, rfl, h10⟩ := gI_ok h9; obtain ⟨b10, ls11, rfl, h11⟩ := gI_ok h10; obtain ⟨b11, ls12, rfl, h12⟩ := gI_ok h11; obtain ⟨b12, ls13, rfl, h13⟩ := gI_ok h12; obtain ⟨b13, ls14, rfl, h14⟩ := gI_ok h13; obtain ⟨b14, ls15, rfl, h15⟩ := gI_ok h14; obtain ⟨b15, ls16, rfl, h16⟩ := gI_ok h15; obtain ⟨b16, ls17, rfl, h17⟩ := gI_ok h16; obtain ⟨b17, ls18, rfl, h18⟩ := gI_ok h17; obtain ⟨b18, ls19, rfl, h19⟩ := gL_ok h18; obtain ⟨b19, ls20, rfl, h20⟩ := gL_ok h19; obtain ⟨rfl, h21⟩ := gE_ok h20
  cases h21; rfl
def run36 {R : Type} : SF R := ⟨pa36, sr36, fun ls K => (gI (fun a0 => gL [.int .i64] (fun a1 => gL [.int .i64] (fun a2 => gI (fun a3 => gI (fun a4 => gI (fun a5 => gI (fun a6 => gI (fun a7 => gI (fun a8 => gI (fun a9 => gI (fun a10 => gI (fun a11 => gI (fun a12 => gI (fun a13 => gI (fun a14 => gI (fun a15 => gI (fun a16 => gI (fun a17 => gI (fun a18 => gI (fun a19 => gE (Option.bind (F36 FUEL a0 a1 a2 a3 a4 a5 a6 a7 a8 a9 a10 a11 a12 a13 a14 a15 a16 a17 a18 a19) fun y => K (ofB36 y))))))))))))))))))))))) ls⟩
def cuts36 : List (List Nat × Cut (Si18l2)) := []
noncomputable def X36 : Px (Si18l2) := ⟨T, Tryd.prog, lkF [(55, run55)], mkCuts 36 cuts36, altN, altN_ok⟩
theorem e36 (n : Nat) (a0 : Int) (a1 : List (Int)) (a2 : List (Int)) (a3 : Int) (a4 : Int) (a5 : Int) (a6 : Int) (a7 : Int) (a8 : Int) (a9 : Int) (a10 : Int) (a11 : Int) (a12 : Int) (a13 : Int) (a14 : Int) (a15 : Int) (a16 : Int) (a17 : Int) (a18 : Int) (a19 : Int) : entF X36 8 36 pa36 (endK sr36 toB36) n [.i a0, .l [.int .i64] a1, .l [.int .i64] a2, .i a3, .i a4, .i a5, .i a6, .i a7, .i a8, .i a9, .i a10, .i a11, .i a12, .i a13, .i a14, .i a15, .i a16, .i a17, .i a18, .i a19] = F36 n a0 a1 a2 a3 a4 a5 a6 a7 a8 a9 a10 a11 a12 a13 a14 a15 a16 a17 a18 a19 := by kernel_rfl
theorem sp36 {n : Nat} (a0 : Int) (a1 : List (Int)) (a2 : List (Int)) (a3 : Int) (a4 : Int) (a5 : Int) (a6 : Int) (a7 : Int) (a8 : Int) (a9 : Int) (a10 : Int) (a11 : Int) (a12 : Int) (a13 : Int) (a14 : Int) (a15 : Int) (a16 : Int) (a17 : Int) (a18 : Int) (a19 : Int) {y : Si18l2} (h : F36 n a0 a1 a2 a3 a4 a5 a6 a7 a8 a9 a10 a11 a12 a13 a14 a15 a16 a17 a18 a19 = some y) : SpecF T Tryd.prog 36 pa36 [.i a0, .l [.int .i64] a1, .l [.int .i64] a2, .i a3, .i a4, .i a5, .i a6, .i a7, .i a8, .i a9, .i a10, .i a11, .i a12, .i a13, .i a14, .i a15, .i a16, .i a17, .i a18, .i a19] sr36 (ofB36 y) :=
  fun_ok (X := X36) tok (sfok_of ⟨ok55, trivial⟩) mixed 36 8 cuts36 rfl toB36_ok trivial ((e36 n a0 a1 a2 a3 a4 a5 a6 a7 a8 a9 a10 a11 a12 a13 a14 a15 a16 a17 a18 a19).trans h)
theorem ok36 {R : Type} : SFone T Tryd.prog 36 (run36 : SF R) := by
  intro ls K r h
  simp only [run36] at h
  obtain ⟨a0, ls1, rfl, h1⟩ := gI_ok h; obtain ⟨a1, ls2, rfl, h2⟩ := gL_ok h1; obtain ⟨a2, ls3, rfl, h3⟩ := gL_ok h2; obtain ⟨a3, ls4, rfl, h4⟩ := gI_ok h3; obtain ⟨a4, ls5, rfl, h5⟩ := gI_ok h4; obtain ⟨a5, ls6, rfl, h6⟩ := gI_ok h5; obtain ⟨a6, ls7, rfl, h7⟩ := gI_ok h6; obtain ⟨a7, ls8, rfl, h8⟩ := gI_ok h7; obtain ⟨a8, ls9, rfl, h9⟩ := gI_ok h8; obtain ⟨a9, ls10, rfl, h10⟩ := gI_ok h9; obtain ⟨a10, ls11, rfl, h11⟩ := gI_ok h10; obtain ⟨a11, ls12, rfl, h12⟩ := gI_ok h11; obtain ⟨a12, ls13, rfl, h13⟩ := gI_ok h12; obtain ⟨a13, ls14, rfl, h14⟩ := gI_ok h13; obtain ⟨a14, ls15, rfl, h15⟩ := gI_ok h14; obtain ⟨a15, ls16, rfl, h16⟩ := gI_ok h15; obtain ⟨a16, ls17, rfl, h17⟩ := gI_ok h16; obtain ⟨a17, ls18, rfl, h18⟩ := gI_ok h17; obtain ⟨a18, ls19, rfl, h19⟩ := gI_ok h18; obtain ⟨a19, ls20, rfl, h20⟩ := gI_ok h19; obtain ⟨rfl, h21⟩ := gE_ok h20
  obtain ⟨y, k1, k2⟩ := Option.bind_eq_some_iff.1 h21
  exact ⟨_, k2, sp36 a0 a1 a2 a3 a4 a5 a6 a7 a8 a9 a10 a11 a12 a13 a14 a15 a16 a17 a18 a19 k1⟩

/-! ### garland/arc.Start -/
def pa29 : List VP := [.i .i64, .i .i64]
def sr29 : RShape := ⟨.i .i64, [], none⟩
def toB29 : List Leaf → Option (Int) := gI (fun b0 => gE (some b0))
def ofB29 (y : Int) : List Leaf := [.i y]
theorem toB29_ok : ∀ ls b, toB29 ls = some b → ls = ofB29 b := by
  intro ls b h
  unfold toB29 at h
  obtain ⟨b0, ls1, rfl, h1⟩ := gI_ok h; obtain ⟨rfl, h2⟩ := gE_ok h1
  cases h2; rfl
def run29 {R : Type} : SF R := ⟨pa29, sr29, fun ls K => (gI (fun a0 => gI (fun a1 => gE (Option.bind (F29 FUEL a0 a1) fun y => K (ofB29 y))))) ls⟩
def cuts29 : List (List Nat × Cut (Int)) := []
noncomputable def X29 : Px (Int) := ⟨T, Tryd.prog, lkF [(50, run50)], mkCuts 29 cuts29, altN, altN_ok⟩
theorem e29 (n : Nat) (a0 : Int) (a1 : Int) : entF X29 8 29 pa29 (endK sr29 toB29) n [.i a0, .i a1] = F29 n a0 a1 := by kernel_rfl
theorem sp29 {n : Nat} (a0 : Int) (a1 : Int) {y : Int} (h : F29 n a0 a1 = some y) : SpecF T Tryd.prog 29 pa29 [.i a0, .i a1] sr29 (ofB29 y) :=
  fun_ok (X := X29) tok (sfok_of ⟨ok50, trivial⟩) mixed 29 8 cuts29 rfl toB29_ok trivial ((e29 n a0 a1).trans h)
theorem ok29 {R : Type} : SFone T Tryd.prog 29 (run29 : SF R) := by
  intro ls K r h
  simp only [run29] at h
  obtain ⟨a0, ls1, rfl, h1⟩ := gI_ok h; obtain ⟨a1, ls2, rfl, h2⟩ := gI_ok h1; obtain ⟨rfl, h3⟩ := gE_ok h2
  obtain ⟨y, k1, k2⟩ := Option.bind_eq_some_iff.1 h3
  exact ⟨_, k2, sp29 a0 a1 k1⟩

/-! ### garland/finger.Start -/
def pa10 : List VP := [.agg [.i .i64, .sl false [.int .i64], .sl false [.int .i64], .i .i64, .i .i64, .i .i64, .i .i64, .i .i64, .i .i64, .i .i64, .i .i64, .i .i64, .i .i64, .i .i64, .i .i64, .i .i64, .i .i64, .i .i64, .i .i64, .i .i64], .i .i64]
def sr10 : RShape := ⟨.tup [.i .i64, .i .i64], [], none⟩
def toB10 : List Leaf → Option (Int × Int) := gI (fun b0 => gI (fun b1 => gE (some (b0, b1))))
def ofB10 (y : Int × Int) : List Leaf := [.i y.1, .i y.2]
theorem toB10_ok : ∀ ls b, toB10 ls = some b → ls = ofB10 b := by
  intro ls b h
  unfold toB10 at h
  obtain ⟨b0, ls1, rfl, h1⟩ := gI_ok h; obtain ⟨b1, ls2, rfl, h2⟩ := gI_ok h1; obtain ⟨rfl, h3⟩ := gE_ok h2
  cases h3; rfl
def run10 {R : Type} : SF R := ⟨pa10, sr10, fun ls K => (gI (fun a0 => gL [.int .i64] (fun a1 => gL [.int .i64] (fun a2 => gI (fun a3 => gI (fun a4 => gI (fun a5 => gI (fun a6 => gI (fun a7 => gI (fun a8 => gI (fun a9 => gI (fun a10 => gI (fun a11 => gI (fun a12 => gI (fun a13 => gI (fun a14 => gI (fun a15 => gI (fun a16 => gI (fun a17 => gI (fun a18 => gI (fun a19 => gI (fun a20 => gE (Option.bind (F10 FUEL a0 a1 a2 a3 a4 a5 a6 a7 a8 a9 a10 a11 a12 a13 a14 a15 a16 a17 a18 a19 a20) fun y => K (ofB10 y)))))))))))))))))))))))) ls⟩
def sh10_0 : Shape := ⟨[(21, [])], []⟩
def g10_0 (n : Nat) : List Leaf → Option (Int × Int) := gE (F10_c0 n )
def cuts10 : List (List Nat × Cut (Int × Int)) := [([1, 10], ⟨sh10_0, g10_0⟩)]
noncomputable def X10 : Px (Int × Int) := ⟨T, Tryd.prog, lkF [(28, run28), (29, run29)], mkCuts 10 cuts10, altN, altN_ok⟩
theorem e10_0 (n : Nat) : stepF X10 8 10 (endK sr10 toB10) [1, 10] sh10_0 n [] = F10_c0 (n + 1)  := by kernel_rfl
theorem e10 (n : Nat) (a0 : Int) (a1 : List (Int)) (a2 : List (Int)) (a3 : Int) (a4 : Int) (a5 : Int) (a6 : Int) (a7 : Int) (a8 : Int) (a9 : Int) (a10 : Int) (a11 : Int) (a12 : Int) (a13 : Int) (a14 : Int) (a15 : Int) (a16 : Int) (a17 : Int) (a18 : Int) (a19 : Int) (a20 : Int) : entF X10 8 10 pa10 (endK sr10 toB10) n [.i a0, .l [.int .i64] a1, .l [.int .i64] a2, .i a3, .i a4, .i a5, .i a6, .i a7, .i a8, .i a9, .i a10, .i a11, .i a12, .i a13, .i a14, .i a15, .i a16, .i a17, .i a18, .i a19, .i a20] = F10 n a0 a1 a2 a3 a4 a5 a6 a7 a8 a9 a10 a11 a12 a13 a14 a15 a16 a17 a18 a19 a20 := by kernel_rfl
theorem c10_0 : CutOK X10 8 10 (endK sr10 toB10) [1, 10] ⟨sh10_0, g10_0⟩ := by
  refine ⟨fun ls => ?_, fun n ls r h => ?_⟩
  · cases h : g10_0 0 ls with
    | none => exact h
    | some r =>
      unfold g10_0 at h; obtain ⟨rfl, h1⟩ := gE_ok h; simp only [F10_c0] at h1; cases h1
  · replace h : g10_0 (n + 1) ls = some r := h
    unfold g10_0 at h
    obtain ⟨rfl, h1⟩ := gE_ok h
    exact (e10_0 n ).trans h1
theorem sp10 {n : Nat} (a0 : Int) (a1 : List (Int)) (a2 : List (Int)) (a3 : Int) (a4 : Int) (a5 : Int) (a6 : Int) (a7 : Int) (a8 : Int) (a9 : Int) (a10 : Int) (a11 : Int) (a12 : Int) (a13 : Int) (a14 : Int) (a15 : Int) (a16 : Int) (a17 : Int) (a18 : Int) (a19 : Int) (a20 : Int) {y : Int × Int} (h : F10 n a0 a1 a2 a3 a4 a5 a6 a7 a8 a9 a10 a11 a12 a13 a14 a15 a16 a17 a18 a19 a20 = some y) : SpecF T Tryd.prog 10 pa10 [.i a0, .l [.int .i64] a1, .l [.int .i64] a2, .i a3, .i a4, .i a5, .i a6, .i a7, .i a8, .i a9, .i a10, .i a11, .i a12, .i a13, .i a14, .i a15, .i a16, .i a17, .i a18, .i a19, .i a20] sr10 (ofB10 y) :=
  fun_ok (X := X10) tok (sfok_of ⟨ok28, ok29, trivial⟩) mixed 10 8 cuts10 rfl toB10_ok ⟨c10_0, trivial⟩ ((e10 n a0 a1 a2 a3 a4 a5 a6 a7 a8 a9 a10 a11 a12 a13 a14 a15 a16 a17 a18 a19 a20).trans h)
theorem ok10 {R : Type} : SFone T Tryd.prog 10 (run10 : SF R) := by
  intro ls K r h
  simp only [run10] at h
  obtain ⟨a0, ls1, rfl, h1⟩ := gI_ok h; obtain ⟨a1, ls2, rfl, h2⟩ := gL_ok h1; obtain ⟨a2, ls3, rfl, h3⟩ := gL_ok h2; obtain ⟨a3, ls4, rfl, h4⟩ := gI_ok h3; obtain ⟨a4, ls5, rfl, h5⟩ := gI_ok h4; obtain ⟨a5, ls6, rfl, h6⟩ := gI_ok h5; obtain ⟨a6, ls7, rfl, h7⟩ := gI_ok h6; obtain ⟨a7, ls8, rfl, h8⟩ := gI_ok h7; obtain ⟨a8, ls9, rfl, h9⟩ := gI_ok h8; obtain ⟨a9, ls10, rfl, h10⟩ := gI_ok h9; obtain ⟨a10, ls11, rfl, h11⟩ := gI_ok h10; obtain ⟨a11, ls12, rfl, h12⟩ := gI_ok h11; obtain ⟨a12, ls13, rfl, h13⟩ := gI_ok h12; obtain ⟨a13, ls14, rfl, h14⟩ := gI_ok h13; obtain ⟨a14, ls15, rfl, h15⟩ := gI_ok h14; obtain ⟨a15, ls16, rfl, h16⟩ := gI_ok h15; obtain ⟨a16, ls17, rfl, h17⟩ := gI_ok h16; obtain ⟨a17, ls18, rfl, h18⟩ := gI_ok h17; obtain ⟨a18, ls19, rfl, h19⟩ := gI_ok h18; obtain ⟨a19, ls20, rfl, h20⟩ := gI_ok h19; obtain ⟨a20, ls21, rfl, h21⟩ := gI_ok h20; obtain ⟨rfl, h22⟩ := gE_ok h21
  obtain ⟨y, k1, k2⟩ := Option.bind_eq_some_iff.1 h22
  exact ⟨_, k2, sp10 a0 a1 a2 a3 a4 a5 a6 a7 a8 a9 a10 a11 a12 a13 a14 a15 a16 a17 a18 a19 a20 k1⟩

/-! ### garland/list.First -/
def pa51 : List VP := [.sl false [.int .i64]]
def sr51 : RShape := ⟨.tup [.i .i64, .b], [], none⟩
def toB51 : List Leaf → Option (Int × Bool) := gI (fun b0 => gB (fun b1 => gE (some (b0, b1))))
def ofB51 (y : Int × Bool) : List Leaf := [.i y.1, .b y.2]
theorem toB51_ok : ∀ ls b, toB51 ls = some b → ls = ofB51 b := by
  intro ls b h
  unfold toB51 at h
  obtain ⟨b0, ls1, rfl, h1⟩ := gI_ok h; obtain ⟨b1, ls2, rfl, h2⟩ := gB_ok h1; obtain ⟨rfl, h3⟩ := gE_ok h2
  cases h3; rfl
def run51 {R : Type} : SF R := ⟨pa51, sr51, fun ls K => (gL [.int .i64] (fun a0 => gE (Option.bind (F51 FUEL a0) fun y => K (ofB51 y)))) ls⟩
def sh51_0 : Shape := ⟨[(16, [(0, .yield 5), (5, .sl false [.int .i64]), (6, .i .i64), (7, .i .i64)]), (9, [(2, .ref 0 0), (3, .ref 1 0)])], [.cells [.i .i64], .cells [.b]]⟩
def g51_0 (n : Nat) : List Leaf → Option (Int × Bool) := gL [.int .i64] (fun x0 => gI (fun x1 => gI (fun x2 => gI (fun x3 => gB (fun x4 => gE (F51_c0 n x0 x1 x2 x3 x4))))))
def cuts51 : List (List Nat × Cut (Int × Bool)) := [([1, 0, 1, 0, 130, 1, 0], ⟨sh51_0, g51_0⟩)]
noncomputable def X51 : Px (Int × Bool) := ⟨T, Tryd.prog, lkF [], mkCuts 51 cuts51, altN, altN_ok⟩
theorem e51_0 (n : Nat) (x0 : List (Int)) (x1 : Int) (x2 : Int) (x3 : Int) (x4 : Bool) : stepF X51 8 51 (endK sr51 toB51) [1, 0, 1, 0, 130, 1, 0] sh51_0 n [.l [.int .i64] x0, .i x1, .i x2, .i x3, .b x4] = F51_c0 (n + 1) x0 x1 x2 x3 x4 := by kernel_rfl
theorem e51 (n : Nat) (a0 : List (Int)) : entF X51 8 51 pa51 (endK sr51 toB51) n [.l [.int .i64] a0] = F51 n a0 := by kernel_rfl
theorem c51_0 : CutOK X51 8 51 (endK sr51 toB51) [1, 0, 1, 0, 130, 1, 0] ⟨sh51_0, g51_0⟩ := by
  refine ⟨fun ls => ?_, fun n ls r h => ?_⟩
  · cases h : g51_0 0 ls with
    | none => exact h
    | some r =>
      unfold g51_0 at h; obtain ⟨x0, ls1, rfl, h1⟩ := gL_ok h; obtain ⟨x1, ls2, rfl, h2⟩ := gI_ok h1; obtain ⟨x2, ls3, rfl, h3⟩ := gI_ok h2; obtain ⟨x3, ls4, rfl, h4⟩ := gI_ok h3; obtain ⟨x4, ls5, rfl, h5⟩ := gB_ok h4; obtain ⟨rfl, h6⟩ := gE_ok h5; simp only [F51_c0] at h6; cases h6
  · replace h : g51_0 (n + 1) ls = some r := h
    unfold g51_0 at h
    obtain ⟨x0, ls1, rfl, h1⟩ := gL_ok h; obtain ⟨x1, ls2, rfl, h2⟩ := gI_ok h1; obtain ⟨x2, ls3, rfl, h3⟩ := gI_ok h2; obtain ⟨x3, ls4, rfl, h4⟩ := gI_ok h3; obtain ⟨x4, ls5, rfl, h5⟩ := gB_ok h4; obtain ⟨rfl, h6⟩ := gE_ok h5
    exact (e51_0 n x0 x1 x2 x3 x4).trans h6
theorem sp51 {n : Nat} (a0 : List (Int)) {y : Int × Bool} (h : F51 n a0 = some y) : SpecF T Tryd.prog 51 pa51 [.l [.int .i64] a0] sr51 (ofB51 y) :=
  fun_ok (X := X51) tok (sfok_of trivial) mixed 51 8 cuts51 rfl toB51_ok ⟨c51_0, trivial⟩ ((e51 n a0).trans h)
theorem ok51 {R : Type} : SFone T Tryd.prog 51 (run51 : SF R) := by
  intro ls K r h
  simp only [run51] at h
  obtain ⟨a0, ls1, rfl, h1⟩ := gL_ok h; obtain ⟨rfl, h2⟩ := gE_ok h1
  obtain ⟨y, k1, k2⟩ := Option.bind_eq_some_iff.1 h2
  exact ⟨_, k2, sp51 a0 k1⟩

/-! ### garland/view.anchor -/
def pa52 : List VP := [.agg [.i .i64, .sl false [.int .i64], .sl false [.int .i64], .i .i64, .i .i64, .i .i64, .i .i64, .i .i64, .i .i64, .i .i64, .i .i64, .i .i64, .i .i64, .i .i64, .i .i64, .i .i64, .i .i64, .i .i64, .i .i64, .i .i64]]
def sr52 : RShape := ⟨.i .i64, [], none⟩
def toB52 : List Leaf → Option (Int) := gI (fun b0 => gE (some b0))
def ofB52 (y : Int) : List Leaf := [.i y]
theorem toB52_ok : ∀ ls b, toB52 ls = some b → ls = ofB52 b := by
  intro ls b h
  unfold toB52 at h
  obtain ⟨b0, ls1, rfl, h1⟩ := gI_ok h; obtain ⟨rfl, h2⟩ := gE_ok h1
  cases h2; rfl
def run52 {R : Type} : SF R := ⟨pa52, sr52, fun ls K => (gI (fun a0 => gL [.int .i64] (fun a1 => gL [.int .i64] (fun a2 => gI (fun a3 => gI (fun a4 => gI (fun a5 => gI (fun a6 => gI (fun a7 => gI (fun a8 => gI (fun a9 => gI (fun a10 => gI (fun a11 => gI (fun a12 => gI (fun a13 => gI (fun a14 => gI (fun a15 => gI (fun a16 => gI (fun a17 => gI (fun a18 => gI (fun a19 => gE (Option.bind (F52 FUEL a0 a1 a2 a3 a4 a5 a6 a7 a8 a9 a10 a11 a12 a13 a14 a15 a16 a17 a18 a19) fun y => K (ofB52 y))))))))))))))))))))))) ls⟩
def sh52_0 : Shape := ⟨[(35, [(1, .ref 0 0), (3, .i .i64), (7, .sl false [.int .i64]), (8, .i .i64), (9, .i .i64)])], [.cells [.i .i64, .sl false [.int .i64], .sl false [.int .i64], .i .i64, .i .i64, .i .i64, .i .i64, .i .i64, .i .i64, .i .i64, .i .i64, .i .i64, .i .i64, .i .i64, .i .i64, .i .i64, .i .i64, .i .i64, .i .i64, .i .i64]]⟩
def g52_0 (n : Nat) : List Leaf → Option (Int) := gI (fun x0 => gL [.int .i64] (fun x1 => gI (fun x2 => gI (fun x3 => gI (fun x4 => gL [.int .i64] (fun x5 => gL [.int .i64] (fun x6 => gI (fun x7 => gI (fun x8 => gI (fun x9 => gI (fun x10 => gI (fun x11 => gI (fun x12 => gI (fun x13 => gI (fun x14 => gI (fun x15 => gI (fun x16 => gI (fun x17 => gI (fun x18 => gI (fun x19 => gI (fun x20 => gI (fun x21 => gI (fun x22 => gI (fun x23 => gE (F52_c0 n x0 x1 x2 x3 x4 x5 x6 x7 x8 x9 x10 x11 x12 x13 x14 x15 x16 x17 x18 x19 x20 x21 x22 x23)))))))))))))))))))))))))
def cuts52 : List (List Nat × Cut (Int)) := [([1, 1, 0, 1, 0], ⟨sh52_0, g52_0⟩)]
noncomputable def X52 : Px (Int) := ⟨T, Tryd.prog, lkF [(57, run57)], mkCuts 52 cuts52, altN, altN_ok⟩
theorem e52_0 (n : Nat) (x0 : Int) (x1 : List (Int)) (x2 : Int) (x3 : Int) (x4 : Int) (x5 : List (Int)) (x6 : List (Int)) (x7 : Int) (x8 : Int) (x9 : Int) (x10 : Int) (x11 : Int) (x12 : Int) (x13 : Int) (x14 : Int) (x15 : Int) (x16 : Int) (x17 : Int) (x18 : Int) (x19 : Int) (x20 : Int) (x21 : Int) (x22 : Int) (x23 : Int) : stepF X52 8 52 (endK sr52 toB52) [1, 1, 0, 1, 0] sh52_0 n [.i x0, .l [.int .i64] x1, .i x2, .i x3, .i x4, .l [.int .i64] x5, .l [.int .i64] x6, .i x7, .i x8, .i x9, .i x10, .i x11, .i x12, .i x13, .i x14, .i x15, .i x16, .i x17, .i x18, .i x19, .i x20, .i x21, .i x22, .i x23] = F52_c0 (n + 1) x0 x1 x2 x3 x4 x5 x6 x7 x8 x9 x10 x11 x12 x13 x14 x15 x16 x17 x18 x19 x20 x21 x22 x23 := by kernel_rfl
theorem e52 (n : Nat) (a0 : Int) (a1 : List (Int)) (a2 : List (Int)) (a3 : Int) (a4 : Int) (a5 : Int) (a6 : Int) (a7 : Int) (a8 : Int) (a9 : Int) (a10 : Int) (a11 : Int) (a12 : Int) (a13 : Int) (a14 : Int) (a15 : Int) (a16 : Int) (a17 : Int) (a18 : Int) (a19 : Int) : entF X52 8 52 pa52 (endK sr52 toB52) n [.i a0, .l [.int .i64] a1, .l [.int .i64] a2, .i a3, .i a4, .i a5, .i a6, .i a7, .i a8, .i a9, .i a10, .i a11, .i a12, .i a13, .i a14, .i a15, .i a16, .i a17, .i a18, .i a19] = F52 n a0 a1 a2 a3 a4 a5 a6 a7 a8 a9 a10 a11 a12 a13 a14 a15 a16 a17 a18 a19 := by kernel_rfl
theorem c52_0 : CutOK X52 8 52 (endK sr52 toB52) [1, 1, 0, 1, 0] ⟨sh52_0, g52_0⟩ := by
  refine ⟨fun ls => ?_, fun n ls r h => ?_⟩
  · cases h : g52_0 0 ls with
    | none => exact h
    | some r =>
      unfold g52_0 at h; obtain ⟨x0, ls1, rfl, h1⟩ := gI_ok h; obtain ⟨x1, ls2, rfl, h2⟩ := gL_ok h1; obtain ⟨x2, ls3, rfl, h3⟩ := gI_ok h2; obtain ⟨x3, ls4, rfl, h4⟩ := gI_ok h3; obtain ⟨x4, ls5, rfl, h5⟩ := gI_ok h4; obtain ⟨x5, ls6, rfl, h6⟩ := gL_ok h5; obtain ⟨x6, ls7, rfl, h7⟩ := gL_ok h6; obtain ⟨x7, ls8, rfl, h8⟩ := gI_ok h7; obtain ⟨x8, ls9, rfl, h9⟩ := gI_ok h8; obtain ⟨x9, ls10, rfl, h10⟩ := gI_ok h9; obtain ⟨x10, ls11, rfl, h11⟩ := gI_ok h10; obtain ⟨x11, ls12, rfl, h12⟩ := gI_ok h11; obtain ⟨x12, ls13, rfl, h13⟩ := gI_ok h12; obtain ⟨x13, ls14, rfl, h14⟩ := gI_ok h13; obtain ⟨x14, ls15, rfl, h15⟩ := gI_ok h14; obtain ⟨x15, ls16, rfl, h16⟩ := gI_ok h15; obtain ⟨x16, ls17, rfl, h17⟩ := gI_ok h16; obtain ⟨x17, ls18, rfl, h18⟩ := gI_ok h17; obtain ⟨x18, ls19, rfl, h19⟩ := gI_ok h18; obtain ⟨x19, ls20, rfl, h20⟩ := gI_ok h19; obtain ⟨x20, ls21, rfl, h21⟩ := gI_ok h20; obtain ⟨x21, ls22, rfl, h22⟩ := gI_ok h21; obtain ⟨x22, ls23, rfl, h23⟩ := gI_ok h22; obtain ⟨x23, ls24, rfl, h24⟩ := gI_ok h23; obtain ⟨rfl, h25⟩ := gE_ok h24; simp only [F52_c0] at h25; cases h25
  · replace h : g52_0 (n + 1) ls = some r := h
    unfold g52_0 at h
    obtain ⟨x0, ls1, rfl, h1⟩ := gI_ok h; obtain ⟨x1, ls2, rfl, h2⟩ := gL_ok h1; obtain ⟨x2, ls3, rfl, h3⟩ := gI_ok h2; obtain ⟨x3, ls4, rfl, h4⟩ := gI_ok h3; obtain ⟨x4, ls5, rfl, h5⟩ := gI_ok h4; obtain ⟨x5, ls6, rfl, h6⟩ := gL_ok h5; obtain ⟨x6, ls7, rfl, h7⟩ := gL_ok h6; obtain ⟨x7, ls8, rfl, h8⟩ := gI_ok h7; obtain ⟨x8, ls9, rfl, h9⟩ := gI_ok h8; obtain ⟨x9, ls10, rfl, h10⟩ := gI_ok h9; obtain ⟨x10, ls11, rfl, h11⟩ := gI_ok h10; obtain ⟨x11, ls12, rfl, h12⟩ := gI_ok h11; obtain ⟨x12, ls13, rfl, h13⟩ := gI_ok h12; obtain ⟨x13, ls14, rfl, h14⟩ := gI_ok h13; obtain ⟨x14, ls15, rfl, h15⟩ := gI_ok h14; obtain ⟨x15, ls16, rfl, h16⟩ := gI_ok h15; obtain ⟨x16, ls17, rfl, h17⟩ := gI_ok h16; obtain ⟨x17, ls18, rfl, h18⟩ := gI_ok h17; obtain ⟨x18, ls19, rfl, h19⟩ := gI_ok h18; obtain ⟨x19, ls20, rfl, h20⟩ := gI_ok h19; obtain ⟨x20, ls21, rfl, h21⟩ := gI_ok h20; obtain ⟨x21, ls22, rfl, h22⟩ := gI_ok h21; obtain ⟨x22, ls23, rfl, h23⟩ := gI_ok h22; obtain ⟨x23, ls24, rfl, h24⟩ := gI_ok h23; obtain ⟨rfl, h25⟩ := gE_ok h24
    exact (e52_0 n x0 x1 x2 x3 x4 x5 x6 x7 x8 x9 x10 x11 x12 x13 x14 x15 x16 x17 x18 x19 x20 x21 x22 x23).trans h25
theorem sp52 {n : Nat} (a0 : Int) (a1 : List (Int)) (a2 : List (Int)) (a3 : Int) (a4 : Int) (a5 : Int) (a6 : Int) (a7 : Int) (a8 : Int) (a9 : Int) (a10 : Int) (a11 : Int) (a12 : Int) (a13 : Int) (a14 : Int) (a15 : Int) (a16 : Int) (a17 : Int) (a18 : Int) (a19 : Int) {y : Int} (h : F52 n a0 a1 a2 a3 a4 a5 a6 a7 a8 a9 a10 a11 a12 a13 a14 a15 a16 a17 a18 a19 = some y) : SpecF T Tryd.prog 52 pa52 [.i a0, .l [.int .i64] a1, .l [.int .i64] a2, .i a3, .i a4, .i a5, .i a6, .i a7, .i a8, .i a9, .i a10, .i a11, .i a12, .i a13, .i a14, .i a15, .i a16, .i a17, .i a18, .i a19] sr52 (ofB52 y) :=
  fun_ok (X := X52) tok (sfok_of ⟨ok57, trivial⟩) mixed 52 8 cuts52 rfl toB52_ok ⟨c52_0, trivial⟩ ((e52 n a0 a1 a2 a3 a4 a5 a6 a7 a8 a9 a10 a11 a12 a13 a14 a15 a16 a17 a18 a19).trans h)
theorem ok52 {R : Type} : SFone T Tryd.prog 52 (run52 : SF R) := by
  intro ls K r h
  simp only [run52] at h
  obtain ⟨a0, ls1, rfl, h1⟩ := gI_ok h; obtain ⟨a1, ls2, rfl, h2⟩ := gL_ok h1; obtain ⟨a2, ls3, rfl, h3⟩ := gL_ok h2; obtain ⟨a3, ls4, rfl, h4⟩ := gI_ok h3; obtain ⟨a4, ls5, rfl, h5⟩ := gI_ok h4; obtain ⟨a5, ls6, rfl, h6⟩ := gI_ok h5; obtain ⟨a6, ls7, rfl, h7⟩ := gI_ok h6; obtain ⟨a7, ls8, rfl, h8⟩ := gI_ok h7; obtain ⟨a8, ls9, rfl, h9⟩ := gI_ok h8; obtain ⟨a9, ls10, rfl, h10⟩ := gI_ok h9; obtain ⟨a10, ls11, rfl, h11⟩ := gI_ok h10; obtain ⟨a11, ls12, rfl, h12⟩ := gI_ok h11; obtain ⟨a12, ls13, rfl, h13⟩ := gI_ok h12; obtain ⟨a13, ls14, rfl, h14⟩ := gI_ok h13; obtain ⟨a14, ls15, rfl, h15⟩ := gI_ok h14; obtain ⟨a15, ls16, rfl, h16⟩ := gI_ok h15; obtain ⟨a16, ls17, rfl, h17⟩ := gI_ok h16; obtain ⟨a17, ls18, rfl, h18⟩ := gI_ok h17; obtain ⟨a18, ls19, rfl, h19⟩ := gI_ok h18; obtain ⟨a19, ls20, rfl, h20⟩ := gI_ok h19; obtain ⟨rfl, h21⟩ := gE_ok h20
  obtain ⟨y, k1, k2⟩ := Option.bind_eq_some_iff.1 h21
  exact ⟨_, k2, sp52 a0 a1 a2 a3 a4 a5 a6 a7 a8 a9 a10 a11 a12 a13 a14 a15 a16 a17 a18 a19 k1⟩

/-! ### garland/view.First -/
def pa30 : List VP := [.agg [.i .i64, .sl false [.int .i64], .sl false [.int .i64], .i .i64, .i .i64, .i .i64, .i .i64, .i .i64, .i .i64, .i .i64, .i .i64, .i .i64, .i .i64, .i .i64, .i .i64, .i .i64, .i .i64, .i .i64, .i .i64, .i .i64]]
def sr30 : RShape := ⟨.i .i64, [], none⟩
def toB30 : List Leaf → Option (Int) := gI (fun b0 => gE (some b0))
def ofB30 (y : Int) : List Leaf := [.i y]
theorem toB30_ok : ∀ ls b, toB30 ls = some b → ls = ofB30 b := by
  intro ls b h
  unfold toB30 at h
  obtain ⟨b0, ls1, rfl, h1⟩ := gI_ok h; obtain ⟨rfl, h2⟩ := gE_ok h1
  cases h2; rfl
def run30 {R : Type} : SF R := ⟨pa30, sr30, fun ls K => (gI (fun a0 => gL [.int .i64] (fun a1 => gL [.int .i64] (fun a2 => gI (fun a3 => gI (fun a4 => gI (fun a5 => gI (fun a6 => gI (fun a7 => gI (fun a8 => gI (fun a9 => gI (fun a10 => gI (fun a11 => gI (fun a12 => gI (fun a13 => gI (fun a14 => gI (fun a15 => gI (fun a16 => gI (fun a17 => gI (fun a18 => gI (fun a19 => gE (Option.bind (F30 FUEL a0 a1 a2 a3 a4 a5 a6 a7 a8 a9 a10 a11 a12 a13 a14 a15 a16 a17 a18 a19) fun y => K (ofB30 y))))))))))))))))))))))) ls⟩
def cuts30 : List (List Nat × Cut (Int)) := []
noncomputable def X30 : Px (Int) := ⟨T, Tryd.prog, lkF [(28, run28), (51, run51), (52, run52)], mkCuts 30 cuts30, altN, altN_ok⟩
theorem e30 (n : Nat) (a0 : Int) (a1 : List (Int)) (a2 : List (Int)) (a3 : Int) (a4 : Int) (a5 : Int) (a6 : Int) (a7 : Int) (a8 : Int) (a9 : Int) (a10 : Int) (a11 : Int) (a12 : Int) (a13 : Int) (a14 : Int) (a15 : Int) (a16 : Int) (a17 : Int) (a18 : Int) (a19 : Int) : entF X30 8 30 pa30 (endK sr30 toB30) n [.i a0, .l [.int .i64] a1, .l [.int .i64] a2, .i a3, .i a4, .i a5, .i a6, .i a7, .i a8, .i a9, .i a10, .i a11, .i a12, .i a13, .i a14, .i a15, .i a16, .i a17, .i a18, .i a19] = F30 n a0 a1 a2 a3 a4 a5 a6 a7 a8 a9 a10 a11 a12 a13 a14 a15 a16 a17 a18 a19 := by kernel_rfl
theorem sp30 {n : Nat} (a0 : Int) (a1 : List (Int)) (a2 : List (Int)) (a3 : Int) (a4 : Int) (a5 : Int) (a6 : Int) (a7 : Int) (a8 : Int) (a9 : Int) (a10 : Int) (a11 : Int) (a12 : Int) (a13 : Int) (a14 : Int) (a15 : Int) (a16 : Int) (a17 : Int) (a18 : Int) (a19 : Int) {y : Int} (h : F30 n a0 a1 a2 a3 a4 a5 a6 a7 a8 a9 a10 a11 a12 a13 a14 a15 a16 a17 a18 a19 = some y) : SpecF T Tryd.prog 30 pa30 [.i a0, .l [.int .i64] a1, .l [.int .i64] a2, .i a3, .i a4, .i a5, .i a6, .i a7, .i a8, .i a9, .i a10, .i a11, .i a12, .i a13, .i a14, .i a15, .i a16, .i a17, .i a18, .i a19] sr30 (ofB30 y) :=
  fun_ok (X := X30) tok (sfok_of ⟨ok28, ok51, ok52, trivial⟩) mixed 30 8 cuts30 rfl toB30_ok trivial ((e30 n a0 a1 a2 a3 a4 a5 a6 a7 a8 a9 a10 a11 a12 a13 a14 a15 a16 a17 a18 a19).trans h)
theorem ok30 {R : Type} : SFone T Tryd.prog 30 (run30 : SF R) := by
  intro ls K r h
  simp only [run30] at h
  obtain ⟨a0, ls1, rfl, h1⟩ := gI_ok h; obtain ⟨a1, ls2, rfl, h2⟩ := gL_ok h1; obtain ⟨a2, ls3, rfl, h3⟩ := gL_ok h2; obtain ⟨a3, ls4, rfl, h4⟩ := gI_ok h3; obtain ⟨a4, ls5, rfl, h5⟩ := gI_ok h4; obtain ⟨a5, ls6, rfl, h6⟩ := gI_ok h5; obtain ⟨a6, ls7, rfl, h7⟩ := gI_ok h6; obtain ⟨a7, ls8, rfl, h8⟩ := gI_ok h7; obtain ⟨a8, ls9, rfl, h9⟩ := gI_ok h8; obtain ⟨a9, ls10, rfl, h10⟩ := gI_ok h9; obtain ⟨a10, ls11, rfl, h11⟩ := gI_ok h10; obtain ⟨a11, ls12, rfl, h12⟩ := gI_ok h11; obtain ⟨a12, ls13, rfl, h13⟩ := gI_ok h12; obtain ⟨a13, ls14, rfl, h14⟩ := gI_ok h13; obtain ⟨a14, ls15, rfl, h15⟩ := gI_ok h14; obtain ⟨a15, ls16, rfl, h16⟩ := gI_ok h15; obtain ⟨a16, ls17, rfl, h17⟩ := gI_ok h16; obtain ⟨a17, ls18, rfl, h18⟩ := gI_ok h17; obtain ⟨a18, ls19, rfl, h19⟩ := gI_ok h18; obtain ⟨a19, ls20, rfl, h20⟩ := gI_ok h19; obtain ⟨rfl, h21⟩ := gE_ok h20
  obtain ⟨y, k1, k2⟩ := Option.bind_eq_some_iff.1 h21
  exact ⟨_, k2, sp30 a0 a1 a2 a3 a4 a5 a6 a7 a8 a9 a10 a11 a12 a13 a14 a15 a16 a17 a18 a19 k1⟩

/-! ### garland/arc.In -/
def pa53 : List VP := [.i .i64, .i .i64, .i .i64]
def sr53 : RShape := ⟨.b, [], none⟩
def toB53 : List Leaf → Option (Bool) := gB (fun b0 => gE (some b0))
def ofB53 (y : Bool) : List Leaf := [.b y]
theorem toB53_ok : ∀ ls b, toB53 ls = some b → ls = ofB53 b := by
  intro ls b h
  unfold toB53 at h
  obtain ⟨b0, ls1, rfl, h1⟩ := gB_ok h; obtain ⟨rfl, h2⟩ := gE_ok h1
  cases h2; rfl
def run53 {R : Type} : SF R := ⟨pa53, sr53, fun ls K => (gI (fun a0 => gI (fun a1 => gI (fun a2 => gE (Option.bind (F53 FUEL a0 a1 a2) fun y => K (ofB53 y)))))) ls⟩
def cuts53 : List (List Nat × Cut (Bool)) := []
noncomputable def X53 : Px (Bool) := ⟨T, Tryd.prog, lkF [(57, run57)], mkCuts 53 cuts53, altN, altN_ok⟩
theorem e53 (n : Nat) (a0 : Int) (a1 : Int) (a2 : Int) : entF X53 8 53 pa53 (endK sr53 toB53) n [.i a0, .i a1, .i a2] = F53 n a0 a1 a2 := by kernel_rfl
theorem sp53 {n : Nat} (a0 : Int) (a1 : Int) (a2 : Int) {y : Bool} (h : F53 n a0 a1 a2 = some y) : SpecF T Tryd.prog 53 pa53 [.i a0, .i a1, .i a2] sr53 (ofB53 y) :=
  fun_ok (X := X53) tok (sfok_of ⟨ok57, trivial⟩) mixed 53 8 cuts53 rfl toB53_ok trivial ((e53 n a0 a1 a2).trans h)
theorem ok53 {R : Type} : SFone T Tryd.prog 53 (run53 : SF R) := by
  intro ls K r h
  simp only [run53] at h
  obtain ⟨a0, ls1, rfl, h1⟩ := gI_ok h; obtain ⟨a1, ls2, rfl, h2⟩ := gI_ok h1; obtain ⟨a2, ls3, rfl, h3⟩ := gI_ok h2; obtain ⟨rfl, h4⟩ := gE_ok h3
  obtain ⟨y, k1, k2⟩ := Option.bind_eq_some_iff.1 h4
  exact ⟨_, k2, sp53 a0 a1 a2 k1⟩

/-! ### garland/arc.UpTo -/
def pa31 : List VP := [.i .i64, .i .i64, .i .i64]
def sr31 : RShape := ⟨.b, [], none⟩
def toB31 : List Leaf → Option (Bool) := gB (fun b0 => gE (some b0))
def ofB31 (y : Bool) : List Leaf := [.b y]
theorem toB31_ok : ∀ ls b, toB31 ls = some b → ls = ofB31 b := by
  intro ls b h
  unfold toB31 at h
  obtain ⟨b0, ls1, rfl, h1⟩ := gB_ok h; obtain ⟨rfl, h2⟩ := gE_ok h1
  cases h2; rfl
def run31 {R : Type} : SF R := ⟨pa31, sr31, fun ls K => (gI (fun a0 => gI (fun a1 => gI (fun a2 => gE (Option.bind (F31 FUEL a0 a1 a2) fun y => K (ofB31 y)))))) ls⟩
def cuts31 : List (List Nat × Cut (Bool)) := []
noncomputable def X31 : Px (Bool) := ⟨T, Tryd.prog, lkF [(53, run53), (50, run50)], mkCuts 31 cuts31, altN, altN_ok⟩
theorem e31 (n : Nat) (a0 : Int) (a1 : Int) (a2 : Int) : entF X31 8 31 pa31 (endK sr31 toB31) n [.i a0, .i a1, .i a2] = F31 n a0 a1 a2 := by kernel_rfl
theorem sp31 {n : Nat} (a0 : Int) (a1 : Int) (a2 : Int) {y : Bool} (h : F31 n a0 a1 a2 = some y) : SpecF T Tryd.prog 31 pa31 [.i a0, .i a1, .i a2] sr31 (ofB31 y) :=
  fun_ok (X := X31) tok (sfok_of ⟨ok53, ok50, trivial⟩) mixed 31 8 cuts31 rfl toB31_ok trivial ((e31 n a0 a1 a2).trans h)
theorem ok31 {R : Type} : SFone T Tryd.prog 31 (run31 : SF R) := by
  intro ls K r h
  simp only [run31] at h
  obtain ⟨a0, ls1, rfl, h1⟩ := gI_ok h; obtain ⟨a1, ls2, rfl, h2⟩ := gI_ok h1; obtain ⟨a2, ls3, rfl, h3⟩ := gI_ok h2; obtain ⟨rfl, h4⟩ := gE_ok h3
  obtain ⟨y, k1, k2⟩ := Option.bind_eq_some_iff.1 h4
  exact ⟨_, k2, sp31 a0 a1 a2 k1⟩

/-! ### garland/finger.Once -/
def pa12 : List VP := [.agg [.i .i64, .sl false [.int .i64], .sl false [.int .i64], .i .i64, .i .i64, .i .i64, .i .i64, .i .i64, .i .i64, .i .i64, .i .i64, .i .i64, .i .i64, .i .i64, .i .i64, .i .i64, .i .i64, .i .i64, .i .i64, .i .i64], .i .i64]
def sr12 : RShape := ⟨.tup [.i .i64, .b], [], none⟩
def toB12 : List Leaf → Option (Int × Bool) := gI (fun b0 => gB (fun b1 => gE (some (b0, b1))))
def ofB12 (y : Int × Bool) : List Leaf := [.i y.1, .b y.2]
theorem toB12_ok : ∀ ls b, toB12 ls = some b → ls = ofB12 b := by
  intro ls b h
  unfold toB12 at h
  obtain ⟨b0, ls1, rfl, h1⟩ := gI_ok h; obtain ⟨b1, ls2, rfl, h2⟩ := gB_ok h1; obtain ⟨rfl, h3⟩ := gE_ok h2
  cases h3; rfl
def run12 {R : Type} : SF R := ⟨pa12, sr12, fun ls K => (gI (fun a0 => gL [.int .i64] (fun a1 => gL [.int .i64] (fun a2 => gI (fun a3 => gI (fun a4 => gI (fun a5 => gI (fun a6 => gI (fun a7 => gI (fun a8 => gI (fun a9 => gI (fun a10 => gI (fun a11 => gI (fun a12 => gI (fun a13 => gI (fun a14 => gI (fun a15 => gI (fun a16 => gI (fun a17 => gI (fun a18 => gI (fun a19 => gI (fun a20 => gE (Option.bind (F12 FUEL a0 a1 a2 a3 a4 a5 a6 a7 a8 a9 a10 a11 a12 a13 a14 a15 a16 a17 a18 a19 a20) fun y => K (ofB12 y)))))))))))))))))))))))) ls⟩
def cuts12 : List (List Nat × Cut (Int × Bool)) := []
noncomputable def X12 : Px (Int × Bool) := ⟨T, Tryd.prog, lkF [(10, run10), (30, run30), (31, run31)], mkCuts 12 cuts12, altN, altN_ok⟩
theorem e12 (n : Nat) (a0 : Int) (a1 : List (Int)) (a2 : List (Int)) (a3 : Int) (a4 : Int) (a5 : Int) (a6 : Int) (a7 : Int) (a8 : Int) (a9 : Int) (a10 : Int) (a11 : Int) (a12 : Int) (a13 : Int) (a14 : Int) (a15 : Int) (a16 : Int) (a17 : Int) (a18 : Int) (a19 : Int) (a20 : Int) : entF X12 8 12 pa12 (endK sr12 toB12) n [.i a0, .l [.int .i64] a1, .l [.int .i64] a2, .i a3, .i a4, .i a5, .i a6, .i a7, .i a8, .i a9, .i a10, .i a11, .i a12, .i a13, .i a14, .i a15, .i a16, .i a17, .i a18, .i a19, .i a20] = F12 n a0 a1 a2 a3 a4 a5 a6 a7 a8 a9 a10 a11 a12 a13 a14 a15 a16 a17 a18 a19 a20 := by kernel_rfl
theorem sp12 {n : Nat} (a0 : Int) (a1 : List (Int)) (a2 : List (Int)) (a3 : Int) (a4 : Int) (a5 : Int) (a6 : Int) (a7 : Int) (a8 : Int) (a9 : Int) (a10 : Int) (a11 : Int) (a12 : Int) (a13 : Int) (a14 : Int) (a15 : Int) (a16 : Int) (a17 : Int) (a18 : Int) (a19 : Int) (a20 : Int) {y : Int × Bool} (h : F12 n a0 a1 a2 a3 a4 a5 a6 a7 a8 a9 a10 a11 a12 a13 a14 a15 a16 a17 a18 a19 a20 = some y) : SpecF T Tryd.prog 12 pa12 [.i a0, .l [.int .i64] a1, .l [.int .i64] a2, .i a3, .i a4, .i a5, .i a6, .i a7, .i a8, .i a9, .i a10, .i a11, .i a12, .i a13, .i a14, .i a15, .i a16, .i a17, .i a18, .i a19, .i a20] sr12 (ofB12 y) :=
  fun_ok (X := X12) tok (sfok_of ⟨ok10, ok30, ok31, trivial⟩) mixed 12 8 cuts12 rfl toB12_ok trivial ((e12 n a0 a1 a2 a3 a4 a5 a6 a7 a8 a9 a10 a11 a12 a13 a14 a15 a16 a17 a18 a19 a20).trans h)
theorem ok12 {R : Type} : SFone T Tryd.prog 12 (run12 : SF R) := by
  intro ls K r h
  simp only [run12] at h
  obtain ⟨a0, ls1, rfl, h1⟩ := gI_ok h; obtain ⟨a1, ls2, rfl, h2⟩ := gL_ok h1; obtain ⟨a2, ls3, rfl, h3⟩ := gL_ok h2; obtain ⟨a3, ls4, rfl, h4⟩ := gI_ok h3; obtain ⟨a4, ls5, rfl, h5⟩ := gI_ok h4; obtain ⟨a5, ls6, rfl, h6⟩ := gI_ok h5; obtain ⟨a6, ls7, rfl, h7⟩ := gI_ok h6; obtain ⟨a7, ls8, rfl, h8⟩ := gI_ok h7; obtain ⟨a8, ls9, rfl, h9⟩ := gI_ok h8; obtain ⟨a9, ls10, rfl, h10⟩ := gI_ok h9; obtain ⟨a10, ls11, rfl, h11⟩ := gI_ok h10; obtain ⟨a11, ls12, rfl, h12⟩ := gI_ok h11; obtain ⟨a12, ls13, rfl, h13⟩ := gI_ok h12; obtain ⟨a13, ls14, rfl, h14⟩ := gI_ok h13; obtain ⟨a14, ls15, rfl, h15⟩ := gI_ok h14; obtain ⟨a15, ls16, rfl, h16⟩ := gI_ok h15; obtain ⟨a16, ls17, rfl, h17⟩ := gI_ok h16; obtain ⟨a17, ls18, rfl, h18⟩ := gI_ok h17; obtain ⟨a18, ls19, rfl, h19⟩ := gI_ok h18; obtain ⟨a19, ls20, rfl, h20⟩ := gI_ok h19; obtain ⟨a20, ls21, rfl, h21⟩ := gI_ok h20; obtain ⟨rfl, h22⟩ := gE_ok h21
  obtain ⟨y, k1, k2⟩ := Option.bind_eq_some_iff.1 h22
  exact ⟨_, k2, sp12 a0 a1 a2 a3 a4 a5 a6 a7 a8 a9 a10 a11 a12 a13 a14 a15 a16 a17 a18 a19 a20 k1⟩

/-! ### garland/finger.owned -/
def pa34 : List VP := [.agg [.i .i64, .sl false [.int .i64], .sl false [.int .i64], .i .i64, .i .i64, .i .i64, .i .i64, .i .i64, .i .i64, .i .i64, .i .i64, .i .i64, .i .i64, .i .i64, .i .i64, .i .i64, .i .i64, .i .i64, .i .i64, .i .i64], .i .i64]
def sr34 : RShape := ⟨.i .i64, [], none⟩
def toB34 : List Leaf → Option (Int) := gI (fun b0 => gE (some b0))
def ofB34 (y : Int) : List Leaf := [.i y]
theorem toB34_ok : ∀ ls b, toB34 ls = some b → ls = ofB34 b := by
  intro ls b h
  unfold toB34 at h
  obtain ⟨b0, ls1, rfl, h1⟩ := gI_ok h; obtain ⟨rfl, h2⟩ := gE_ok h1
  cases h2; rfl
def run34 {R : Type} : SF R := ⟨pa34, sr34, fun ls K => (gI (fun a0 => gL [.int .i64] (fun a1 => gL [.int .i64] (fun a2 => gI (fun a3 => gI (fun a4 => gI (fun a5 => gI (fun a6 => gI (fun a7 => gI (fun a8 => gI (fun a9 => gI (fun a10 => gI (fun a11 => gI (fun a12 => gI (fun a13 => gI (fun a14 => gI (fun a15 => gI (fun a16 => gI (fun a17 => gI (fun a18 => gI (fun a19 => gI (fun a20 => gE (Option.bind (F34 FUEL a0 a1 a2 a3 a4 a5 a6 a7 a8 a9 a10 a11 a12 a13 a14 a15 a16 a17 a18 a19 a20) fun y => K (ofB34 y)))))))))))))))))))))))) ls⟩
def cuts34 : List (List Nat × Cut (Int)) := []
noncomputable def X34 : Px (Int) := ⟨T, Tryd.prog, lkF [], mkCuts 34 cuts34, altN, altN_ok⟩
theorem e34 (n : Nat) (a0 : Int) (a1 : List (Int)) (a2 : List (Int)) (a3 : Int) (a4 : Int) (a5 : Int) (a6 : Int) (a7 : Int) (a8 : Int) (a9 : Int) (a10 : Int) (a11 : Int) (a12 : Int) (a13 : Int) (a14 : Int) (a15 : Int) (a16 : Int) (a17 : Int) (a18 : Int) (a19 : Int) (a20 : Int) : entF X34 8 34 pa34 (endK sr34 toB34) n [.i a0, .l [.int .i64] a1, .l [.int .i64] a2, .i a3, .i a4, .i a5, .i a6, .i a7, .i a8, .i a9, .i a10, .i a11, .i a12, .i a13, .i a14, .i a15, .i a16, .i a17, .i a18, .i a19, .i a20] = F34 n a0 a1 a2 a3 a4 a5 a6 a7 a8 a9 a10 a11 a12 a13 a14 a15 a16 a17 a18 a19 a20 := by kernel_rfl
theorem sp34 {n : Nat} (a0 : Int) (a1 : List (Int)) (a2 : List (Int)) (a3 : Int) (a4 : Int) (a5 : Int) (a6 : Int) (a7 : Int) (a8 : Int) (a9 : Int) (a10 : Int) (a11 : Int) (a12 : Int) (a13 : Int) (a14 : Int) (a15 : Int) (a16 : Int) (a17 : Int) (a18 : Int) (a19 : Int) (a20 : Int) {y : Int} (h : F34 n a0 a1 a2 a3 a4 a5 a6 a7 a8 a9 a10 a11 a12 a13 a14 a15 a16 a17 a18 a19 a20 = some y) : SpecF T Tryd.prog 34 pa34 [.i a0, .l [.int .i64] a1, .l [.int .i64] a2, .i a3, .i a4, .i a5, .i a6, .i a7, .i a8, .i a9, .i a10, .i a11, .i a12, .i a13, .i a14, .i a15, .i a16, .i a17, .i a18, .i a19, .i a20] sr34 (ofB34 y) :=
  fun_ok (X := X34) tok (sfok_of trivial) mixed 34 8 cuts34 rfl toB34_ok trivial ((e34 n a0 a1 a2 a3 a4 a5 a6 a7 a8 a9 a10 a11 a12 a13 a14 a15 a16 a17 a18 a19 a20).trans h)
theorem ok34 {R : Type} : SFone T Tryd.prog 34 (run34 : SF R) := by
  intro ls K r h
  simp only [run34] at h
  obtain ⟨a0, ls1, rfl, h1⟩ := gI_ok h; obtain ⟨a1, ls2, rfl, h2⟩ := gL_ok h1; obtain ⟨a2, ls3, rfl, h3⟩ := gL_ok h2; obtain ⟨a3, ls4, rfl, h4⟩ := gI_ok h3; obtain ⟨a4, ls5, rfl, h5⟩ := gI_ok h4; obtain ⟨a5, ls6, rfl, h6⟩ := gI_ok h5; obtain ⟨a6, ls7, rfl, h7⟩ := gI_ok h6; obtain ⟨a7, ls8, rfl, h8⟩ := gI_ok h7; obtain ⟨a8, ls9, rfl, h9⟩ := gI_ok h8; obtain ⟨a9, ls10, rfl, h10⟩ := gI_ok h9; obtain ⟨a10, ls11, rfl, h11⟩ := gI_ok h10; obtain ⟨a11, ls12, rfl, h12⟩ := gI_ok h11; obtain ⟨a12, ls13, rfl, h13⟩ := gI_ok h12; obtain ⟨a13, ls14, rfl, h14⟩ := gI_ok h13; obtain ⟨a14, ls15, rfl, h15⟩ := gI_ok h14; obtain ⟨a15, ls16, rfl, h16⟩ := gI_ok h15; obtain ⟨a16, ls17, rfl, h17⟩ := gI_ok h16; obtain ⟨a17, ls18, rfl, h18⟩ := gI_ok h17; obtain ⟨a18, ls19, rfl, h19⟩ := gI_ok h18; obtain ⟨a19, ls20, rfl, h20⟩ := gI_ok h19; obtain ⟨a20, ls21, rfl, h21⟩ := gI_ok h20; obtain ⟨rfl, h22⟩ := gE_ok h21
  obtain ⟨y, k1, k2⟩ := Option.bind_eq_some_iff.1 h22
  exact ⟨_, k2, sp34 a0 a1 a2 a3 a4 a5 a6 a7 a8 a9 a10 a11 a12 a13 a14 a15 a16 a17 a18 a19 a20 k1⟩

/-! ### garland/finger.with -/
def pa35 : List VP := [.agg [.i .i64, .sl false [.int .i64], .sl false [.int .i64], .i .i64, .i .i64, .i .i64, .i .i64, .i .i64, .i .i64, .i .i64, .i .i64, .i .i64, .i .i64, .i .i64, .i .i64, .i .i64, .i .i64, .i .i64, .i .i64, .i .i64], .agg [.i .i64, .i .i64, .i .i64, .i .i64, .i .i64, .i .i64, .i .i64, .i .i64, .i .i64, .i .i64, .i .i64, .i .i64, .i .i64, .i .i64, .i .i64, .i .i64]]
def sr35 : RShape := ⟨.agg [.i .i64, .row 0, .row 1, .i .i64, .i .i64, .i .i64, .i .i64, .i .i64, .i .i64, .i .i64, .i .i64, .i .i64, .i .i64, .i .i64, .i .i64, .i .i64, .i .i64, .i .i64, .i .i64, .i .i64], [.row true [.int .i64], .row true [.int .i64]], none⟩
def toB35 : List Leaf → Option (Si18l2) := gI (fun b0 => gI (fun b1 => gI (fun b2 => gI (fun b3 => gI (fun b4 => gI (fun b5 => gI (fun b6 => gI (fun b7 => gI (fun b8 => gI (fun b9 => gI (fun b10 => gI (fun b11 => gI (fun b12 => gI (fun b13 => gI (fun b14 => gI (fun b15 => gI (fun b16 => gI (fun b17 => gL [.int .i64] (fun b18 => gL [.int .i64] (fun b19 => gE (some ⟨b0, b1, b2, b3, b4, b5, b6, b7, b8, b9, b10, b11, b12, b13, b14, b15, b16, b17, b18, b19⟩)))))))))))))))))))))
def ofB35 (y : Si18l2) : List Leaf := [.i y.q0, .i y.q1, .i y.q2, .i y.q3, .i y.q4, .i y.q5, .i y.q6, .i y.q7, .i y.q8, .i y.q9, .i y.q10, .i y.q11, .i y.q12, .i y.q13, .i y.q14, .i y.q15, .i y.q16, .i y.q17, .l [.int .i64] y.q18, .l [.int .i64] y.q19]
theorem toB35_ok : ∀ ls b, toB35 ls = some b → ls = ofB35 b := by
  intro ls b h
  unfold toB35 at h
  obtain ⟨b0, ls1, rfl, h1⟩ := gI_ok h; obtain ⟨b1, ls2, rfl, h2⟩ := gI_ok h1; obtain ⟨b2, ls3, rfl, h3⟩ := gI_ok h2; obtain ⟨b3, ls4, rfl, h4⟩ := gI_ok h3; obtain ⟨b4, ls5, rfl, h5⟩ := gI_ok h4; obtain ⟨b5, ls6, rfl, h6⟩ := gI_ok h5; obtain ⟨b6, ls7, rfl, h7⟩ := gI_ok h6; obtain ⟨b7, ls8, rfl, h8⟩ := gI_ok h7; obtain ⟨b8, ls9, rfl, h9⟩ := gI_ok h8; obtain ⟨b9, ls10, rfl, h10⟩ := gI_ok h9; obtain ⟨b10, ls11, rfl, h11⟩ := gI_ok h10; obtain ⟨b11, ls12, rfl, h12⟩ := gI_ok h11; obtain ⟨b12, ls13, rfl, h13⟩ := gI_ok h12; obtain ⟨b13, ls14, rfl, h14⟩ := gI_ok h13; obtain ⟨b14, ls15, rfl, h15⟩ := gI_ok h14; obtain ⟨b15, ls16, rfl, h16⟩ := gI_ok h15; obtain ⟨b16, ls17, rfl, h17⟩ := gI_ok h16; obtain ⟨b17, ls18, rfl, h18⟩ := gI_ok h17; obtain ⟨b18, ls19, rfl, h19⟩ := gL_ok h18; obtain ⟨b19, ls20, rfl, h20⟩ := gL_ok h19; obtain ⟨rfl, h21⟩ := gE_ok h20
  cases h21; rfl
def run35 {R : Type} : SF R := ⟨pa35, sr35, fun ls K => (gI (fun a0 => gL [.int .i64] (fun a1 => gL [.int .i64] (fun a2 => gI (fun a3 => gI (fun a4 => gI (fun a5 => gI (fun a6 => gI (fun a7 => gI (fun a8 => gI (fun a9 => gI (fun a10 => gI (fun a11 => gI (fun a12 => gI (fun a13 => gI (fun a14 => gI (fun a15 => gI (fun a16 => gI (fun a17 => gI (fun a18 => gI (fun a19 => gI (fun a20 => gI (fun a21 => gI (fun a22 => gI (fun a23 => gI (fun a24 => gI (fun a25 => gI (fun a26 => gI (fun a27 => gI (fun a28 => gI (fun a29 => gI (fun a30 => gI (fun a31 => gI (fun a32 => gI (fun a33 => gI (fun a34 => gI (fun a35 => gE (Option.bind (F35 FUEL a0 a1 a2 a3 a4 a5 a6 a7 a8 a9 a10 a11 a12 a13 a14 a15 a16 a17 a18 a19 a20 a21 a22 a23 a24 a25 a26 a27 a28 a29 a30 a31 a32 a33 a34 a35) fun y => K (ofB35 y))))))))))))))))))))))))))))))))))))))) ls⟩
def cuts35 : List (List Nat × Cut (Si18l2)) := []
noncomputable def X35 : Px (Si18l2) := ⟨T, Tryd.prog, lkF [(36, run36)], mkCuts 35 cuts35, altN, altN_ok⟩
theorem e35 (n : Nat) (a0 : Int) (a1 : List (Int)) (a2 : List (Int)) (a3 : Int) (a4 : Int) (a5 : Int) (a6 : Int) (a7 : Int) (a8 : Int) (a9 : Int) (a10 : Int) (a11 : Int) (a12 : Int) (a13 : Int) (a14 : Int) (a15 : Int) (a16 : Int) (a17 : Int) (a18 : Int) (a19 : Int) (a20 : Int) (a21 : Int) (a22 : Int) (a23 : Int) (a24 : Int) (a25 : Int) (a26 : Int) (a27 : Int) (a28 : Int) (a29 : Int) (a30 : Int) (a31 : Int) (a32 : Int) (a33 : Int) (a34 : Int) (a35 : Int) : entF X35 8 35 pa35 (endK sr35 toB35) n [.i a0, .l [.int .i64] a1, .l [.int .i64] a2, .i a3, .i a4, .i a5, .i a6, .i a7, .i a8, .i a9, .i a10, .i a11, .i a12, .i a13, .i a14, .i a15, .i a16, .i a17, .i a18, .i a19, .i a20, .i a21, .i a22, .i a23, .i a24, .i a25, .i a26, .i a27, .i a28, .i a29, .i a30, .i a31, .i a32, .i a33, .i a34, .i a35] = F35 n a0 a1 a2 a3 a4 a5 a6 a7 a8 a9 a10 a11 a12 a13 a14 a15 a16 a17 a18 a19 a20 a21 a22 a23 a24 a25 a26 a27 a28 a29 a30 a31 a32 a33 a34 a35 := by kernel_rfl
theorem sp35 {n : Nat} (a0 : Int) (a1 : List (Int)) (a2 : List (Int)) (a3 : Int) (a4 : Int) (a5 : Int) (a6 : Int) (a7 : Int) (a8 : Int) (a9 : Int) (a10 : Int) (a11 : Int) (a12 : Int) (a13 : Int) (a14 : Int) (a15 : Int) (a16 : Int) (a17 : Int) (a18 : Int) (a19 : Int) (a20 : Int) (a21 : Int) (a22 : Int) (a23 : Int) (a24 : Int) (a25 : Int) (a26 : Int) (a27 : Int) (a28 : Int) (a29 : Int) (a30 : Int) (a31 : Int) (a32 : Int) (a33 : Int) (a34 : Int) (a35 : Int) {y : Si18l2} (h : F35 n a0 a1 a2 a3 a4 a5 a6 a7 a8 a9 a10 a11 a12 a13 a14 a15 a16 a17 a18 a19 a20 a21 a22 a23 a24 a25 a26 a27 a28 a29 a30 a31 a32 a33 a34 a35 = some y) : SpecF T Tryd.prog 35 pa35 [.i a0, .l [.int .i64] a1, .l [.int .i64] a2, .i a3, .i a4, .i a5, .i a6, .i a7, .i a8, .i a9, .i a10, .i a11, .i a12, .i a13, .i a14, .i a15, .i a16, .i a17, .i a18, .i a19, .i a20, .i a21, .i a22, .i a23, .i a24, .i a25, .i a26, .i a27, .i a28, .i a29, .i a30, .i a31, .i a32, .i a33, .i a34, .i a35] sr35 (ofB35 y) :=
  fun_ok (X := X35) tok (sfok_of ⟨ok36, trivial⟩) mixed 35 8 cuts35 rfl toB35_ok trivial ((e35 n a0 a1 a2 a3 a4 a5 a6 a7 a8 a9 a10 a11 a12 a13 a14 a15 a16 a17 a18 a19 a20 a21 a22 a23 a24 a25 a26 a27 a28 a29 a30 a31 a32 a33 a34 a35).trans h)
theorem ok35 {R : Type} : SFone T Tryd.prog 35 (run35 : SF R) := by
  intro ls K r h
  simp only [run35] at h
  obtain ⟨a0, ls1, rfl, h1⟩ := gI_ok h; obtain ⟨a1, ls2, rfl, h2⟩ := gL_ok h1; obtain ⟨a2, ls3, rfl, h3⟩ := gL_ok h2; obtain ⟨a3, ls4, rfl, h4⟩ := gI_ok h3; obtain ⟨a4, ls5, rfl, h5⟩ := gI_ok h4; obtain ⟨a5, ls6, rfl, h6⟩ := gI_ok h5; obtain ⟨a6, ls7, rfl, h7⟩ := gI_ok h6; obtain ⟨a7, ls8, rfl, h8⟩ := gI_ok h7; obtain ⟨a8, ls9, rfl, h9⟩ := gI_ok h8; obtain ⟨a9, ls10, rfl, h10⟩ := gI_ok h9; obtain ⟨a10, ls11, rfl, h11⟩ := gI_ok h10; obtain ⟨a11, ls12, rfl, h12⟩ := gI_ok h11; obtain ⟨a12, ls13, rfl, h13⟩ := gI_ok h12; obtain ⟨a13, ls14, rfl, h14⟩ := gI_ok h13; obtain ⟨a14, ls15, rfl, h15⟩ := gI_ok h14; obtain ⟨a15, ls16, rfl, h16⟩ := gI_ok h15; obtain ⟨a16, ls17, rfl, h17⟩ := gI_ok h16; obtain ⟨a17, ls18, rfl, h18⟩ := gI_ok h17; obtain ⟨a18, ls19, rfl, h19⟩ := gI_ok h18; obtain ⟨a19, ls20, rfl, h20⟩ := gI_ok h19; obtain ⟨a20, ls21, rfl, h21⟩ := gI_ok h20; obtain ⟨a21, ls22, rfl, h22⟩ := gI_ok h21; obtain ⟨a22, ls23, rfl, h23⟩ := gI_ok h22; obtain ⟨a23, ls24, rfl, h24⟩ := gI_ok h23; obtain ⟨a24, ls25, rfl, h25⟩ := gI_ok h24; obtain ⟨a25, ls26, rfl, h26⟩ := gI_ok h25; obtain ⟨a26, ls27, rfl, h27⟩ := gI_ok h26; obtain ⟨a27, ls28, rfl, h28⟩ := gI_ok h27; obtain ⟨a28, ls29, rfl, h29⟩ := gI_ok h28; obtain ⟨a29, ls30, rfl, h30⟩ := gI_ok h29; obtain ⟨a30, ls31, rfl, h31⟩ := gI_ok h30; obtain ⟨a31, ls32, rfl, h32⟩ := gI_ok h31; obtain ⟨a32, ls33, rfl, h33⟩ := gI_ok h32; obtain ⟨a33, ls34, rfl, h34⟩ := gI_ok h33; obtain ⟨a34, ls35, rfl, h35⟩ := gI_ok h34; obtain ⟨a35, ls36, rfl, h36⟩ := gI_ok h35; obtain ⟨rfl, h37⟩ := gE_ok h36
  obtain ⟨y, k1, k2⟩ := Option.bind_eq_some_iff.1 h37
  exact ⟨_, k2, sp35 a0 a1 a2 a3 a4 a5 a6 a7 a8 a9 a10 a11 a12 a13 a14 a15 a16 a17 a18 a19 a20 a21 a22 a23 a24 a25 a26 a27 a28 a29 a30 a31 a32 a33 a34 a35 k1⟩

/-! ### garland/finger.Walk -/
def pa17 : List VP := [.agg [.i .i64, .sl false [.int .i64], .sl false [.int .i64], .i .i64, .i .i64, .i .i64, .i .i64, .i .i64, .i .i64, .i .i64, .i .i64, .i .i64, .i .i64, .i .i64, .i .i64, .i .i64, .i .i64, .i .i64, .i .i64, .i .i64], .i .i64]
def sr17 : RShape := ⟨.tup [.agg [.i .i64, .sl true [.int .i64], .sl true [.int .i64], .i .i64, .i .i64, .i .i64, .i .i64, .i .i64, .i .i64, .i .i64, .i .i64, .i .i64, .i .i64, .i .i64, .i .i64, .i .i64, .i .i64, .i .i64, .i .i64, .i .i64], .i .i64, .i .i64, .b], [], none⟩
def toB17 : List Leaf → Option (Sil2i19b) := gI (fun b0 => gL [.int .i64] (fun b1 => gL [.int .i64] (fun b2 => gI (fun b3 => gI (fun b4 => gI (fun b5 => gI (fun b6 => gI (fun b7 => gI (fun b8 => gI (fun b9 => gI (fun b10 => gI (fun b11 => gI (fun b12 => gI (fun b13 => gI (fun b14 => gI (fun b15 => gI (fun b16 => gI (fun b17 => gI (fun b18 => gI (fun b19 => gI (fun b20 => gI (fun b21 => gB (fun b22 => gE (some ⟨b0, b1, b2, b3, b4, b5, b6, b7, b8, b9, b10, b11, b12, b13, b14, b15, b16, b17, b18, b19, b20, b21, b22⟩))))))))))))))))))))))))
def ofB17 (y : Sil2i19b) : List Leaf := [.i y.q0, .l [.int .i64] y.q1, .l [.int .i64] y.q2, .i y.q3, .i y.q4, .i y.q5, .i y.q6, .i y.q7, .i y.q8, .i y.q9, .i y.q10, .i y.q11, .i y.q12, .i y.q13, .i y.q14, .i y.q15, .i y.q16, .i y.q17, .i y.q18, .i y.q19, .i y.q20, .i y.q21, .b y.q22]
theorem toB17_ok : ∀ ls b, toB17 ls = some b → ls = ofB17 b := by
  intro ls b h
  unfold toB17 at h
  obtain ⟨b0, ls1, rfl, h1⟩ := gI_ok h; obtain ⟨b1, ls2, rfl, h2⟩ := gL_ok h1; obtain ⟨b2, ls3, rfl, h3⟩ := gL_ok h2; obtain ⟨b3, ls4, rfl, h4⟩ := gI_ok h3; obtain ⟨b4, ls5, rfl, h5⟩ := gI_ok h4; obtain ⟨b5, ls6, rfl, h6⟩ := gI_ok h5; obtain ⟨b6, ls7, rfl, h7⟩ := gI_ok h6; obtain ⟨b7, ls8, rfl, h8⟩ := gI_ok h7; obtain ⟨b8, ls9, rfl, h9⟩ := gI_ok h8; obtain ⟨b9, ls10, rfl, h10⟩ := gI_ok h9; obtain ⟨b10, ls11, rfl, h11⟩ := gI_ok h10; obtain ⟨b11, ls12, rfl, h12⟩ := gI_ok h11; obtain ⟨b12, ls13, rfl, h13⟩ := gI_ok h12; obtain ⟨b13, ls14, rfl, h14⟩ := gI_ok h13; obtain ⟨b14, ls15, rfl, h15⟩ := gI_ok h14; obtain ⟨b15, ls16, rfl, h16⟩ := gI_ok h15; obtain ⟨b16, ls17, rfl, h17⟩ := gI_ok h16; obtain ⟨b17, ls18, rfl, h18⟩ := gI_ok h17; obtain ⟨b18, ls19, rfl, h19⟩ := gI_ok h18; obtain ⟨b19, ls20, rfl, h20⟩ := gI_ok h19; obtain ⟨b20, ls21, rfl, h21⟩ := gI_ok h20; obtain ⟨b21, ls22, rfl, h22⟩ := gI_ok h21; obtain ⟨b22, ls23, rfl, h23⟩ := gB_ok h22; obtain ⟨rfl, h24⟩ := gE_ok h23
  cases h24; rfl
def run17 {R : Type} : SF R := ⟨pa17, sr17, fun ls K => (gI (fun a0 => gL [.int .i64] (fun a1 => gL [.int .i64] (fun a2 => gI (fun a3 => gI (fun a4 => gI (fun a5 => gI (fun a6 => gI (fun a7 => gI (fun a8 => gI (fun a9 => gI (fun a10 => gI (fun a11 => gI (fun a12 => gI (fun a13 => gI (fun a14 => gI (fun a15 => gI (fun a16 => gI (fun a17 => gI (fun a18 => gI (fun a19 => gI (fun a20 => gE (Option.bind (F17 FUEL a0 a1 a2 a3 a4 a5 a6 a7 a8 a9 a10 a11 a12 a13 a14 a15 a16 a17 a18 a19 a20) fun y => K (ofB17 y)))))))))))))))))))))))) ls⟩
def sh17_0 : Shape := ⟨[(11, [(0, .yield 9), (1, .ref 0 0)]), (52, [(2, .ref 1 0), (4, .ref 2 0), (5, .ref 3 0), (6, .ref 4 0), (7, .ref 5 0), (8, .ref 6 0)])], [.cells [.i .i64], .cells [.i .i64, .sl false [.int .i64], .sl false [.int .i64], .i .i64, .i .i64, .i .i64, .i .i64, .i .i64, .i .i64, .i .i64, .i .i64, .i .i64, .i .i64, .i .i64, .i .i64, .i .i64, .i .i64, .i .i64, .i .i64, .i .i64], .cells [.i .i64, .nil, .nil, .i .i64, .i .i64, .i .i64, .i .i64, .i .i64, .i .i64, .i .i64, .i .i64, .i .i64, .i .i64, .i .i64, .i .i64, .i .i64, .i .i64, .i .i64, .i .i64, .i .i64], .cells [.i .i64], .cells [.i .i64], .cells [.b], .cells [.i .i64, .i .i64, .i .i64, .i .i64, .i .i64, .i .i64, .i .i64, .i .i64, .i .i64, .i .i64, .i .i64, .i .i64, .i .i64, .i .i64, .i .i64, .i .i64]]⟩
def g17_0 (n : Nat) : List Leaf → Option (Sil2i19b) := gI (fun x0 => gI (fun x1 => gL [.int .i64] (fun x2 => gL [.int .i64] (fun x3 => gI (fun x4 => gI (fun x5 => gI (fun x6 => gI (fun x7 => gI (fun x8 => gI (fun x9 => gI (fun x10 => gI (fun x11 => gI (fun x12 => gI (fun x13 => gI (fun x14 => gI (fun x15 => gI (fun x16 => gI (fun x17 => gI (fun x18 => gI (fun x19 => gI (fun x20 => gI (fun x21 => gI (fun x22 => gI (fun x23 => gI (fun x24 => gI (fun x25 => gI (fun x26 => gI (fun x27 => gI (fun x28 => gI (fun x29 => gI (fun x30 => gI (fun x31 => gI (fun x32 => gI (fun x33 => gI (fun x34 => gI (fun x35 => gI (fun x36 => gI (fun x37 => gI (fun x38 => gI (fun x39 => gI (fun x40 => gB (fun x41 => gI (fun x42 => gI (fun x43 => gI (fun x44 => gI (fun x45 => gI (fun x46 => gI (fun x47 => gI (fun x48 => gI (fun x49 => gI (fun x50 => gI (fun x51 => gI (fun x52 => gI (fun x53 => gI (fun x54 => gI (fun x55 => gI (fun x56 => gI (fun x57 => gE (F17_c0 n x0 x1 x2 x3 x4 x5 x6 x7 x8 x9 x10 x11 x12 x13 x14 x15 x16 x17 x18 x19 x20 x21 x22 x23 x24 x25 x26 x27 x28 x29 x30 x31 x32 x33 x34 x35 x36 x37 x38 x39 x40 x41 x42 x43 x44 x45 x46 x47 x48 x49 x50 x51 x52 x53 x54 x55 x56 x57)))))))))))))))))))))))))))))))))))))))))))))))))))))))))))
def sh17_1 : Shape := ⟨[(52, [(2, .ref 0 0), (4, .ref 1 0), (5, .ref 2 0), (6, .ref 3 0), (7, .ref 4 0), (8, .ref 5 0)])], [.cells [.i .i64, .sl false [.int .i64], .sl false [.int .i64], .i .i64, .i .i64, .i .i64, .i .i64, .i .i64, .i .i64, .i .i64, .i .i64, .i .i64, .i .i64, .i .i64, .i .i64, .i .i64, .i .i64, .i .i64, .i .i64, .i .i64], .cells [.i .i64, .nil, .nil, .i .i64, .i .i64, .i .i64, .i .i64, .i .i64, .i .i64, .i .i64, .i .i64, .i .i64, .i .i64, .i .i64, .i .i64, .i .i64, .i .i64, .i .i64, .i .i64, .i .i64], .cells [.i .i64], .cells [.i .i64], .cells [.b], .cells [.i .i64, .i .i64, .i .i64, .i .i64, .i .i64, .i .i64, .i .i64, .i .i64, .i .i64, .i .i64, .i .i64, .i .i64, .i .i64, .i .i64, .i .i64, .i .i64]]⟩
def g17_1 (n : Nat) : List Leaf → Option (Sil2i19b) := gI (fun x0 => gL [.int .i64] (fun x1 => gL [.int .i64] (fun x2 => gI (fun x3 => gI (fun x4 => gI (fun x5 => gI (fun x6 => gI (fun x7 => gI (fun x8 => gI (fun x9 => gI (fun x10 => gI (fun x11 => gI (fun x12 => gI (fun x13 => gI (fun x14 => gI (fun x15 => gI (fun x16 => gI (fun x17 => gI (fun x18 => gI (fun x19 => gI (fun x20 => gI (fun x21 => gI (fun x22 => gI (fun x23 => gI (fun x24 => gI (fun x25 => gI (fun x26 => gI (fun x27 => gI (fun x28 => gI (fun x29 => gI (fun x30 => gI (fun x31 => gI (fun x32 => gI (fun x33 => gI (fun x34 => gI (fun x35 => gI (fun x36 => gI (fun x37 => gI (fun x38 => gI (fun x39 => gB (fun x40 => gI (fun x41 => gI (fun x42 => gI (fun x43 => gI (fun x44 => gI (fun x45 => gI (fun x46 => gI (fun x47 => gI (fun x48 => gI (fun x49 => gI (fun x50 => gI (fun x51 => gI (fun x52 => gI (fun x53 => gI (fun x54 => gI (fun x55 => gI (fun x56 => gE (F17_c1 n x0 x1 x2 x3 x4 x5 x6 x7 x8 x9 x10 x11 x12 x13 x14 x15 x16 x17 x18 x19 x20 x21 x22 x23 x24 x25 x26 x27 x28 x29 x30 x31 x32 x33 x34 x35 x36 x37 x38 x39 x40 x41 x42 x43 x44 x45 x46 x47 x48 x49 x50 x51 x52 x53 x54 x55 x56))))))))))))))))))))))))))))))))))))))))))))))))))))))))))
def cuts17 : List (List Nat × Cut (Sil2i19b)) := [([1, 0, 1, 1, 1, 0, 1, 0, 112, 0], ⟨sh17_0, g17_0⟩), ([1, 10], ⟨sh17_1, g17_1⟩)]
noncomputable def X17 : Px (Sil2i19b) := ⟨T, Tryd.prog, lkF [(28, run28), (36, run36), (12, run12), (29, run29), (34, run34), (35, run35)], mkCuts 17 cuts17, altN, altN_ok⟩
theorem e17_0 (n : Nat) (x0 : Int) (x1 : Int) (x2 : List (Int)) (x3 : List (Int)) (x4 : Int) (x5 : Int) (x6 : Int) (x7 : Int) (x8 : Int) (x9 : Int) (x10 : Int) (x11 : Int) (x12 : Int) (x13 : Int) (x14 : Int) (x15 : Int) (x16 : Int) (x17 : Int) (x18 : Int) (x19 : Int) (x20 : Int) (x21 : Int) (x22 : Int) (x23 : Int) (x24 : Int) (x25 : Int) (x26 : Int) (x27 : Int) (x28 : Int) (x29 : Int) (x30 : Int) (x31 : Int) (x32 : Int) (x33 : Int) (x34 : Int) (x35 : Int) (x36 : Int) (x37 : Int) (x38 : Int) (x39 : Int) (x40 : Int) (x41 : Bool) (x42 : Int) (x43 : Int) (x44 : Int) (x45 : Int) (x46 : Int) (x47 : Int) (x48 : Int) (x49 : Int) (x50 : Int) (x51 : Int) (x52 : Int) (x53 : Int) (x54 : Int) (x55 : Int) (x56 : Int) (x57 : Int) : stepF X17 8 17 (endK sr17 toB17) [1, 0, 1, 1, 1, 0, 1, 0, 112, 0] sh17_0 n [.i x0, .i x1, .l [.int .i64] x2, .l [.int .i64] x3, .i x4, .i x5, .i x6, .i x7, .i x8, .i x9, .i x10, .i x11, .i x12, .i x13, .i x14, .i x15, .i x16, .i x17, .i x18, .i x19, .i x20, .i x21, .i x22, .i x23, .i x24, .i x25, .i x26, .i x27, .i x28, .i x29, .i x30, .i x31, .i x32, .i x33, .i x34, .i x35, .i x36, .i x37, .i x38, .i x39, .i x40, .b x41, .i x42, .i x43, .i x44, .i x45, .i x46, .i x47, .i x48, .i x49, .i x50, .i x51, .i x52, .i x53, .i x54, .i x55, .i x56, .i x57] = F17_c0 (n + 1) x0 x1 x2 x3 x4 x5 x6 x7 x8 x9 x10 x11 x12 x13 x14 x15 x16 x17 x18 x19 x20 x21 x22 x23 x24 x25 x26 x27 x28 x29 x30 x31 x32 x33 x34 x35 x36 x37 x38 x39 x40 x41 x42 x43 x44 x45 x46 x47 x48 x49 x50 x51 x52 x53 x54 x55 x56 x57 := by kernel_rfl
theorem e17_1 (n : Nat) (x0 : Int) (x1 : List (Int)) (x2 : List (Int)) (x3 : Int) (x4 : Int) (x5 : Int) (x6 : Int) (x7 : Int) (x8 : Int) (x9 : Int) (x10 : Int) (x11 : Int) (x12 : Int) (x13 : Int) (x14 : Int) (x15 : Int) (x16 : Int) (x17 : Int) (x18 : Int) (x19 : Int) (x20 : Int) (x21 : Int) (x22 : Int) (x23 : Int) (x24 : Int) (x25 : Int) (x26 : Int) (x27 : Int) (x28 : Int) (x29 : Int) (x30 : Int) (x31 : Int) (x32 : Int) (x33 : Int) (x34 : Int) (x35 : Int) (x36 : Int) (x37 : Int) (x38 : Int) (x39 : Int) (x40 : Bool) (x41 : Int) (x42 : Int) (x43 : Int) (x44 : Int) (x45 : Int) (x46 : Int) (x47 : Int) (x48 : Int) (x49 : Int) (x50 : Int) (x51 : Int) (x52 : Int) (x53 : Int) (x54 : Int) (x55 : Int) (x56 : Int) : stepF X17 8 17 (endK sr17 toB17) [1, 10] sh17_1 n [.i x0, .l [.int .i64] x1, .l [.int .i64] x2, .i x3, .i x4, .i x5, .i x6, .i x7, .i x8, .i x9, .i x10, .i x11, .i x12, .i x13, .i x14, .i x15, .i x16, .i x17, .i x18, .i x19, .i x20, .i x21, .i x22, .i x23, .i x24, .i x25, .i x26, .i x27, .i x28, .i x29, .i x30, .i x31, .i x32, .i x33, .i x34, .i x35, .i x36, .i x37, .i x38, .i x39, .b x40, .i x41, .i x42, .i x43, .i x44, .i x45, .i x46, .i x47, .i x48, .i x49, .i x50, .i x51, .i x52, .i x53, .i x54, .i x55, .i x56] = F17_c1 (n + 1) x0 x1 x2 x3 x4 x5 x6 x7 x8 x9 x10 x11 x12 x13 x14 x15 x16 x17 x18 x19 x20 x21 x22 x23 x24 x25 x26 x27 x28 x29 x30 x31 x32 x33 x34 x35 x36 x37 x38 x39 x40 x41 x42 x43 x44 x45 x46 x47 x48 x49 x50 x51 x52 x53 x54 x55 x56 := by kernel_rfl
theorem e17 (n : Nat) (a0 : Int) (a1 : List (Int)) (a2 : List (Int)) (a3 : Int) (a4 : Int) (a5 : Int) (a6 : Int) (a7 : Int) (a8 : Int) (a9 : Int) (a10 : Int) (a11 : Int) (a12 : Int) (a13 : Int) (a14 : Int) (a15 : Int) (a16 : Int) (a17 : Int) (a18 : Int) (a19 : Int) (a20 : Int) : entF X17 8 17 pa17 (endK sr17 toB17) n [.i a0, .l [.int .i64] a1, .l [.int .i64] a2, .i a3, .i a4, .i a5, .i a6, .i a7, .i a8, .i a9, .i a10, .i a11, .i a12, .i a13, .i a14, .i a15, .i a16, .i a17, .i a18, .i a19, .i a20] = F17 n a0 a1 a2 a3 a4 a5 a6 a7 a8 a9 a10 a11 a12 a13 a14 a15 a16 a17 a18 a19 a20 := by kernel_rfl
theorem c17_0 : CutOK X17 8 17 (endK sr17 toB17) [1, 0, 1, 1, 1, 0, 1, 0, 112, 0] ⟨sh17_0, g17_0⟩ := by
  refine ⟨fun ls => ?_, fun n ls r h => ?_⟩
  · cases h : g17_0 0 ls with
    | none => exact h
    | some r =>
      unfold g17_0 at h; obtain ⟨x0, ls1, rfl, h1⟩ := gI_ok h; obtain ⟨x1, ls2, rfl, h2⟩ := gI_ok h1; obtain ⟨x2, ls3, rfl, h3⟩ := gL_ok h2; obtain ⟨x3, ls4, rfl, h4⟩ := gL_ok h3; obtain ⟨x4, ls5, rfl, h5⟩ := gI_ok h4; obtain ⟨x5, ls6, rfl, h6⟩ := gI_ok h5; obtain ⟨x6, ls7, rfl, h7⟩ := gI_ok h6; obtain ⟨x7, ls8, rfl, h8⟩ := gI_ok h7; obtain ⟨x8, ls9, rfl, h9⟩ := gI_ok h8; obtain ⟨x9, ls10, rfl, h10⟩ := gI_ok h9; obtain ⟨x10, ls11, rfl, h11⟩ := gI_ok h10; obtain ⟨x11, ls12, rfl, h12⟩ := gI_ok h11; obtain ⟨x12, ls13, rfl, h13⟩ := gI_ok h12; obtain ⟨x13, ls14, rfl, h14⟩ := gI_ok h13; obtain ⟨x14, ls15, rfl, h15⟩ := gI_ok h14; obtain ⟨x15, ls16, rfl, h16⟩ := gI_ok h15; obtain ⟨x16, ls17, rfl, h17⟩ := gI_ok h16; obtain ⟨x17, ls18, rfl, h18⟩ := gI_ok h17; obtain ⟨x18, ls19, rfl, h19⟩ := gI_ok h18; obtain ⟨x19, ls20, rfl, h20⟩ := gI_ok h19; obtain ⟨x20, ls21, rfl, h21⟩ := gI_ok h20; obtain ⟨x21, ls22, rfl, h22⟩ := gI_ok h21; obtain ⟨x22, ls23, rfl, h23⟩ := gI_ok h22; obtain ⟨x23, ls24, rfl, h24⟩ := gI_ok h23; obtain ⟨x24, ls25, rfl, h25⟩ := gI_ok h24; obtain ⟨x25, ls26, rfl, h26⟩ := gI_ok h25; obtain ⟨x26, ls27, rfl, h27⟩ := gI_ok h26; obtain ⟨x27, ls28, rfl, h28⟩ := gI_ok h27; obtain ⟨x28, ls29, rfl, h29⟩ := gI_ok h28; obtain ⟨x29, ls30, rfl, h30⟩ := gI_ok h29; obtain ⟨x30, ls31, rfl, h31⟩ := gI_ok h30; obtain ⟨x31, ls32, rfl, h32⟩ := gI_ok h31; obtain ⟨x32, ls33, rfl, h33⟩ := gI_ok h32; obtain ⟨x33, ls34, rfl, h34⟩ := gI_ok h33; obtain ⟨x34, ls35, rfl, h35⟩ := gI_ok h34; obtain ⟨x35, ls36, rfl, h36⟩ := gI_ok h35; obtain ⟨x36, ls37, rfl, h37⟩ := gI_ok h36; obtain ⟨x37, ls38, rfl, h38⟩ := gI_ok h37; obtain ⟨x38, ls39, rfl, h39⟩ := gI_ok h38; obtain ⟨x39, ls40, rfl, h40⟩ := gI_ok h39; obtain ⟨x40, ls41, rfl, h41⟩ := gI_ok h40; obtain ⟨x41, ls42, rfl, h42⟩ := gB_ok h41; obtain ⟨x42, ls43, rfl, h43⟩ := gI_ok h42; obtain ⟨x43, ls44, rfl, h44⟩ := gI_ok h43; obtain ⟨x44, ls45, rfl, h45⟩ := gI_ok h44; obtain ⟨x45, ls46, rfl, h46⟩ := gI_ok h45; obtain ⟨x46, ls47, rfl, h47⟩ := gI_ok h46; obtain ⟨x47, ls48, rfl, h48⟩ := gI_ok h47; obtain ⟨x48, ls49, rfl, h49⟩ := gI_ok h48; obtain ⟨x49, ls50, rfl, h50⟩ := gI_ok h49; obtain ⟨x50, ls51, rfl, h51⟩ := gI_ok h50; obtain ⟨x51, ls52, rfl, h52⟩ := gI_ok h51; obtain ⟨x52, ls53, rfl, h53⟩ := gI_ok h52; obtain ⟨x53, ls54, rfl, h54⟩ := gI_ok h53; obtain ⟨x54, ls55, rfl, h55⟩ := gI_ok h54; obtain ⟨x55, ls56, rfl, h56⟩ := gI_ok h55; obtain ⟨x56, ls57, rfl, h57⟩ := gI_ok h56; obtain ⟨x57, ls58, rfl, h58⟩ := gI_ok h57; obtain ⟨rfl, h59⟩ := gE_ok h58; simp only [F17_c0] at h59; cases h59
  · replace h : g17_0 (n + 1) ls = some r := h
    unfold g17_0 at h
    obtain ⟨x0, ls1, rfl, h1⟩ := gI_ok h; obtain ⟨x1, ls2, rfl, h2⟩ := gI_ok h1; obtain ⟨x2, ls3, rfl, h3⟩ := gL_ok h2; obtain ⟨x3, ls4, rfl, h4⟩ := gL_ok h3; obtain ⟨x4, ls5, rfl, h5⟩ := gI_ok h4; obtain ⟨x5, ls6, rfl, h6⟩ := gI_ok h5; obtain ⟨x6, ls7, rfl, h7⟩ := gI_ok h6; obtain ⟨x7, ls8, rfl, h8⟩ := gI_ok h7; obtain ⟨x8, ls9, rfl, h9⟩ := gI_ok h8; obtain ⟨x9, ls10, rfl, h10⟩ := gI_ok h9; obtain ⟨x10, ls11, rfl, h11⟩ := gI_ok h10; obtain ⟨x11, ls12, rfl, h12⟩ := gI_ok h11; obtain ⟨x12, ls13, rfl, h13⟩ := gI_ok h12; obtain ⟨x13, ls14, rfl, h14⟩ := gI_ok h13; obtain ⟨x14, ls15, rfl, h15⟩ := gI_ok h14; obtain ⟨x15, ls16, rfl, h16⟩ := gI_ok h15; obtain ⟨x16, ls17, rfl, h17⟩ := gI_ok h16; obtain ⟨x17, ls18, rfl, h18⟩ := gI_ok h17; obtain ⟨x18, ls19, rfl, h19⟩ := gI_ok h18; obtain ⟨x19, ls20, rfl, h20⟩ := gI_ok h19; obtain ⟨x20, ls21, rfl, h21⟩ := gI_ok h20; obtain ⟨x21, ls22, rfl, h22⟩ := gI_ok h21; obtain ⟨x22, ls23, rfl, h23⟩ := gI_ok h22; obtain ⟨x23, ls24, rfl, h24⟩ := gI_ok h23; obtain ⟨x24, ls25, rfl, h25⟩ := gI_ok h24; obtain ⟨x25, ls26, rfl, h26⟩ := gI_ok h25; obtain ⟨x26, ls27, rfl, h27⟩ := gI_ok h26; obtain ⟨x27, ls28, rfl, h28⟩ := gI_ok h27; obtain ⟨x28, ls29, rfl, h29⟩ := gI_ok h28; obtain ⟨x29, ls30, rfl, h30⟩ := gI_ok h29; obtain ⟨x30, ls31, rfl, h31⟩ := gI_ok h30; obtain ⟨x31, ls32, rfl, h32⟩ := gI_ok h31; obtain ⟨x32, ls33, rfl, h33⟩ := gI_ok h32; obtain ⟨x33, ls34, rfl, h34⟩ := gI_ok h33; obtain ⟨x34, ls35, rfl, h35⟩ := gI_ok h34; obtain ⟨x35, ls36, rfl, h36⟩ := gI_ok h35; obtain ⟨x36, ls37, rfl, h37⟩ := gI_ok h36; obtain ⟨x37, ls38, rfl, h38⟩ := gI_ok h37; obtain ⟨x38, ls39, rfl, h39⟩ := gI_ok h38; obtain ⟨x39, ls40, rfl, h40⟩ := gI_ok h39; obtain ⟨x40, ls41, rfl, h41⟩ := gI_ok h40; obtain ⟨x41, ls42, rfl, h42⟩ := gB_ok h41; obtain ⟨x42, ls43, rfl, h43⟩ := gI_ok h42; obtain ⟨x43, ls44, rfl, h44⟩ := gI_ok h43; obtain ⟨x44, ls45, rfl, h45⟩ := gI_ok h44; obtain ⟨x45, ls46, rfl, h46⟩ := gI_ok h45; obtain ⟨x46, ls47, rfl, h47⟩ := gI_ok h46; obtain ⟨x47, ls48, rfl, h48⟩ := gI_ok h47; obtain ⟨x48, ls49, rfl, h49⟩ := gI_ok h48; obtain ⟨x49, ls50, rfl, h50⟩ := gI_ok h49; obtain ⟨x50, ls51, rfl, h51⟩ := gI_ok h50; obtain ⟨x51, ls52, rfl, h52⟩ := gI_ok h51; obtain ⟨x52, ls53, rfl, h53⟩ := gI_ok h52; obtain ⟨x53, ls54, rfl, h54⟩ := gI_ok h53; obtain ⟨x54, ls55, rfl, h55⟩ := gI_ok h54; obtain ⟨x55, ls56, rfl, h56⟩ := gI_ok h55; obtain ⟨x56, ls57, rfl, h57⟩ := gI_ok h56; obtain ⟨x57, ls58, rfl, h58⟩ := gI_ok h57; obtain ⟨rfl, h59⟩ := gE_ok h58
    exact (e17_0 n x0 x1 x2 x3 x4 x5 x6 x7 x8 x9 x10 x11 x12 x13 x14 x15 x16 x17 x18 x19 x20 x21 x22 x23 x24 x25 x26 x27 x28 x29 x30 x31 x32 x33 x34 x35 x36 x37 x38 x39 x40 x41 x42 x43 x44 x45 x46 x47 x48 x49 x50 x51 x52 x53 x54 x55 x56 x57).trans h59
theorem c17_1 : CutOK X17 8 17 (endK sr17 toB17) [1, 10] ⟨sh17_1, g17_1⟩ := by
  refine ⟨fun ls => ?_, fun n ls r h => ?_⟩
  · cases h : g17_1 0 ls with
    | none => exact h
    | some r =>
      unfold g17_1 at h; obtain ⟨x0, ls1, rfl, h1⟩ := gI_ok h; obtain ⟨x1, ls2, rfl, h2⟩ := gL_ok h1; obtain ⟨x2, ls3, rfl, h3⟩ := gL_ok h2; obtain ⟨x3, ls4, rfl, h4⟩ := gI_ok h3; obtain ⟨x4, ls5, rfl, h5⟩ := gI_ok h4; obtain ⟨x5, ls6, rfl, h6⟩ := gI_ok h5; obtain ⟨x6, ls7, rfl, h7⟩ := gI_ok h6; obtain ⟨x7, ls8, rfl, h8⟩ := gI_ok h7; obtain ⟨x8, ls9, rfl, h9⟩ := gI_ok h8; obtain ⟨x9, ls10, rfl, h10⟩ := gI_ok h9; obtain ⟨x10, ls11, rfl, h11⟩ := gI_ok h10; obtain ⟨x11, ls12, rfl, h12⟩ := gI_ok h11; obtain ⟨x12, ls13, rfl, h13⟩ := gI_ok h12; obtain ⟨x13, ls14, rfl, h14⟩ := gI_ok h13; obtain ⟨x14, ls15, rfl, h15⟩ := gI_ok h14; obtain ⟨x15, ls16, rfl, h16⟩ := gI_ok h15; obtain ⟨x16, ls17, rfl, h17⟩ := gI_ok h16; obtain ⟨x17, ls18, rfl, h18⟩ := gI_ok h17; obtain ⟨x18, ls19, rfl, h19⟩ := gI_ok h18; obtain ⟨x19, ls20, rfl, h20⟩ := gI_ok h19; obtain ⟨x20, ls21, rfl, h21⟩ := gI_ok h20; obtain ⟨x21, ls22, rfl, h22⟩ := gI_ok h21; obtain ⟨x22, ls23, rfl, h23⟩ := gI_ok h22; obtain ⟨x23, ls24, rfl, h24⟩ := gI_ok h23; obtain ⟨x24, ls25, rfl, h25⟩ := gI_ok h24; obtain ⟨x25, ls26, rfl, h26⟩ := gI_ok h25; obtain ⟨x26, ls27, rfl, h27⟩ := gI_ok h26; obtain ⟨x27, ls28, rfl, h28⟩ := gI_ok h27; obtain ⟨x28, ls29, rfl, h29⟩ := gI_ok h28; obtain ⟨x29, ls30, rfl, h30⟩ := gI_ok h29; obtain ⟨x30, ls31, rfl, h31⟩ := gI_ok h30; obtain ⟨x31, ls32, rfl, h32⟩ := gI_ok h31; obtain ⟨x32, ls33, rfl, h33⟩ := gI_ok h32; obtain ⟨x33, ls34, rfl, h34⟩ := gI_ok h33; obtain ⟨x34, ls35, rfl, h35⟩ := gI_ok h34; obtain ⟨x35, ls36, rfl, h36⟩ := gI_ok h35; obtain ⟨x36, ls37, rfl, h37⟩ := gI_ok h36; obtain ⟨x37, ls38, rfl, h38⟩ := gI_ok h37; obtain ⟨x38, ls39, rfl, h39⟩ := gI_ok h38; obtain ⟨x39, ls40, rfl, h40⟩ := gI_ok h39; obtain ⟨x40, ls41, rfl, h41⟩ := gB_ok h40; obtain ⟨x41, ls42, rfl, h42⟩ := gI_ok h41; obtain ⟨x42, ls43, rfl, h43⟩ := gI_ok h42; obtain ⟨x43, ls44, rfl, h44⟩ := gI_ok h43; obtain ⟨x44, ls45, rfl, h45⟩ := gI_ok h44; obtain ⟨x45, ls46, rfl, h46⟩ := gI_ok h45; obtain ⟨x46, ls47, rfl, h47⟩ := gI_ok h46; obtain ⟨x47, ls48, rfl, h48⟩ := gI_ok h47; obtain ⟨x48, ls49, rfl, h49⟩ := gI_ok h48; obtain ⟨x49, ls50, rfl, h50⟩ := gI_ok h49; obtain ⟨x50, ls51, rfl, h51⟩ := gI_ok h50; obtain ⟨x51, ls52, rfl, h52⟩ := gI_ok h51; obtain ⟨x52, ls53, rfl, h53⟩ := gI_ok h52; obtain ⟨x53, ls54, rfl, h54⟩ := gI_ok h53; obtain ⟨x54, ls55, rfl, h55⟩ := gI_ok h54; obtain ⟨x55, ls56, rfl, h56⟩ := gI_ok h55; obtain ⟨x56, ls57, rfl, h57⟩ := gI_ok h56; obtain ⟨rfl, h58⟩ := gE_ok h57; simp only [F17_c1] at h58; cases h58
  · replace h : g17_1 (n + 1) ls = some r := h
    unfold g17_1 at h
    obtain ⟨x0, ls1, rfl, h1⟩ := gI_ok h; obtain ⟨x1, ls2, rfl, h2⟩ := gL_ok h1; obtain ⟨x2, ls3, rfl, h3⟩ := gL_ok h2; obtain ⟨x3, ls4, rfl, h4⟩ := gI_ok h3; obtain ⟨x4, ls5, rfl, h5⟩ := gI_ok h4; obtain ⟨x5, ls6, rfl, h6⟩ := gI_ok h5; obtain ⟨x6, ls7, rfl, h7⟩ := gI_ok h6; obtain ⟨x7, ls8, rfl, h8⟩ := gI_ok h7; obtain ⟨x8, ls9, rfl, h9⟩ := gI_ok h8; obtain ⟨x9, ls10, rfl, h10⟩ := gI_ok h9; obtain ⟨x10, ls11, rfl, h11⟩ := gI_ok h10; obtain ⟨x11, ls12, rfl, h12⟩ := gI_ok h11; obtain ⟨x12, ls13, rfl, h13⟩ := gI_ok h12; obtain ⟨x13, ls14, rfl, h14⟩ := gI_ok h13; obtain ⟨x14, ls15, rfl, h15⟩ := gI_ok h14; obtain ⟨x15, ls16, rfl, h16⟩ := gI_ok h15; obtain ⟨x16, ls17, rfl, h17⟩ := gI_ok h16; obtain ⟨x17, ls18, rfl, h18⟩ := gI_ok h17; obtain ⟨x18, ls19, rfl, h19⟩ := gI_ok h18; obtain ⟨x19, ls20, rfl, h20⟩ := gI_ok h19; obtain ⟨x20, ls21, rfl, h21⟩ := gI_ok h20; obtain ⟨x21, ls22, rfl, h22⟩ := gI_ok h21; obtain ⟨x22, ls23, rfl, h23⟩ := gI_ok h22; obtain ⟨x23, ls24, rfl, h24⟩ := gI_ok h23; obtain ⟨x24, ls25, rfl, h25⟩ := gI_ok h24; obtain ⟨x25, ls26, rfl, h26⟩ := gI_ok h25; obtain ⟨x26, ls27, rfl, h27⟩ := gI_ok h26; obtain ⟨x27, ls28, rfl, h28⟩ := gI_ok h27; obtain ⟨x28, ls29, rfl, h29⟩ := gI_ok h28; obtain ⟨x29, ls30, rfl, h30⟩ := gI_ok h29; obtain ⟨x30, ls31, rfl, h31⟩ := gI_ok h30; obtain ⟨x31, ls32, rfl, h32⟩ := gI_ok h31; obtain ⟨x32, ls33, rfl, h33⟩ := gI_ok h32; obtain ⟨x33, ls34, rfl, h34⟩ := gI_ok h33; obtain ⟨x34, ls35, rfl, h35⟩ := gI_ok h34; obtain ⟨x35, ls36, rfl, h36⟩ := gI_ok h35; obtain ⟨x36, ls37, rfl, h37⟩ := gI_ok h36; obtain ⟨x37, ls38, rfl, h38⟩ := gI_ok h37; obtain ⟨x38, ls39, rfl, h39⟩ := gI_ok h38; obtain ⟨x39, ls40, rfl, h40⟩ := gI_ok h39; obtain ⟨x40, ls41, rfl, h41⟩ := gB_ok h40; obtain ⟨x41, ls42, rfl, h42⟩ := gI_ok h41; obtain ⟨x42, ls43, rfl, h43⟩ := gI_ok h42; obtain ⟨x43, ls44, rfl, h44⟩ := gI_ok h43; obtain ⟨x44, ls45, rfl, h45⟩ := gI_ok h44; obtain ⟨x45, ls46, rfl, h46⟩ := gI_ok h45; obtain ⟨x46, ls47, rfl, h47⟩ := gI_ok h46; obtain ⟨x47, ls48, rfl, h48⟩ := gI_ok h47; obtain ⟨x48, ls49, rfl, h49⟩ := gI_ok h48; obtain ⟨x49, ls50, rfl, h50⟩ := gI_ok h49; obtain ⟨x50, ls51, rfl, h51⟩ := gI_ok h50; obtain ⟨x51, ls52, rfl, h52⟩ := gI_ok h51; obtain ⟨x52, ls53, rfl, h53⟩ := gI_ok h52; obtain ⟨x53, ls54, rfl, h54⟩ := gI_ok h53; obtain ⟨x54, ls55, rfl, h55⟩ := gI_ok h54; obtain ⟨x55, ls56, rfl, h56⟩ := gI_ok h55; obtain ⟨x56, ls57, rfl, h57⟩ := gI_ok h56; obtain ⟨rfl, h58⟩ := gE_ok h57
    exact (e17_1 n x0 x1 x2 x3 x4 x5 x6 x7 x8 x9 x10 x11 x12 x13 x14 x15 x16 x17 x18 x19 x20 x21 x22 x23 x24 x25 x26 x27 x28 x29 x30 x31 x32 x33 x34 x35 x36 x37 x38 x39 x40 x41 x42 x43 x44 x45 x46 x47 x48 x49 x50 x51 x52 x53 x54 x55 x56).trans h58
theorem sp17 {n : Nat} (a0 : Int) (a1 : List (Int)) (a2 : List (Int)) (a3 : Int) (a4 : Int) (a5 : Int) (a6 : Int) (a7 : Int) (a8 : Int) (a9 : Int) (a10 : Int) (a11 : Int) (a12 : Int) (a13 : Int) (a14 : Int) (a15 : Int) (a16 : Int) (a17 : Int) (a18 : Int) (a19 : Int) (a20 : Int) {y : Sil2i19b} (h : F17 n a0 a1 a2 a3 a4 a5 a6 a7 a8 a9 a10 a11 a12 a13 a14 a15 a16 a17 a18 a19 a20 = some y) : SpecF T Tryd.prog 17 pa17 [.i a0, .l [.int .i64] a1, .l [.int .i64] a2, .i a3, .i a4, .i a5, .i a6, .i a7, .i a8, .i a9, .i a10, .i a11, .i a12, .i a13, .i a14, .i a15, .i a16, .i a17, .i a18, .i a19, .i a20] sr17 (ofB17 y) :=
  fun_ok (X := X17) tok (sfok_of ⟨ok28, ok36, ok12, ok29, ok34, ok35, trivial⟩) mixed 17 8 cuts17 rfl toB17_ok ⟨c17_0, c17_1, trivial⟩ ((e17 n a0 a1 a2 a3 a4 a5 a6 a7 a8 a9 a10 a11 a12 a13 a14 a15 a16 a17 a18 a19 a20).trans h)
theorem ok17 {R : Type} : SFone T Tryd.prog 17 (run17 : SF R) := by
  intro ls K r h
  simp only [run17] at h
  obtain ⟨a0, ls1, rfl, h1⟩ := gI_ok h; obtain ⟨a1, ls2, rfl, h2⟩ := gL_ok h1; obtain ⟨a2, ls3, rfl, h3⟩ := gL_ok h2; obtain ⟨a3, ls4, rfl, h4⟩ := gI_ok h3; obtain ⟨a4, ls5, rfl, h5⟩ := gI_ok h4; obtain ⟨a5, ls6, rfl, h6⟩ := gI_ok h5; obtain ⟨a6, ls7, rfl, h7⟩ := gI_ok h6; obtain ⟨a7, ls8, rfl, h8⟩ := gI_ok h7; obtain ⟨a8, ls9, rfl, h9⟩ := gI_ok h8; obtain ⟨a9, ls10, rfl, h10⟩ := gI_ok h9; obtain ⟨a10, ls11, rfl, h11⟩ := gI_ok h10; obtain ⟨a11, ls12, rfl, h12⟩ := gI_ok h11; obtain ⟨a12, ls13, rfl, h13⟩ := gI_ok h12; obtain ⟨a13, ls14, rfl, h14⟩ := gI_ok h13; obtain ⟨a14, ls15, rfl, h15⟩ := gI_ok h14; obtain ⟨a15, ls16, rfl, h16⟩ := gI_ok h15; obtain ⟨a16, ls17, rfl, h17⟩ := gI_ok h16; obtain ⟨a17, ls18, rfl, h18⟩ := gI_ok h17; obtain ⟨a18, ls19, rfl, h19⟩ := gI_ok h18; obtain ⟨a19, ls20, rfl, h20⟩ := gI_ok h19; obtain ⟨a20, ls21, rfl, h21⟩ := gI_ok h20; obtain ⟨rfl, h22⟩ := gE_ok h21
  obtain ⟨y, k1, k2⟩ := Option.bind_eq_some_iff.1 h22
  exact ⟨_, k2, sp17 a0 a1 a2 a3 a4 a5 a6 a7 a8 a9 a10 a11 a12 a13 a14 a15 a16 a17 a18 a19 a20 k1⟩

/-! ### garland/finger.isPlace -/
def pa33 : List VP := [.i .i64]
def sr33 : RShape := ⟨.b, [], none⟩
def toB33 : List Leaf → Option (Bool) := gB (fun b0 => gE (some b0))
def ofB33 (y : Bool) : List Leaf := [.b y]
theorem toB33_ok : ∀ ls b, toB33 ls = some b → ls = ofB33 b := by
  intro ls b h
  unfold toB33 at h
  obtain ⟨b0, ls1, rfl, h1⟩ := gB_ok h; obtain ⟨rfl, h2⟩ := gE_ok h1
  cases h2; rfl
def run33 {R : Type} : SF R := ⟨pa33, sr33, fun ls K => (gI (fun a0 => gE (Option.bind (F33 FUEL a0) fun y => K (ofB33 y)))) ls⟩
def cuts33 : List (List Nat × Cut (Bool)) := []
noncomputable def X33 : Px (Bool) := ⟨T, Tryd.prog, lkF [], mkCuts 33 cuts33, altN, altN_ok⟩
theorem e33 (n : Nat) (a0 : Int) : entF X33 8 33 pa33 (endK sr33 toB33) n [.i a0] = F33 n a0 := by kernel_rfl
theorem sp33 {n : Nat} (a0 : Int) {y : Bool} (h : F33 n a0 = some y) : SpecF T Tryd.prog 33 pa33 [.i a0] sr33 (ofB33 y) :=
  fun_ok (X := X33) tok (sfok_of trivial) mixed 33 8 cuts33 rfl toB33_ok trivial ((e33 n a0).trans h)
theorem ok33 {R : Type} : SFone T Tryd.prog 33 (run33 : SF R) := by
  intro ls K r h
  simp only [run33] at h
  obtain ⟨a0, ls1, rfl, h1⟩ := gI_ok h; obtain ⟨rfl, h2⟩ := gE_ok h1
  obtain ⟨y, k1, k2⟩ := Option.bind_eq_some_iff.1 h2
  exact ⟨_, k2, sp33 a0 k1⟩

/-! ### garland/finger.Set -/
def pa14 : List VP := [.agg [.i .i64, .sl false [.int .i64], .sl false [.int .i64], .i .i64, .i .i64, .i .i64, .i .i64, .i .i64, .i .i64, .i .i64, .i .i64, .i .i64, .i .i64, .i .i64, .i .i64, .i .i64, .i .i64, .i .i64, .i .i64, .i .i64], .i .i64, .i .i64]
def sr14 : RShape := ⟨.tup [.agg [.i .i64, .row 0, .row 1, .i .i64, .i .i64, .i .i64, .i .i64, .i .i64, .i .i64, .i .i64, .i .i64, .i .i64, .i .i64, .i .i64, .i .i64, .i .i64, .i .i64, .i .i64, .i .i64, .i .i64], .i .i64], [.row true [.int .i64], .row true [.int .i64]], none⟩
def toB14 : List Leaf → Option (Si19l2) := gI (fun b0 => gI (fun b1 => gI (fun b2 => gI (fun b3 => gI (fun b4 => gI (fun b5 => gI (fun b6 => gI (fun b7 => gI (fun b8 => gI (fun b9 => gI (fun b10 => gI (fun b11 => gI (fun b12 => gI (fun b13 => gI (fun b14 => gI (fun b15 => gI (fun b16 => gI (fun b17 => gI (fun b18 => gL [.int .i64] (fun b19 => gL [.int .i64] (fun b20 => gE (some ⟨b0, b1, b2, b3, b4, b5, b6, b7, b8, b9, b10, b11, b12, b13, b14, b15, b16, b17, b18, b19, b20⟩))))))))))))))))))))))
def ofB14 (y : Si19l2) : List Leaf := [.i y.q0, .i y.q1, .i y.q2, .i y.q3, .i y.q4, .i y.q5, .i y.q6, .i y.q7, .i y.q8, .i y.q9, .i y.q10, .i y.q11, .i y.q12, .i y.q13, .i y.q14, .i y.q15, .i y.q16, .i y.q17, .i y.q18, .l [.int .i64] y.q19, .l [.int .i64] y.q20]
theorem toB14_ok : ∀ ls b, toB14 ls = some b → ls = ofB14 b := by
  intro ls b h
  unfold toB14 at h
  obtain ⟨b0, ls1, rfl, h1⟩ := gI_ok h; obtain ⟨b1, ls2, rfl, h2⟩ := gI_ok h1; obtain ⟨b2, ls3, rfl, h3⟩ := gI_ok h2; obtain ⟨b3, ls4, rfl, h4⟩ := gI_ok h3; obtain ⟨b4, ls5, rfl, h5⟩ := gI_ok h4; obtain ⟨b5, ls6, rfl, h6⟩ := gI_ok h5; obtain ⟨b6, ls7, rfl, h7⟩ := gI_ok h6; obtain ⟨b7, ls8, rfl, h8⟩ := gI_ok h7; obtain ⟨b8, ls9, rfl, h9⟩ := gI_ok h8; obtain ⟨b9, ls10, rfl, h10⟩ := gI_ok h9; obtain ⟨b10, ls11, rfl, h11⟩ := gI_ok h10; obtain ⟨b11, ls12, rfl, h12⟩ := gI_ok h11; obtain ⟨b12, ls13, rfl, h13⟩ := gI_ok h12; obtain ⟨b13, ls14, rfl, h14⟩ := gI_ok h13; obtain ⟨b14, ls15, rfl, h15⟩ := gI_ok h14; obtain ⟨b15, ls16, rfl, h16⟩ := gI_ok h15; obtain ⟨b16, ls17, rfl, h17⟩ := gI_ok h16; obtain ⟨b17, ls18, rfl, h18⟩ := gI_ok h17; obtain ⟨b18, ls19, rfl, h19⟩ := gI_ok h18; obtain ⟨b19, ls20, rfl, h20⟩ := gL_ok h19; obtain ⟨b20, ls21, rfl, h21⟩ := gL_ok h20; obtain ⟨rfl, h22⟩ := gE_ok h21
  cases h22; rfl
def run14 {R : Type} : SF R := ⟨pa14, sr14, fun ls K => (gI (fun a0 => gL [.int .i64] (fun a1 => gL [.int .i64] (fun a2 => gI (fun a3 => gI (fun a4 => gI (fun a5 => gI (fun a6 => gI (fun a7 => gI (fun a8 => gI (fun a9 => gI (fun a10 => gI (fun a11 => gI (fun a12 => gI (fun a13 => gI (fun a14 => gI (fun a15 => gI (fun a16 => gI (fun a17 => gI (fun a18 => gI (fun a19 => gI (fun a20 => gI (fun a21 => gE (Option.bind (F14 FUEL a0 a1 a2 a3 a4 a5 a6 a7 a8 a9 a10 a11 a12 a13 a14 a15 a16 a17 a18 a19 a20 a21) fun y => K (ofB14 y))))))))))))))))))))))))) ls⟩
def sh14_0 : Shape := ⟨[(36, [(3, .ref 0 0), (6, .ref 1 0)])], [.cells [.i .i64, .sl false [.int .i64], .sl false [.int .i64], .i .i64, .i .i64, .i .i64, .i .i64, .i .i64, .i .i64, .i .i64, .i .i64, .i .i64, .i .i64, .i .i64, .i .i64, .i .i64, .i .i64, .i .i64, .i .i64, .i .i64], .cells [.i .i64, .nil, .nil, .i .i64, .i .i64, .i .i64, .i .i64, .i .i64, .i .i64, .i .i64, .i .i64, .i .i64, .i .i64, .i .i64, .i .i64, .i .i64, .i .i64, .i .i64, .i .i64, .i .i64]]⟩
def g14_0 (n : Nat) : List Leaf → Option (Si19l2) := gI (fun x0 => gL [.int .i64] (fun x1 => gL [.int .i64] (fun x2 => gI (fun x3 => gI (fun x4 => gI (fun x5 => gI (fun x6 => gI (fun x7 => gI (fun x8 => gI (fun x9 => gI (fun x10 => gI (fun x11 => gI (fun x12 => gI (fun x13 => gI (fun x14 => gI (fun x15 => gI (fun x16 => gI (fun x17 => gI (fun x18 => gI (fun x19 => gI (fun x20 => gI (fun x21 => gI (fun x22 => gI (fun x23 => gI (fun x24 => gI (fun x25 => gI (fun x26 => gI (fun x27 => gI (fun x28 => gI (fun x29 => gI (fun x30 => gI (fun x31 => gI (fun x32 => gI (fun x33 => gI (fun x34 => gI (fun x35 => gI (fun x36 => gI (fun x37 => gE (F14_c0 n x0 x1 x2 x3 x4 x5 x6 x7 x8 x9 x10 x11 x12 x13 x14 x15 x16 x17 x18 x19 x20 x21 x22 x23 x24 x25 x26 x27 x28 x29 x30 x31 x32 x33 x34 x35 x36 x37)))))))))))))))))))))))))))))))))))))))
def cuts14 : List (List Nat × Cut (Si19l2)) := [([1, 10], ⟨sh14_0, g14_0⟩)]
noncomputable def X14 : Px (Si19l2) := ⟨T, Tryd.prog, lkF [(10, run10), (33, run33), (34, run34), (35, run35), (36, run36)], mkCuts 14 cuts14, altN, altN_ok⟩
theorem e14_0 (n : Nat) (x0 : Int) (x1 : List (Int)) (x2 : List (Int)) (x3 : Int) (x4 : Int) (x5 : Int) (x6 : Int) (x7 : Int) (x8 : Int) (x9 : Int) (x10 : Int) (x11 : Int) (x12 : Int) (x13 : Int) (x14 : Int) (x15 : Int) (x16 : Int) (x17 : Int) (x18 : Int) (x19 : Int) (x20 : Int) (x21 : Int) (x22 : Int) (x23 : Int) (x24 : Int) (x25 : Int) (x26 : Int) (x27 : Int) (x28 : Int) (x29 : Int) (x30 : Int) (x31 : Int) (x32 : Int) (x33 : Int) (x34 : Int) (x35 : Int) (x36 : Int) (x37 : Int) : stepF X14 8 14 (endK sr14 toB14) [1, 10] sh14_0 n [.i x0, .l [.int .i64] x1, .l [.int .i64] x2, .i x3, .i x4, .i x5, .i x6, .i x7, .i x8, .i x9, .i x10, .i x11, .i x12, .i x13, .i x14, .i x15, .i x16, .i x17, .i x18, .i x19, .i x20, .i x21, .i x22, .i x23, .i x24, .i x25, .i x26, .i x27, .i x28, .i x29, .i x30, .i x31, .i x32, .i x33, .i x34, .i x35, .i x36, .i x37] = F14_c0 (n + 1) x0 x1 x2 x3 x4 x5 x6 x7 x8 x9 x10 x11 x12 x13 x14 x15 x16 x17 x18 x19 x20 x21 x22 x23 x24 x25 x26 x27 x28 x29 x30 x31 x32 x33 x34 x35 x36 x37 := by kernel_rfl
theorem e14 (n : Nat) (a0 : Int) (a1 : List (Int)) (a2 : List (Int)) (a3 : Int) (a4 : Int) (a5 : Int) (a6 : Int) (a7 : Int) (a8 : Int) (a9 : Int) (a10 : Int) (a11 : Int) (a12 : Int) (a13 : Int) (a14 : Int) (a15 : Int) (a16 : Int) (a17 : Int) (a18 : Int) (a19 : Int) (a20 : Int) (a21 : Int) : entF X14 8 14 pa14 (endK sr14 toB14) n [.i a0, .l [.int .i64] a1, .l [.int .i64] a2, .i a3, .i a4, .i a5, .i a6, .i a7, .i a8, .i a9, .i a10, .i a11, .i a12, .i a13, .i a14, .i a15, .i a16, .i a17, .i a18, .i a19, .i a20, .i a21] = F14 n a0 a1 a2 a3 a4 a5 a6 a7 a8 a9 a10 a11 a12 a13 a14 a15 a16 a17 a18 a19 a20 a21 := by kernel_rfl
theorem c14_0 : CutOK X14 8 14 (endK sr14 toB14) [1, 10] ⟨sh14_0, g14_0⟩ := by
  refine ⟨fun ls => ?_, fun n ls r h => ?_⟩
  · cases h : g14_0 0 ls with
    | none => exact h
    | some r =>
      unfold g14_0 at h; obtain ⟨x0, ls1, rfl, h1⟩ := gI_ok h; obtain ⟨x1, ls2, rfl, h2⟩ := gL_ok h1; obtain ⟨x2, ls3, rfl, h3⟩ := gL_ok h2; obtain ⟨x3, ls4, rfl, h4⟩ := gI_ok h3; obtain ⟨x4, ls5, rfl, h5⟩ := gI_ok h4; obtain ⟨x5, ls6, rfl, h6⟩ := gI_ok h5; obtain ⟨x6, ls7, rfl, h7⟩ := gI_ok h6; obtain ⟨x7, ls8, rfl, h8⟩ := gI_ok h7; obtain ⟨x8, ls9, rfl, h9⟩ := gI_ok h8; obtain ⟨x9, ls10, rfl, h10⟩ := gI_ok h9; obtain ⟨x10, ls11, rfl, h11⟩ := gI_ok h10; obtain ⟨x11, ls12, rfl, h12⟩ := gI_ok h11; obtain ⟨x12, ls13, rfl, h13⟩ := gI_ok h12; obtain ⟨x13, ls14, rfl, h14⟩ := gI_ok h13; obtain ⟨x14, ls15, rfl, h15⟩ := gI_ok h14; obtain ⟨x15, ls16, rfl, h16⟩ := gI_ok h15; obtain ⟨x16, ls17, rfl, h17⟩ := gI_ok h16; obtain ⟨x17, ls18, rfl, h18⟩ := gI_ok h17; obtain ⟨x18, ls19, rfl, h19⟩ := gI_ok h18; obtain ⟨x19, ls20, rfl, h20⟩ := gI_ok h19; obtain ⟨x20, ls21, rfl, h21⟩ := gI_ok h20; obtain ⟨x21, ls22, rfl, h22⟩ := gI_ok h21; obtain ⟨x22, ls23, rfl, h23⟩ := gI_ok h22; obtain ⟨x23, ls24, rfl, h24⟩ := gI_ok h23; obtain ⟨x24, ls25, rfl, h25⟩ := gI_ok h24; obtain ⟨x25, ls26, rfl, h26⟩ := gI_ok h25; obtain ⟨x26, ls27, rfl, h27⟩ := gI_ok h26; obtain ⟨x27, ls28, rfl, h28⟩ := gI_ok h27; obtain ⟨x28, ls29, rfl, h29⟩ := gI_ok h28; obtain ⟨x29, ls30, rfl, h30⟩ := gI_ok h29; obtain ⟨x30, ls31, rfl, h31⟩ := gI_ok h30; obtain ⟨x31, ls32, rfl, h32⟩ := gI_ok h31; obtain ⟨x32, ls33, rfl, h33⟩ := gI_ok h32; obtain ⟨x33, ls34, rfl, h34⟩ := gI_ok h33; obtain ⟨x34, ls35, rfl, h35⟩ := gI_ok h34; obtain ⟨x35, ls36, rfl, h36⟩ := gI_ok h35; obtain ⟨x36, ls37, rfl, h37⟩ := gI_ok h36; obtain ⟨x37, ls38, rfl, h38⟩ := gI_ok h37; obtain ⟨rfl, h39⟩ := gE_ok h38; simp only [F14_c0] at h39; cases h39
  · replace h : g14_0 (n + 1) ls = some r := h
    unfold g14_0 at h
    obtain ⟨x0, ls1, rfl, h1⟩ := gI_ok h; obtain ⟨x1, ls2, rfl, h2⟩ := gL_ok h1; obtain ⟨x2, ls3, rfl, h3⟩ := gL_ok h2; obtain ⟨x3, ls4, rfl, h4⟩ := gI_ok h3; obtain ⟨x4, ls5, rfl, h5⟩ := gI_ok h4; obtain ⟨x5, ls6, rfl, h6⟩ := gI_ok h5; obtain ⟨x6, ls7, rfl, h7⟩ := gI_ok h6; obtain ⟨x7, ls8, rfl, h8⟩ := gI_ok h7; obtain ⟨x8, ls9, rfl, h9⟩ := gI_ok h8; obtain ⟨x9, ls10, rfl, h10⟩ := gI_ok h9; obtain ⟨x10, ls11, rfl, h11⟩ := gI_ok h10; obtain ⟨x11, ls12, rfl, h12⟩ := gI_ok h11; obtain ⟨x12, ls13, rfl, h13⟩ := gI_ok h12; obtain ⟨x13, ls14, rfl, h14⟩ := gI_ok h13; obtain ⟨x14, ls15, rfl, h15⟩ := gI_ok h14; obtain ⟨x15, ls16, rfl, h16⟩ := gI_ok h15; obtain ⟨x16, ls17, rfl, h17⟩ := gI_ok h16; obtain ⟨x17, ls18, rfl, h18⟩ := gI_ok h17; obtain ⟨x18, ls19, rfl, h19⟩ := gI_ok h18; obtain ⟨x19, ls20, rfl, h20⟩ := gI_ok h19; obtain ⟨x20, ls21, rfl, h21⟩ := gI_ok h20; obtain ⟨x21, ls22, rfl, h22⟩ := gI_ok h21; obtain ⟨x22, ls23, rfl, h23⟩ := gI_ok h22; obtain ⟨x23, ls24, rfl, h24⟩ := gI_ok h23; obtain ⟨x24, ls25, rfl, h25⟩ := gI_ok h24; obtain ⟨x25, ls26, rfl, h26⟩ := gI_ok h25; obtain ⟨x26, ls27, rfl, h27⟩ := gI_ok h26; obtain ⟨x27, ls28, rfl, h28⟩ := gI_ok h27; obtain ⟨x28, ls29, rfl, h29⟩ := gI_ok h28; obtain ⟨x29, ls30, rfl, h30⟩ := gI_ok h29; obtain ⟨x30, ls31, rfl, h31⟩ := gI_ok h30; obtain ⟨x31, ls32, rfl, h32⟩ := gI_ok h31; obtain ⟨x32, ls33, rfl, h33⟩ := gI_ok h32; obtain ⟨x33, ls34, rfl, h34⟩ := gI_ok h33; obtain ⟨x34, ls35, rfl, h35⟩ := gI_ok h34; obtain ⟨x35, ls36, rfl, h36⟩ := gI_ok h35; obtain ⟨x36, ls37, rfl, h37⟩ := gI_ok h36; obtain ⟨x37, ls38, rfl, h38⟩ := gI_ok h37; obtain ⟨rfl, h39⟩ := gE_ok h38
    exact (e14_0 n x0 x1 x2 x3 x4 x5 x6 x7 x8 x9 x10 x11 x12 x13 x14 x15 x16 x17 x18 x19 x20 x21 x22 x23 x24 x25 x26 x27 x28 x29 x30 x31 x32 x33 x34 x35 x36 x37).trans h39
theorem sp14 {n : Nat} (a0 : Int) (a1 : List (Int)) (a2 : List (Int)) (a3 : Int) (a4 : Int) (a5 : Int) (a6 : Int) (a7 : Int) (a8 : Int) (a9 : Int) (a10 : Int) (a11 : Int) (a12 : Int) (a13 : Int) (a14 : Int) (a15 : Int) (a16 : Int) (a17 : Int) (a18 : Int) (a19 : Int) (a20 : Int) (a21 : Int) {y : Si19l2} (h : F14 n a0 a1 a2 a3 a4 a5 a6 a7 a8 a9 a10 a11 a12 a13 a14 a15 a16 a17 a18 a19 a20 a21 = some y) : SpecF T Tryd.prog 14 pa14 [.i a0, .l [.int .i64] a1, .l [.int .i64] a2, .i a3, .i a4, .i a5, .i a6, .i a7, .i a8, .i a9, .i a10, .i a11, .i a12, .i a13, .i a14, .i a15, .i a16, .i a17, .i a18, .i a19, .i a20, .i a21] sr14 (ofB14 y) :=
  fun_ok (X := X14) tok (sfok_of ⟨ok10, ok33, ok34, ok35, ok36, trivial⟩) mixed 14 8 cuts14 rfl toB14_ok ⟨c14_0, trivial⟩ ((e14 n a0 a1 a2 a3 a4 a5 a6 a7 a8 a9 a10 a11 a12 a13 a14 a15 a16 a17 a18 a19 a20 a21).trans h)
theorem ok14 {R : Type} : SFone T Tryd.prog 14 (run14 : SF R) := by
  intro ls K r h
  simp only [run14] at h
  obtain ⟨a0, ls1, rfl, h1⟩ := gI_ok h; obtain ⟨a1, ls2, rfl, h2⟩ := gL_ok h1; obtain ⟨a2, ls3, rfl, h3⟩ := gL_ok h2; obtain ⟨a3, ls4, rfl, h4⟩ := gI_ok h3; obtain ⟨a4, ls5, rfl, h5⟩ := gI_ok h4; obtain ⟨a5, ls6, rfl, h6⟩ := gI_ok h5; obtain ⟨a6, ls7, rfl, h7⟩ := gI_ok h6; obtain ⟨a7, ls8, rfl, h8⟩ := gI_ok h7; obtain ⟨a8, ls9, rfl, h9⟩ := gI_ok h8; obtain ⟨a9, ls10, rfl, h10⟩ := gI_ok h9; obtain ⟨a10, ls11, rfl, h11⟩ := gI_ok h10; obtain ⟨a11, ls12, rfl, h12⟩ := gI_ok h11; obtain ⟨a12, ls13, rfl, h13⟩ := gI_ok h12; obtain ⟨a13, ls14, rfl, h14⟩ := gI_ok h13; obtain ⟨a14, ls15, rfl, h15⟩ := gI_ok h14; obtain ⟨a15, ls16, rfl, h16⟩ := gI_ok h15; obtain ⟨a16, ls17, rfl, h17⟩ := gI_ok h16; obtain ⟨a17, ls18, rfl, h18⟩ := gI_ok h17; obtain ⟨a18, ls19, rfl, h19⟩ := gI_ok h18; obtain ⟨a19, ls20, rfl, h20⟩ := gI_ok h19; obtain ⟨a20, ls21, rfl, h21⟩ := gI_ok h20; obtain ⟨a21, ls22, rfl, h22⟩ := gI_ok h21; obtain ⟨rfl, h23⟩ := gE_ok h22
  obtain ⟨y, k1, k2⟩ := Option.bind_eq_some_iff.1 h23
  exact ⟨_, k2, sp14 a0 a1 a2 a3 a4 a5 a6 a7 a8 a9 a10 a11 a12 a13 a14 a15 a16 a17 a18 a19 a20 a21 k1⟩

/-! ### garland/arc.Owner -/
def pa40 : List VP := [.sl false [.int .i64], .i .i64]
def sr40 : RShape := ⟨.tup [.i .i64, .b], [], none⟩
def toB40 : List Leaf → Option (Int × Bool) := gI (fun b0 => gB (fun b1 => gE (some (b0, b1))))
def ofB40 (y : Int × Bool) : List Leaf := [.i y.1, .b y.2]
theorem toB40_ok : ∀ ls b, toB40 ls = some b → ls = ofB40 b := by
  intro ls b h
  unfold toB40 at h
  obtain ⟨b0, ls1, rfl, h1⟩ := gI_ok h; obtain ⟨b1, ls2, rfl, h2⟩ := gB_ok h1; obtain ⟨rfl, h3⟩ := gE_ok h2
  cases h3; rfl
def run40 {R : Type} : SF R := ⟨pa40, sr40, fun ls K => (gL [.int .i64] (fun a0 => gI (fun a1 => gE (Option.bind (F40 FUEL a0 a1) fun y => K (ofB40 y))))) ls⟩
def sh40_0 : Shape := ⟨[(34, [(6, .i .i64), (7, .i .i64)])], []⟩
def g40_0 (n : Nat) : List Leaf → Option (Int × Bool) := gI (fun x0 => gI (fun x1 => gE (F40_c0 n x0 x1)))
def sh40_1 : Shape := ⟨[(34, [(0, .sl false [.int .i64]), (1, .i .i64), (6, .i .i64), (7, .i .i64), (8, .i .i64)])], []⟩
def g40_1 (n : Nat) : List Leaf → Option (Int × Bool) := gL [.int .i64] (fun x0 => gI (fun x1 => gI (fun x2 => gI (fun x3 => gI (fun x4 => gE (F40_c1 n x0 x1 x2 x3 x4))))))
def cuts40 : List (List Nat × Cut (Int × Bool)) := [([1, 10], ⟨sh40_0, g40_0⟩), ([1, 11], ⟨sh40_1, g40_1⟩)]
noncomputable def X40 : Px (Int × Bool) := ⟨T, Tryd.prog, lkF [(57, run57), (50, run50)], mkCuts 40 cuts40, altN, altN_ok⟩
theorem e40_0 (n : Nat) (x0 : Int) (x1 : Int) : stepF X40 8 40 (endK sr40 toB40) [1, 10] sh40_0 n [.i x0, .i x1] = F40_c0 (n + 1) x0 x1 := by kernel_rfl
theorem e40_1 (n : Nat) (x0 : List (Int)) (x1 : Int) (x2 : Int) (x3 : Int) (x4 : Int) : stepF X40 8 40 (endK sr40 toB40) [1, 11] sh40_1 n [.l [.int .i64] x0, .i x1, .i x2, .i x3, .i x4] = F40_c1 (n + 1) x0 x1 x2 x3 x4 := by kernel_rfl
theorem e40 (n : Nat) (a0 : List (Int)) (a1 : Int) : entF X40 8 40 pa40 (endK sr40 toB40) n [.l [.int .i64] a0, .i a1] = F40 n a0 a1 := by kernel_rfl
theorem c40_0 : CutOK X40 8 40 (endK sr40 toB40) [1, 10] ⟨sh40_0, g40_0⟩ := by
  refine ⟨fun ls => ?_, fun n ls r h => ?_⟩
  · cases h : g40_0 0 ls with
    | none => exact h
    | some r =>
      unfold g40_0 at h; obtain ⟨x0, ls1, rfl, h1⟩ := gI_ok h; obtain ⟨x1, ls2, rfl, h2⟩ := gI_ok h1; obtain ⟨rfl, h3⟩ := gE_ok h2; simp only [F40_c0] at h3; cases h3
  · replace h : g40_0 (n + 1) ls = some r := h
    unfold g40_0 at h
    obtain ⟨x0, ls1, rfl, h1⟩ := gI_ok h; obtain ⟨x1, ls2, rfl, h2⟩ := gI_ok h1; obtain ⟨rfl, h3⟩ := gE_ok h2
    exact (e40_0 n x0 x1).trans h3
theorem c40_1 : CutOK X40 8 40 (endK sr40 toB40) [1, 11] ⟨sh40_1, g40_1⟩ := by
  refine ⟨fun ls => ?_, fun n ls r h => ?_⟩
  · cases h : g40_1 0 ls with
    | none => exact h
    | some r =>
      unfold g40_1 at h; obtain ⟨x0, ls1, rfl, h1⟩ := gL_ok h; obtain ⟨x1, ls2, rfl, h2⟩ := gI_ok h1; obtain ⟨x2, ls3, rfl, h3⟩ := gI_ok h2; obtain ⟨x3, ls4, rfl, h4⟩ := gI_ok h3; obtain ⟨x4, ls5, rfl, h5⟩ := gI_ok h4; obtain ⟨rfl, h6⟩ := gE_ok h5; simp only [F40_c1] at h6; cases h6
  · replace h : g40_1 (n + 1) ls = some r := h
    unfold g40_1 at h
    obtain ⟨x0, ls1, rfl, h1⟩ := gL_ok h; obtain ⟨x1, ls2, rfl, h2⟩ := gI_ok h1; obtain ⟨x2, ls3, rfl, h3⟩ := gI_ok h2; obtain ⟨x3, ls4, rfl, h4⟩ := gI_ok h3; obtain ⟨x4, ls5, rfl, h5⟩ := gI_ok h4; obtain ⟨rfl, h6⟩ := gE_ok h5
    exact (e40_1 n x0 x1 x2 x3 x4).trans h6
theorem sp40 {n : Nat} (a0 : List (Int)) (a1 : Int) {y : Int × Bool} (h : F40 n a0 a1 = some y) : SpecF T Tryd.prog 40 pa40 [.l [.int .i64] a0, .i a1] sr40 (ofB40 y) :=
  fun_ok (X := X40) tok (sfok_of ⟨ok57, ok50, trivial⟩) mixed 40 8 cuts40 rfl toB40_ok ⟨c40_0, c40_1, trivial⟩ ((e40 n a0 a1).trans h)
theorem ok40 {R : Type} : SFone T Tryd.prog 40 (run40 : SF R) := by
  intro ls K r h
  simp only [run40] at h
  obtain ⟨a0, ls1, rfl, h1⟩ := gL_ok h; obtain ⟨a1, ls2, rfl, h2⟩ := gI_ok h1; obtain ⟨rfl, h3⟩ := gE_ok h2
  obtain ⟨y, k1, k2⟩ := Option.bind_eq_some_iff.1 h3
  exact ⟨_, k2, sp40 a0 a1 k1⟩

/-! ### garland/finger.Table -/
def pa19 : List VP := [.agg [.i .i64, .sl false [.int .i64], .sl false [.int .i64], .i .i64, .i .i64, .i .i64, .i .i64, .i .i64, .i .i64, .i .i64, .i .i64, .i .i64, .i .i64, .i .i64, .i .i64, .i .i64, .i .i64, .i .i64, .i .i64, .i .i64], .sl false [.int .i64]]
def sr19 : RShape := ⟨.tup [.agg [.i .i64, .row 0, .row 1, .i .i64, .i .i64, .i .i64, .i .i64, .i .i64, .i .i64, .i .i64, .i .i64, .i .i64, .i .i64, .i .i64, .i .i64, .i .i64, .i .i64, .i .i64, .i .i64, .i .i64], .i .i64], [.row true [.int .i64], .row true [.int .i64]], none⟩
def toB19 : List Leaf → Option (Si19l2) := gI (fun b0 => gI (fun b1 => gI (fun b2 => gI (fun b3 => gI (fun b4 => gI (fun b5 => gI (fun b6 => gI (fun b7 => gI (fun b8 => gI (fun b9 => gI (fun b10 => gI (fun b11 => gI (fun b12 => gI (fun b13 => gI (fun b14 => gI (fun b15 => gI (fun b16 => gI (fun b17 => gI (fun b18 => gL [.int .i64] (fun b19 => gL [.int .i64] (fun b20 => gE (some ⟨b0, b1, b2, b3, b4, b5, b6, b7, b8, b9, b10, b11, b12, b13, b14, b15, b16, b17, b18, b19, b20⟩))))))))))))))))))))))
def ofB19 (y : Si19l2) : List Leaf := [.i y.q0, .i y.q1, .i y.q2, .i y.q3, .i y.q4, .i y.q5, .i y.q6, .i y.q7, .i y.q8, .i y.q9, .i y.q10, .i y.q11, .i y.q12, .i y.q13, .i y.q14, .i y.q15, .i y.q16, .i y.q17, .i y.q18, .l [.int .i64] y.q19, .l [.int .i64] y.q20]
theorem toB19_ok : ∀ ls b, toB19 ls = some b → ls = ofB19 b := by
  intro ls b h
  unfold toB19 at h
  obtain ⟨b0, ls1, rfl, h1⟩ := gI_ok h; obtain ⟨b1, ls2, rfl, h2⟩ := gI_ok h1; obtain ⟨b2, ls3, rfl, h3⟩ := gI_ok h2; obtain ⟨b3, ls4, rfl, h4⟩ := gI_ok h3; obtain ⟨b4, ls5, rfl, h5⟩ := gI_ok h4; obtain ⟨b5, ls6, rfl, h6⟩ := gI_ok h5; obtain ⟨b6, ls7, rfl, h7⟩ := gI_ok h6; obtain ⟨b7, ls8, rfl, h8⟩ := gI_ok h7; obtain ⟨b8, ls9, rfl, h9⟩ := gI_ok h8; obtain ⟨b9, ls10, rfl, h10⟩ := gI_ok h9; obtain ⟨b10, ls11, rfl, h11⟩ := gI_ok h10; obtain ⟨b11, ls12, rfl, h12⟩ := gI_ok h11; obtain ⟨b12, ls13, rfl, h13⟩ := gI_ok h12; obtain ⟨b13, ls14, rfl, h14⟩ := gI_ok h13; obtain ⟨b14, ls15, rfl, h15⟩ := gI_ok h14; obtain ⟨b15, ls16, rfl, h16⟩ := gI_ok h15; obtain ⟨b16, ls17, rfl, h17⟩ := gI_ok h16; obtain ⟨b17, ls18, rfl, h18⟩ := gI_ok h17; obtain ⟨b18, ls19, rfl, h19⟩ := gI_ok h18; obtain ⟨b19, ls20, rfl, h20⟩ := gL_ok h19; obtain ⟨b20, ls21, rfl, h21⟩ := gL_ok h20; obtain ⟨rfl, h22⟩ := gE_ok h21
  cases h22; rfl
def run19 {R : Type} : SF R := ⟨pa19, sr19, fun ls K => (gI (fun a0 => gL [.int .i64] (fun a1 => gL [.int .i64] (fun a2 => gI (fun a3 => gI (fun a4 => gI (fun a5 => gI (fun a6 => gI (fun a7 => gI (fun a8 => gI (fun a9 => gI (fun a10 => gI (fun a11 => gI (fun a12 => gI (fun a13 => gI (fun a14 => gI (fun a15 => gI (fun a16 => gI (fun a17 => gI (fun a18 => gI (fun a19 => gL [.int .i64] (fun a20 => gE (Option.bind (F19 FUEL a0 a1 a2 a3 a4 a5 a6 a7 a8 a9 a10 a11 a12 a13 a14 a15 a16 a17 a18 a19 a20) fun y => K (ofB19 y)))))))))))))))))))))))) ls⟩
def sh19_0 : Shape := ⟨[(53, [(2, .ref 0 0), (4, .ref 1 0)])], [.cells [.i .i64, .sl false [.int .i64], .sl false [.int .i64], .i .i64, .i .i64, .i .i64, .i .i64, .i .i64, .i .i64, .i .i64, .i .i64, .i .i64, .i .i64, .i .i64, .i .i64, .i .i64, .i .i64, .i .i64, .i .i64, .i .i64], .cells [.i .i64, .nil, .nil, .i .i64, .i .i64, .i .i64, .i .i64, .i .i64, .i .i64, .i .i64, .i .i64, .i .i64, .i .i64, .i .i64, .i .i64, .i .i64, .i .i64, .i .i64, .i .i64, .i .i64]]⟩
def g19_0 (n : Nat) : List Leaf → Option (Si19l2) := gI (fun x0 => gL [.int .i64] (fun x1 => gL [.int .i64] (fun x2 => gI (fun x3 => gI (fun x4 => gI (fun x5 => gI (fun x6 => gI (fun x7 => gI (fun x8 => gI (fun x9 => gI (fun x10 => gI (fun x11 => gI (fun x12 => gI (fun x13 => gI (fun x14 => gI (fun x15 => gI (fun x16 => gI (fun x17 => gI (fun x18 => gI (fun x19 => gI (fun x20 => gI (fun x21 => gI (fun x22 => gI (fun x23 => gI (fun x24 => gI (fun x25 => gI (fun x26 => gI (fun x27 => gI (fun x28 => gI (fun x29 => gI (fun x30 => gI (fun x31 => gI (fun x32 => gI (fun x33 => gI (fun x34 => gI (fun x35 => gI (fun x36 => gI (fun x37 => gE (F19_c0 n x0 x1 x2 x3 x4 x5 x6 x7 x8 x9 x10 x11 x12 x13 x14 x15 x16 x17 x18 x19 x20 x21 x22 x23 x24 x25 x26 x27 x28 x29 x30 x31 x32 x33 x34 x35 x36 x37)))))))))))))))))))))))))))))))))))))))
def sh19_1 : Shape := ⟨[(53, [(2, .ref 0 0), (3, .ref 1 0), (4, .ref 2 0), (6, .ref 3 0), (22, .sl false [.int .i64]), (23, .i .i64), (24, .i .i64)])], [.cells [.i .i64, .sl false [.int .i64], .sl false [.int .i64], .i .i64, .i .i64, .i .i64, .i .i64, .i .i64, .i .i64, .i .i64, .i .i64, .i .i64, .i .i64, .i .i64, .i .i64, .i .i64, .i .i64, .i .i64, .i .i64, .i .i64], .cells [.sl false [.int .i64]], .cells [.i .i64, .nil, .nil, .i .i64, .i .i64, .i .i64, .i .i64, .i .i64, .i .i64, .i .i64, .i .i64, .i .i64, .i .i64, .i .i64, .i .i64, .i .i64, .i .i64, .i .i64, .i .i64, .i .i64], .cells [.i .i64, .i .i64, .i .i64, .i .i64, .i .i64, .i .i64, .i .i64, .i .i64, .i .i64, .i .i64, .i .i64, .i .i64, .i .i64, .i .i64, .i .i64, .i .i64]]⟩
def g19_1 (n : Nat) : List Leaf → Option (Si19l2) := gL [.int .i64] (fun x0 => gI (fun x1 => gI (fun x2 => gI (fun x3 => gL [.int .i64] (fun x4 => gL [.int .i64] (fun x5 => gI (fun x6 => gI (fun x7 => gI (fun x8 => gI (fun x9 => gI (fun x10 => gI (fun x11 => gI (fun x12 => gI (fun x13 => gI (fun x14 => gI (fun x15 => gI (fun x16 => gI (fun x17 => gI (fun x18 => gI (fun x19 => gI (fun x20 => gI (fun x21 => gI (fun x22 => gL [.int .i64] (fun x23 => gI (fun x24 => gI (fun x25 => gI (fun x26 => gI (fun x27 => gI (fun x28 => gI (fun x29 => gI (fun x30 => gI (fun x31 => gI (fun x32 => gI (fun x33 => gI (fun x34 => gI (fun x35 => gI (fun x36 => gI (fun x37 => gI (fun x38 => gI (fun x39 => gI (fun x40 => gI (fun x41 => gI (fun x42 => gI (fun x43 => gI (fun x44 => gI (fun x45 => gI (fun x46 => gI (fun x47 => gI (fun x48 => gI (fun x49 => gI (fun x50 => gI (fun x51 => gI (fun x52 => gI (fun x53 => gI (fun x54 => gI (fun x55 => gI (fun x56 => gI (fun x57 => gE (F19_c1 n x0 x1 x2 x3 x4 x5 x6 x7 x8 x9 x10 x11 x12 x13 x14 x15 x16 x17 x18 x19 x20 x21 x22 x23 x24 x25 x26 x27 x28 x29 x30 x31 x32 x33 x34 x35 x36 x37 x38 x39 x40 x41 x42 x43 x44 x45 x46 x47 x48 x49 x50 x51 x52 x53 x54 x55 x56 x57)))))))))))))))))))))))))))))))))))))))))))))))))))))))))))
def sh19_2 : Shape := ⟨[(11, [(0, .yield 9), (1, .ref 0 0)]), (53, [(2, .ref 1 0), (3, .ref 2 0), (4, .ref 3 0), (6, .ref 4 0)])], [.cells [.i .i64], .cells [.i .i64, .sl false [.int .i64], .sl false [.int .i64], .i .i64, .i .i64, .i .i64, .i .i64, .i .i64, .i .i64, .i .i64, .i .i64, .i .i64, .i .i64, .i .i64, .i .i64, .i .i64, .i .i64, .i .i64, .i .i64, .i .i64], .cells [.sl false [.int .i64]], .cells [.i .i64, .nil, .nil, .i .i64, .i .i64, .i .i64, .i .i64, .i .i64, .i .i64, .i .i64, .i .i64, .i .i64, .i .i64, .i .i64, .i .i64, .i .i64, .i .i64, .i .i64, .i .i64, .i .i64], .cells [.i .i64, .i .i64, .i .i64, .i .i64, .i .i64, .i .i64, .i .i64, .i .i64, .i .i64, .i .i64, .i .i64, .i .i64, .i .i64, .i .i64, .i .i64, .i .i64]]⟩
def g19_2 (n : Nat) : List Leaf → Option (Si19l2) := gI (fun x0 => gI (fun x1 => gL [.int .i64] (fun x2 => gL [.int .i64] (fun x3 => gI (fun x4 => gI (fun x5 => gI (fun x6 => gI (fun x7 => gI (fun x8 => gI (fun x9 => gI (fun x10 => gI (fun x11 => gI (fun x12 => gI (fun x13 => gI (fun x14 => gI (fun x15 => gI (fun x16 => gI (fun x17 => gI (fun x18 => gI (fun x19 => gI (fun x20 => gL [.int .i64] (fun x21 => gI (fun x22 => gI (fun x23 => gI (fun x24 => gI (fun x25 => gI (fun x26 => gI (fun x27 => gI (fun x28 => gI (fun x29 => gI (fun x30 => gI (fun x31 => gI (fun x32 => gI (fun x33 => gI (fun x34 => gI (fun x35 => gI (fun x36 => gI (fun x37 => gI (fun x38 => gI (fun x39 => gI (fun x40 => gI (fun x41 => gI (fun x42 => gI (fun x43 => gI (fun x44 => gI (fun x45 => gI (fun x46 => gI (fun x47 => gI (fun x48 => gI (fun x49 => gI (fun x50 => gI (fun x51 => gI (fun x52 => gI (fun x53 => gI (fun x54 => gI (fun x55 => gE (F19_c2 n x0 x1 x2 x3 x4 x5 x6 x7 x8 x9 x10 x11 x12 x13 x14 x15 x16 x17 x18 x19 x20 x21 x22 x23 x24 x25 x26 x27 x28 x29 x30 x31 x32 x33 x34 x35 x36 x37 x38 x39 x40 x41 x42 x43 x44 x45 x46 x47 x48 x49 x50 x51 x52 x53 x54 x55)))))))))))))))))))))))))))))))))))))))))))))))))))))))))
def cuts19 : List (List Nat × Cut (Si19l2)) := [([1, 10], ⟨sh19_0, g19_0⟩), ([1, 0, 1, 1, 0, 1, 0], ⟨sh19_1, g19_1⟩), ([1, 0, 1, 1, 1, 0, 1, 0, 112, 0], ⟨sh19_2, g19_2⟩)]
noncomputable def X19 : Px (Si19l2) := ⟨T, Tryd.prog, lkF [(28, run28), (36, run36), (33, run33), (29, run29), (40, run40), (34, run34), (35, run35)], mkCuts 19 cuts19, altN, altN_ok⟩
theorem e19_0 (n : Nat) (x0 : Int) (x1 : List (Int)) (x2 : List (Int)) (x3 : Int) (x4 : Int) (x5 : Int) (x6 : Int) (x7 : Int) (x8 : Int) (x9 : Int) (x10 : Int) (x11 : Int) (x12 : Int) (x13 : Int) (x14 : Int) (x15 : Int) (x16 : Int) (x17 : Int) (x18 : Int) (x19 : Int) (x20 : Int) (x21 : Int) (x22 : Int) (x23 : Int) (x24 : Int) (x25 : Int) (x26 : Int) (x27 : Int) (x28 : Int) (x29 : Int) (x30 : Int) (x31 : Int) (x32 : Int) (x33 : Int) (x34 : Int) (x35 : Int) (x36 : Int) (x37 : Int) : stepF X19 8 19 (endK sr19 toB19) [1, 10] sh19_0 n [.i x0, .l [.int .i64] x1, .l [.int .i64] x2, .i x3, .i x4, .i x5, .i x6, .i x7, .i x8, .i x9, .i x10, .i x11, .i x12, .i x13, .i x14, .i x15, .i x16, .i x17, .i x18, .i x19, .i x20, .i x21, .i x22, .i x23, .i x24, .i x25, .i x26, .i x27, .i x28, .i x29, .i x30, .i x31, .i x32, .i x33, .i x34, .i x35, .i x36, .i x37] = F19_c0 (n + 1) x0 x1 x2 x3 x4 x5 x6 x7 x8 x9 x10 x11 x12 x13 x14 x15 x16 x17 x18 x19 x20 x21 x22 x23 x24 x25 x26 x27 x28 x29 x30 x31 x32 x33 x34 x35 x36 x37 := by kernel_rfl
theorem e19_1 (n : Nat) (x0 : List (Int)) (x1 : Int) (x2 : Int) (x3 : Int) (x4 : List (Int)) (x5 : List (Int)) (x6 : Int) (x7 : Int) (x8 : Int) (x9 : Int) (x10 : Int) (x11 : Int) (x12 : Int) (x13 : Int) (x14 : Int) (x15 : Int) (x16 : Int) (x17 : Int) (x18 : Int) (x19 : Int) (x20 : Int) (x21 : Int) (x22 : Int) (x23 : List (Int)) (x24 : Int) (x25 : Int) (x26 : Int) (x27 : Int) (x28 : Int) (x29 : Int) (x30 : Int) (x31 : Int) (x32 : Int) (x33 : Int) (x34 : Int) (x35 : Int) (x36 : Int) (x37 : Int) (x38 : Int) (x39 : Int) (x40 : Int) (x41 : Int) (x42 : Int) (x43 : Int) (x44 : Int) (x45 : Int) (x46 : Int) (x47 : Int) (x48 : Int) (x49 : Int) (x50 : Int) (x51 : Int) (x52 : Int) (x53 : Int) (x54 : Int) (x55 : Int) (x56 : Int) (x57 : Int) : stepF X19 8 19 (endK sr19 toB19) [1, 0, 1, 1, 0, 1, 0] sh19_1 n [.l [.int .i64] x0, .i x1, .i x2, .i x3, .l [.int .i64] x4, .l [.int .i64] x5, .i x6, .i x7, .i x8, .i x9, .i x10, .i x11, .i x12, .i x13, .i x14, .i x15, .i x16, .i x17, .i x18, .i x19, .i x20, .i x21, .i x22, .l [.int .i64] x23, .i x24, .i x25, .i x26, .i x27, .i x28, .i x29, .i x30, .i x31, .i x32, .i x33, .i x34, .i x35, .i x36, .i x37, .i x38, .i x39, .i x40, .i x41, .i x42, .i x43, .i x44, .i x45, .i x46, .i x47, .i x48, .i x49, .i x50, .i x51, .i x52, .i x53, .i x54, .i x55, .i x56, .i x57] = F19_c1 (n + 1) x0 x1 x2 x3 x4 x5 x6 x7 x8 x9 x10 x11 x12 x13 x14 x15 x16 x17 x18 x19 x20 x21 x22 x23 x24 x25 x26 x27 x28 x29 x30 x31 x32 x33 x34 x35 x36 x37 x38 x39 x40 x41 x42 x43 x44 x45 x46 x47 x48 x49 x50 x51 x52 x53 x54 x55 x56 x57 := by kernel_rfl
theorem e19_2 (n : Nat) (x0 : Int) (x1 : Int) (x2 : List (Int)) (x3 : List (Int)) (x4 : Int) (x5 : Int) (x6 : Int) (x7 : Int) (x8 : Int) (x9 : Int) (x10 : Int) (x11 : Int) (x12 : Int) (x13 : Int) (x14 : Int) (x15 : Int) (x16 : Int) (x17 : Int) (x18 : Int) (x19 : Int) (x20 : Int) (x21 : List (Int)) (x22 : Int) (x23 : Int) (x24 : Int) (x25 : Int) (x26 : Int) (x27 : Int) (x28 : Int) (x29 : Int) (x30 : Int) (x31 : Int) (x32 : Int) (x33 : Int) (x34 : Int) (x35 : Int) (x36 : Int) (x37 : Int) (x38 : Int) (x39 : Int) (x40 : Int) (x41 : Int) (x42 : Int) (x43 : Int) (x44 : Int) (x45 : Int) (x46 : Int) (x47 : Int) (x48 : Int) (x49 : Int) (x50 : Int) (x51 : Int) (x52 : Int) (x53 : Int) (x54 : Int) (x55 : Int) : stepF X19 8 19 (endK sr19 toB19) [1, 0, 1, 1, 1, 0, 1, 0, 112, 0] sh19_2 n [.i x0, .i x1, .l [.int .i64] x2, .l [.int .i64] x3, .i x4, .i x5, .i x6, .i x7, .i x8, .i x9, .i x10, .i x11, .i x12, .i x13, .i x14, .i x15, .i x16, .i x17, .i x18, .i x19, .i x20, .l [.int .i64] x21, .i x22, .i x23, .i x24, .i x25, .i x26, .i x27, .i x28, .i x29, .i x30, .i x31, .i x32, .i x33, .i x34, .i x35, .i x36, .i x37, .i x38, .i x39, .i x40, .i x41, .i x42, .i x43, .i x44, .i x45, .i x46, .i x47, .i x48, .i x49, .i x50, .i x51, .i x52, .i x53, .i x54, .i x55] = F19_c2 (n + 1) x0 x1 x2 x3 x4 x5 x6 x7 x8 x9 x10 x11 x12 x13 x14 x15 x16 x17 x18 x19 x20 x21 x22 x23 x24 x25 x26 x27 x28 x29 x30 x31 x32 x33 x34 x35 x36 x37 x38 x39 x40 x41 x42 x43 x44 x45 x46 x47 x48 x49 x50 x51 x52 x53 x54 x55 := by kernel_rfl
theorem e19 (n : Nat) (a0 : Int) (a1 : List (Int)) (a2 : List (Int)) (a3 : Int) (a4 : Int) (a5 : Int) (a6 : Int) (a7 : Int) (a8 : Int) (a9 : Int) (a10 : Int) (a11 : Int) (a12 : Int) (a13 : Int) (a14 : Int) (a15 : Int) (a16 : Int) (a17 : Int) (a18 : Int) (a19 : Int) (a20 : List (Int)) : entF X19 8 19 pa19 (endK sr19 toB19) n [.i a0, .l [.int .i64] a1, .l [.int .i64] a2, .i a3, .i a4, .i a5, .i a6, .i a7, .i a8, .i a9, .i a10, .i a11, .i a12, .i a13, .i a14, .i a15, .i a16, .i a17, .i a18, .i a19, .l [.int .i64] a20] = F19 n a0 a1 a2 a3 a4 a5 a6 a7 a8 a9 a10 a11 a12 a13 a14 a15 a16 a17 a18 a19 a20 := by kernel_rfl
theorem c19_0 : CutOK X19 8 19 (endK sr19 toB19) [1, 10] ⟨sh19_0, g19_0⟩ := by
  refine ⟨fun ls => ?_, fun n ls r h => ?_⟩
  · cases h : g19_0 0 ls with
    | none => exact h
    | some r =>
      unfold g19_0 at h; obtain ⟨x0, ls1, rfl, h1⟩ := gI_ok h; obtain ⟨x1, ls2, rfl, h2⟩ := gL_ok h1; obtain ⟨x2, ls3, rfl, h3⟩ := gL_ok h2; obtain ⟨x3, ls4, rfl, h4⟩ := gI_ok h3; obtain ⟨x4, ls5, rfl, h5⟩ := gI_ok h4; obtain ⟨x5, ls6, rfl, h6⟩ := gI_ok h5; obtain ⟨x6, ls7, rfl, h7⟩ := gI_ok h6; obtain ⟨x7, ls8, rfl, h8⟩ := gI_ok h7; obtain ⟨x8, ls9, rfl, h9⟩ := gI_ok h8; obtain ⟨x9, ls10, rfl, h10⟩ := gI_ok h9; obtain ⟨x10, ls11, rfl, h11⟩ := gI_ok h10; obtain ⟨x11, ls12, rfl, h12⟩ := gI_ok h11; obtain ⟨x12, ls13, rfl, h13⟩ := gI_ok h12; obtain ⟨x13, ls14, rfl, h14⟩ := gI_ok h13; obtain ⟨x14, ls15, rfl, h15⟩ := gI_ok h14; obtain ⟨x15, ls16, rfl, h16⟩ := gI_ok h15; obtain ⟨x16, ls17, rfl, h17⟩ := gI_ok h16; obtain ⟨x17, ls18, rfl, h18⟩ := gI_ok h17; obtain ⟨x18, ls19, rfl, h19⟩ := gI_ok h18; obtain ⟨x19, ls20, rfl, h20⟩ := gI_ok h19; obtain ⟨x20, ls21, rfl, h21⟩ := gI_ok h20; obtain ⟨x21, ls22, rfl, h22⟩ := gI_ok h21; obtain ⟨x22, ls23, rfl, h23⟩ := gI_ok h22; obtain ⟨x23, ls24, rfl, h24⟩ := gI_ok h23; obtain ⟨x24, ls25, rfl, h25⟩ := gI_ok h24; obtain ⟨x25, ls26, rfl, h26⟩ := gI_ok h25; obtain ⟨x26, ls27, rfl, h27⟩ := gI_ok h26; obtain ⟨x27, ls28, rfl, h28⟩ := gI_ok h27; obtain ⟨x28, ls29, rfl, h29⟩ := gI_ok h28; obtain ⟨x29, ls30, rfl, h30⟩ := gI_ok h29; obtain ⟨x30, ls31, rfl, h31⟩ := gI_ok h30; obtain ⟨x31, ls32, rfl, h32⟩ := gI_ok h31; obtain ⟨x32, ls33, rfl, h33⟩ := gI_ok h32; obtain ⟨x33, ls34, rfl, h34⟩ := gI_ok h33; obtain ⟨x34, ls35, rfl, h35⟩ := gI_ok h34; obtain ⟨x35, ls36, rfl, h36⟩ := gI_ok h35; obtain ⟨x36, ls37, rfl, h37⟩ := gI_ok h36; obtain ⟨x37, ls38, rfl, h38⟩ := gI_ok h37; obtain ⟨rfl, h39⟩ := gE_ok h38; simp only [F19_c0] at h39; cases h39
  · replace h : g19_0 (n + 1) ls = some r := h
    unfold g19_0 at h
    obtain ⟨x0, ls1, rfl, h1⟩ := gI_ok h; obtain ⟨x1, ls2, rfl, h2⟩ := gL_ok h1; obtain ⟨x2, ls3, rfl, h3⟩ := gL_ok h2; obtain ⟨x3, ls4, rfl, h4⟩ := gI_ok h3; obtain ⟨x4, ls5, rfl, h5⟩ := gI_ok h4; obtain ⟨x5, ls6, rfl, h6⟩ := gI_ok h5; obtain ⟨x6, ls7, rfl, h7⟩ := gI_ok h6; obtain ⟨x7, ls8, rfl, h8⟩ := gI_ok h7; obtain ⟨x8, ls9, rfl, h9⟩ := gI_ok h8; obtain ⟨x9, ls10, rfl, h10⟩ := gI_ok h9; obtain ⟨x10, ls11, rfl, h11⟩ := gI_ok h10; obtain ⟨x11, ls12, rfl, h12⟩ := gI_ok h11; obtain ⟨x12, ls13, rfl, h13⟩ := gI_ok h12; obtain ⟨x13, ls14, rfl, h14⟩ := gI_ok h13; obtain ⟨x14, ls15, rfl, h15⟩ := gI_ok h14; obtain ⟨x15, ls16, rfl, h16⟩ := gI_ok h15; obtain ⟨x16, ls17, rfl, h17⟩ := gI_ok h16; obtain ⟨x17, ls18, rfl, h18⟩ := gI_ok h17; obtain ⟨x18, ls19, rfl, h19⟩ := gI_ok h18; obtain ⟨x19, ls20, rfl, h20⟩ := gI_ok h19; obtain ⟨x20, ls21, rfl, h21⟩ := gI_ok h20; obtain ⟨x21, ls22, rfl, h22⟩ := gI_ok h21; obtain ⟨x22, ls23, rfl, h23⟩ := gI_ok h22; obtain ⟨x23, ls24, rfl, h24⟩ := gI_ok h23; obtain ⟨x24, ls25, rfl, h25⟩ := gI_ok h24; obtain ⟨x25, ls26, rfl, h26⟩ := gI_ok h25; obtain ⟨x26, ls27, rfl, h27⟩ := gI_ok h26; obtain ⟨x27, ls28, rfl, h28⟩ := gI_ok h27; obtain ⟨x28, ls29, rfl, h29⟩ := gI_ok h28; obtain ⟨x29, ls30, rfl, h30⟩ := gI_ok h29; obtain ⟨x30, ls31, rfl, h31⟩ := gI_ok h30; obtain ⟨x31, ls32, rfl, h32⟩ := gI_ok h31; obtain ⟨x32, ls33, rfl, h33⟩ := gI_ok h32; obtain ⟨x33, ls34, rfl, h34⟩ := gI_ok h33; obtain ⟨x34, ls35, rfl, h35⟩ := gI_ok h34; obtain ⟨x35, ls36, rfl, h36⟩ := gI_ok h35; obtain ⟨x36, ls37, rfl, h37⟩ := gI_ok h36; obtain ⟨x37, ls38, rfl, h38⟩ := gI_ok h37; obtain ⟨rfl, h39⟩ := gE_ok h38
    exact (e19_0 n x0 x1 x2 x3 x4 x5 x6 x7 x8 x9 x10 x11 x12 x13 x14 x15 x16 x17 x18 x19 x20 x21 x22 x23 x24 x25 x26 x27 x28 x29 x30 x31 x32 x33 x34 x35 x36 x37).trans h39
theorem c19_1 : CutOK X19 8 19 (endK sr19 toB19) [1, 0, 1, 1, 0, 1, 0] ⟨sh19_1, g19_1⟩ := by
  refine ⟨fun ls => ?_, fun n ls r h => ?_⟩
  · cases h : g19_1 0 ls with
    | none => exact h
    | some r =>
      unfold g19_1 at h; obtain ⟨x0, ls1, rfl, h1⟩ := gL_ok h; obtain ⟨x1, ls2, rfl, h2⟩ := gI_ok h1; obtain ⟨x2, ls3, rfl, h3⟩ := gI_ok h2; obtain ⟨x3, ls4, rfl, h4⟩ := gI_ok h3; obtain ⟨x4, ls5, rfl, h5⟩ := gL_ok h4; obtain ⟨x5, ls6, rfl, h6⟩ := gL_ok h5; obtain ⟨x6, ls7, rfl, h7⟩ := gI_ok h6; obtain ⟨x7, ls8, rfl, h8⟩ := gI_ok h7; obtain ⟨x8, ls9, rfl, h9⟩ := gI_ok h8; obtain ⟨x9, ls10, rfl, h10⟩ := gI_ok h9; obtain ⟨x10, ls11, rfl, h11⟩ := gI_ok h10; obtain ⟨x11, ls12, rfl, h12⟩ := gI_ok h11; obtain ⟨x12, ls13, rfl, h13⟩ := gI_ok h12; obtain ⟨x13, ls14, rfl, h14⟩ := gI_ok h13; obtain ⟨x14, ls15, rfl, h15⟩ := gI_ok h14; obtain ⟨x15, ls16, rfl, h16⟩ := gI_ok h15; obtain ⟨x16, ls17, rfl, h17⟩ := gI_ok h16; obtain ⟨x17, ls18, rfl, h18⟩ := gI_ok h17; obtain ⟨x18, ls19, rfl, h19⟩ := gI_ok h18; obtain ⟨x19, ls20, rfl, h20⟩ := gI_ok h19; obtain ⟨x20, ls21, rfl, h21⟩ := gI_ok h20; obtain ⟨x21, ls22, rfl, h22⟩ := gI_ok h21; obtain ⟨x22, ls23, rfl, h23⟩ := gI_ok h22; obtain ⟨x23, ls24, rfl, h24⟩ := gL_ok h23; obtain ⟨x24, ls25, rfl, h25⟩ := gI_ok h24; obtain ⟨x25, ls26, rfl, h26⟩ := gI_ok h25; obtain ⟨x26, ls27, rfl, h27⟩ := gI_ok h26; obtain ⟨x27, ls28, rfl, h28⟩ := gI_ok h27; obtain ⟨x28, ls29, rfl, h29⟩ := gI_ok h28; obtain ⟨x29, ls30, rfl, h30⟩ := gI_ok h29; obtain ⟨x30, ls31, rfl, h31⟩ := gI_ok h30; obtain ⟨x31, ls32, rfl, h32⟩ := gI_ok h31; obtain ⟨x32, ls33, rfl, h33⟩ := gI_ok h32; obtain ⟨x33, ls34, rfl, h34⟩ := gI_ok h33; obtain ⟨x34, ls35, rfl, h35⟩ := gI_ok h34; obtain ⟨x35, ls36, rfl, h36⟩ := gI_ok h35; obtain ⟨x36, ls37, rfl, h37⟩ := gI_ok h36; obtain ⟨x37, ls38, rfl, h38⟩ := gI_ok h37; obtain ⟨x38, ls39, rfl, h39⟩ := gI_ok h38; obtain ⟨x39, ls40, rfl, h40⟩ := gI_ok h39; obtain ⟨x40, ls41, rfl, h41⟩ := gI_ok h40; obtain ⟨x41, ls42, rfl, h42⟩ := gI_ok h41; obtain ⟨x42, ls43, rfl, h43⟩ := gI_ok h42; obtain ⟨x43, ls44, rfl, h44⟩ := gI_ok h43; obtain ⟨x44, ls45, rfl, h45⟩ := gI_ok h44; obtain ⟨x45, ls46, rfl, h46⟩ := gI_ok h45; obtain ⟨x46, ls47, rfl, h47⟩ := gI_ok h46; obtain ⟨x47, ls48, rfl, h48⟩ := gI_ok h47; obtain ⟨x48, ls49, rfl, h49⟩ := gI_ok h48; obtain ⟨x49, ls50, rfl, h50⟩ := gI_ok h49; obtain ⟨x50, ls51, rfl, h51⟩ := gI_ok h50; obtain ⟨x51, ls52, rfl, h52⟩ := gI_ok h51; obtain ⟨x52, ls53, rfl, h53⟩ := gI_ok h52; obtain ⟨x53, ls54, rfl, h54⟩ := gI_ok h53; obtain ⟨x54, ls55, rfl, h55⟩ := gI_ok h54; obtain ⟨x55, ls56, rfl, h56⟩ := gI_ok h55; obtain ⟨x56, ls57, rfl, h57⟩ := gI_ok h56; obtain ⟨x57, ls58, rfl, h58⟩ := gI_ok h57; obtain ⟨rfl, h59⟩ := gE_ok h58; simp only [F19_c1] at h59; cases h59
  · replace h : g19_1 (n + 1) ls = some r := h
    unfold g19_1 at h
    obtain ⟨x0, ls1, rfl, h1⟩ := gL_ok h; obtain ⟨x1, ls2, rfl, h2⟩ := gI_ok h1; obtain ⟨x2, ls3, rfl, h3⟩ := gI_ok h2; obtain ⟨x3, ls4, rfl, h4⟩ := gI_ok h3; obtain ⟨x4, ls5, rfl, h5⟩ := gL_ok h4; obtain ⟨x5, ls6, rfl, h6⟩ := gL_ok h5; obtain ⟨x6, ls7, rfl, h7⟩ := gI_ok h6; obtain ⟨x7, ls8, rfl, h8⟩ := gI_ok h7; obtain ⟨x8, ls9, rfl, h9⟩ := gI_ok h8; obtain ⟨x9, ls10, rfl, h10⟩ := gI_ok h9; obtain ⟨x10, ls11, rfl, h11⟩ := gI_ok h10; obtain ⟨x11, ls12, rfl, h12⟩ := gI_ok h11; obtain ⟨x12, ls13, rfl, h13⟩ := gI_ok h12; obtain ⟨x13, ls14, rfl, h14⟩ := gI_ok h13; obtain ⟨x14, ls15, rfl, h15⟩ := gI_ok h14; obtain ⟨x15, ls16, rfl, h16⟩ := gI_ok h15; obtain ⟨x16, ls17, rfl, h17⟩ := gI_ok h16; obtain ⟨x17, ls18, rfl, h18⟩ := gI_ok h17; obtain ⟨x18, ls19, rfl, h19⟩ := gI_ok h18; obtain ⟨x19, ls20, rfl, h20⟩ := gI_ok h19; obtain ⟨x20, ls21, rfl, h21⟩ := gI_ok h20; obtain ⟨x21, ls22, rfl, h22⟩ := gI_ok h21; obtain ⟨x22, ls23, rfl, h23⟩ := gI_ok h22; obtain ⟨x23, ls24, rfl, h24⟩ := gL_ok h23; obtain ⟨x24, ls25, rfl, h25⟩ := gI_ok h24; obtain ⟨x25, ls26, rfl, h26⟩ := gI_ok h25; obtain ⟨x26, ls27, rfl, h27⟩ := gI_ok h26; obtain ⟨x27, ls28, rfl, h28⟩ := gI_ok h27; obtain ⟨x28, ls29, rfl, h29⟩ := gI_ok h28; obtain ⟨x29, ls30, rfl, h30⟩ := gI_ok h29; obtain ⟨x30, ls31, rfl, h31⟩ := gI_ok h30; obtain ⟨x31, ls32, rfl, h32⟩ := gI_ok h31; obtain ⟨x32, ls33, rfl, h33⟩ := gI_ok h32; obtain ⟨x33, ls34, rfl, h34⟩ := gI_ok h33; obtain ⟨x34, ls35, rfl, h35⟩ := gI_ok h34; obtain ⟨x35, ls36, rfl, h36⟩ := gI_ok h35; obtain ⟨x36, ls37, rfl, h37⟩ := gI_ok h36; obtain ⟨x37, ls38, rfl, h38⟩ := gI_ok h37; obtain ⟨x38, ls39, rfl, h39⟩ := gI_ok h38; obtain ⟨x39, ls40, rfl, h40⟩ := gI_ok h39; obtain ⟨x40, ls41, rfl, h41⟩ := gI_ok h40; obtain ⟨x41, ls42, rfl, h42⟩ := gI_ok h41; obtain ⟨x42, ls43, rfl, h43⟩ := gI_ok h42; obtain ⟨x43, ls44, rfl, h44⟩ := gI_ok h43; obtain ⟨x44, ls45, rfl, h45⟩ := gI_ok h44; obtain ⟨x45, ls46, rfl, h46⟩ := gI_ok h45; obtain ⟨x46, ls47, rfl, h47⟩ := gI_ok h46; obtain ⟨x47, ls48, rfl, h48⟩ := gI_ok h47; obtain ⟨x48, ls49, rfl, h49⟩ := gI_ok h48; obtain ⟨x49, ls50, rfl, h50⟩ := gI_ok h49; obtain ⟨x50, ls51, rfl, h51⟩ := gI_ok h50; obtain ⟨x51, ls52, rfl, h52⟩ := gI_ok h51; obtain ⟨x52, ls53, rfl, h53⟩ := gI_ok h52; obtain ⟨x53, ls54, rfl, h54⟩ := gI_ok h53; obtain ⟨x54, ls55, rfl, h55⟩ := gI_ok h54; obtain ⟨x55, ls56, rfl, h56⟩ := gI_ok h55; obtain ⟨x56, ls57, rfl, h57⟩ := gI_ok h56; obtain ⟨x57, ls58, rfl, h58⟩ := gI_ok h57; obtain ⟨rfl, h59⟩ := gE_ok h58
    exact (e19_1 n x0 x1 x2 x3 x4 x5 x6 x7 x8 x9 x10 x11 x12 x13 x14 x15 x16 x17 x18 x19 x20 x21 x22 x23 x24 x25 x26 x27 x28 x29 x30 x31 x32 x33 x34 x35 x36 x37 x38 x39 x40 x41 x42 x43 x44 x45 x46 x47 x48 x49 x50 x51 x52 x53 x54 x55 x56 x57).trans h59
theorem c19_2 : CutOK X19 8 19 (endK sr19 toB19) [1, 0, 1, 1, 1, 0, 1, 0, 112, 0] ⟨sh19_2, g19_2⟩ := by
  refine ⟨fun ls => ?_, fun n ls r h => ?_⟩
  · cases h : g19_2 0 ls with
    | none => exact h
    | some r =>
      unfold g19_2 at h; obtain ⟨x0, ls1, rfl, h1⟩ := gI_ok h; obtain ⟨x1, ls2, rfl, h2⟩ := gI_ok h1; obtain ⟨x2, ls3, rfl, h3⟩ := gL_ok h2; obtain ⟨x3, ls4, rfl, h4⟩ := gL_ok h3; obtain ⟨x4, ls5, rfl, h5⟩ := gI_ok h4; obtain ⟨x5, ls6, rfl, h6⟩ := gI_ok h5; obtain ⟨x6, ls7, rfl, h7⟩ := gI_ok h6; obtain ⟨x7, ls8, rfl, h8⟩ := gI_ok h7; obtain ⟨x8, ls9, rfl, h9⟩ := gI_ok h8; obtain ⟨x9, ls10, rfl, h10⟩ := gI_ok h9; obtain ⟨x10, ls11, rfl, h11⟩ := gI_ok h10; obtain ⟨x11, ls12, rfl, h12⟩ := gI_ok h11; obtain ⟨x12, ls13, rfl, h13⟩ := gI_ok h12; obtain ⟨x13, ls14, rfl, h14⟩ := gI_ok h13; obtain ⟨x14, ls15, rfl, h15⟩ := gI_ok h14; obtain ⟨x15, ls16, rfl, h16⟩ := gI_ok h15; obtain ⟨x16, ls17, rfl, h17⟩ := gI_ok h16; obtain ⟨x17, ls18, rfl, h18⟩ := gI_ok h17; obtain ⟨x18, ls19, rfl, h19⟩ := gI_ok h18; obtain ⟨x19, ls20, rfl, h20⟩ := gI_ok h19; obtain ⟨x20, ls21, rfl, h21⟩ := gI_ok h20; obtain ⟨x21, ls22, rfl, h22⟩ := gL_ok h21; obtain ⟨x22, ls23, rfl, h23⟩ := gI_ok h22; obtain ⟨x23, ls24, rfl, h24⟩ := gI_ok h23; obtain ⟨x24, ls25, rfl, h25⟩ := gI_ok h24; obtain ⟨x25, ls26, rfl, h26⟩ := gI_ok h25; obtain ⟨x26, ls27, rfl, h27⟩ := gI_ok h26; obtain ⟨x27, ls28, rfl, h28⟩ := gI_ok h27; obtain ⟨x28, ls29, rfl, h29⟩ := gI_ok h28; obtain ⟨x29, ls30, rfl, h30⟩ := gI_ok h29; obtain ⟨x30, ls31, rfl, h31⟩ := gI_ok h30; obtain ⟨x31, ls32, rfl, h32⟩ := gI_ok h31; obtain ⟨x32, ls33, rfl, h33⟩ := gI_ok h32; obtain ⟨x33, ls34, rfl, h34⟩ := gI_ok h33; obtain ⟨x34, ls35, rfl, h35⟩ := gI_ok h34; obtain ⟨x35, ls36, rfl, h36⟩ := gI_ok h35; obtain ⟨x36, ls37, rfl, h37⟩ := gI_ok h36; obtain ⟨x37, ls38, rfl, h38⟩ := gI_ok h37; obtain ⟨x38, ls39, rfl, h39⟩ := gI_ok h38; obtain ⟨x39, ls40, rfl, h40⟩ := gI_ok h39; obtain ⟨x40, ls41, rfl, h41⟩ := gI_ok h40; obtain ⟨x41, ls42, rfl, h42⟩ := gI_ok h41; obtain ⟨x42, ls43, rfl, h43⟩ := gI_ok h42; obtain ⟨x43, ls44, rfl, h44⟩ := gI_ok h43; obtain ⟨x44, ls45, rfl, h45⟩ := gI_ok h44; obtain ⟨x45, ls46, rfl, h46⟩ := gI_ok h45; obtain ⟨x46, ls47, rfl, h47⟩ := gI_ok h46; obtain ⟨x47, ls48, rfl, h48⟩ := gI_ok h47; obtain ⟨x48, ls49, rfl, h49⟩ := gI_ok h48; obtain ⟨x49, ls50, rfl, h50⟩ := gI_ok h49; obtain ⟨x50, ls51, rfl, h51⟩ := gI_ok h50; obtain ⟨x51, ls52, rfl, h52⟩ := gI_ok h51; obtain ⟨x52, ls53, rfl, h53⟩ := gI_ok h52; obtain ⟨x53, ls54, rfl, h54⟩ := gI_ok h53; obtain ⟨x54, ls55, rfl, h55⟩ := gI_ok h54; obtain ⟨x55, ls56, rfl, h56⟩ := gI_ok h55; obtain ⟨rfl, h57⟩ := gE_ok h56; simp only [F19_c2] at h57; cases h57
  · replace h : g19_2 (n + 1) ls = some r := h
    unfold g19_2 at h
    obtain ⟨x0, ls1, rfl, h1⟩ := gI_ok h; obtain ⟨x1, ls2, rfl, h2⟩ := gI_ok h1; obtain ⟨x2, ls3, rfl, h3⟩ := gL_ok h2; obtain ⟨x3, ls4, rfl, h4⟩ := gL_ok h3; obtain ⟨x4, ls5, rfl, h5⟩ := gI_ok h4; obtain ⟨x5, ls6, rfl, h6⟩ := gI_ok h5; obtain ⟨x6, ls7, rfl, h7⟩ := gI_ok h6; obtain ⟨x7, ls8, rfl, h8⟩ := gI_ok h7; obtain ⟨x8, ls9, rfl, h9⟩ := gI_ok h8; obtain ⟨x9, ls10, rfl, h10⟩ := gI_ok h9; obtain ⟨x10, ls11, rfl, h11⟩ := gI_ok h10; obtain ⟨x11, ls12, rfl, h12⟩ := gI_ok h11; obtain ⟨x12, ls13, rfl, h13⟩ := gI_ok h12; obtain ⟨x13, ls14, rfl, h14⟩ := gI_ok h13; obtain ⟨x14, ls15, rfl, h15⟩ := gI_ok h14; obtain ⟨x15, ls16, rfl, h16⟩ := gI_ok h15; obtain ⟨x16, ls17, rfl, h17⟩ := gI_ok h16; obtain ⟨x17, ls18, rfl, h18⟩ := gI_ok h17; obtain ⟨x18, ls19, rfl, h19⟩ := gI_ok h18; obtain ⟨x19, ls20, rfl, h20⟩ := gI_ok h19; obtain ⟨x20, ls21, rfl, h21⟩ := gI_ok h20; obtain ⟨x21, ls22, rfl, h22⟩ := gL_ok h21; obtain ⟨x22, ls23, rfl, h23⟩ := gI_ok h22; obtain ⟨x23, ls24, rfl, h24⟩ := gI_ok h23; obtain ⟨x24, ls25, rfl, h25⟩ := gI_ok h24; obtain ⟨x25, ls26, rfl, h26⟩ := gI_ok h25; obtain ⟨x26, ls27, rfl, h27⟩ := gI_ok h26; obtain ⟨x27, ls28, rfl, h28⟩ := gI_ok h27; obtain ⟨x28, ls29, rfl, h29⟩ := gI_ok h28; obtain ⟨x29, ls30, rfl, h30⟩ := gI_ok h29; obtain ⟨x30, ls31, rfl, h31⟩ := gI_ok h30; obtain ⟨x31, ls32, rfl, h32⟩ := gI_ok h31; obtain ⟨x32, ls33, rfl, h33⟩ := gI_ok h32; obtain ⟨x33, ls34, rfl, h34⟩ := gI_ok h33; obtain ⟨x34, ls35, rfl, h35⟩ := gI_ok h34; obtain ⟨x35, ls36, rfl, h36⟩ := gI_ok h35; obtain ⟨x36, ls37, rfl, h37⟩ := gI_ok h36; obtain ⟨x37, ls38, rfl, h38⟩ := gI_ok h37; obtain ⟨x38, ls39, rfl, h39⟩ := gI_ok h38; obtain ⟨x39, ls40, rfl, h40⟩ := gI_ok h39; obtain ⟨x40, ls41, rfl, h41⟩ := gI_ok h40; obtain ⟨x41, ls42, rfl, h42⟩ := gI_ok h41; obtain ⟨x42, ls43, rfl, h43⟩ := gI_ok h42; obtain ⟨x43, ls44, rfl, h44⟩ := gI_ok h43; obtain ⟨x44, ls45, rfl, h45⟩ := gI_ok h44; obtain ⟨x45, ls46, rfl, h46⟩ := gI_ok h45; obtain ⟨x46, ls47, rfl, h47⟩ := gI_ok h46; obtain ⟨x47, ls48, rfl, h48⟩ := gI_ok h47; obtain ⟨x48, ls49, rfl, h49⟩ := gI_ok h48; obtain ⟨x49, ls50, rfl, h50⟩ := gI_ok h49; obtain ⟨x50, ls51, rfl, h51⟩ := gI_ok h50; obtain ⟨x51, ls52, rfl, h52⟩ := gI_ok h51; obtain ⟨x52, ls53, rfl, h53⟩ := gI_ok h52; obtain ⟨x53, ls54, rfl, h54⟩ := gI_ok h53; obtain ⟨x54, ls55, rfl, h55⟩ := gI_ok h54; obtain ⟨x55, ls56, rfl, h56⟩ := gI_ok h55; obtain ⟨rfl, h57⟩ := gE_ok h56
    exact (e19_2 n x0 x1 x2 x3 x4 x5 x6 x7 x8 x9 x10 x11 x12 x13 x14 x15 x16 x17 x18 x19 x20 x21 x22 x23 x24 x25 x26 x27 x28 x29 x30 x31 x32 x33 x34 x35 x36 x37 x38 x39 x40 x41 x42 x43 x44 x45 x46 x47 x48 x49 x50 x51 x52 x53 x54 x55).trans h57
theorem sp19 {n : Nat} (a0 : Int) (a1 : List (Int)) (a2 : List (Int)) (a3 : Int) (a4 : Int) (a5 : Int) (a6 : Int) (a7 : Int) (a8 : Int) (a9 : Int) (a10 : Int) (a11 : Int) (a12 : Int) (a13 : Int) (a14 : Int) (a15 : Int) (a16 : Int) (a17 : Int) (a18 : Int) (a19 : Int) (a20 : List (Int)) {y : Si19l2} (h : F19 n a0 a1 a2 a3 a4 a5 a6 a7 a8 a9 a10 a11 a12 a13 a14 a15 a16 a17 a18 a19 a20 = some y) : SpecF T Tryd.prog 19 pa19 [.i a0, .l [.int .i64] a1, .l [.int .i64] a2, .i a3, .i a4, .i a5, .i a6, .i a7, .i a8, .i a9, .i a10, .i a11, .i a12, .i a13, .i a14, .i a15, .i a16, .i a17, .i a18, .i a19, .l [.int .i64] a20] sr19 (ofB19 y) :=
  fun_ok (X := X19) tok (sfok_of ⟨ok28, ok36, ok33, ok29, ok40, ok34, ok35, trivial⟩) mixed 19 8 cuts19 rfl toB19_ok ⟨c19_0, c19_1, c19_2, trivial⟩ ((e19 n a0 a1 a2 a3 a4 a5 a6 a7 a8 a9 a10 a11 a12 a13 a14 a15 a16 a17 a18 a19 a20).trans h)
theorem ok19 {R : Type} : SFone T Tryd.prog 19 (run19 : SF R) := by
  intro ls K r h
  simp only [run19] at h
  obtain ⟨a0, ls1, rfl, h1⟩ := gI_ok h; obtain ⟨a1, ls2, rfl, h2⟩ := gL_ok h1; obtain ⟨a2, ls3, rfl, h3⟩ := gL_ok h2; obtain ⟨a3, ls4, rfl, h4⟩ := gI_ok h3; obtain ⟨a4, ls5, rfl, h5⟩ := gI_ok h4; obtain ⟨a5, ls6, rfl, h6⟩ := gI_ok h5; obtain ⟨a6, ls7, rfl, h7⟩ := gI_ok h6; obtain ⟨a7, ls8, rfl, h8⟩ := gI_ok h7; obtain ⟨a8, ls9, rfl, h9⟩ := gI_ok h8; obtain ⟨a9, ls10, rfl, h10⟩ := gI_ok h9; obtain ⟨a10, ls11, rfl, h11⟩ := gI_ok h10; obtain ⟨a11, ls12, rfl, h12⟩ := gI_ok h11; obtain ⟨a12, ls13, rfl, h13⟩ := gI_ok h12; obtain ⟨a13, ls14, rfl, h14⟩ := gI_ok h13; obtain ⟨a14, ls15, rfl, h15⟩ := gI_ok h14; obtain ⟨a15, ls16, rfl, h16⟩ := gI_ok h15; obtain ⟨a16, ls17, rfl, h17⟩ := gI_ok h16; obtain ⟨a17, ls18, rfl, h18⟩ := gI_ok h17; obtain ⟨a18, ls19, rfl, h19⟩ := gI_ok h18; obtain ⟨a19, ls20, rfl, h20⟩ := gI_ok h19; obtain ⟨a20, ls21, rfl, h21⟩ := gL_ok h20; obtain ⟨rfl, h22⟩ := gE_ok h21
  obtain ⟨y, k1, k2⟩ := Option.bind_eq_some_iff.1 h22
  exact ⟨_, k2, sp19 a0 a1 a2 a3 a4 a5 a6 a7 a8 a9 a10 a11 a12 a13 a14 a15 a16 a17 a18 a19 a20 k1⟩

/-! ### garland/garlandlaw17.wakes -/
def pa9 : List VP := []
def sr9 : RShape := ⟨.b, [], none⟩
def toB9 : List Leaf → Option (Bool) := gB (fun b0 => gE (some b0))
def ofB9 (y : Bool) : List Leaf := [.b y]
theorem toB9_ok : ∀ ls b, toB9 ls = some b → ls = ofB9 b := by
  intro ls b h
  unfold toB9 at h
  obtain ⟨b0, ls1, rfl, h1⟩ := gB_ok h; obtain ⟨rfl, h2⟩ := gE_ok h1
  cases h2; rfl
def run9 {R : Type} : SF R := ⟨pa9, sr9, fun ls K => (gE (Option.bind (F9 FUEL ) fun y => K (ofB9 y))) ls⟩
def cuts9 : List (List Nat × Cut (Bool)) := []
noncomputable def X9 : Px (Bool) := ⟨T, Tryd.prog, lkF [(27, run27), (17, run17), (10, run10), (12, run12), (14, run14), (19, run19)], mkCuts 9 cuts9, altN, altN_ok⟩
theorem e9 (n : Nat) : entF X9 8 9 pa9 (endK sr9 toB9) n [] = F9 n  := by kernel_rfl
theorem sp9 {n : Nat} {y : Bool} (h : F9 n  = some y) : SpecF T Tryd.prog 9 pa9 [] sr9 (ofB9 y) :=
  fun_ok (X := X9) tok (sfok_of ⟨ok27, ok17, ok10, ok12, ok14, ok19, trivial⟩) mixed 9 8 cuts9 rfl toB9_ok trivial ((e9 n ).trans h)
theorem ok9 {R : Type} : SFone T Tryd.prog 9 (run9 : SF R) := by
  intro ls K r h
  simp only [run9] at h
  obtain ⟨rfl, h1⟩ := gE_ok h
  obtain ⟨y, k1, k2⟩ := Option.bind_eq_some_iff.1 h1
  exact ⟨_, k2, sp9  k1⟩

/-! ### garland/garlandref03.Start -/
def pa25 : List VP := [.i .i64, .i .i64]
def sr25 : RShape := ⟨.i .i64, [], none⟩
def toB25 : List Leaf → Option (Int) := gI (fun b0 => gE (some b0))
def ofB25 (y : Int) : List Leaf := [.i y]
theorem toB25_ok : ∀ ls b, toB25 ls = some b → ls = ofB25 b := by
  intro ls b h
  unfold toB25 at h
  obtain ⟨b0, ls1, rfl, h1⟩ := gI_ok h; obtain ⟨rfl, h2⟩ := gE_ok h1
  cases h2; rfl
def run25 {R : Type} : SF R := ⟨pa25, sr25, fun ls K => (gI (fun a0 => gI (fun a1 => gE (Option.bind (F25 FUEL a0 a1) fun y => K (ofB25 y))))) ls⟩
def sh25_0 : Shape := ⟨[(27, [(0, .i .i64), (1, .i .i64), (5, .i .i64), (6, .i .i64)])], []⟩
def g25_0 (n : Nat) : List Leaf → Option (Int) := gI (fun x0 => gI (fun x1 => gI (fun x2 => gI (fun x3 => gE (F25_c0 n x0 x1 x2 x3)))))
def cuts25 : List (List Nat × Cut (Int)) := [([1, 1, 1, 0, 1, 0], ⟨sh25_0, g25_0⟩)]
noncomputable def X25 : Px (Int) := ⟨T, Tryd.prog, lkF [(44, run44)], mkCuts 25 cuts25, altN, altN_ok⟩
theorem e25_0 (n : Nat) (x0 : Int) (x1 : Int) (x2 : Int) (x3 : Int) : stepF X25 8 25 (endK sr25 toB25) [1, 1, 1, 0, 1, 0] sh25_0 n [.i x0, .i x1, .i x2, .i x3] = F25_c0 (n + 1) x0 x1 x2 x3 := by kernel_rfl
theorem e25 (n : Nat) (a0 : Int) (a1 : Int) : entF X25 8 25 pa25 (endK sr25 toB25) n [.i a0, .i a1] = F25 n a0 a1 := by kernel_rfl
theorem c25_0 : CutOK X25 8 25 (endK sr25 toB25) [1, 1, 1, 0, 1, 0] ⟨sh25_0, g25_0⟩ := by
  refine ⟨fun ls => ?_, fun n ls r h => ?_⟩
  · cases h : g25_0 0 ls with
    | none => exact h
    | some r =>
      unfold g25_0 at h; obtain ⟨x0, ls1, rfl, h1⟩ := gI_ok h; obtain ⟨x1, ls2, rfl, h2⟩ := gI_ok h1; obtain ⟨x2, ls3, rfl, h3⟩ := gI_ok h2; obtain ⟨x3, ls4, rfl, h4⟩ := gI_ok h3; obtain ⟨rfl, h5⟩ := gE_ok h4; simp only [F25_c0] at h5; cases h5
  · replace h : g25_0 (n + 1) ls = some r := h
    unfold g25_0 at h
    obtain ⟨x0, ls1, rfl, h1⟩ := gI_ok h; obtain ⟨x1, ls2, rfl, h2⟩ := gI_ok h1; obtain ⟨x2, ls3, rfl, h3⟩ := gI_ok h2; obtain ⟨x3, ls4, rfl, h4⟩ := gI_ok h3; obtain ⟨rfl, h5⟩ := gE_ok h4
    exact (e25_0 n x0 x1 x2 x3).trans h5
theorem sp25 {n : Nat} (a0 : Int) (a1 : Int) {y : Int} (h : F25 n a0 a1 = some y) : SpecF T Tryd.prog 25 pa25 [.i a0, .i a1] sr25 (ofB25 y) :=
  fun_ok (X := X25) tok (sfok_of ⟨ok44, trivial⟩) mixed 25 8 cuts25 rfl toB25_ok ⟨c25_0, trivial⟩ ((e25 n a0 a1).trans h)
theorem ok25 {R : Type} : SFone T Tryd.prog 25 (run25 : SF R) := by
  intro ls K r h
  simp only [run25] at h
  obtain ⟨a0, ls1, rfl, h1⟩ := gI_ok h; obtain ⟨a1, ls2, rfl, h2⟩ := gI_ok h1; obtain ⟨rfl, h3⟩ := gE_ok h2
  obtain ⟨y, k1, k2⟩ := Option.bind_eq_some_iff.1 h3
  exact ⟨_, k2, sp25 a0 a1 k1⟩

/-! ### garland/garlandref17.Start -/
def pa11 : List VP := [.agg [.i .i64, .sl false [.int .i64], .sl false [.int .i64], .i .i64, .i .i64, .i .i64, .i .i64, .i .i64, .i .i64, .i .i64, .i .i64, .i .i64, .i .i64, .i .i64, .i .i64, .i .i64, .i .i64, .i .i64, .i .i64, .i .i64], .i .i64]
def sr11 : RShape := ⟨.tup [.i .i64, .i .i64], [], none⟩
def toB11 : List Leaf → Option (Int × Int) := gI (fun b0 => gI (fun b1 => gE (some (b0, b1))))
def ofB11 (y : Int × Int) : List Leaf := [.i y.1, .i y.2]
theorem toB11_ok : ∀ ls b, toB11 ls = some b → ls = ofB11 b := by
  intro ls b h
  unfold toB11 at h
  obtain ⟨b0, ls1, rfl, h1⟩ := gI_ok h; obtain ⟨b1, ls2, rfl, h2⟩ := gI_ok h1; obtain ⟨rfl, h3⟩ := gE_ok h2
  cases h3; rfl
def run11 {R : Type} : SF R := ⟨pa11, sr11, fun ls K => (gI (fun a0 => gL [.int .i64] (fun a1 => gL [.int .i64] (fun a2 => gI (fun a3 => gI (fun a4 => gI (fun a5 => gI (fun a6 => gI (fun a7 => gI (fun a8 => gI (fun a9 => gI (fun a10 => gI (fun a11 => gI (fun a12 => gI (fun a13 => gI (fun a14 => gI (fun a15 => gI (fun a16 => gI (fun a17 => gI (fun a18 => gI (fun a19 => gI (fun a20 => gE (Option.bind (F11 FUEL a0 a1 a2 a3 a4 a5 a6 a7 a8 a9 a10 a11 a12 a13 a14 a15 a16 a17 a18 a19 a20) fun y => K (ofB11 y)))))))))))))))))))))))) ls⟩
def cuts11 : List (List Nat × Cut (Int × Int)) := []
noncomputable def X11 : Px (Int × Int) := ⟨T, Tryd.prog, lkF [(21, run21), (25, run25)], mkCuts 11 cuts11, altN, altN_ok⟩
theorem e11 (n : Nat) (a0 : Int) (a1 : List (Int)) (a2 : List (Int)) (a3 : Int) (a4 : Int) (a5 : Int) (a6 : Int) (a7 : Int) (a8 : Int) (a9 : Int) (a10 : Int) (a11 : Int) (a12 : Int) (a13 : Int) (a14 : Int) (a15 : Int) (a16 : Int) (a17 : Int) (a18 : Int) (a19 : Int) (a20 : Int) : entF X11 8 11 pa11 (endK sr11 toB11) n [.i a0, .l [.int .i64] a1, .l [.int .i64] a2, .i a3, .i a4, .i a5, .i a6, .i a7, .i a8, .i a9, .i a10, .i a11, .i a12, .i a13, .i a14, .i a15, .i a16, .i a17, .i a18, .i a19, .i a20] = F11 n a0 a1 a2 a3 a4 a5 a6 a7 a8 a9 a10 a11 a12 a13 a14 a15 a16 a17 a18 a19 a20 := by kernel_rfl
theorem sp11 {n : Nat} (a0 : Int) (a1 : List (Int)) (a2 : List (Int)) (a3 : Int) (a4 : Int) (a5 : Int) (a6 : Int) (a7 : Int) (a8 : Int) (a9 : Int) (a10 : Int) (a11 : Int) (a12 : Int) (a13 : Int) (a14 : Int) (a15 : Int) (a16 : Int) (a17 : Int) (a18 : Int) (a19 : Int) (a20 : Int) {y : Int × Int} (h : F11 n a0 a1 a2 a3 a4 a5 a6 a7 a8 a9 a10 a11 a12 a13 a14 a15 a16 a17 a18 a19 a20 = some y) : SpecF T Tryd.prog 11 pa11 [.i a0, .l [.int .i64] a1, .l [.int .i64] a2, .i a3, .i a4, .i a5, .i a6, .i a7, .i a8, .i a9, .i a10, .i a11, .i a12, .i a13, .i a14, .i a15, .i a16, .i a17, .i a18, .i a19, .i a20] sr11 (ofB11 y) :=
  fun_ok (X := X11) tok (sfok_of ⟨ok21, ok25, trivial⟩) mixed 11 8 cuts11 rfl toB11_ok trivial ((e11 n a0 a1 a2 a3 a4 a5 a6 a7 a8 a9 a10 a11 a12 a13 a14 a15 a16 a17 a18 a19 a20).trans h)
theorem ok11 {R : Type} : SFone T Tryd.prog 11 (run11 : SF R) := by
  intro ls K r h
  simp only [run11] at h
  obtain ⟨a0, ls1, rfl, h1⟩ := gI_ok h; obtain ⟨a1, ls2, rfl, h2⟩ := gL_ok h1; obtain ⟨a2, ls3, rfl, h3⟩ := gL_ok h2; obtain ⟨a3, ls4, rfl, h4⟩ := gI_ok h3; obtain ⟨a4, ls5, rfl, h5⟩ := gI_ok h4; obtain ⟨a5, ls6, rfl, h6⟩ := gI_ok h5; obtain ⟨a6, ls7, rfl, h7⟩ := gI_ok h6; obtain ⟨a7, ls8, rfl, h8⟩ := gI_ok h7; obtain ⟨a8, ls9, rfl, h9⟩ := gI_ok h8; obtain ⟨a9, ls10, rfl, h10⟩ := gI_ok h9; obtain ⟨a10, ls11, rfl, h11⟩ := gI_ok h10; obtain ⟨a11, ls12, rfl, h12⟩ := gI_ok h11; obtain ⟨a12, ls13, rfl, h13⟩ := gI_ok h12; obtain ⟨a13, ls14, rfl, h14⟩ := gI_ok h13; obtain ⟨a14, ls15, rfl, h15⟩ := gI_ok h14; obtain ⟨a15, ls16, rfl, h16⟩ := gI_ok h15; obtain ⟨a16, ls17, rfl, h17⟩ := gI_ok h16; obtain ⟨a17, ls18, rfl, h18⟩ := gI_ok h17; obtain ⟨a18, ls19, rfl, h19⟩ := gI_ok h18; obtain ⟨a19, ls20, rfl, h20⟩ := gI_ok h19; obtain ⟨a20, ls21, rfl, h21⟩ := gI_ok h20; obtain ⟨rfl, h22⟩ := gE_ok h21
  obtain ⟨y, k1, k2⟩ := Option.bind_eq_some_iff.1 h22
  exact ⟨_, k2, sp11 a0 a1 a2 a3 a4 a5 a6 a7 a8 a9 a10 a11 a12 a13 a14 a15 a16 a17 a18 a19 a20 k1⟩

/-! ### garland/garlandref03.Owner -/
def pa22 : List VP := [.sl false [.int .i64], .i .i64]
def sr22 : RShape := ⟨.tup [.i .i64, .b], [], none⟩
def toB22 : List Leaf → Option (Int × Bool) := gI (fun b0 => gB (fun b1 => gE (some (b0, b1))))
def ofB22 (y : Int × Bool) : List Leaf := [.i y.1, .b y.2]
theorem toB22_ok : ∀ ls b, toB22 ls = some b → ls = ofB22 b := by
  intro ls b h
  unfold toB22 at h
  obtain ⟨b0, ls1, rfl, h1⟩ := gI_ok h; obtain ⟨b1, ls2, rfl, h2⟩ := gB_ok h1; obtain ⟨rfl, h3⟩ := gE_ok h2
  cases h3; rfl
def run22 {R : Type} : SF R := ⟨pa22, sr22, fun ls K => (gL [.int .i64] (fun a0 => gI (fun a1 => gE (Option.bind (F22 FUEL a0 a1) fun y => K (ofB22 y))))) ls⟩
def sh22_0 : Shape := ⟨[(37, [(0, .sl false [.int .i64]), (1, .i .i64), (6, .i .i64), (7, .i .i64)])], []⟩
def g22_0 (n : Nat) : List Leaf → Option (Int × Bool) := gL [.int .i64] (fun x0 => gI (fun x1 => gI (fun x2 => gI (fun x3 => gE (F22_c0 n x0 x1 x2 x3)))))
def cuts22 : List (List Nat × Cut (Int × Bool)) := [([1, 1, 1, 0, 1, 0], ⟨sh22_0, g22_0⟩)]
noncomputable def X22 : Px (Int × Bool) := ⟨T, Tryd.prog, lkF [(44, run44), (26, run26)], mkCuts 22 cuts22, altN, altN_ok⟩
theorem e22_0 (n : Nat) (x0 : List (Int)) (x1 : Int) (x2 : Int) (x3 : Int) : stepF X22 8 22 (endK sr22 toB22) [1, 1, 1, 0, 1, 0] sh22_0 n [.l [.int .i64] x0, .i x1, .i x2, .i x3] = F22_c0 (n + 1) x0 x1 x2 x3 := by kernel_rfl
theorem e22 (n : Nat) (a0 : List (Int)) (a1 : Int) : entF X22 8 22 pa22 (endK sr22 toB22) n [.l [.int .i64] a0, .i a1] = F22 n a0 a1 := by kernel_rfl
theorem c22_0 : CutOK X22 8 22 (endK sr22 toB22) [1, 1, 1, 0, 1, 0] ⟨sh22_0, g22_0⟩ := by
  refine ⟨fun ls => ?_, fun n ls r h => ?_⟩
  · cases h : g22_0 0 ls with
    | none => exact h
    | some r =>
      unfold g22_0 at h; obtain ⟨x0, ls1, rfl, h1⟩ := gL_ok h; obtain ⟨x1, ls2, rfl, h2⟩ := gI_ok h1; obtain ⟨x2, ls3, rfl, h3⟩ := gI_ok h2; obtain ⟨x3, ls4, rfl, h4⟩ := gI_ok h3; obtain ⟨rfl, h5⟩ := gE_ok h4; simp only [F22_c0] at h5; cases h5
  · replace h : g22_0 (n + 1) ls = some r := h
    unfold g22_0 at h
    obtain ⟨x0, ls1, rfl, h1⟩ := gL_ok h; obtain ⟨x1, ls2, rfl, h2⟩ := gI_ok h1; obtain ⟨x2, ls3, rfl, h3⟩ := gI_ok h2; obtain ⟨x3, ls4, rfl, h4⟩ := gI_ok h3; obtain ⟨rfl, h5⟩ := gE_ok h4
    exact (e22_0 n x0 x1 x2 x3).trans h5
theorem sp22 {n : Nat} (a0 : List (Int)) (a1 : Int) {y : Int × Bool} (h : F22 n a0 a1 = some y) : SpecF T Tryd.prog 22 pa22 [.l [.int .i64] a0, .i a1] sr22 (ofB22 y) :=
  fun_ok (X := X22) tok (sfok_of ⟨ok44, ok26, trivial⟩) mixed 22 8 cuts22 rfl toB22_ok ⟨c22_0, trivial⟩ ((e22 n a0 a1).trans h)
theorem ok22 {R : Type} : SFone T Tryd.prog 22 (run22 : SF R) := by
  intro ls K r h
  simp only [run22] at h
  obtain ⟨a0, ls1, rfl, h1⟩ := gL_ok h; obtain ⟨a1, ls2, rfl, h2⟩ := gI_ok h1; obtain ⟨rfl, h3⟩ := gE_ok h2
  obtain ⟨y, k1, k2⟩ := Option.bind_eq_some_iff.1 h3
  exact ⟨_, k2, sp22 a0 a1 k1⟩

/-! ### garland/garlandref13.Anchor -/
def pa45 : List VP := [.agg [.i .i64, .sl false [.int .i64], .sl false [.int .i64], .i .i64, .i .i64, .i .i64, .i .i64, .i .i64, .i .i64, .i .i64, .i .i64, .i .i64, .i .i64, .i .i64, .i .i64, .i .i64, .i .i64, .i .i64, .i .i64, .i .i64]]
def sr45 : RShape := ⟨.i .i64, [], none⟩
def toB45 : List Leaf → Option (Int) := gI (fun b0 => gE (some b0))
def ofB45 (y : Int) : List Leaf := [.i y]
theorem toB45_ok : ∀ ls b, toB45 ls = some b → ls = ofB45 b := by
  intro ls b h
  unfold toB45 at h
  obtain ⟨b0, ls1, rfl, h1⟩ := gI_ok h; obtain ⟨rfl, h2⟩ := gE_ok h1
  cases h2; rfl
def run45 {R : Type} : SF R := ⟨pa45, sr45, fun ls K => (gI (fun a0 => gL [.int .i64] (fun a1 => gL [.int .i64] (fun a2 => gI (fun a3 => gI (fun a4 => gI (fun a5 => gI (fun a6 => gI (fun a7 => gI (fun a8 => gI (fun a9 => gI (fun a10 => gI (fun a11 => gI (fun a12 => gI (fun a13 => gI (fun a14 => gI (fun a15 => gI (fun a16 => gI (fun a17 => gI (fun a18 => gI (fun a19 => gE (Option.bind (F45 FUEL a0 a1 a2 a3 a4 a5 a6 a7 a8 a9 a10 a11 a12 a13 a14 a15 a16 a17 a18 a19) fun y => K (ofB45 y))))))))))))))))))))))) ls⟩
def cuts45 : List (List Nat × Cut (Int)) := []
noncomputable def X45 : Px (Int) := ⟨T, Tryd.prog, lkF [(21, run21), (22, run22)], mkCuts 45 cuts45, altN, altN_ok⟩
theorem e45 (n : Nat) (a0 : Int) (a1 : List (Int)) (a2 : List (Int)) (a3 : Int) (a4 : Int) (a5 : Int) (a6 : Int) (a7 : Int) (a8 : Int) (a9 : Int) (a10 : Int) (a11 : Int) (a12 : Int) (a13 : Int) (a14 : Int) (a15 : Int) (a16 : Int) (a17 : Int) (a18 : Int) (a19 : Int) : entF X45 8 45 pa45 (endK sr45 toB45) n [.i a0, .l [.int .i64] a1, .l [.int .i64] a2, .i a3, .i a4, .i a5, .i a6, .i a7, .i a8, .i a9, .i a10, .i a11, .i a12, .i a13, .i a14, .i a15, .i a16, .i a17, .i a18, .i a19] = F45 n a0 a1 a2 a3 a4 a5 a6 a7 a8 a9 a10 a11 a12 a13 a14 a15 a16 a17 a18 a19 := by kernel_rfl
theorem sp45 {n : Nat} (a0 : Int) (a1 : List (Int)) (a2 : List (Int)) (a3 : Int) (a4 : Int) (a5 : Int) (a6 : Int) (a7 : Int) (a8 : Int) (a9 : Int) (a10 : Int) (a11 : Int) (a12 : Int) (a13 : Int) (a14 : Int) (a15 : Int) (a16 : Int) (a17 : Int) (a18 : Int) (a19 : Int) {y : Int} (h : F45 n a0 a1 a2 a3 a4 a5 a6 a7 a8 a9 a10 a11 a12 a13 a14 a15 a16 a17 a18 a19 = some y) : SpecF T Tryd.prog 45 pa45 [.i a0, .l [.int .i64] a1, .l [.int .i64] a2, .i a3, .i a4, .i a5, .i a6, .i a7, .i a8, .i a9, .i a10, .i a11, .i a12, .i a13, .i a14, .i a15, .i a16, .i a17, .i a18, .i a19] sr45 (ofB45 y) :=
  fun_ok (X := X45) tok (sfok_of ⟨ok21, ok22, trivial⟩) mixed 45 8 cuts45 rfl toB45_ok trivial ((e45 n a0 a1 a2 a3 a4 a5 a6 a7 a8 a9 a10 a11 a12 a13 a14 a15 a16 a17 a18 a19).trans h)
theorem ok45 {R : Type} : SFone T Tryd.prog 45 (run45 : SF R) := by
  intro ls K r h
  simp only [run45] at h
  obtain ⟨a0, ls1, rfl, h1⟩ := gI_ok h; obtain ⟨a1, ls2, rfl, h2⟩ := gL_ok h1; obtain ⟨a2, ls3, rfl, h3⟩ := gL_ok h2; obtain ⟨a3, ls4, rfl, h4⟩ := gI_ok h3; obtain ⟨a4, ls5, rfl, h5⟩ := gI_ok h4; obtain ⟨a5, ls6, rfl, h6⟩ := gI_ok h5; obtain ⟨a6, ls7, rfl, h7⟩ := gI_ok h6; obtain ⟨a7, ls8, rfl, h8⟩ := gI_ok h7; obtain ⟨a8, ls9, rfl, h9⟩ := gI_ok h8; obtain ⟨a9, ls10, rfl, h10⟩ := gI_ok h9; obtain ⟨a10, ls11, rfl, h11⟩ := gI_ok h10; obtain ⟨a11, ls12, rfl, h12⟩ := gI_ok h11; obtain ⟨a12, ls13, rfl, h13⟩ := gI_ok h12; obtain ⟨a13, ls14, rfl, h14⟩ := gI_ok h13; obtain ⟨a14, ls15, rfl, h15⟩ := gI_ok h14; obtain ⟨a15, ls16, rfl, h16⟩ := gI_ok h15; obtain ⟨a16, ls17, rfl, h17⟩ := gI_ok h16; obtain ⟨a17, ls18, rfl, h18⟩ := gI_ok h17; obtain ⟨a18, ls19, rfl, h19⟩ := gI_ok h18; obtain ⟨a19, ls20, rfl, h20⟩ := gI_ok h19; obtain ⟨rfl, h21⟩ := gE_ok h20
  obtain ⟨y, k1, k2⟩ := Option.bind_eq_some_iff.1 h21
  exact ⟨_, k2, sp45 a0 a1 a2 a3 a4 a5 a6 a7 a8 a9 a10 a11 a12 a13 a14 a15 a16 a17 a18 a19 k1⟩

/-! ### garland/garlandref13.First -/
def pa24 : List VP := [.agg [.i .i64, .sl false [.int .i64], .sl false [.int .i64], .i .i64, .i .i64, .i .i64, .i .i64, .i .i64, .i .i64, .i .i64, .i .i64, .i .i64, .i .i64, .i .i64, .i .i64, .i .i64, .i .i64, .i .i64, .i .i64, .i .i64]]
def sr24 : RShape := ⟨.i .i64, [], none⟩
def toB24 : List Leaf → Option (Int) := gI (fun b0 => gE (some b0))
def ofB24 (y : Int) : List Leaf := [.i y]
theorem toB24_ok : ∀ ls b, toB24 ls = some b → ls = ofB24 b := by
  intro ls b h
  unfold toB24 at h
  obtain ⟨b0, ls1, rfl, h1⟩ := gI_ok h; obtain ⟨rfl, h2⟩ := gE_ok h1
  cases h2; rfl
def run24 {R : Type} : SF R := ⟨pa24, sr24, fun ls K => (gI (fun a0 => gL [.int .i64] (fun a1 => gL [.int .i64] (fun a2 => gI (fun a3 => gI (fun a4 => gI (fun a5 => gI (fun a6 => gI (fun a7 => gI (fun a8 => gI (fun a9 => gI (fun a10 => gI (fun a11 => gI (fun a12 => gI (fun a13 => gI (fun a14 => gI (fun a15 => gI (fun a16 => gI (fun a17 => gI (fun a18 => gI (fun a19 => gE (Option.bind (F24 FUEL a0 a1 a2 a3 a4 a5 a6 a7 a8 a9 a10 a11 a12 a13 a14 a15 a16 a17 a18 a19) fun y => K (ofB24 y))))))))))))))))))))))) ls⟩
def cuts24 : List (List Nat × Cut (Int)) := []
noncomputable def X24 : Px (Int) := ⟨T, Tryd.prog, lkF [(21, run21), (45, run45)], mkCuts 24 cuts24, altN, altN_ok⟩
theorem e24 (n : Nat) (a0 : Int) (a1 : List (Int)) (a2 : List (Int)) (a3 : Int) (a4 : Int) (a5 : Int) (a6 : Int) (a7 : Int) (a8 : Int) (a9 : Int) (a10 : Int) (a11 : Int) (a12 : Int) (a13 : Int) (a14 : Int) (a15 : Int) (a16 : Int) (a17 : Int) (a18 : Int) (a19 : Int) : entF X24 8 24 pa24 (endK sr24 toB24) n [.i a0, .l [.int .i64] a1, .l [.int .i64] a2, .i a3, .i a4, .i a5, .i a6, .i a7, .i a8, .i a9, .i a10, .i a11, .i a12, .i a13, .i a14, .i a15, .i a16, .i a17, .i a18, .i a19] = F24 n a0 a1 a2 a3 a4 a5 a6 a7 a8 a9 a10 a11 a12 a13 a14 a15 a16 a17 a18 a19 := by kernel_rfl
theorem sp24 {n : Nat} (a0 : Int) (a1 : List (Int)) (a2 : List (Int)) (a3 : Int) (a4 : Int) (a5 : Int) (a6 : Int) (a7 : Int) (a8 : Int) (a9 : Int) (a10 : Int) (a11 : Int) (a12 : Int) (a13 : Int) (a14 : Int) (a15 : Int) (a16 : Int) (a17 : Int) (a18 : Int) (a19 : Int) {y : Int} (h : F24 n a0 a1 a2 a3 a4 a5 a6 a7 a8 a9 a10 a11 a12 a13 a14 a15 a16 a17 a18 a19 = some y) : SpecF T Tryd.prog 24 pa24 [.i a0, .l [.int .i64] a1, .l [.int .i64] a2, .i a3, .i a4, .i a5, .i a6, .i a7, .i a8, .i a9, .i a10, .i a11, .i a12, .i a13, .i a14, .i a15, .i a16, .i a17, .i a18, .i a19] sr24 (ofB24 y) :=
  fun_ok (X := X24) tok (sfok_of ⟨ok21, ok45, trivial⟩) mixed 24 8 cuts24 rfl toB24_ok trivial ((e24 n a0 a1 a2 a3 a4 a5 a6 a7 a8 a9 a10 a11 a12 a13 a14 a15 a16 a17 a18 a19).trans h)
theorem ok24 {R : Type} : SFone T Tryd.prog 24 (run24 : SF R) := by
  intro ls K r h
  simp only [run24] at h
  obtain ⟨a0, ls1, rfl, h1⟩ := gI_ok h; obtain ⟨a1, ls2, rfl, h2⟩ := gL_ok h1; obtain ⟨a2, ls3, rfl, h3⟩ := gL_ok h2; obtain ⟨a3, ls4, rfl, h4⟩ := gI_ok h3; obtain ⟨a4, ls5, rfl, h5⟩ := gI_ok h4; obtain ⟨a5, ls6, rfl, h6⟩ := gI_ok h5; obtain ⟨a6, ls7, rfl, h7⟩ := gI_ok h6; obtain ⟨a7, ls8, rfl, h8⟩ := gI_ok h7; obtain ⟨a8, ls9, rfl, h9⟩ := gI_ok h8; obtain ⟨a9, ls10, rfl, h10⟩ := gI_ok h9; obtain ⟨a10, ls11, rfl, h11⟩ := gI_ok h10; obtain ⟨a11, ls12, rfl, h12⟩ := gI_ok h11; obtain ⟨a12, ls13, rfl, h13⟩ := gI_ok h12; obtain ⟨a13, ls14, rfl, h14⟩ := gI_ok h13; obtain ⟨a14, ls15, rfl, h15⟩ := gI_ok h14; obtain ⟨a15, ls16, rfl, h16⟩ := gI_ok h15; obtain ⟨a16, ls17, rfl, h17⟩ := gI_ok h16; obtain ⟨a17, ls18, rfl, h18⟩ := gI_ok h17; obtain ⟨a18, ls19, rfl, h19⟩ := gI_ok h18; obtain ⟨a19, ls20, rfl, h20⟩ := gI_ok h19; obtain ⟨rfl, h21⟩ := gE_ok h20
  obtain ⟨y, k1, k2⟩ := Option.bind_eq_some_iff.1 h21
  exact ⟨_, k2, sp24 a0 a1 a2 a3 a4 a5 a6 a7 a8 a9 a10 a11 a12 a13 a14 a15 a16 a17 a18 a19 k1⟩

/-! ### garland/garlandref03.In -/
def pa54 : List VP := [.i .i64, .i .i64, .i .i64]
def sr54 : RShape := ⟨.b, [], none⟩
def toB54 : List Leaf → Option (Bool) := gB (fun b0 => gE (some b0))
def ofB54 (y : Bool) : List Leaf := [.b y]
theorem toB54_ok : ∀ ls b, toB54 ls = some b → ls = ofB54 b := by
  intro ls b h
  unfold toB54 at h
  obtain ⟨b0, ls1, rfl, h1⟩ := gB_ok h; obtain ⟨rfl, h2⟩ := gE_ok h1
  cases h2; rfl
def run54 {R : Type} : SF R := ⟨pa54, sr54, fun ls K => (gI (fun a0 => gI (fun a1 => gI (fun a2 => gE (Option.bind (F54 FUEL a0 a1 a2) fun y => K (ofB54 y)))))) ls⟩
def cuts54 : List (List Nat × Cut (Bool)) := []
noncomputable def X54 : Px (Bool) := ⟨T, Tryd.prog, lkF [(44, run44), (26, run26)], mkCuts 54 cuts54, altN, altN_ok⟩
theorem e54 (n : Nat) (a0 : Int) (a1 : Int) (a2 : Int) : entF X54 8 54 pa54 (endK sr54 toB54) n [.i a0, .i a1, .i a2] = F54 n a0 a1 a2 := by kernel_rfl
theorem sp54 {n : Nat} (a0 : Int) (a1 : Int) (a2 : Int) {y : Bool} (h : F54 n a0 a1 a2 = some y) : SpecF T Tryd.prog 54 pa54 [.i a0, .i a1, .i a2] sr54 (ofB54 y) :=
  fun_ok (X := X54) tok (sfok_of ⟨ok44, ok26, trivial⟩) mixed 54 8 cuts54 rfl toB54_ok trivial ((e54 n a0 a1 a2).trans h)
theorem ok54 {R : Type} : SFone T Tryd.prog 54 (run54 : SF R) := by
  intro ls K r h
  simp only [run54] at h
  obtain ⟨a0, ls1, rfl, h1⟩ := gI_ok h; obtain ⟨a1, ls2, rfl, h2⟩ := gI_ok h1; obtain ⟨a2, ls3, rfl, h3⟩ := gI_ok h2; obtain ⟨rfl, h4⟩ := gE_ok h3
  obtain ⟨y, k1, k2⟩ := Option.bind_eq_some_iff.1 h4
  exact ⟨_, k2, sp54 a0 a1 a2 k1⟩

/-! ### garland/garlandref03.UpTo -/
def pa32 : List VP := [.i .i64, .i .i64, .i .i64]
def sr32 : RShape := ⟨.b, [], none⟩
def toB32 : List Leaf → Option (Bool) := gB (fun b0 => gE (some b0))
def ofB32 (y : Bool) : List Leaf := [.b y]
theorem toB32_ok : ∀ ls b, toB32 ls = some b → ls = ofB32 b := by
  intro ls b h
  unfold toB32 at h
  obtain ⟨b0, ls1, rfl, h1⟩ := gB_ok h; obtain ⟨rfl, h2⟩ := gE_ok h1
  cases h2; rfl
def run32 {R : Type} : SF R := ⟨pa32, sr32, fun ls K => (gI (fun a0 => gI (fun a1 => gI (fun a2 => gE (Option.bind (F32 FUEL a0 a1 a2) fun y => K (ofB32 y)))))) ls⟩
def cuts32 : List (List Nat × Cut (Bool)) := []
noncomputable def X32 : Px (Bool) := ⟨T, Tryd.prog, lkF [(54, run54), (44, run44)], mkCuts 32 cuts32, altN, altN_ok⟩
theorem e32 (n : Nat) (a0 : Int) (a1 : Int) (a2 : Int) : entF X32 8 32 pa32 (endK sr32 toB32) n [.i a0, .i a1, .i a2] = F32 n a0 a1 a2 := by kernel_rfl
theorem sp32 {n : Nat} (a0 : Int) (a1 : Int) (a2 : Int) {y : Bool} (h : F32 n a0 a1 a2 = some y) : SpecF T Tryd.prog 32 pa32 [.i a0, .i a1, .i a2] sr32 (ofB32 y) :=
  fun_ok (X := X32) tok (sfok_of ⟨ok54, ok44, trivial⟩) mixed 32 8 cuts32 rfl toB32_ok trivial ((e32 n a0 a1 a2).trans h)
theorem ok32 {R : Type} : SFone T Tryd.prog 32 (run32 : SF R) := by
  intro ls K r h
  simp only [run32] at h
  obtain ⟨a0, ls1, rfl, h1⟩ := gI_ok h; obtain ⟨a1, ls2, rfl, h2⟩ := gI_ok h1; obtain ⟨a2, ls3, rfl, h3⟩ := gI_ok h2; obtain ⟨rfl, h4⟩ := gE_ok h3
  obtain ⟨y, k1, k2⟩ := Option.bind_eq_some_iff.1 h4
  exact ⟨_, k2, sp32 a0 a1 a2 k1⟩

end Go.Proofs.YtomgapihddmafaaDoor
