/-
  The functions of this program, evaluated; each is as it is evaluated.
-/
import Derived.Test.YthaomidjgadieaaEvX
namespace Go.Proofs.Ythaomidjgadieaa
open Go Go.RowKit
set_option maxRecDepth 100000


/-! ### garland/garlandlaw20.KeepPut -/
def pa10 : List VP := [.sl false [.str, .int .i64, .int .i64, .bool], .agg [.s, .i .i64, .i .i64, .b]]
def sr10 : RShape := ⟨.b, [], none⟩
def toB10 : List Leaf → Option (Bool) := gB (fun b0 => gE (some b0))
def ofB10 (y : Bool) : List Leaf := [.b y]
theorem toB10_ok : ∀ ls b, toB10 ls = some b → ls = ofB10 b := by
  intro ls b h
  unfold toB10 at h
  obtain ⟨b0, ls1, rfl, h1⟩ := gB_ok h; obtain ⟨rfl, h2⟩ := gE_ok h1
  cases h2; rfl
def run10 {R : Type} : SF R := ⟨pa10, sr10, fun ls K => (gL [.str, .int .i64, .int .i64, .bool] (fun a0 => gS (fun a1 => gI (fun a2 => gI (fun a3 => gB (fun a4 => gE (Option.bind (F10 FUEL a0 a1 a2 a3 a4) fun y => K (ofB10 y)))))))) ls⟩
def sh10_0 : Shape := ⟨[(166, [(0, .sl false [.str, .int .i64, .int .i64, .bool]), (3, .ref 0 0), (6, .row 1), (14, .i .i64)])], [.cells [.s, .i .i64, .i .i64, .b], .row true [.str, .int .i64, .int .i64, .bool]]⟩
def g10_0 (n : Nat) : List Leaf → Option (Bool) := gL [.str, .int .i64, .int .i64, .bool] (fun x0 => gI (fun x1 => gS (fun x2 => gI (fun x3 => gI (fun x4 => gB (fun x5 => gL [.str, .int .i64, .int .i64, .bool] (fun x6 => gE (F10_c0 n x0 x1 x2 x3 x4 x5 x6))))))))
def cuts10 : List (List Nat × Cut (Bool)) := [([1, 1, 1, 1, 1, 1, 1, 1, 1, 1, 1, 0, 1, 0], ⟨sh10_0, g10_0⟩)]
noncomputable def X10 : Px (Bool) := ⟨T, Try.prog, lkF [(30, run30), (31, run31), (42, run42), (47, run47), (32, run32), (37, run37), (36, run36), (41, run41), (18, run18), (48, run48)], mkCuts 10 cuts10, altN, altN_ok⟩
theorem e10_0 (n : Nat) (x0 : List (ByteArray × Int × Int × Bool)) (x1 : Int) (x2 : ByteArray) (x3 : Int) (x4 : Int) (x5 : Bool) (x6 : List (ByteArray × Int × Int × Bool)) : stepF X10 8 10 (endK sr10 toB10) [1, 1, 1, 1, 1, 1, 1, 1, 1, 1, 1, 0, 1, 0] sh10_0 n [.l [.str, .int .i64, .int .i64, .bool] x0, .i x1, .s x2, .i x3, .i x4, .b x5, .l [.str, .int .i64, .int .i64, .bool] x6] = F10_c0 (n + 1) x0 x1 x2 x3 x4 x5 x6 := by kernel_rfl
theorem e10 (n : Nat) (a0 : List (ByteArray × Int × Int × Bool)) (a1 : ByteArray) (a2 : Int) (a3 : Int) (a4 : Bool) : entF X10 8 10 pa10 (endK sr10 toB10) n [.l [.str, .int .i64, .int .i64, .bool] a0, .s a1, .i a2, .i a3, .b a4] = F10 n a0 a1 a2 a3 a4 := by kernel_rfl
theorem c10_0 : CutOK X10 8 10 (endK sr10 toB10) [1, 1, 1, 1, 1, 1, 1, 1, 1, 1, 1, 0, 1, 0] ⟨sh10_0, g10_0⟩ := by
  refine ⟨fun ls => ?_, fun n ls r h => ?_⟩
  · cases h : g10_0 0 ls with
    | none => exact h
    | some r =>
      unfold g10_0 at h; obtain ⟨x0, ls1, rfl, h1⟩ := gL_ok h; obtain ⟨x1, ls2, rfl, h2⟩ := gI_ok h1; obtain ⟨x2, ls3, rfl, h3⟩ := gS_ok h2; obtain ⟨x3, ls4, rfl, h4⟩ := gI_ok h3; obtain ⟨x4, ls5, rfl, h5⟩ := gI_ok h4; obtain ⟨x5, ls6, rfl, h6⟩ := gB_ok h5; obtain ⟨x6, ls7, rfl, h7⟩ := gL_ok h6; obtain ⟨rfl, h8⟩ := gE_ok h7; simp only [F10_c0] at h8; cases h8
  · replace h : g10_0 (n + 1) ls = some r := h
    unfold g10_0 at h
    obtain ⟨x0, ls1, rfl, h1⟩ := gL_ok h; obtain ⟨x1, ls2, rfl, h2⟩ := gI_ok h1; obtain ⟨x2, ls3, rfl, h3⟩ := gS_ok h2; obtain ⟨x3, ls4, rfl, h4⟩ := gI_ok h3; obtain ⟨x4, ls5, rfl, h5⟩ := gI_ok h4; obtain ⟨x5, ls6, rfl, h6⟩ := gB_ok h5; obtain ⟨x6, ls7, rfl, h7⟩ := gL_ok h6; obtain ⟨rfl, h8⟩ := gE_ok h7
    exact (e10_0 n x0 x1 x2 x3 x4 x5 x6).trans h8
theorem sp10 {n : Nat} (a0 : List (ByteArray × Int × Int × Bool)) (a1 : ByteArray) (a2 : Int) (a3 : Int) (a4 : Bool) {y : Bool} (h : F10 n a0 a1 a2 a3 a4 = some y) : SpecF T Try.prog 10 pa10 [.l [.str, .int .i64, .int .i64, .bool] a0, .s a1, .i a2, .i a3, .b a4] sr10 (ofB10 y) :=
  fun_ok (X := X10) tok (sfok_of ⟨ok30, ok31, ok42, ok47, ok32, ok37, ok36, ok41, ok18, ok48, trivial⟩) mixed 10 8 cuts10 rfl toB10_ok ⟨c10_0, trivial⟩ ((e10 n a0 a1 a2 a3 a4).trans h)
theorem ok10 {R : Type} : SFone T Try.prog 10 (run10 : SF R) := by
  intro ls K r h
  simp only [run10] at h
  obtain ⟨a0, ls1, rfl, h1⟩ := gL_ok h; obtain ⟨a1, ls2, rfl, h2⟩ := gS_ok h1; obtain ⟨a2, ls3, rfl, h3⟩ := gI_ok h2; obtain ⟨a3, ls4, rfl, h4⟩ := gI_ok h3; obtain ⟨a4, ls5, rfl, h5⟩ := gB_ok h4; obtain ⟨rfl, h6⟩ := gE_ok h5
  obtain ⟨y, k1, k2⟩ := Option.bind_eq_some_iff.1 h6
  exact ⟨_, k2, sp10 a0 a1 a2 a3 a4 k1⟩

/-! ### garland/garlandlaw20.KeepRound -/
def pa11 : List VP := [.sl false [.str, .int .i64, .int .i64, .bool], .s]
def sr11 : RShape := ⟨.b, [], none⟩
def toB11 : List Leaf → Option (Bool) := gB (fun b0 => gE (some b0))
def ofB11 (y : Bool) : List Leaf := [.b y]
theorem toB11_ok : ∀ ls b, toB11 ls = some b → ls = ofB11 b := by
  intro ls b h
  unfold toB11 at h
  obtain ⟨b0, ls1, rfl, h1⟩ := gB_ok h; obtain ⟨rfl, h2⟩ := gE_ok h1
  cases h2; rfl
def run11 {R : Type} : SF R := ⟨pa11, sr11, fun ls K => (gL [.str, .int .i64, .int .i64, .bool] (fun a0 => gS (fun a1 => gE (Option.bind (F11 FUEL a0 a1) fun y => K (ofB11 y))))) ls⟩
def sh11_0 : Shape := ⟨[(136, [(0, .sl false [.str, .int .i64, .int .i64, .bool]), (1, .s), (5, .s), (6, .i .i64)])], []⟩
def g11_0 (n : Nat) : List Leaf → Option (Bool) := gL [.str, .int .i64, .int .i64, .bool] (fun x0 => gS (fun x1 => gS (fun x2 => gI (fun x3 => gE (F11_c0 n x0 x1 x2 x3)))))
def sh11_1 : Shape := ⟨[(136, [(0, .sl false [.str, .int .i64, .int .i64, .bool]), (1, .s), (9, .ref 0 0), (11, .ref 1 0), (13, .i .i64)])], [.cells [.s, .i .i64, .i .i64, .b], .cells [.s, .i .i64, .i .i64, .b]]⟩
def g11_1 (n : Nat) : List Leaf → Option (Bool) := gL [.str, .int .i64, .int .i64, .bool] (fun x0 => gS (fun x1 => gI (fun x2 => gS (fun x3 => gI (fun x4 => gI (fun x5 => gB (fun x6 => gS (fun x7 => gI (fun x8 => gI (fun x9 => gB (fun x10 => gE (F11_c1 n x0 x1 x2 x3 x4 x5 x6 x7 x8 x9 x10))))))))))))
def cuts11 : List (List Nat × Cut (Bool)) := [([1, 1, 1, 0, 1, 0], ⟨sh11_0, g11_0⟩), ([1, 1, 1, 1, 1, 1, 1, 1, 0, 1, 0], ⟨sh11_1, g11_1⟩)]
noncomputable def X11 : Px (Bool) := ⟨T, Try.prog, lkF [(30, run30), (31, run31), (42, run42), (39, run39)], mkCuts 11 cuts11, altN, altN_ok⟩
theorem e11_0 (n : Nat) (x0 : List (ByteArray × Int × Int × Bool)) (x1 : ByteArray) (x2 : ByteArray) (x3 : Int) : stepF X11 8 11 (endK sr11 toB11) [1, 1, 1, 0, 1, 0] sh11_0 n [.l [.str, .int .i64, .int .i64, .bool] x0, .s x1, .s x2, .i x3] = F11_c0 (n + 1) x0 x1 x2 x3 := by kernel_rfl
theorem e11_1 (n : Nat) (x0 : List (ByteArray × Int × Int × Bool)) (x1 : ByteArray) (x2 : Int) (x3 : ByteArray) (x4 : Int) (x5 : Int) (x6 : Bool) (x7 : ByteArray) (x8 : Int) (x9 : Int) (x10 : Bool) : stepF X11 8 11 (endK sr11 toB11) [1, 1, 1, 1, 1, 1, 1, 1, 0, 1, 0] sh11_1 n [.l [.str, .int .i64, .int .i64, .bool] x0, .s x1, .i x2, .s x3, .i x4, .i x5, .b x6, .s x7, .i x8, .i x9, .b x10] = F11_c1 (n + 1) x0 x1 x2 x3 x4 x5 x6 x7 x8 x9 x10 := by kernel_rfl
theorem e11 (n : Nat) (a0 : List (ByteArray × Int × Int × Bool)) (a1 : ByteArray) : entF X11 8 11 pa11 (endK sr11 toB11) n [.l [.str, .int .i64, .int .i64, .bool] a0, .s a1] = F11 n a0 a1 := by kernel_rfl
theorem c11_0 : CutOK X11 8 11 (endK sr11 toB11) [1, 1, 1, 0, 1, 0] ⟨sh11_0, g11_0⟩ := by
  refine ⟨fun ls => ?_, fun n ls r h => ?_⟩
  · cases h : g11_0 0 ls with
    | none => exact h
    | some r =>
      unfold g11_0 at h; obtain ⟨x0, ls1, rfl, h1⟩ := gL_ok h; obtain ⟨x1, ls2, rfl, h2⟩ := gS_ok h1; obtain ⟨x2, ls3, rfl, h3⟩ := gS_ok h2; obtain ⟨x3, ls4, rfl, h4⟩ := gI_ok h3; obtain ⟨rfl, h5⟩ := gE_ok h4; simp only [F11_c0] at h5; cases h5
  · replace h : g11_0 (n + 1) ls = some r := h
    unfold g11_0 at h
    obtain ⟨x0, ls1, rfl, h1⟩ := gL_ok h; obtain ⟨x1, ls2, rfl, h2⟩ := gS_ok h1; obtain ⟨x2, ls3, rfl, h3⟩ := gS_ok h2; obtain ⟨x3, ls4, rfl, h4⟩ := gI_ok h3; obtain ⟨rfl, h5⟩ := gE_ok h4
    exact (e11_0 n x0 x1 x2 x3).trans h5
theorem c11_1 : CutOK X11 8 11 (endK sr11 toB11) [1, 1, 1, 1, 1, 1, 1, 1, 0, 1, 0] ⟨sh11_1, g11_1⟩ := by
  refine ⟨fun ls => ?_, fun n ls r h => ?_⟩
  · cases h : g11_1 0 ls with
    | none => exact h
    | some r =>
      unfold g11_1 at h; obtain ⟨x0, ls1, rfl, h1⟩ := gL_ok h; obtain ⟨x1, ls2, rfl, h2⟩ := gS_ok h1; obtain ⟨x2, ls3, rfl, h3⟩ := gI_ok h2; obtain ⟨x3, ls4, rfl, h4⟩ := gS_ok h3; obtain ⟨x4, ls5, rfl, h5⟩ := gI_ok h4; obtain ⟨x5, ls6, rfl, h6⟩ := gI_ok h5; obtain ⟨x6, ls7, rfl, h7⟩ := gB_ok h6; obtain ⟨x7, ls8, rfl, h8⟩ := gS_ok h7; obtain ⟨x8, ls9, rfl, h9⟩ := gI_ok h8; obtain ⟨x9, ls10, rfl, h10⟩ := gI_ok h9; obtain ⟨x10, ls11, rfl, h11⟩ := gB_ok h10; obtain ⟨rfl, h12⟩ := gE_ok h11; simp only [F11_c1] at h12; cases h12
  · replace h : g11_1 (n + 1) ls = some r := h
    unfold g11_1 at h
    obtain ⟨x0, ls1, rfl, h1⟩ := gL_ok h; obtain ⟨x1, ls2, rfl, h2⟩ := gS_ok h1; obtain ⟨x2, ls3, rfl, h3⟩ := gI_ok h2; obtain ⟨x3, ls4, rfl, h4⟩ := gS_ok h3; obtain ⟨x4, ls5, rfl, h5⟩ := gI_ok h4; obtain ⟨x5, ls6, rfl, h6⟩ := gI_ok h5; obtain ⟨x6, ls7, rfl, h7⟩ := gB_ok h6; obtain ⟨x7, ls8, rfl, h8⟩ := gS_ok h7; obtain ⟨x8, ls9, rfl, h9⟩ := gI_ok h8; obtain ⟨x9, ls10, rfl, h10⟩ := gI_ok h9; obtain ⟨x10, ls11, rfl, h11⟩ := gB_ok h10; obtain ⟨rfl, h12⟩ := gE_ok h11
    exact (e11_1 n x0 x1 x2 x3 x4 x5 x6 x7 x8 x9 x10).trans h12
theorem sp11 {n : Nat} (a0 : List (ByteArray × Int × Int × Bool)) (a1 : ByteArray) {y : Bool} (h : F11 n a0 a1 = some y) : SpecF T Try.prog 11 pa11 [.l [.str, .int .i64, .int .i64, .bool] a0, .s a1] sr11 (ofB11 y) :=
  fun_ok (X := X11) tok (sfok_of ⟨ok30, ok31, ok42, ok39, trivial⟩) mixed 11 8 cuts11 rfl toB11_ok ⟨c11_0, c11_1, trivial⟩ ((e11 n a0 a1).trans h)
theorem ok11 {R : Type} : SFone T Try.prog 11 (run11 : SF R) := by
  intro ls K r h
  simp only [run11] at h
  obtain ⟨a0, ls1, rfl, h1⟩ := gL_ok h; obtain ⟨a1, ls2, rfl, h2⟩ := gS_ok h1; obtain ⟨rfl, h3⟩ := gE_ok h2
  obtain ⟨y, k1, k2⟩ := Option.bind_eq_some_iff.1 h3
  exact ⟨_, k2, sp11 a0 a1 k1⟩

/-! ### garland/garlandlaw20.KeepAll -/
def pa12 : List VP := [.sl false [.str, .int .i64, .int .i64, .bool], .sl false [.str, .int .i64, .int .i64, .bool], .sl false [.str, .int .i64, .int .i64, .bool]]
def sr12 : RShape := ⟨.b, [], none⟩
def toB12 : List Leaf → Option (Bool) := gB (fun b0 => gE (some b0))
def ofB12 (y : Bool) : List Leaf := [.b y]
theorem toB12_ok : ∀ ls b, toB12 ls = some b → ls = ofB12 b := by
  intro ls b h
  unfold toB12 at h
  obtain ⟨b0, ls1, rfl, h1⟩ := gB_ok h; obtain ⟨rfl, h2⟩ := gE_ok h1
  cases h2; rfl
def run12 {R : Type} : SF R := ⟨pa12, sr12, fun ls K => (gL [.str, .int .i64, .int .i64, .bool] (fun a0 => gL [.str, .int .i64, .int .i64, .bool] (fun a1 => gL [.str, .int .i64, .int .i64, .bool] (fun a2 => gE (Option.bind (F12 FUEL a0 a1 a2) fun y => K (ofB12 y)))))) ls⟩
def sh12_0 : Shape := ⟨[(125, [(0, .sl false [.str, .int .i64, .int .i64, .bool]), (9, .row 0), (13, .i .i64)])], [.row true [.str, .int .i64, .int .i64, .bool]]⟩
def g12_0 (n : Nat) : List Leaf → Option (Bool) := gL [.str, .int .i64, .int .i64, .bool] (fun x0 => gI (fun x1 => gL [.str, .int .i64, .int .i64, .bool] (fun x2 => gE (F12_c0 n x0 x1 x2))))
def cuts12 : List (List Nat × Cut (Bool)) := [([1, 1, 1, 1, 1, 1, 0, 1, 0], ⟨sh12_0, g12_0⟩)]
noncomputable def X12 : Px (Bool) := ⟨T, Try.prog, lkF [(30, run30), (31, run31), (42, run42), (34, run34), (36, run36), (41, run41), (37, run37), (48, run48)], mkCuts 12 cuts12, altN, altN_ok⟩
theorem e12_0 (n : Nat) (x0 : List (ByteArray × Int × Int × Bool)) (x1 : Int) (x2 : List (ByteArray × Int × Int × Bool)) : stepF X12 8 12 (endK sr12 toB12) [1, 1, 1, 1, 1, 1, 0, 1, 0] sh12_0 n [.l [.str, .int .i64, .int .i64, .bool] x0, .i x1, .l [.str, .int .i64, .int .i64, .bool] x2] = F12_c0 (n + 1) x0 x1 x2 := by kernel_rfl
theorem e12 (n : Nat) (a0 : List (ByteArray × Int × Int × Bool)) (a1 : List (ByteArray × Int × Int × Bool)) (a2 : List (ByteArray × Int × Int × Bool)) : entF X12 8 12 pa12 (endK sr12 toB12) n [.l [.str, .int .i64, .int .i64, .bool] a0, .l [.str, .int .i64, .int .i64, .bool] a1, .l [.str, .int .i64, .int .i64, .bool] a2] = F12 n a0 a1 a2 := by kernel_rfl
theorem c12_0 : CutOK X12 8 12 (endK sr12 toB12) [1, 1, 1, 1, 1, 1, 0, 1, 0] ⟨sh12_0, g12_0⟩ := by
  refine ⟨fun ls => ?_, fun n ls r h => ?_⟩
  · cases h : g12_0 0 ls with
    | none => exact h
    | some r =>
      unfold g12_0 at h; obtain ⟨x0, ls1, rfl, h1⟩ := gL_ok h; obtain ⟨x1, ls2, rfl, h2⟩ := gI_ok h1; obtain ⟨x2, ls3, rfl, h3⟩ := gL_ok h2; obtain ⟨rfl, h4⟩ := gE_ok h3; simp only [F12_c0] at h4; cases h4
  · replace h : g12_0 (n + 1) ls = some r := h
    unfold g12_0 at h
    obtain ⟨x0, ls1, rfl, h1⟩ := gL_ok h; obtain ⟨x1, ls2, rfl, h2⟩ := gI_ok h1; obtain ⟨x2, ls3, rfl, h3⟩ := gL_ok h2; obtain ⟨rfl, h4⟩ := gE_ok h3
    exact (e12_0 n x0 x1 x2).trans h4
theorem sp12 {n : Nat} (a0 : List (ByteArray × Int × Int × Bool)) (a1 : List (ByteArray × Int × Int × Bool)) (a2 : List (ByteArray × Int × Int × Bool)) {y : Bool} (h : F12 n a0 a1 a2 = some y) : SpecF T Try.prog 12 pa12 [.l [.str, .int .i64, .int .i64, .bool] a0, .l [.str, .int .i64, .int .i64, .bool] a1, .l [.str, .int .i64, .int .i64, .bool] a2] sr12 (ofB12 y) :=
  fun_ok (X := X12) tok (sfok_of ⟨ok30, ok31, ok42, ok34, ok36, ok41, ok37, ok48, trivial⟩) mixed 12 8 cuts12 rfl toB12_ok ⟨c12_0, trivial⟩ ((e12 n a0 a1 a2).trans h)
theorem ok12 {R : Type} : SFone T Try.prog 12 (run12 : SF R) := by
  intro ls K r h
  simp only [run12] at h
  obtain ⟨a0, ls1, rfl, h1⟩ := gL_ok h; obtain ⟨a1, ls2, rfl, h2⟩ := gL_ok h1; obtain ⟨a2, ls3, rfl, h3⟩ := gL_ok h2; obtain ⟨rfl, h4⟩ := gE_ok h3
  obtain ⟨y, k1, k2⟩ := Option.bind_eq_some_iff.1 h4
  exact ⟨_, k2, sp12 a0 a1 a2 k1⟩

end Go.Proofs.Ythaomidjgadieaa
