/-
  The functions of this program, evaluated; each is as it is evaluated.
-/
import Derived.Test.YtomgapihddmafaaEvX
namespace Go.Proofs.Ytomgapihddmafaa
open Go Go.RowKit
set_option maxRecDepth 100000


/-! ### garland/garlandlaw15.RectGone -/
def pa6 : List VP := [.agg [.i .i64, .sl false [.int .i64], .sl false [.int .i64], .i .i64, .i .i64, .i .i64, .i .i64, .i .i64, .i .i64, .i .i64, .i .i64, .i .i64, .i .i64, .i .i64, .i .i64, .i .i64, .i .i64, .i .i64, .i .i64, .i .i64], .i .i64, .i .i64]
def sr6 : RShape := ⟨.b, [], none⟩
def toB6 : List Leaf → Option (Bool) := gB (fun b0 => gE (some b0))
def ofB6 (y : Bool) : List Leaf := [.b y]
theorem toB6_ok : ∀ ls b, toB6 ls = some b → ls = ofB6 b := by
  intro ls b h
  unfold toB6 at h
  obtain ⟨b0, ls1, rfl, h1⟩ := gB_ok h; obtain ⟨rfl, h2⟩ := gE_ok h1
  cases h2; rfl
def run6 {R : Type} : SF R := ⟨pa6, sr6, fun ls K => (gI (fun a0 => gL [.int .i64] (fun a1 => gL [.int .i64] (fun a2 => gI (fun a3 => gI (fun a4 => gI (fun a5 => gI (fun a6 => gI (fun a7 => gI (fun a8 => gI (fun a9 => gI (fun a10 => gI (fun a11 => gI (fun a12 => gI (fun a13 => gI (fun a14 => gI (fun a15 => gI (fun a16 => gI (fun a17 => gI (fun a18 => gI (fun a19 => gI (fun a20 => gI (fun a21 => gE (Option.bind (F6 FUEL a0 a1 a2 a3 a4 a5 a6 a7 a8 a9 a10 a11 a12 a13 a14 a15 a16 a17 a18 a19 a20 a21) fun y => K (ofB6 y))))))))))))))))))))))))) ls⟩
def sh6_0 : Shape := ⟨[(118, [(1, .i .i64), (2, .i .i64), (3, .ref 0 0), (7, .b), (8, .i .i64)])], [.cells [.i .i64, .sl false [.int .i64], .sl false [.int .i64], .i .i64, .i .i64, .i .i64, .i .i64, .i .i64, .i .i64, .i .i64, .i .i64, .i .i64, .i .i64, .i .i64, .i .i64, .i .i64, .i .i64, .i .i64, .i .i64, .i .i64]]⟩
def g6_0 (n : Nat) : List Leaf → Option (Bool) := gI (fun x0 => gI (fun x1 => gB (fun x2 => gI (fun x3 => gI (fun x4 => gL [.int .i64] (fun x5 => gL [.int .i64] (fun x6 => gI (fun x7 => gI (fun x8 => gI (fun x9 => gI (fun x10 => gI (fun x11 => gI (fun x12 => gI (fun x13 => gI (fun x14 => gI (fun x15 => gI (fun x16 => gI (fun x17 => gI (fun x18 => gI (fun x19 => gI (fun x20 => gI (fun x21 => gI (fun x22 => gI (fun x23 => gE (F6_c0 n x0 x1 x2 x3 x4 x5 x6 x7 x8 x9 x10 x11 x12 x13 x14 x15 x16 x17 x18 x19 x20 x21 x22 x23)))))))))))))))))))))))))
def cuts6 : List (List Nat × Cut (Bool)) := [([1, 1, 1, 0, 1, 0], ⟨sh6_0, g6_0⟩)]
noncomputable def X6 : Px (Bool) := ⟨T, Try.prog, lkF [(8, run8), (9, run9), (21, run21), (19, run19), (23, run23), (14, run14), (15, run15)], mkCuts 6 cuts6, altN, altN_ok⟩
theorem e6_0 (n : Nat) (x0 : Int) (x1 : Int) (x2 : Bool) (x3 : Int) (x4 : Int) (x5 : List (Int)) (x6 : List (Int)) (x7 : Int) (x8 : Int) (x9 : Int) (x10 : Int) (x11 : Int) (x12 : Int) (x13 : Int) (x14 : Int) (x15 : Int) (x16 : Int) (x17 : Int) (x18 : Int) (x19 : Int) (x20 : Int) (x21 : Int) (x22 : Int) (x23 : Int) : stepF X6 8 6 (endK sr6 toB6) [1, 1, 1, 0, 1, 0] sh6_0 n [.i x0, .i x1, .b x2, .i x3, .i x4, .l [.int .i64] x5, .l [.int .i64] x6, .i x7, .i x8, .i x9, .i x10, .i x11, .i x12, .i x13, .i x14, .i x15, .i x16, .i x17, .i x18, .i x19, .i x20, .i x21, .i x22, .i x23] = F6_c0 (n + 1) x0 x1 x2 x3 x4 x5 x6 x7 x8 x9 x10 x11 x12 x13 x14 x15 x16 x17 x18 x19 x20 x21 x22 x23 := by kernel_rfl
theorem e6 (n : Nat) (a0 : Int) (a1 : List (Int)) (a2 : List (Int)) (a3 : Int) (a4 : Int) (a5 : Int) (a6 : Int) (a7 : Int) (a8 : Int) (a9 : Int) (a10 : Int) (a11 : Int) (a12 : Int) (a13 : Int) (a14 : Int) (a15 : Int) (a16 : Int) (a17 : Int) (a18 : Int) (a19 : Int) (a20 : Int) (a21 : Int) : entF X6 8 6 pa6 (endK sr6 toB6) n [.i a0, .l [.int .i64] a1, .l [.int .i64] a2, .i a3, .i a4, .i a5, .i a6, .i a7, .i a8, .i a9, .i a10, .i a11, .i a12, .i a13, .i a14, .i a15, .i a16, .i a17, .i a18, .i a19, .i a20, .i a21] = F6 n a0 a1 a2 a3 a4 a5 a6 a7 a8 a9 a10 a11 a12 a13 a14 a15 a16 a17 a18 a19 a20 a21 := by kernel_rfl
theorem c6_0 : CutOK X6 8 6 (endK sr6 toB6) [1, 1, 1, 0, 1, 0] ⟨sh6_0, g6_0⟩ := by
  refine ⟨fun ls => ?_, fun n ls r h => ?_⟩
  · cases h : g6_0 0 ls with
    | none => exact h
    | some r =>
      unfold g6_0 at h; obtain ⟨x0, ls1, rfl, h1⟩ := gI_ok h; obtain ⟨x1, ls2, rfl, h2⟩ := gI_ok h1; obtain ⟨x2, ls3, rfl, h3⟩ := gB_ok h2; obtain ⟨x3, ls4, rfl, h4⟩ := gI_ok h3; obtain ⟨x4, ls5, rfl, h5⟩ := gI_ok h4; obtain ⟨x5, ls6, rfl, h6⟩ := gL_ok h5; obtain ⟨x6, ls7, rfl, h7⟩ := gL_ok h6; obtain ⟨x7, ls8, rfl, h8⟩ := gI_ok h7; obtain ⟨x8, ls9, rfl, h9⟩ := gI_ok h8; obtain ⟨x9, ls10, rfl, h10⟩ := gI_ok h9; obtain ⟨x10, ls11, rfl, h11⟩ := gI_ok h10; obtain ⟨x11, ls12, rfl, h12⟩ := gI_ok h11; obtain ⟨x12, ls13, rfl, h13⟩ := gI_ok h12; obtain ⟨x13, ls14, rfl, h14⟩ := gI_ok h13; obtain ⟨x14, ls15, rfl, h15⟩ := gI_ok h14; obtain ⟨x15, ls16, rfl, h16⟩ := gI_ok h15; obtain ⟨x16, ls17, rfl, h17⟩ := gI_ok h16; obtain ⟨x17, ls18, rfl, h18⟩ := gI_ok h17; obtain ⟨x18, ls19, rfl, h19⟩ := gI_ok h18; obtain ⟨x19, ls20, rfl, h20⟩ := gI_ok h19; obtain ⟨x20, ls21, rfl, h21⟩ := gI_ok h20; obtain ⟨x21, ls22, rfl, h22⟩ := gI_ok h21; obtain ⟨x22, ls23, rfl, h23⟩ := gI_ok h22; obtain ⟨x23, ls24, rfl, h24⟩ := gI_ok h23; obtain ⟨rfl, h25⟩ := gE_ok h24; simp only [F6_c0] at h25; cases h25
  · replace h : g6_0 (n + 1) ls = some r := h
    unfold g6_0 at h
    obtain ⟨x0, ls1, rfl, h1⟩ := gI_ok h; obtain ⟨x1, ls2, rfl, h2⟩ := gI_ok h1; obtain ⟨x2, ls3, rfl, h3⟩ := gB_ok h2; obtain ⟨x3, ls4, rfl, h4⟩ := gI_ok h3; obtain ⟨x4, ls5, rfl, h5⟩ := gI_ok h4; obtain ⟨x5, ls6, rfl, h6⟩ := gL_ok h5; obtain ⟨x6, ls7, rfl, h7⟩ := gL_ok h6; obtain ⟨x7, ls8, rfl, h8⟩ := gI_ok h7; obtain ⟨x8, ls9, rfl, h9⟩ := gI_ok h8; obtain ⟨x9, ls10, rfl, h10⟩ := gI_ok h9; obtain ⟨x10, ls11, rfl, h11⟩ := gI_ok h10; obtain ⟨x11, ls12, rfl, h12⟩ := gI_ok h11; obtain ⟨x12, ls13, rfl, h13⟩ := gI_ok h12; obtain ⟨x13, ls14, rfl, h14⟩ := gI_ok h13; obtain ⟨x14, ls15, rfl, h15⟩ := gI_ok h14; obtain ⟨x15, ls16, rfl, h16⟩ := gI_ok h15; obtain ⟨x16, ls17, rfl, h17⟩ := gI_ok h16; obtain ⟨x17, ls18, rfl, h18⟩ := gI_ok h17; obtain ⟨x18, ls19, rfl, h19⟩ := gI_ok h18; obtain ⟨x19, ls20, rfl, h20⟩ := gI_ok h19; obtain ⟨x20, ls21, rfl, h21⟩ := gI_ok h20; obtain ⟨x21, ls22, rfl, h22⟩ := gI_ok h21; obtain ⟨x22, ls23, rfl, h23⟩ := gI_ok h22; obtain ⟨x23, ls24, rfl, h24⟩ := gI_ok h23; obtain ⟨rfl, h25⟩ := gE_ok h24
    exact (e6_0 n x0 x1 x2 x3 x4 x5 x6 x7 x8 x9 x10 x11 x12 x13 x14 x15 x16 x17 x18 x19 x20 x21 x22 x23).trans h25
theorem sp6 {n : Nat} (a0 : Int) (a1 : List (Int)) (a2 : List (Int)) (a3 : Int) (a4 : Int) (a5 : Int) (a6 : Int) (a7 : Int) (a8 : Int) (a9 : Int) (a10 : Int) (a11 : Int) (a12 : Int) (a13 : Int) (a14 : Int) (a15 : Int) (a16 : Int) (a17 : Int) (a18 : Int) (a19 : Int) (a20 : Int) (a21 : Int) {y : Bool} (h : F6 n a0 a1 a2 a3 a4 a5 a6 a7 a8 a9 a10 a11 a12 a13 a14 a15 a16 a17 a18 a19 a20 a21 = some y) : SpecF T Try.prog 6 pa6 [.i a0, .l [.int .i64] a1, .l [.int .i64] a2, .i a3, .i a4, .i a5, .i a6, .i a7, .i a8, .i a9, .i a10, .i a11, .i a12, .i a13, .i a14, .i a15, .i a16, .i a17, .i a18, .i a19, .i a20, .i a21] sr6 (ofB6 y) :=
  fun_ok (X := X6) tok (sfok_of ⟨ok8, ok9, ok21, ok19, ok23, ok14, ok15, trivial⟩) mixed 6 8 cuts6 rfl toB6_ok ⟨c6_0, trivial⟩ ((e6 n a0 a1 a2 a3 a4 a5 a6 a7 a8 a9 a10 a11 a12 a13 a14 a15 a16 a17 a18 a19 a20 a21).trans h)
theorem ok6 {R : Type} : SFone T Try.prog 6 (run6 : SF R) := by
  intro ls K r h
  simp only [run6] at h
  obtain ⟨a0, ls1, rfl, h1⟩ := gI_ok h; obtain ⟨a1, ls2, rfl, h2⟩ := gL_ok h1; obtain ⟨a2, ls3, rfl, h3⟩ := gL_ok h2; obtain ⟨a3, ls4, rfl, h4⟩ := gI_ok h3; obtain ⟨a4, ls5, rfl, h5⟩ := gI_ok h4; obtain ⟨a5, ls6, rfl, h6⟩ := gI_ok h5; obtain ⟨a6, ls7, rfl, h7⟩ := gI_ok h6; obtain ⟨a7, ls8, rfl, h8⟩ := gI_ok h7; obtain ⟨a8, ls9, rfl, h9⟩ := gI_ok h8; obtain ⟨a9, ls10, rfl, h10⟩ := gI_ok h9; obtain ⟨a10, ls11, rfl, h11⟩ := gI_ok h10; obtain ⟨a11, ls12, rfl, h12⟩ := gI_ok h11; obtain ⟨a12, ls13, rfl, h13⟩ := gI_ok h12; obtain ⟨a13, ls14, rfl, h14⟩ := gI_ok h13; obtain ⟨a14, ls15, rfl, h15⟩ := gI_ok h14; obtain ⟨a15, ls16, rfl, h16⟩ := gI_ok h15; obtain ⟨a16, ls17, rfl, h17⟩ := gI_ok h16; obtain ⟨a17, ls18, rfl, h18⟩ := gI_ok h17; obtain ⟨a18, ls19, rfl, h19⟩ := gI_ok h18; obtain ⟨a19, ls20, rfl, h20⟩ := gI_ok h19; obtain ⟨a20, ls21, rfl, h21⟩ := gI_ok h20; obtain ⟨a21, ls22, rfl, h22⟩ := gI_ok h21; obtain ⟨rfl, h23⟩ := gE_ok h22
  obtain ⟨y, k1, k2⟩ := Option.bind_eq_some_iff.1 h23
  exact ⟨_, k2, sp6 a0 a1 a2 a3 a4 a5 a6 a7 a8 a9 a10 a11 a12 a13 a14 a15 a16 a17 a18 a19 a20 a21 k1⟩

/-! ### garland/garlandlaw15.RectBad -/
def pa7 : List VP := [.agg [.i .i64, .sl false [.int .i64], .sl false [.int .i64], .i .i64, .i .i64, .i .i64, .i .i64, .i .i64, .i .i64, .i .i64, .i .i64, .i .i64, .i .i64, .i .i64, .i .i64, .i .i64, .i .i64, .i .i64, .i .i64, .i .i64], .i .i64, .sl false [.int .i64]]
def sr7 : RShape := ⟨.b, [], none⟩
def toB7 : List Leaf → Option (Bool) := gB (fun b0 => gE (some b0))
def ofB7 (y : Bool) : List Leaf := [.b y]
theorem toB7_ok : ∀ ls b, toB7 ls = some b → ls = ofB7 b := by
  intro ls b h
  unfold toB7 at h
  obtain ⟨b0, ls1, rfl, h1⟩ := gB_ok h; obtain ⟨rfl, h2⟩ := gE_ok h1
  cases h2; rfl
def run7 {R : Type} : SF R := ⟨pa7, sr7, fun ls K => (gI (fun a0 => gL [.int .i64] (fun a1 => gL [.int .i64] (fun a2 => gI (fun a3 => gI (fun a4 => gI (fun a5 => gI (fun a6 => gI (fun a7 => gI (fun a8 => gI (fun a9 => gI (fun a10 => gI (fun a11 => gI (fun a12 => gI (fun a13 => gI (fun a14 => gI (fun a15 => gI (fun a16 => gI (fun a17 => gI (fun a18 => gI (fun a19 => gI (fun a20 => gL [.int .i64] (fun a21 => gE (Option.bind (F7 FUEL a0 a1 a2 a3 a4 a5 a6 a7 a8 a9 a10 a11 a12 a13 a14 a15 a16 a17 a18 a19 a20 a21) fun y => K (ofB7 y))))))))))))))))))))))))) ls⟩
def cuts7 : List (List Nat × Cut (Bool)) := []
noncomputable def X7 : Px (Bool) := ⟨T, Try.prog, lkF [(8, run8), (9, run9), (21, run21), (10, run10), (12, run12), (15, run15), (14, run14), (17, run17), (19, run19)], mkCuts 7 cuts7, altN, altN_ok⟩
theorem e7 (n : Nat) (a0 : Int) (a1 : List (Int)) (a2 : List (Int)) (a3 : Int) (a4 : Int) (a5 : Int) (a6 : Int) (a7 : Int) (a8 : Int) (a9 : Int) (a10 : Int) (a11 : Int) (a12 : Int) (a13 : Int) (a14 : Int) (a15 : Int) (a16 : Int) (a17 : Int) (a18 : Int) (a19 : Int) (a20 : Int) (a21 : List (Int)) : entF X7 8 7 pa7 (endK sr7 toB7) n [.i a0, .l [.int .i64] a1, .l [.int .i64] a2, .i a3, .i a4, .i a5, .i a6, .i a7, .i a8, .i a9, .i a10, .i a11, .i a12, .i a13, .i a14, .i a15, .i a16, .i a17, .i a18, .i a19, .i a20, .l [.int .i64] a21] = F7 n a0 a1 a2 a3 a4 a5 a6 a7 a8 a9 a10 a11 a12 a13 a14 a15 a16 a17 a18 a19 a20 a21 := by kernel_rfl
theorem sp7 {n : Nat} (a0 : Int) (a1 : List (Int)) (a2 : List (Int)) (a3 : Int) (a4 : Int) (a5 : Int) (a6 : Int) (a7 : Int) (a8 : Int) (a9 : Int) (a10 : Int) (a11 : Int) (a12 : Int) (a13 : Int) (a14 : Int) (a15 : Int) (a16 : Int) (a17 : Int) (a18 : Int) (a19 : Int) (a20 : Int) (a21 : List (Int)) {y : Bool} (h : F7 n a0 a1 a2 a3 a4 a5 a6 a7 a8 a9 a10 a11 a12 a13 a14 a15 a16 a17 a18 a19 a20 a21 = some y) : SpecF T Try.prog 7 pa7 [.i a0, .l [.int .i64] a1, .l [.int .i64] a2, .i a3, .i a4, .i a5, .i a6, .i a7, .i a8, .i a9, .i a10, .i a11, .i a12, .i a13, .i a14, .i a15, .i a16, .i a17, .i a18, .i a19, .i a20, .l [.int .i64] a21] sr7 (ofB7 y) :=
  fun_ok (X := X7) tok (sfok_of ⟨ok8, ok9, ok21, ok10, ok12, ok15, ok14, ok17, ok19, trivial⟩) mixed 7 8 cuts7 rfl toB7_ok trivial ((e7 n a0 a1 a2 a3 a4 a5 a6 a7 a8 a9 a10 a11 a12 a13 a14 a15 a16 a17 a18 a19 a20 a21).trans h)
theorem ok7 {R : Type} : SFone T Try.prog 7 (run7 : SF R) := by
  intro ls K r h
  simp only [run7] at h
  obtain ⟨a0, ls1, rfl, h1⟩ := gI_ok h; obtain ⟨a1, ls2, rfl, h2⟩ := gL_ok h1; obtain ⟨a2, ls3, rfl, h3⟩ := gL_ok h2; obtain ⟨a3, ls4, rfl, h4⟩ := gI_ok h3; obtain ⟨a4, ls5, rfl, h5⟩ := gI_ok h4; obtain ⟨a5, ls6, rfl, h6⟩ := gI_ok h5; obtain ⟨a6, ls7, rfl, h7⟩ := gI_ok h6; obtain ⟨a7, ls8, rfl, h8⟩ := gI_ok h7; obtain ⟨a8, ls9, rfl, h9⟩ := gI_ok h8; obtain ⟨a9, ls10, rfl, h10⟩ := gI_ok h9; obtain ⟨a10, ls11, rfl, h11⟩ := gI_ok h10; obtain ⟨a11, ls12, rfl, h12⟩ := gI_ok h11; obtain ⟨a12, ls13, rfl, h13⟩ := gI_ok h12; obtain ⟨a13, ls14, rfl, h14⟩ := gI_ok h13; obtain ⟨a14, ls15, rfl, h15⟩ := gI_ok h14; obtain ⟨a15, ls16, rfl, h16⟩ := gI_ok h15; obtain ⟨a16, ls17, rfl, h17⟩ := gI_ok h16; obtain ⟨a17, ls18, rfl, h18⟩ := gI_ok h17; obtain ⟨a18, ls19, rfl, h19⟩ := gI_ok h18; obtain ⟨a19, ls20, rfl, h20⟩ := gI_ok h19; obtain ⟨a20, ls21, rfl, h21⟩ := gI_ok h20; obtain ⟨a21, ls22, rfl, h22⟩ := gL_ok h21; obtain ⟨rfl, h23⟩ := gE_ok h22
  obtain ⟨y, k1, k2⟩ := Option.bind_eq_some_iff.1 h23
  exact ⟨_, k2, sp7 a0 a1 a2 a3 a4 a5 a6 a7 a8 a9 a10 a11 a12 a13 a14 a15 a16 a17 a18 a19 a20 a21 k1⟩

end Go.Proofs.Ytomgapihddmafaa
