/-
  The functions of this program, evaluated; each is as it is evaluated.
-/
import Derived.Test.YtlbdcdflffgehaaEwX
namespace Go.Proofs.Ytlbdcdflffgehaa
open Go Go.RowKit
set_option maxRecDepth 100000


/-! ### garland/garlandref16.Next -/
def pa16 : List VP := [.agg [.i .i64, .sl false [.int .i64], .sl false [.int .i64], .i .i64, .i .i64, .i .i64, .i .i64, .i .i64, .i .i64, .i .i64, .i .i64, .i .i64, .i .i64, .i .i64, .i .i64, .i .i64, .i .i64, .i .i64, .i .i64, .i .i64], .i .i64, .b]
def sr16 : RShape := ⟨.tup [.i .i64, .b], [], none⟩
def toB16 : List Leaf → Option (Int × Bool) := gI (fun b0 => gB (fun b1 => gE (some (b0, b1))))
def ofB16 (y : Int × Bool) : List Leaf := [.i y.1, .b y.2]
theorem toB16_ok : ∀ ls b, toB16 ls = some b → ls = ofB16 b := by
  intro ls b h
  unfold toB16 at h
  obtain ⟨b0, ls1, rfl, h1⟩ := gI_ok h; obtain ⟨b1, ls2, rfl, h2⟩ := gB_ok h1; obtain ⟨rfl, h3⟩ := gE_ok h2
  cases h3; rfl
def run16 {R : Type} : SF R := ⟨pa16, sr16, fun ls K => (gI (fun a0 => gL [.int .i64] (fun a1 => gL [.int .i64] (fun a2 => gI (fun a3 => gI (fun a4 => gI (fun a5 => gI (fun a6 => gI (fun a7 => gI (fun a8 => gI (fun a9 => gI (fun a10 => gI (fun a11 => gI (fun a12 => gI (fun a13 => gI (fun a14 => gI (fun a15 => gI (fun a16 => gI (fun a17 => gI (fun a18 => gI (fun a19 => gI (fun a20 => gB (fun a21 => gE (Option.bind (F16 FUEL a0 a1 a2 a3 a4 a5 a6 a7 a8 a9 a10 a11 a12 a13 a14 a15 a16 a17 a18 a19 a20 a21) fun y => K (ofB16 y))))))))))))))))))))))))) ls⟩
def sh16_0 : Shape := ⟨[(72, [(1, .i .i64), (3, .ref 0 0), (9, .i .i64), (10, .row 1), (11, .i .i64)])], [.cells [.i .i64, .sl false [.int .i64], .sl false [.int .i64], .i .i64, .i .i64, .i .i64, .i .i64, .i .i64, .i .i64, .i .i64, .i .i64, .i .i64, .i .i64, .i .i64, .i .i64, .i .i64, .i .i64, .i .i64, .i .i64, .i .i64], .row true [.int .i64]]⟩
def g16_0 (n : Nat) : List Leaf → Option (Int × Bool) := gI (fun x0 => gI (fun x1 => gI (fun x2 => gI (fun x3 => gL [.int .i64] (fun x4 => gL [.int .i64] (fun x5 => gI (fun x6 => gI (fun x7 => gI (fun x8 => gI (fun x9 => gI (fun x10 => gI (fun x11 => gI (fun x12 => gI (fun x13 => gI (fun x14 => gI (fun x15 => gI (fun x16 => gI (fun x17 => gI (fun x18 => gI (fun x19 => gI (fun x20 => gI (fun x21 => gI (fun x22 => gL [.int .i64] (fun x23 => gE (F16_c0 n x0 x1 x2 x3 x4 x5 x6 x7 x8 x9 x10 x11 x12 x13 x14 x15 x16 x17 x18 x19 x20 x21 x22 x23)))))))))))))))))))))))))
def cuts16 : List (List Nat × Cut (Int × Bool)) := [([1, 1, 1, 1, 1, 1, 1, 0, 1, 0], ⟨sh16_0, g16_0⟩)]
noncomputable def X16 : Px (Int × Bool) := ⟨T, Try.prog, lkF [(25, run25), (50, run50), (51, run51), (26, run26)], mkCuts 16 cuts16, altN, altN_ok⟩
theorem e16_0 (n : Nat) (x0 : Int) (x1 : Int) (x2 : Int) (x3 : Int) (x4 : List (Int)) (x5 : List (Int)) (x6 : Int) (x7 : Int) (x8 : Int) (x9 : Int) (x10 : Int) (x11 : Int) (x12 : Int) (x13 : Int) (x14 : Int) (x15 : Int) (x16 : Int) (x17 : Int) (x18 : Int) (x19 : Int) (x20 : Int) (x21 : Int) (x22 : Int) (x23 : List (Int)) : stepF X16 8 16 (endK sr16 toB16) [1, 1, 1, 1, 1, 1, 1, 0, 1, 0] sh16_0 n [.i x0, .i x1, .i x2, .i x3, .l [.int .i64] x4, .l [.int .i64] x5, .i x6, .i x7, .i x8, .i x9, .i x10, .i x11, .i x12, .i x13, .i x14, .i x15, .i x16, .i x17, .i x18, .i x19, .i x20, .i x21, .i x22, .l [.int .i64] x23] = F16_c0 (n + 1) x0 x1 x2 x3 x4 x5 x6 x7 x8 x9 x10 x11 x12 x13 x14 x15 x16 x17 x18 x19 x20 x21 x22 x23 := by kernel_rfl
theorem e16 (n : Nat) (a0 : Int) (a1 : List (Int)) (a2 : List (Int)) (a3 : Int) (a4 : Int) (a5 : Int) (a6 : Int) (a7 : Int) (a8 : Int) (a9 : Int) (a10 : Int) (a11 : Int) (a12 : Int) (a13 : Int) (a14 : Int) (a15 : Int) (a16 : Int) (a17 : Int) (a18 : Int) (a19 : Int) (a20 : Int) (a21 : Bool) : entF X16 8 16 pa16 (endK sr16 toB16) n [.i a0, .l [.int .i64] a1, .l [.int .i64] a2, .i a3, .i a4, .i a5, .i a6, .i a7, .i a8, .i a9, .i a10, .i a11, .i a12, .i a13, .i a14, .i a15, .i a16, .i a17, .i a18, .i a19, .i a20, .b a21] = F16 n a0 a1 a2 a3 a4 a5 a6 a7 a8 a9 a10 a11 a12 a13 a14 a15 a16 a17 a18 a19 a20 a21 := by kernel_rfl
theorem c16_0 : CutOK X16 8 16 (endK sr16 toB16) [1, 1, 1, 1, 1, 1, 1, 0, 1, 0] ⟨sh16_0, g16_0⟩ := by
  refine ⟨fun ls => ?_, fun n ls r h => ?_⟩
  · cases h : g16_0 0 ls with
    | none => exact h
    | some r =>
      unfold g16_0 at h; obtain ⟨x0, ls1, rfl, h1⟩ := gI_ok h; obtain ⟨x1, ls2, rfl, h2⟩ := gI_ok h1; obtain ⟨x2, ls3, rfl, h3⟩ := gI_ok h2; obtain ⟨x3, ls4, rfl, h4⟩ := gI_ok h3; obtain ⟨x4, ls5, rfl, h5⟩ := gL_ok h4; obtain ⟨x5, ls6, rfl, h6⟩ := gL_ok h5; obtain ⟨x6, ls7, rfl, h7⟩ := gI_ok h6; obtain ⟨x7, ls8, rfl, h8⟩ := gI_ok h7; obtain ⟨x8, ls9, rfl, h9⟩ := gI_ok h8; obtain ⟨x9, ls10, rfl, h10⟩ := gI_ok h9; obtain ⟨x10, ls11, rfl, h11⟩ := gI_ok h10; obtain ⟨x11, ls12, rfl, h12⟩ := gI_ok h11; obtain ⟨x12, ls13, rfl, h13⟩ := gI_ok h12; obtain ⟨x13, ls14, rfl, h14⟩ := gI_ok h13; obtain ⟨x14, ls15, rfl, h15⟩ := gI_ok h14; obtain ⟨x15, ls16, rfl, h16⟩ := gI_ok h15; obtain ⟨x16, ls17, rfl, h17⟩ := gI_ok h16; obtain ⟨x17, ls18, rfl, h18⟩ := gI_ok h17; obtain ⟨x18, ls19, rfl, h19⟩ := gI_ok h18; obtain ⟨x19, ls20, rfl, h20⟩ := gI_ok h19; obtain ⟨x20, ls21, rfl, h21⟩ := gI_ok h20; obtain ⟨x21, ls22, rfl, h22⟩ := gI_ok h21; obtain ⟨x22, ls23, rfl, h23⟩ := gI_ok h22; obtain ⟨x23, ls24, rfl, h24⟩ := gL_ok h23; obtain ⟨rfl, h25⟩ := gE_ok h24; simp only [F16_c0] at h25; cases h25
  · replace h : g16_0 (n + 1) ls = some r := h
    unfold g16_0 at h
    obtain ⟨x0, ls1, rfl, h1⟩ := gI_ok h; obtain ⟨x1, ls2, rfl, h2⟩ := gI_ok h1; obtain ⟨x2, ls3, rfl, h3⟩ := gI_ok h2; obtain ⟨x3, ls4, rfl, h4⟩ := gI_ok h3; obtain ⟨x4, ls5, rfl, h5⟩ := gL_ok h4; obtain ⟨x5, ls6, rfl, h6⟩ := gL_ok h5; obtain ⟨x6, ls7, rfl, h7⟩ := gI_ok h6; obtain ⟨x7, ls8, rfl, h8⟩ := gI_ok h7; obtain ⟨x8, ls9, rfl, h9⟩ := gI_ok h8; obtain ⟨x9, ls10, rfl, h10⟩ := gI_ok h9; obtain ⟨x10, ls11, rfl, h11⟩ := gI_ok h10; obtain ⟨x11, ls12, rfl, h12⟩ := gI_ok h11; obtain ⟨x12, ls13, rfl, h13⟩ := gI_ok h12; obtain ⟨x13, ls14, rfl, h14⟩ := gI_ok h13; obtain ⟨x14, ls15, rfl, h15⟩ := gI_ok h14; obtain ⟨x15, ls16, rfl, h16⟩ := gI_ok h15; obtain ⟨x16, ls17, rfl, h17⟩ := gI_ok h16; obtain ⟨x17, ls18, rfl, h18⟩ := gI_ok h17; obtain ⟨x18, ls19, rfl, h19⟩ := gI_ok h18; obtain ⟨x19, ls20, rfl, h20⟩ := gI_ok h19; obtain ⟨x20, ls21, rfl, h21⟩ := gI_ok h20; obtain ⟨x21, ls22, rfl, h22⟩ := gI_ok h21; obtain ⟨x22, ls23, rfl, h23⟩ := gI_ok h22; obtain ⟨x23, ls24, rfl, h24⟩ := gL_ok h23; obtain ⟨rfl, h25⟩ := gE_ok h24
    exact (e16_0 n x0 x1 x2 x3 x4 x5 x6 x7 x8 x9 x10 x11 x12 x13 x14 x15 x16 x17 x18 x19 x20 x21 x22 x23).trans h25
theorem sp16 {n : Nat} (a0 : Int) (a1 : List (Int)) (a2 : List (Int)) (a3 : Int) (a4 : Int) (a5 : Int) (a6 : Int) (a7 : Int) (a8 : Int) (a9 : Int) (a10 : Int) (a11 : Int) (a12 : Int) (a13 : Int) (a14 : Int) (a15 : Int) (a16 : Int) (a17 : Int) (a18 : Int) (a19 : Int) (a20 : Int) (a21 : Bool) {y : Int × Bool} (h : F16 n a0 a1 a2 a3 a4 a5 a6 a7 a8 a9 a10 a11 a12 a13 a14 a15 a16 a17 a18 a19 a20 a21 = some y) : SpecF T Try.prog 16 pa16 [.i a0, .l [.int .i64] a1, .l [.int .i64] a2, .i a3, .i a4, .i a5, .i a6, .i a7, .i a8, .i a9, .i a10, .i a11, .i a12, .i a13, .i a14, .i a15, .i a16, .i a17, .i a18, .i a19, .i a20, .b a21] sr16 (ofB16 y) :=
  fun_ok (X := X16) tok (sfok_of ⟨ok25, ok50, ok51, ok26, trivial⟩) mixed 16 8 cuts16 rfl toB16_ok ⟨c16_0, trivial⟩ ((e16 n a0 a1 a2 a3 a4 a5 a6 a7 a8 a9 a10 a11 a12 a13 a14 a15 a16 a17 a18 a19 a20 a21).trans h)
theorem ok16 {R : Type} : SFone T Try.prog 16 (run16 : SF R) := by
  intro ls K r h
  simp only [run16] at h
  obtain ⟨a0, ls1, rfl, h1⟩ := gI_ok h; obtain ⟨a1, ls2, rfl, h2⟩ := gL_ok h1; obtain ⟨a2, ls3, rfl, h3⟩ := gL_ok h2; obtain ⟨a3, ls4, rfl, h4⟩ := gI_ok h3; obtain ⟨a4, ls5, rfl, h5⟩ := gI_ok h4; obtain ⟨a5, ls6, rfl, h6⟩ := gI_ok h5; obtain ⟨a6, ls7, rfl, h7⟩ := gI_ok h6; obtain ⟨a7, ls8, rfl, h8⟩ := gI_ok h7; obtain ⟨a8, ls9, rfl, h9⟩ := gI_ok h8; obtain ⟨a9, ls10, rfl, h10⟩ := gI_ok h9; obtain ⟨a10, ls11, rfl, h11⟩ := gI_ok h10; obtain ⟨a11, ls12, rfl, h12⟩ := gI_ok h11; obtain ⟨a12, ls13, rfl, h13⟩ := gI_ok h12; obtain ⟨a13, ls14, rfl, h14⟩ := gI_ok h13; obtain ⟨a14, ls15, rfl, h15⟩ := gI_ok h14; obtain ⟨a15, ls16, rfl, h16⟩ := gI_ok h15; obtain ⟨a16, ls17, rfl, h17⟩ := gI_ok h16; obtain ⟨a17, ls18, rfl, h18⟩ := gI_ok h17; obtain ⟨a18, ls19, rfl, h19⟩ := gI_ok h18; obtain ⟨a19, ls20, rfl, h20⟩ := gI_ok h19; obtain ⟨a20, ls21, rfl, h21⟩ := gI_ok h20; obtain ⟨a21, ls22, rfl, h22⟩ := gB_ok h21; obtain ⟨rfl, h23⟩ := gE_ok h22
  obtain ⟨y, k1, k2⟩ := Option.bind_eq_some_iff.1 h23
  exact ⟨_, k2, sp16 a0 a1 a2 a3 a4 a5 a6 a7 a8 a9 a10 a11 a12 a13 a14 a15 a16 a17 a18 a19 a20 a21 k1⟩

/-! ### garland/garlandref18.on -/
def pa67 : List VP := [.agg [.i .i64, .sl false [.int .i64], .sl false [.int .i64], .i .i64, .i .i64, .i .i64, .i .i64, .i .i64, .i .i64, .i .i64, .i .i64, .i .i64, .i .i64, .i .i64, .i .i64, .i .i64, .i .i64, .i .i64, .i .i64, .i .i64], .agg [.i .i64, .i .i64, .i .i64, .b, .b, .i .i64], .i .i64, .b]
def sr67 : RShape := ⟨.agg [.i .i64, .i .i64, .i .i64, .b, .b, .i .i64], [], none⟩
def toB67 : List Leaf → Option (Si3b2i) := gI (fun b0 => gI (fun b1 => gI (fun b2 => gB (fun b3 => gB (fun b4 => gI (fun b5 => gE (some ⟨b0, b1, b2, b3, b4, b5⟩)))))))
def ofB67 (y : Si3b2i) : List Leaf := [.i y.q0, .i y.q1, .i y.q2, .b y.q3, .b y.q4, .i y.q5]
theorem toB67_ok : ∀ ls b, toB67 ls = some b → ls = ofB67 b := by
  intro ls b h
  unfold toB67 at h
  obtain ⟨b0, ls1, rfl, h1⟩ := gI_ok h; obtain ⟨b1, ls2, rfl, h2⟩ := gI_ok h1; obtain ⟨b2, ls3, rfl, h3⟩ := gI_ok h2; obtain ⟨b3, ls4, rfl, h4⟩ := gB_ok h3; obtain ⟨b4, ls5, rfl, h5⟩ := gB_ok h4; obtain ⟨b5, ls6, rfl, h6⟩ := gI_ok h5; obtain ⟨rfl, h7⟩ := gE_ok h6
  cases h7; rfl
def run67 {R : Type} : SF R := ⟨pa67, sr67, fun ls K => (gI (fun a0 => gL [.int .i64] (fun a1 => gL [.int .i64] (fun a2 => gI (fun a3 => gI (fun a4 => gI (fun a5 => gI (fun a6 => gI (fun a7 => gI (fun a8 => gI (fun a9 => gI (fun a10 => gI (fun a11 => gI (fun a12 => gI (fun a13 => gI (fun a14 => gI (fun a15 => gI (fun a16 => gI (fun a17 => gI (fun a18 => gI (fun a19 => gI (fun a20 => gI (fun a21 => gI (fun a22 => gB (fun a23 => gB (fun a24 => gI (fun a25 => gI (fun a26 => gB (fun a27 => gE (Option.bind (F67 FUEL a0 a1 a2 a3 a4 a5 a6 a7 a8 a9 a10 a11 a12 a13 a14 a15 a16 a17 a18 a19 a20 a21 a22 a23 a24 a25 a26 a27) fun y => K (ofB67 y))))))))))))))))))))))))))))))) ls⟩
def cuts67 : List (List Nat × Cut (Si3b2i)) := []
noncomputable def X67 : Px (Si3b2i) := ⟨T, Try.prog, lkF [(16, run16)], mkCuts 67 cuts67, altN, altN_ok⟩
theorem e67 (n : Nat) (a0 : Int) (a1 : List (Int)) (a2 : List (Int)) (a3 : Int) (a4 : Int) (a5 : Int) (a6 : Int) (a7 : Int) (a8 : Int) (a9 : Int) (a10 : Int) (a11 : Int) (a12 : Int) (a13 : Int) (a14 : Int) (a15 : Int) (a16 : Int) (a17 : Int) (a18 : Int) (a19 : Int) (a20 : Int) (a21 : Int) (a22 : Int) (a23 : Bool) (a24 : Bool) (a25 : Int) (a26 : Int) (a27 : Bool) : entF X67 8 67 pa67 (endK sr67 toB67) n [.i a0, .l [.int .i64] a1, .l [.int .i64] a2, .i a3, .i a4, .i a5, .i a6, .i a7, .i a8, .i a9, .i a10, .i a11, .i a12, .i a13, .i a14, .i a15, .i a16, .i a17, .i a18, .i a19, .i a20, .i a21, .i a22, .b a23, .b a24, .i a25, .i a26, .b a27] = F67 n a0 a1 a2 a3 a4 a5 a6 a7 a8 a9 a10 a11 a12 a13 a14 a15 a16 a17 a18 a19 a20 a21 a22 a23 a24 a25 a26 a27 := by kernel_rfl
theorem sp67 {n : Nat} (a0 : Int) (a1 : List (Int)) (a2 : List (Int)) (a3 : Int) (a4 : Int) (a5 : Int) (a6 : Int) (a7 : Int) (a8 : Int) (a9 : Int) (a10 : Int) (a11 : Int) (a12 : Int) (a13 : Int) (a14 : Int) (a15 : Int) (a16 : Int) (a17 : Int) (a18 : Int) (a19 : Int) (a20 : Int) (a21 : Int) (a22 : Int) (a23 : Bool) (a24 : Bool) (a25 : Int) (a26 : Int) (a27 : Bool) {y : Si3b2i} (h : F67 n a0 a1 a2 a3 a4 a5 a6 a7 a8 a9 a10 a11 a12 a13 a14 a15 a16 a17 a18 a19 a20 a21 a22 a23 a24 a25 a26 a27 = some y) : SpecF T Try.prog 67 pa67 [.i a0, .l [.int .i64] a1, .l [.int .i64] a2, .i a3, .i a4, .i a5, .i a6, .i a7, .i a8, .i a9, .i a10, .i a11, .i a12, .i a13, .i a14, .i a15, .i a16, .i a17, .i a18, .i a19, .i a20, .i a21, .i a22, .b a23, .b a24, .i a25, .i a26, .b a27] sr67 (ofB67 y) :=
  fun_ok (X := X67) tok (sfok_of ⟨ok16, trivial⟩) mixed 67 8 cuts67 rfl toB67_ok trivial ((e67 n a0 a1 a2 a3 a4 a5 a6 a7 a8 a9 a10 a11 a12 a13 a14 a15 a16 a17 a18 a19 a20 a21 a22 a23 a24 a25 a26 a27).trans h)
theorem ok67 {R : Type} : SFone T Try.prog 67 (run67 : SF R) := by
  intro ls K r h
  simp only [run67] at h
  obtain ⟨a0, ls1, rfl, h1⟩ := gI_ok h; obtain ⟨a1, ls2, rfl, h2⟩ := gL_ok h1; obtain ⟨a2, ls3, rfl, h3⟩ := gL_ok h2; obtain ⟨a3, ls4, rfl, h4⟩ := gI_ok h3; obtain ⟨a4, ls5, rfl, h5⟩ := gI_ok h4; obtain ⟨a5, ls6, rfl, h6⟩ := gI_ok h5; obtain ⟨a6, ls7, rfl, h7⟩ := gI_ok h6; obtain ⟨a7, ls8, rfl, h8⟩ := gI_ok h7; obtain ⟨a8, ls9, rfl, h9⟩ := gI_ok h8; obtain ⟨a9, ls10, rfl, h10⟩ := gI_ok h9; obtain ⟨a10, ls11, rfl, h11⟩ := gI_ok h10; obtain ⟨a11, ls12, rfl, h12⟩ := gI_ok h11; obtain ⟨a12, ls13, rfl, h13⟩ := gI_ok h12; obtain ⟨a13, ls14, rfl, h14⟩ := gI_ok h13; obtain ⟨a14, ls15, rfl, h15⟩ := gI_ok h14; obtain ⟨a15, ls16, rfl, h16⟩ := gI_ok h15; obtain ⟨a16, ls17, rfl, h17⟩ := gI_ok h16; obtain ⟨a17, ls18, rfl, h18⟩ := gI_ok h17; obtain ⟨a18, ls19, rfl, h19⟩ := gI_ok h18; obtain ⟨a19, ls20, rfl, h20⟩ := gI_ok h19; obtain ⟨a20, ls21, rfl, h21⟩ := gI_ok h20; obtain ⟨a21, ls22, rfl, h22⟩ := gI_ok h21; obtain ⟨a22, ls23, rfl, h23⟩ := gI_ok h22; obtain ⟨a23, ls24, rfl, h24⟩ := gB_ok h23; obtain ⟨a24, ls25, rfl, h25⟩ := gB_ok h24; obtain ⟨a25, ls26, rfl, h26⟩ := gI_ok h25; obtain ⟨a26, ls27, rfl, h27⟩ := gI_ok h26; obtain ⟨a27, ls28, rfl, h28⟩ := gB_ok h27; obtain ⟨rfl, h29⟩ := gE_ok h28
  obtain ⟨y, k1, k2⟩ := Option.bind_eq_some_iff.1 h29
  exact ⟨_, k2, sp67 a0 a1 a2 a3 a4 a5 a6 a7 a8 a9 a10 a11 a12 a13 a14 a15 a16 a17 a18 a19 a20 a21 a22 a23 a24 a25 a26 a27 k1⟩

/-! ### garland/garlandref18.Begin -/
def pa34 : List VP := [.agg [.i .i64, .sl false [.int .i64], .sl false [.int .i64], .i .i64, .i .i64, .i .i64, .i .i64, .i .i64, .i .i64, .i .i64, .i .i64, .i .i64, .i .i64, .i .i64, .i .i64, .i .i64, .i .i64, .i .i64, .i .i64, .i .i64], .i .i64]
def sr34 : RShape := ⟨.agg [.i .i64, .i .i64, .i .i64, .b, .b, .i .i64], [], none⟩
def toB34 : List Leaf → Option (Si3b2i) := gI (fun b0 => gI (fun b1 => gI (fun b2 => gB (fun b3 => gB (fun b4 => gI (fun b5 => gE (some ⟨b0, b1, b2, b3, b4, b5⟩)))))))
def ofB34 (y : Si3b2i) : List Leaf := [.i y.q0, .i y.q1, .i y.q2, .b y.q3, .b y.q4, .i y.q5]
theorem toB34_ok : ∀ ls b, toB34 ls = some b → ls = ofB34 b := by
  intro ls b h
  unfold toB34 at h
  obtain ⟨b0, ls1, rfl, h1⟩ := gI_ok h; obtain ⟨b1, ls2, rfl, h2⟩ := gI_ok h1; obtain ⟨b2, ls3, rfl, h3⟩ := gI_ok h2; obtain ⟨b3, ls4, rfl, h4⟩ := gB_ok h3; obtain ⟨b4, ls5, rfl, h5⟩ := gB_ok h4; obtain ⟨b5, ls6, rfl, h6⟩ := gI_ok h5; obtain ⟨rfl, h7⟩ := gE_ok h6
  cases h7; rfl
def run34 {R : Type} : SF R := ⟨pa34, sr34, fun ls K => (gI (fun a0 => gL [.int .i64] (fun a1 => gL [.int .i64] (fun a2 => gI (fun a3 => gI (fun a4 => gI (fun a5 => gI (fun a6 => gI (fun a7 => gI (fun a8 => gI (fun a9 => gI (fun a10 => gI (fun a11 => gI (fun a12 => gI (fun a13 => gI (fun a14 => gI (fun a15 => gI (fun a16 => gI (fun a17 => gI (fun a18 => gI (fun a19 => gI (fun a20 => gE (Option.bind (F34 FUEL a0 a1 a2 a3 a4 a5 a6 a7 a8 a9 a10 a11 a12 a13 a14 a15 a16 a17 a18 a19 a20) fun y => K (ofB34 y)))))))))))))))))))))))) ls⟩
def cuts34 : List (List Nat × Cut (Si3b2i)) := []
noncomputable def X34 : Px (Si3b2i) := ⟨T, Try.prog, lkF [(24, run24), (27, run27), (67, run67)], mkCuts 34 cuts34, altN, altN_ok⟩
theorem e34 (n : Nat) (a0 : Int) (a1 : List (Int)) (a2 : List (Int)) (a3 : Int) (a4 : Int) (a5 : Int) (a6 : Int) (a7 : Int) (a8 : Int) (a9 : Int) (a10 : Int) (a11 : Int) (a12 : Int) (a13 : Int) (a14 : Int) (a15 : Int) (a16 : Int) (a17 : Int) (a18 : Int) (a19 : Int) (a20 : Int) : entF X34 8 34 pa34 (endK sr34 toB34) n [.i a0, .l [.int .i64] a1, .l [.int .i64] a2, .i a3, .i a4, .i a5, .i a6, .i a7, .i a8, .i a9, .i a10, .i a11, .i a12, .i a13, .i a14, .i a15, .i a16, .i a17, .i a18, .i a19, .i a20] = F34 n a0 a1 a2 a3 a4 a5 a6 a7 a8 a9 a10 a11 a12 a13 a14 a15 a16 a17 a18 a19 a20 := by kernel_rfl
theorem sp34 {n : Nat} (a0 : Int) (a1 : List (Int)) (a2 : List (Int)) (a3 : Int) (a4 : Int) (a5 : Int) (a6 : Int) (a7 : Int) (a8 : Int) (a9 : Int) (a10 : Int) (a11 : Int) (a12 : Int) (a13 : Int) (a14 : Int) (a15 : Int) (a16 : Int) (a17 : Int) (a18 : Int) (a19 : Int) (a20 : Int) {y : Si3b2i} (h : F34 n a0 a1 a2 a3 a4 a5 a6 a7 a8 a9 a10 a11 a12 a13 a14 a15 a16 a17 a18 a19 a20 = some y) : SpecF T Try.prog 34 pa34 [.i a0, .l [.int .i64] a1, .l [.int .i64] a2, .i a3, .i a4, .i a5, .i a6, .i a7, .i a8, .i a9, .i a10, .i a11, .i a12, .i a13, .i a14, .i a15, .i a16, .i a17, .i a18, .i a19, .i a20] sr34 (ofB34 y) :=
  fun_ok (X := X34) tok (sfok_of ⟨ok24, ok27, ok67, trivial⟩) mixed 34 8 cuts34 rfl toB34_ok trivial ((e34 n a0 a1 a2 a3 a4 a5 a6 a7 a8 a9 a10 a11 a12 a13 a14 a15 a16 a17 a18 a19 a20).trans h)
theorem ok34 {R : Type} : SFone T Try.prog 34 (run34 : SF R) := by
  intro ls K r h
  simp only [run34] at h
  obtain ⟨a0, ls1, rfl, h1⟩ := gI_ok h; obtain ⟨a1, ls2, rfl, h2⟩ := gL_ok h1; obtain ⟨a2, ls3, rfl, h3⟩ := gL_ok h2; obtain ⟨a3, ls4, rfl, h4⟩ := gI_ok h3; obtain ⟨a4, ls5, rfl, h5⟩ := gI_ok h4; obtain ⟨a5, ls6, rfl, h6⟩ := gI_ok h5; obtain ⟨a6, ls7, rfl, h7⟩ := gI_ok h6; obtain ⟨a7, ls8, rfl, h8⟩ := gI_ok h7; obtain ⟨a8, ls9, rfl, h9⟩ := gI_ok h8; obtain ⟨a9, ls10, rfl, h10⟩ := gI_ok h9; obtain ⟨a10, ls11, rfl, h11⟩ := gI_ok h10; obtain ⟨a11, ls12, rfl, h12⟩ := gI_ok h11; obtain ⟨a12, ls13, rfl, h13⟩ := gI_ok h12; obtain ⟨a13, ls14, rfl, h14⟩ := gI_ok h13; obtain ⟨a14, ls15, rfl, h15⟩ := gI_ok h14; obtain ⟨a15, ls16, rfl, h16⟩ := gI_ok h15; obtain ⟨a16, ls17, rfl, h17⟩ := gI_ok h16; obtain ⟨a17, ls18, rfl, h18⟩ := gI_ok h17; obtain ⟨a18, ls19, rfl, h19⟩ := gI_ok h18; obtain ⟨a19, ls20, rfl, h20⟩ := gI_ok h19; obtain ⟨a20, ls21, rfl, h21⟩ := gI_ok h20; obtain ⟨rfl, h22⟩ := gE_ok h21
  obtain ⟨y, k1, k2⟩ := Option.bind_eq_some_iff.1 h22
  exact ⟨_, k2, sp34 a0 a1 a2 a3 a4 a5 a6 a7 a8 a9 a10 a11 a12 a13 a14 a15 a16 a17 a18 a19 a20 k1⟩

/-! ### garland/garlandref06.place -/
def pa61 : List VP := [.i .i64]
def sr61 : RShape := ⟨.b, [], none⟩
def toB61 : List Leaf → Option (Bool) := gB (fun b0 => gE (some b0))
def ofB61 (y : Bool) : List Leaf := [.b y]
theorem toB61_ok : ∀ ls b, toB61 ls = some b → ls = ofB61 b := by
  intro ls b h
  unfold toB61 at h
  obtain ⟨b0, ls1, rfl, h1⟩ := gB_ok h; obtain ⟨rfl, h2⟩ := gE_ok h1
  cases h2; rfl
def run61 {R : Type} : SF R := ⟨pa61, sr61, fun ls K => (gI (fun a0 => gE (Option.bind (F61 FUEL a0) fun y => K (ofB61 y)))) ls⟩
def cuts61 : List (List Nat × Cut (Bool)) := []
noncomputable def X61 : Px (Bool) := ⟨T, Try.prog, lkF [], mkCuts 61 cuts61, altN, altN_ok⟩
theorem e61 (n : Nat) (a0 : Int) : entF X61 8 61 pa61 (endK sr61 toB61) n [.i a0] = F61 n a0 := by kernel_rfl
theorem sp61 {n : Nat} (a0 : Int) {y : Bool} (h : F61 n a0 = some y) : SpecF T Try.prog 61 pa61 [.i a0] sr61 (ofB61 y) :=
  fun_ok (X := X61) tok (sfok_of trivial) mixed 61 8 cuts61 rfl toB61_ok trivial ((e61 n a0).trans h)
theorem ok61 {R : Type} : SFone T Try.prog 61 (run61 : SF R) := by
  intro ls K r h
  simp only [run61] at h
  obtain ⟨a0, ls1, rfl, h1⟩ := gI_ok h; obtain ⟨rfl, h2⟩ := gE_ok h1
  obtain ⟨y, k1, k2⟩ := Option.bind_eq_some_iff.1 h2
  exact ⟨_, k2, sp61 a0 k1⟩

/-! ### garland/garlandref06.Asks -/
def pa89 : List VP := [.agg [.i .u8, .i .i64, .i .i64, .i .i64, .i .i64, .b, .b, .i .i64, .i .i64, .sl false [.int .i64], .s, .i .i64, .i .i64, .b, .i .i64]]
def sr89 : RShape := ⟨.b, [], none⟩
def toB89 : List Leaf → Option (Bool) := gB (fun b0 => gE (some b0))
def ofB89 (y : Bool) : List Leaf := [.b y]
theorem toB89_ok : ∀ ls b, toB89 ls = some b → ls = ofB89 b := by
  intro ls b h
  unfold toB89 at h
  obtain ⟨b0, ls1, rfl, h1⟩ := gB_ok h; obtain ⟨rfl, h2⟩ := gE_ok h1
  cases h2; rfl
def run89 {R : Type} : SF R := ⟨pa89, sr89, fun ls K => (gI (fun a0 => gI (fun a1 => gI (fun a2 => gI (fun a3 => gI (fun a4 => gB (fun a5 => gB (fun a6 => gI (fun a7 => gI (fun a8 => gL [.int .i64] (fun a9 => gS (fun a10 => gI (fun a11 => gI (fun a12 => gB (fun a13 => gI (fun a14 => gE (Option.bind (F89 FUEL a0 a1 a2 a3 a4 a5 a6 a7 a8 a9 a10 a11 a12 a13 a14) fun y => K (ofB89 y)))))))))))))))))) ls⟩
def cuts89 : List (List Nat × Cut (Bool)) := []
noncomputable def X89 : Px (Bool) := ⟨T, Try.prog, lkF [], mkCuts 89 cuts89, altN, altN_ok⟩
theorem e89 (n : Nat) (a0 : Int) (a1 : Int) (a2 : Int) (a3 : Int) (a4 : Int) (a5 : Bool) (a6 : Bool) (a7 : Int) (a8 : Int) (a9 : List (Int)) (a10 : ByteArray) (a11 : Int) (a12 : Int) (a13 : Bool) (a14 : Int) : entF X89 8 89 pa89 (endK sr89 toB89) n [.i a0, .i a1, .i a2, .i a3, .i a4, .b a5, .b a6, .i a7, .i a8, .l [.int .i64] a9, .s a10, .i a11, .i a12, .b a13, .i a14] = F89 n a0 a1 a2 a3 a4 a5 a6 a7 a8 a9 a10 a11 a12 a13 a14 := by kernel_rfl
theorem sp89 {n : Nat} (a0 : Int) (a1 : Int) (a2 : Int) (a3 : Int) (a4 : Int) (a5 : Bool) (a6 : Bool) (a7 : Int) (a8 : Int) (a9 : List (Int)) (a10 : ByteArray) (a11 : Int) (a12 : Int) (a13 : Bool) (a14 : Int) {y : Bool} (h : F89 n a0 a1 a2 a3 a4 a5 a6 a7 a8 a9 a10 a11 a12 a13 a14 = some y) : SpecF T Try.prog 89 pa89 [.i a0, .i a1, .i a2, .i a3, .i a4, .b a5, .b a6, .i a7, .i a8, .l [.int .i64] a9, .s a10, .i a11, .i a12, .b a13, .i a14] sr89 (ofB89 y) :=
  fun_ok (X := X89) tok (sfok_of trivial) mixed 89 8 cuts89 rfl toB89_ok trivial ((e89 n a0 a1 a2 a3 a4 a5 a6 a7 a8 a9 a10 a11 a12 a13 a14).trans h)
theorem ok89 {R : Type} : SFone T Try.prog 89 (run89 : SF R) := by
  intro ls K r h
  simp only [run89] at h
  obtain ⟨a0, ls1, rfl, h1⟩ := gI_ok h; obtain ⟨a1, ls2, rfl, h2⟩ := gI_ok h1; obtain ⟨a2, ls3, rfl, h3⟩ := gI_ok h2; obtain ⟨a3, ls4, rfl, h4⟩ := gI_ok h3; obtain ⟨a4, ls5, rfl, h5⟩ := gI_ok h4; obtain ⟨a5, ls6, rfl, h6⟩ := gB_ok h5; obtain ⟨a6, ls7, rfl, h7⟩ := gB_ok h6; obtain ⟨a7, ls8, rfl, h8⟩ := gI_ok h7; obtain ⟨a8, ls9, rfl, h9⟩ := gI_ok h8; obtain ⟨a9, ls10, rfl, h10⟩ := gL_ok h9; obtain ⟨a10, ls11, rfl, h11⟩ := gS_ok h10; obtain ⟨a11, ls12, rfl, h12⟩ := gI_ok h11; obtain ⟨a12, ls13, rfl, h13⟩ := gI_ok h12; obtain ⟨a13, ls14, rfl, h14⟩ := gB_ok h13; obtain ⟨a14, ls15, rfl, h15⟩ := gI_ok h14; obtain ⟨rfl, h16⟩ := gE_ok h15
  obtain ⟨y, k1, k2⟩ := Option.bind_eq_some_iff.1 h16
  exact ⟨_, k2, sp89 a0 a1 a2 a3 a4 a5 a6 a7 a8 a9 a10 a11 a12 a13 a14 k1⟩

/-! ### garland/garlandref06.Asker -/
def pa62 : List VP := [.agg [.i .u8, .i .i64, .i .i64, .i .i64, .i .i64, .b, .b, .i .i64, .i .i64, .sl false [.int .i64], .s, .i .i64, .i .i64, .b, .i .i64]]
def sr62 : RShape := ⟨.i .i64, [], none⟩
def toB62 : List Leaf → Option (Int) := gI (fun b0 => gE (some b0))
def ofB62 (y : Int) : List Leaf := [.i y]
theorem toB62_ok : ∀ ls b, toB62 ls = some b → ls = ofB62 b := by
  intro ls b h
  unfold toB62 at h
  obtain ⟨b0, ls1, rfl, h1⟩ := gI_ok h; obtain ⟨rfl, h2⟩ := gE_ok h1
  cases h2; rfl
def run62 {R : Type} : SF R := ⟨pa62, sr62, fun ls K => (gI (fun a0 => gI (fun a1 => gI (fun a2 => gI (fun a3 => gI (fun a4 => gB (fun a5 => gB (fun a6 => gI (fun a7 => gI (fun a8 => gL [.int .i64] (fun a9 => gS (fun a10 => gI (fun a11 => gI (fun a12 => gB (fun a13 => gI (fun a14 => gE (Option.bind (F62 FUEL a0 a1 a2 a3 a4 a5 a6 a7 a8 a9 a10 a11 a12 a13 a14) fun y => K (ofB62 y)))))))))))))))))) ls⟩
def cuts62 : List (List Nat × Cut (Int)) := []
noncomputable def X62 : Px (Int) := ⟨T, Try.prog, lkF [(89, run89)], mkCuts 62 cuts62, altN, altN_ok⟩
theorem e62 (n : Nat) (a0 : Int) (a1 : Int) (a2 : Int) (a3 : Int) (a4 : Int) (a5 : Bool) (a6 : Bool) (a7 : Int) (a8 : Int) (a9 : List (Int)) (a10 : ByteArray) (a11 : Int) (a12 : Int) (a13 : Bool) (a14 : Int) : entF X62 8 62 pa62 (endK sr62 toB62) n [.i a0, .i a1, .i a2, .i a3, .i a4, .b a5, .b a6, .i a7, .i a8, .l [.int .i64] a9, .s a10, .i a11, .i a12, .b a13, .i a14] = F62 n a0 a1 a2 a3 a4 a5 a6 a7 a8 a9 a10 a11 a12 a13 a14 := by kernel_rfl
theorem sp62 {n : Nat} (a0 : Int) (a1 : Int) (a2 : Int) (a3 : Int) (a4 : Int) (a5 : Bool) (a6 : Bool) (a7 : Int) (a8 : Int) (a9 : List (Int)) (a10 : ByteArray) (a11 : Int) (a12 : Int) (a13 : Bool) (a14 : Int) {y : Int} (h : F62 n a0 a1 a2 a3 a4 a5 a6 a7 a8 a9 a10 a11 a12 a13 a14 = some y) : SpecF T Try.prog 62 pa62 [.i a0, .i a1, .i a2, .i a3, .i a4, .b a5, .b a6, .i a7, .i a8, .l [.int .i64] a9, .s a10, .i a11, .i a12, .b a13, .i a14] sr62 (ofB62 y) :=
  fun_ok (X := X62) tok (sfok_of ⟨ok89, trivial⟩) mixed 62 8 cuts62 rfl toB62_ok trivial ((e62 n a0 a1 a2 a3 a4 a5 a6 a7 a8 a9 a10 a11 a12 a13 a14).trans h)
theorem ok62 {R : Type} : SFone T Try.prog 62 (run62 : SF R) := by
  intro ls K r h
  simp only [run62] at h
  obtain ⟨a0, ls1, rfl, h1⟩ := gI_ok h; obtain ⟨a1, ls2, rfl, h2⟩ := gI_ok h1; obtain ⟨a2, ls3, rfl, h3⟩ := gI_ok h2; obtain ⟨a3, ls4, rfl, h4⟩ := gI_ok h3; obtain ⟨a4, ls5, rfl, h5⟩ := gI_ok h4; obtain ⟨a5, ls6, rfl, h6⟩ := gB_ok h5; obtain ⟨a6, ls7, rfl, h7⟩ := gB_ok h6; obtain ⟨a7, ls8, rfl, h8⟩ := gI_ok h7; obtain ⟨a8, ls9, rfl, h9⟩ := gI_ok h8; obtain ⟨a9, ls10, rfl, h10⟩ := gL_ok h9; obtain ⟨a10, ls11, rfl, h11⟩ := gS_ok h10; obtain ⟨a11, ls12, rfl, h12⟩ := gI_ok h11; obtain ⟨a12, ls13, rfl, h13⟩ := gI_ok h12; obtain ⟨a13, ls14, rfl, h14⟩ := gB_ok h13; obtain ⟨a14, ls15, rfl, h15⟩ := gI_ok h14; obtain ⟨rfl, h16⟩ := gE_ok h15
  obtain ⟨y, k1, k2⟩ := Option.bind_eq_some_iff.1 h16
  exact ⟨_, k2, sp62 a0 a1 a2 a3 a4 a5 a6 a7 a8 a9 a10 a11 a12 a13 a14 k1⟩

/-! ### garland/garlandref06.bare -/
def pa63 : List VP := [.agg [.i .u8, .i .i64, .i .i64, .i .i64, .i .i64, .b, .b, .i .i64, .i .i64, .opq 0, .s, .i .i64, .i .i64, .b, .i .i64]]
def sr63 : RShape := ⟨.agg [.i .u8, .i .i64, .i .i64, .i .i64, .i .i64, .b, .b, .i .i64, .i .i64, .opq 0, .s, .i .i64, .i .i64, .b, .i .i64], [], some (.agg [.i .u8, .i .i64, .i .i64, .i .i64, .i .i64, .b, .b, .i .i64, .i .i64, .nil, .s, .i .i64, .i .i64, .b, .i .i64])⟩
def toB63 : List Leaf → Option (Sbi5b2i2si2bi) := gB (fun b0 => gI (fun b1 => gI (fun b2 => gI (fun b3 => gI (fun b4 => gI (fun b5 => gB (fun b6 => gB (fun b7 => gI (fun b8 => gI (fun b9 => gS (fun b10 => gI (fun b11 => gI (fun b12 => gB (fun b13 => gI (fun b14 => gE (some ⟨b0, b1, b2, b3, b4, b5, b6, b7, b8, b9, b10, b11, b12, b13, b14⟩))))))))))))))))
def ofB63 (y : Sbi5b2i2si2bi) : List Leaf := [.b y.q0, .i y.q1, .i y.q2, .i y.q3, .i y.q4, .i y.q5, .b y.q6, .b y.q7, .i y.q8, .i y.q9, .s y.q10, .i y.q11, .i y.q12, .b y.q13, .i y.q14]
theorem toB63_ok : ∀ ls b, toB63 ls = some b → ls = ofB63 b := by
  intro ls b h
  unfold toB63 at h
  obtain ⟨b0, ls1, rfl, h1⟩ := gB_ok h; obtain ⟨b1, ls2, rfl, h2⟩ := gI_ok h1; obtain ⟨b2, ls3, rfl, h3⟩ := gI_ok h2; obtain ⟨b3, ls4, rfl, h4⟩ := gI_ok h3; obtain ⟨b4, ls5, rfl, h5⟩ := gI_ok h4; obtain ⟨b5, ls6, rfl, h6⟩ := gI_ok h5; obtain ⟨b6, ls7, rfl, h7⟩ := gB_ok h6; obtain ⟨b7, ls8, rfl, h8⟩ := gB_ok h7; obtain ⟨b8, ls9, rfl, h9⟩ := gI_ok h8; obtain ⟨b9, ls10, rfl, h10⟩ := gI_ok h9; obtain ⟨b10, ls11, rfl, h11⟩ := gS_ok h10; obtain ⟨b11, ls12, rfl, h12⟩ := gI_ok h11; obtain ⟨b12, ls13, rfl, h13⟩ := gI_ok h12; obtain ⟨b13, ls14, rfl, h14⟩ := gB_ok h13; obtain ⟨b14, ls15, rfl, h15⟩ := gI_ok h14; obtain ⟨rfl, h16⟩ := gE_ok h15
  cases h16; rfl
def run63 {R : Type} : SF R := ⟨pa63, sr63, fun ls K => (gI (fun a0 => gI (fun a1 => gI (fun a2 => gI (fun a3 => gI (fun a4 => gB (fun a5 => gB (fun a6 => gI (fun a7 => gI (fun a8 => gS (fun a9 => gI (fun a10 => gI (fun a11 => gB (fun a12 => gI (fun a13 => gE (Option.bind (F63 FUEL a0 a1 a2 a3 a4 a5 a6 a7 a8 a9 a10 a11 a12 a13) fun y => K (ofB63 y))))))))))))))))) ls⟩
def cuts63 : List (List Nat × Cut (Sbi5b2i2si2bi)) := []
noncomputable def X63 : Px (Sbi5b2i2si2bi) := ⟨T, Try.prog, lkF [], mkCuts 63 cuts63, altN, altN_ok⟩
theorem e63 (n : Nat) (a0 : Int) (a1 : Int) (a2 : Int) (a3 : Int) (a4 : Int) (a5 : Bool) (a6 : Bool) (a7 : Int) (a8 : Int) (a9 : ByteArray) (a10 : Int) (a11 : Int) (a12 : Bool) (a13 : Int) : entF X63 8 63 pa63 (endK sr63 toB63) n [.i a0, .i a1, .i a2, .i a3, .i a4, .b a5, .b a6, .i a7, .i a8, .s a9, .i a10, .i a11, .b a12, .i a13] = F63 n a0 a1 a2 a3 a4 a5 a6 a7 a8 a9 a10 a11 a12 a13 := by kernel_rfl
theorem sp63 {n : Nat} (a0 : Int) (a1 : Int) (a2 : Int) (a3 : Int) (a4 : Int) (a5 : Bool) (a6 : Bool) (a7 : Int) (a8 : Int) (a9 : ByteArray) (a10 : Int) (a11 : Int) (a12 : Bool) (a13 : Int) {y : Sbi5b2i2si2bi} (h : F63 n a0 a1 a2 a3 a4 a5 a6 a7 a8 a9 a10 a11 a12 a13 = some y) : SpecF T Try.prog 63 pa63 [.i a0, .i a1, .i a2, .i a3, .i a4, .b a5, .b a6, .i a7, .i a8, .s a9, .i a10, .i a11, .b a12, .i a13] sr63 (ofB63 y) :=
  fun_ok (X := X63) tok (sfok_of trivial) mixed 63 8 cuts63 rfl toB63_ok trivial ((e63 n a0 a1 a2 a3 a4 a5 a6 a7 a8 a9 a10 a11 a12 a13).trans h)
theorem ok63 {R : Type} : SFone T Try.prog 63 (run63 : SF R) := by
  intro ls K r h
  simp only [run63] at h
  obtain ⟨a0, ls1, rfl, h1⟩ := gI_ok h; obtain ⟨a1, ls2, rfl, h2⟩ := gI_ok h1; obtain ⟨a2, ls3, rfl, h3⟩ := gI_ok h2; obtain ⟨a3, ls4, rfl, h4⟩ := gI_ok h3; obtain ⟨a4, ls5, rfl, h5⟩ := gI_ok h4; obtain ⟨a5, ls6, rfl, h6⟩ := gB_ok h5; obtain ⟨a6, ls7, rfl, h7⟩ := gB_ok h6; obtain ⟨a7, ls8, rfl, h8⟩ := gI_ok h7; obtain ⟨a8, ls9, rfl, h9⟩ := gI_ok h8; obtain ⟨a9, ls10, rfl, h10⟩ := gS_ok h9; obtain ⟨a10, ls11, rfl, h11⟩ := gI_ok h10; obtain ⟨a11, ls12, rfl, h12⟩ := gI_ok h11; obtain ⟨a12, ls13, rfl, h13⟩ := gB_ok h12; obtain ⟨a13, ls14, rfl, h14⟩ := gI_ok h13; obtain ⟨rfl, h15⟩ := gE_ok h14
  obtain ⟨y, k1, k2⟩ := Option.bind_eq_some_iff.1 h15
  exact ⟨_, k2, sp63 a0 a1 a2 a3 a4 a5 a6 a7 a8 a9 a10 a11 a12 a13 k1⟩

/-! ### garland/garlandref06.Same -/
def pa19 : List VP := [.agg [.i .u8, .i .i64, .i .i64, .i .i64, .i .i64, .b, .b, .i .i64, .i .i64, .sl false [.int .i64], .s, .i .i64, .i .i64, .b, .i .i64], .agg [.i .u8, .i .i64, .i .i64, .i .i64, .i .i64, .b, .b, .i .i64, .i .i64, .sl false [.int .i64], .s, .i .i64, .i .i64, .b, .i .i64]]
def sr19 : RShape := ⟨.b, [], none⟩
def toB19 : List Leaf → Option (Bool) := gB (fun b0 => gE (some b0))
def ofB19 (y : Bool) : List Leaf := [.b y]
theorem toB19_ok : ∀ ls b, toB19 ls = some b → ls = ofB19 b := by
  intro ls b h
  unfold toB19 at h
  obtain ⟨b0, ls1, rfl, h1⟩ := gB_ok h; obtain ⟨rfl, h2⟩ := gE_ok h1
  cases h2; rfl
def run19 {R : Type} : SF R := ⟨pa19, sr19, fun ls K => (gI (fun a0 => gI (fun a1 => gI (fun a2 => gI (fun a3 => gI (fun a4 => gB (fun a5 => gB (fun a6 => gI (fun a7 => gI (fun a8 => gL [.int .i64] (fun a9 => gS (fun a10 => gI (fun a11 => gI (fun a12 => gB (fun a13 => gI (fun a14 => gI (fun a15 => gI (fun a16 => gI (fun a17 => gI (fun a18 => gI (fun a19 => gB (fun a20 => gB (fun a21 => gI (fun a22 => gI (fun a23 => gL [.int .i64] (fun a24 => gS (fun a25 => gI (fun a26 => gI (fun a27 => gB (fun a28 => gI (fun a29 => gE (Option.bind (F19 FUEL a0 a1 a2 a3 a4 a5 a6 a7 a8 a9 a10 a11 a12 a13 a14 a15 a16 a17 a18 a19 a20 a21 a22 a23 a24 a25 a26 a27 a28 a29) fun y => K (ofB19 y))))))))))))))))))))))))))))))))) ls⟩
def sh19_0 : Shape := ⟨[(106, [(2, .ref 0 0), (3, .ref 1 0), (5, .i .i64)])], [.cells [.i .u8, .i .i64, .i .i64, .i .i64, .i .i64, .b, .b, .i .i64, .i .i64, .sl false [.int .i64], .s, .i .i64, .i .i64, .b, .i .i64], .cells [.i .u8, .i .i64, .i .i64, .i .i64, .i .i64, .b, .b, .i .i64, .i .i64, .sl false [.int .i64], .s, .i .i64, .i .i64, .b, .i .i64]]⟩
def g19_0 (n : Nat) : List Leaf → Option (Bool) := gI (fun x0 => gI (fun x1 => gI (fun x2 => gI (fun x3 => gI (fun x4 => gI (fun x5 => gB (fun x6 => gB (fun x7 => gI (fun x8 => gI (fun x9 => gL [.int .i64] (fun x10 => gS (fun x11 => gI (fun x12 => gI (fun x13 => gB (fun x14 => gI (fun x15 => gI (fun x16 => gI (fun x17 => gI (fun x18 => gI (fun x19 => gI (fun x20 => gB (fun x21 => gB (fun x22 => gI (fun x23 => gI (fun x24 => gL [.int .i64] (fun x25 => gS (fun x26 => gI (fun x27 => gI (fun x28 => gB (fun x29 => gI (fun x30 => gE (F19_c0 n x0 x1 x2 x3 x4 x5 x6 x7 x8 x9 x10 x11 x12 x13 x14 x15 x16 x17 x18 x19 x20 x21 x22 x23 x24 x25 x26 x27 x28 x29 x30))))))))))))))))))))))))))))))))
def cuts19 : List (List Nat × Cut (Bool)) := [([1, 1, 0, 1, 0], ⟨sh19_0, g19_0⟩)]
noncomputable def X19 : Px (Bool) := ⟨T, Try.prog, lkF [], mkCuts 19 cuts19, altN, altN_ok⟩
theorem e19_0 (n : Nat) (x0 : Int) (x1 : Int) (x2 : Int) (x3 : Int) (x4 : Int) (x5 : Int) (x6 : Bool) (x7 : Bool) (x8 : Int) (x9 : Int) (x10 : List (Int)) (x11 : ByteArray) (x12 : Int) (x13 : Int) (x14 : Bool) (x15 : Int) (x16 : Int) (x17 : Int) (x18 : Int) (x19 : Int) (x20 : Int) (x21 : Bool) (x22 : Bool) (x23 : Int) (x24 : Int) (x25 : List (Int)) (x26 : ByteArray) (x27 : Int) (x28 : Int) (x29 : Bool) (x30 : Int) : stepF X19 8 19 (endK sr19 toB19) [1, 1, 0, 1, 0] sh19_0 n [.i x0, .i x1, .i x2, .i x3, .i x4, .i x5, .b x6, .b x7, .i x8, .i x9, .l [.int .i64] x10, .s x11, .i x12, .i x13, .b x14, .i x15, .i x16, .i x17, .i x18, .i x19, .i x20, .b x21, .b x22, .i x23, .i x24, .l [.int .i64] x25, .s x26, .i x27, .i x28, .b x29, .i x30] = F19_c0 (n + 1) x0 x1 x2 x3 x4 x5 x6 x7 x8 x9 x10 x11 x12 x13 x14 x15 x16 x17 x18 x19 x20 x21 x22 x23 x24 x25 x26 x27 x28 x29 x30 := by kernel_rfl
theorem e19 (n : Nat) (a0 : Int) (a1 : Int) (a2 : Int) (a3 : Int) (a4 : Int) (a5 : Bool) (a6 : Bool) (a7 : Int) (a8 : Int) (a9 : List (Int)) (a10 : ByteArray) (a11 : Int) (a12 : Int) (a13 : Bool) (a14 : Int) (a15 : Int) (a16 : Int) (a17 : Int) (a18 : Int) (a19 : Int) (a20 : Bool) (a21 : Bool) (a22 : Int) (a23 : Int) (a24 : List (Int)) (a25 : ByteArray) (a26 : Int) (a27 : Int) (a28 : Bool) (a29 : Int) : entF X19 8 19 pa19 (endK sr19 toB19) n [.i a0, .i a1, .i a2, .i a3, .i a4, .b a5, .b a6, .i a7, .i a8, .l [.int .i64] a9, .s a10, .i a11, .i a12, .b a13, .i a14, .i a15, .i a16, .i a17, .i a18, .i a19, .b a20, .b a21, .i a22, .i a23, .l [.int .i64] a24, .s a25, .i a26, .i a27, .b a28, .i a29] = F19 n a0 a1 a2 a3 a4 a5 a6 a7 a8 a9 a10 a11 a12 a13 a14 a15 a16 a17 a18 a19 a20 a21 a22 a23 a24 a25 a26 a27 a28 a29 := by kernel_rfl
theorem c19_0 : CutOK X19 8 19 (endK sr19 toB19) [1, 1, 0, 1, 0] ⟨sh19_0, g19_0⟩ := by
  refine ⟨fun ls => ?_, fun n ls r h => ?_⟩
  · cases h : g19_0 0 ls with
    | none => exact h
    | some r =>
      unfold g19_0 at h; obtain ⟨x0, ls1, rfl, h1⟩ := gI_ok h; obtain ⟨x1, ls2, rfl, h2⟩ := gI_ok h1; obtain ⟨x2, ls3, rfl, h3⟩ := gI_ok h2; obtain ⟨x3, ls4, rfl, h4⟩ := gI_ok h3; obtain ⟨x4, ls5, rfl, h5⟩ := gI_ok h4; obtain ⟨x5, ls6, rfl, h6⟩ := gI_ok h5; obtain ⟨x6, ls7, rfl, h7⟩ := gB_ok h6; obtain ⟨x7, ls8, rfl, h8⟩ := gB_ok h7; obtain ⟨x8, ls9, rfl, h9⟩ := gI_ok h8; obtain ⟨x9, ls10, rfl, h10⟩ := gI_ok h9; obtain ⟨x10, ls11, rfl, h11⟩ := gL_ok h10; obtain ⟨x11, ls12, rfl, h12⟩ := gS_ok h11; obtain ⟨x12, ls13, rfl, h13⟩ := gI_ok h12; obtain ⟨x13, ls14, rfl, h14⟩ := gI_ok h13; obtain ⟨x14, ls15, rfl, h15⟩ := gB_ok h14; obtain ⟨x15, ls16, rfl, h16⟩ := gI_ok h15; obtain ⟨x16, ls17, rfl, h17⟩ := gI_ok h16; obtain ⟨x17, ls18, rfl, h18⟩ := gI_ok h17; obtain ⟨x18, ls19, rfl, h19⟩ := gI_ok h18; obtain ⟨x19, ls20, rfl, h20⟩ := gI_ok h19; obtain ⟨x20, ls21, rfl, h21⟩ := gI_ok h20; obtain ⟨x21, ls22, rfl, h22⟩ := gB_ok h21; obtain ⟨x22, ls23, rfl, h23⟩ := gB_ok h22; obtain ⟨x23, ls24, rfl, h24⟩ := gI_ok h23; obtain ⟨x24, ls25, rfl, h25⟩ := gI_ok h24; obtain ⟨x25, ls26, rfl, h26⟩ := gL_ok h25; obtain ⟨x26, ls27, rfl, h27⟩ := gS_ok h26; obtain ⟨x27, ls28, rfl, h28⟩ := gI_ok h27; obtain ⟨x28, ls29, rfl, h29⟩ := gI_ok h28; obtain ⟨x29, ls30, rfl, h30⟩ := gB_ok h29; obtain ⟨x30, ls31, rfl, h31⟩ := gI_ok h30; obtain ⟨rfl, h32⟩ := gE_ok h31; simp only [F19_c0] at h32; cases h32
  · replace h : g19_0 (n + 1) ls = some r := h
    unfold g19_0 at h
    obtain ⟨x0, ls1, rfl, h1⟩ := gI_ok h; obtain ⟨x1, ls2, rfl, h2⟩ := gI_ok h1; obtain ⟨x2, ls3, rfl, h3⟩ := gI_ok h2; obtain ⟨x3, ls4, rfl, h4⟩ := gI_ok h3; obtain ⟨x4, ls5, rfl, h5⟩ := gI_ok h4; obtain ⟨x5, ls6, rfl, h6⟩ := gI_ok h5; obtain ⟨x6, ls7, rfl, h7⟩ := gB_ok h6; obtain ⟨x7, ls8, rfl, h8⟩ := gB_ok h7; obtain ⟨x8, ls9, rfl, h9⟩ := gI_ok h8; obtain ⟨x9, ls10, rfl, h10⟩ := gI_ok h9; obtain ⟨x10, ls11, rfl, h11⟩ := gL_ok h10; obtain ⟨x11, ls12, rfl, h12⟩ := gS_ok h11; obtain ⟨x12, ls13, rfl, h13⟩ := gI_ok h12; obtain ⟨x13, ls14, rfl, h14⟩ := gI_ok h13; obtain ⟨x14, ls15, rfl, h15⟩ := gB_ok h14; obtain ⟨x15, ls16, rfl, h16⟩ := gI_ok h15; obtain ⟨x16, ls17, rfl, h17⟩ := gI_ok h16; obtain ⟨x17, ls18, rfl, h18⟩ := gI_ok h17; obtain ⟨x18, ls19, rfl, h19⟩ := gI_ok h18; obtain ⟨x19, ls20, rfl, h20⟩ := gI_ok h19; obtain ⟨x20, ls21, rfl, h21⟩ := gI_ok h20; obtain ⟨x21, ls22, rfl, h22⟩ := gB_ok h21; obtain ⟨x22, ls23, rfl, h23⟩ := gB_ok h22; obtain ⟨x23, ls24, rfl, h24⟩ := gI_ok h23; obtain ⟨x24, ls25, rfl, h25⟩ := gI_ok h24; obtain ⟨x25, ls26, rfl, h26⟩ := gL_ok h25; obtain ⟨x26, ls27, rfl, h27⟩ := gS_ok h26; obtain ⟨x27, ls28, rfl, h28⟩ := gI_ok h27; obtain ⟨x28, ls29, rfl, h29⟩ := gI_ok h28; obtain ⟨x29, ls30, rfl, h30⟩ := gB_ok h29; obtain ⟨x30, ls31, rfl, h31⟩ := gI_ok h30; obtain ⟨rfl, h32⟩ := gE_ok h31
    exact (e19_0 n x0 x1 x2 x3 x4 x5 x6 x7 x8 x9 x10 x11 x12 x13 x14 x15 x16 x17 x18 x19 x20 x21 x22 x23 x24 x25 x26 x27 x28 x29 x30).trans h32
theorem sp19 {n : Nat} (a0 : Int) (a1 : Int) (a2 : Int) (a3 : Int) (a4 : Int) (a5 : Bool) (a6 : Bool) (a7 : Int) (a8 : Int) (a9 : List (Int)) (a10 : ByteArray) (a11 : Int) (a12 : Int) (a13 : Bool) (a14 : Int) (a15 : Int) (a16 : Int) (a17 : Int) (a18 : Int) (a19 : Int) (a20 : Bool) (a21 : Bool) (a22 : Int) (a23 : Int) (a24 : List (Int)) (a25 : ByteArray) (a26 : Int) (a27 : Int) (a28 : Bool) (a29 : Int) {y : Bool} (h : F19 n a0 a1 a2 a3 a4 a5 a6 a7 a8 a9 a10 a11 a12 a13 a14 a15 a16 a17 a18 a19 a20 a21 a22 a23 a24 a25 a26 a27 a28 a29 = some y) : SpecF T Try.prog 19 pa19 [.i a0, .i a1, .i a2, .i a3, .i a4, .b a5, .b a6, .i a7, .i a8, .l [.int .i64] a9, .s a10, .i a11, .i a12, .b a13, .i a14, .i a15, .i a16, .i a17, .i a18, .i a19, .b a20, .b a21, .i a22, .i a23, .l [.int .i64] a24, .s a25, .i a26, .i a27, .b a28, .i a29] sr19 (ofB19 y) :=
  fun_ok (X := X19) tok (sfok_of trivial) mixed 19 8 cuts19 rfl toB19_ok ⟨c19_0, trivial⟩ ((e19 n a0 a1 a2 a3 a4 a5 a6 a7 a8 a9 a10 a11 a12 a13 a14 a15 a16 a17 a18 a19 a20 a21 a22 a23 a24 a25 a26 a27 a28 a29).trans h)
theorem ok19 {R : Type} : SFone T Try.prog 19 (run19 : SF R) := by
  intro ls K r h
  simp only [run19] at h
  obtain ⟨a0, ls1, rfl, h1⟩ := gI_ok h; obtain ⟨a1, ls2, rfl, h2⟩ := gI_ok h1; obtain ⟨a2, ls3, rfl, h3⟩ := gI_ok h2; obtain ⟨a3, ls4, rfl, h4⟩ := gI_ok h3; obtain ⟨a4, ls5, rfl, h5⟩ := gI_ok h4; obtain ⟨a5, ls6, rfl, h6⟩ := gB_ok h5; obtain ⟨a6, ls7, rfl, h7⟩ := gB_ok h6; obtain ⟨a7, ls8, rfl, h8⟩ := gI_ok h7; obtain ⟨a8, ls9, rfl, h9⟩ := gI_ok h8; obtain ⟨a9, ls10, rfl, h10⟩ := gL_ok h9; obtain ⟨a10, ls11, rfl, h11⟩ := gS_ok h10; obtain ⟨a11, ls12, rfl, h12⟩ := gI_ok h11; obtain ⟨a12, ls13, rfl, h13⟩ := gI_ok h12; obtain ⟨a13, ls14, rfl, h14⟩ := gB_ok h13; obtain ⟨a14, ls15, rfl, h15⟩ := gI_ok h14; obtain ⟨a15, ls16, rfl, h16⟩ := gI_ok h15; obtain ⟨a16, ls17, rfl, h17⟩ := gI_ok h16; obtain ⟨a17, ls18, rfl, h18⟩ := gI_ok h17; obtain ⟨a18, ls19, rfl, h19⟩ := gI_ok h18; obtain ⟨a19, ls20, rfl, h20⟩ := gI_ok h19; obtain ⟨a20, ls21, rfl, h21⟩ := gB_ok h20; obtain ⟨a21, ls22, rfl, h22⟩ := gB_ok h21; obtain ⟨a22, ls23, rfl, h23⟩ := gI_ok h22; obtain ⟨a23, ls24, rfl, h24⟩ := gI_ok h23; obtain ⟨a24, ls25, rfl, h25⟩ := gL_ok h24; obtain ⟨a25, ls26, rfl, h26⟩ := gS_ok h25; obtain ⟨a26, ls27, rfl, h27⟩ := gI_ok h26; obtain ⟨a27, ls28, rfl, h28⟩ := gI_ok h27; obtain ⟨a28, ls29, rfl, h29⟩ := gB_ok h28; obtain ⟨a29, ls30, rfl, h30⟩ := gI_ok h29; obtain ⟨rfl, h31⟩ := gE_ok h30
  obtain ⟨y, k1, k2⟩ := Option.bind_eq_some_iff.1 h31
  exact ⟨_, k2, sp19 a0 a1 a2 a3 a4 a5 a6 a7 a8 a9 a10 a11 a12 a13 a14 a15 a16 a17 a18 a19 a20 a21 a22 a23 a24 a25 a26 a27 a28 a29 k1⟩

/-! ### garland/garlandref06.Pair -/
def pa93 : List VP := [.agg [.s, .i .i64, .i .i64, .b]]
def sr93 : RShape := ⟨.b, [], none⟩
def toB93 : List Leaf → Option (Bool) := gB (fun b0 => gE (some b0))
def ofB93 (y : Bool) : List Leaf := [.b y]
theorem toB93_ok : ∀ ls b, toB93 ls = some b → ls = ofB93 b := by
  intro ls b h
  unfold toB93 at h
  obtain ⟨b0, ls1, rfl, h1⟩ := gB_ok h; obtain ⟨rfl, h2⟩ := gE_ok h1
  cases h2; rfl
def run93 {R : Type} : SF R := ⟨pa93, sr93, fun ls K => (gS (fun a0 => gI (fun a1 => gI (fun a2 => gB (fun a3 => gE (Option.bind (F93 FUEL a0 a1 a2 a3) fun y => K (ofB93 y))))))) ls⟩
def cuts93 : List (List Nat × Cut (Bool)) := []
noncomputable def X93 : Px (Bool) := ⟨T, Try.prog, lkF [], mkCuts 93 cuts93, altN, altN_ok⟩
theorem e93 (n : Nat) (a0 : ByteArray) (a1 : Int) (a2 : Int) (a3 : Bool) : entF X93 8 93 pa93 (endK sr93 toB93) n [.s a0, .i a1, .i a2, .b a3] = F93 n a0 a1 a2 a3 := by kernel_rfl
theorem sp93 {n : Nat} (a0 : ByteArray) (a1 : Int) (a2 : Int) (a3 : Bool) {y : Bool} (h : F93 n a0 a1 a2 a3 = some y) : SpecF T Try.prog 93 pa93 [.s a0, .i a1, .i a2, .b a3] sr93 (ofB93 y) :=
  fun_ok (X := X93) tok (sfok_of trivial) mixed 93 8 cuts93 rfl toB93_ok trivial ((e93 n a0 a1 a2 a3).trans h)
theorem ok93 {R : Type} : SFone T Try.prog 93 (run93 : SF R) := by
  intro ls K r h
  simp only [run93] at h
  obtain ⟨a0, ls1, rfl, h1⟩ := gS_ok h; obtain ⟨a1, ls2, rfl, h2⟩ := gI_ok h1; obtain ⟨a2, ls3, rfl, h3⟩ := gI_ok h2; obtain ⟨a3, ls4, rfl, h4⟩ := gB_ok h3; obtain ⟨rfl, h5⟩ := gE_ok h4
  obtain ⟨y, k1, k2⟩ := Option.bind_eq_some_iff.1 h5
  exact ⟨_, k2, sp93 a0 a1 a2 a3 k1⟩

/-! ### garland/garlandref06.list -/
def pa94 : List VP := [.sl false [.int .i64], .i .i64]
def sr94 : RShape := ⟨.b, [], none⟩
def toB94 : List Leaf → Option (Bool) := gB (fun b0 => gE (some b0))
def ofB94 (y : Bool) : List Leaf := [.b y]
theorem toB94_ok : ∀ ls b, toB94 ls = some b → ls = ofB94 b := by
  intro ls b h
  unfold toB94 at h
  obtain ⟨b0, ls1, rfl, h1⟩ := gB_ok h; obtain ⟨rfl, h2⟩ := gE_ok h1
  cases h2; rfl
def run94 {R : Type} : SF R := ⟨pa94, sr94, fun ls K => (gL [.int .i64] (fun a0 => gI (fun a1 => gE (Option.bind (F94 FUEL a0 a1) fun y => K (ofB94 y))))) ls⟩
def sh94_0 : Shape := ⟨[(44, [(0, .sl false [.int .i64]), (1, .i .i64), (5, .i .i64)])], []⟩
def g94_0 (n : Nat) : List Leaf → Option (Bool) := gL [.int .i64] (fun x0 => gI (fun x1 => gI (fun x2 => gE (F94_c0 n x0 x1 x2))))
def sh94_1 : Shape := ⟨[(44, [(0, .sl false [.int .i64]), (1, .i .i64), (5, .i .i64), (6, .i .i64)])], []⟩
def g94_1 (n : Nat) : List Leaf → Option (Bool) := gL [.int .i64] (fun x0 => gI (fun x1 => gI (fun x2 => gI (fun x3 => gE (F94_c1 n x0 x1 x2 x3)))))
def cuts94 : List (List Nat × Cut (Bool)) := [([1, 0, 1, 0], ⟨sh94_0, g94_0⟩), ([1, 0, 1, 0, 0, 1, 0, 0, 1, 1, 0], ⟨sh94_1, g94_1⟩)]
noncomputable def X94 : Px (Bool) := ⟨T, Try.prog, lkF [(61, run61)], mkCuts 94 cuts94, altN, altN_ok⟩
theorem e94_0 (n : Nat) (x0 : List (Int)) (x1 : Int) (x2 : Int) : stepF X94 8 94 (endK sr94 toB94) [1, 0, 1, 0] sh94_0 n [.l [.int .i64] x0, .i x1, .i x2] = F94_c0 (n + 1) x0 x1 x2 := by kernel_rfl
theorem e94_1 (n : Nat) (x0 : List (Int)) (x1 : Int) (x2 : Int) (x3 : Int) : stepF X94 8 94 (endK sr94 toB94) [1, 0, 1, 0, 0, 1, 0, 0, 1, 1, 0] sh94_1 n [.l [.int .i64] x0, .i x1, .i x2, .i x3] = F94_c1 (n + 1) x0 x1 x2 x3 := by kernel_rfl
theorem e94 (n : Nat) (a0 : List (Int)) (a1 : Int) : entF X94 8 94 pa94 (endK sr94 toB94) n [.l [.int .i64] a0, .i a1] = F94 n a0 a1 := by kernel_rfl
theorem c94_0 : CutOK X94 8 94 (endK sr94 toB94) [1, 0, 1, 0] ⟨sh94_0, g94_0⟩ := by
  refine ⟨fun ls => ?_, fun n ls r h => ?_⟩
  · cases h : g94_0 0 ls with
    | none => exact h
    | some r =>
      unfold g94_0 at h; obtain ⟨x0, ls1, rfl, h1⟩ := gL_ok h; obtain ⟨x1, ls2, rfl, h2⟩ := gI_ok h1; obtain ⟨x2, ls3, rfl, h3⟩ := gI_ok h2; obtain ⟨rfl, h4⟩ := gE_ok h3; simp only [F94_c0] at h4; cases h4
  · replace h : g94_0 (n + 1) ls = some r := h
    unfold g94_0 at h
    obtain ⟨x0, ls1, rfl, h1⟩ := gL_ok h; obtain ⟨x1, ls2, rfl, h2⟩ := gI_ok h1; obtain ⟨x2, ls3, rfl, h3⟩ := gI_ok h2; obtain ⟨rfl, h4⟩ := gE_ok h3
    exact (e94_0 n x0 x1 x2).trans h4
theorem c94_1 : CutOK X94 8 94 (endK sr94 toB94) [1, 0, 1, 0, 0, 1, 0, 0, 1, 1, 0] ⟨sh94_1, g94_1⟩ := by
  refine ⟨fun ls => ?_, fun n ls r h => ?_⟩
  · cases h : g94_1 0 ls with
    | none => exact h
    | some r =>
      unfold g94_1 at h; obtain ⟨x0, ls1, rfl, h1⟩ := gL_ok h; obtain ⟨x1, ls2, rfl, h2⟩ := gI_ok h1; obtain ⟨x2, ls3, rfl, h3⟩ := gI_ok h2; obtain ⟨x3, ls4, rfl, h4⟩ := gI_ok h3; obtain ⟨rfl, h5⟩ := gE_ok h4; simp only [F94_c1] at h5; cases h5
  · replace h : g94_1 (n + 1) ls = some r := h
    unfold g94_1 at h
    obtain ⟨x0, ls1, rfl, h1⟩ := gL_ok h; obtain ⟨x1, ls2, rfl, h2⟩ := gI_ok h1; obtain ⟨x2, ls3, rfl, h3⟩ := gI_ok h2; obtain ⟨x3, ls4, rfl, h4⟩ := gI_ok h3; obtain ⟨rfl, h5⟩ := gE_ok h4
    exact (e94_1 n x0 x1 x2 x3).trans h5
theorem sp94 {n : Nat} (a0 : List (Int)) (a1 : Int) {y : Bool} (h : F94 n a0 a1 = some y) : SpecF T Try.prog 94 pa94 [.l [.int .i64] a0, .i a1] sr94 (ofB94 y) :=
  fun_ok (X := X94) tok (sfok_of ⟨ok61, trivial⟩) mixed 94 8 cuts94 rfl toB94_ok ⟨c94_0, c94_1, trivial⟩ ((e94 n a0 a1).trans h)
theorem ok94 {R : Type} : SFone T Try.prog 94 (run94 : SF R) := by
  intro ls K r h
  simp only [run94] at h
  obtain ⟨a0, ls1, rfl, h1⟩ := gL_ok h; obtain ⟨a1, ls2, rfl, h2⟩ := gI_ok h1; obtain ⟨rfl, h3⟩ := gE_ok h2
  obtain ⟨y, k1, k2⟩ := Option.bind_eq_some_iff.1 h3
  exact ⟨_, k2, sp94 a0 a1 k1⟩

/-! ### garland/garlandref06.has -/
def pa64 : List VP := [.agg [.i .u8, .i .i64, .i .i64, .i .i64, .i .i64, .b, .b, .i .i64, .i .i64, .sl false [.int .i64], .s, .i .i64, .i .i64, .b, .i .i64]]
def sr64 : RShape := ⟨.b, [], none⟩
def toB64 : List Leaf → Option (Bool) := gB (fun b0 => gE (some b0))
def ofB64 (y : Bool) : List Leaf := [.b y]
theorem toB64_ok : ∀ ls b, toB64 ls = some b → ls = ofB64 b := by
  intro ls b h
  unfold toB64 at h
  obtain ⟨b0, ls1, rfl, h1⟩ := gB_ok h; obtain ⟨rfl, h2⟩ := gE_ok h1
  cases h2; rfl
def run64 {R : Type} : SF R := ⟨pa64, sr64, fun ls K => (gI (fun a0 => gI (fun a1 => gI (fun a2 => gI (fun a3 => gI (fun a4 => gB (fun a5 => gB (fun a6 => gI (fun a7 => gI (fun a8 => gL [.int .i64] (fun a9 => gS (fun a10 => gI (fun a11 => gI (fun a12 => gB (fun a13 => gI (fun a14 => gE (Option.bind (F64 FUEL a0 a1 a2 a3 a4 a5 a6 a7 a8 a9 a10 a11 a12 a13 a14) fun y => K (ofB64 y)))))))))))))))))) ls⟩
def cuts64 : List (List Nat × Cut (Bool)) := []
noncomputable def X64 : Px (Bool) := ⟨T, Try.prog, lkF [(61, run61), (93, run93), (94, run94)], mkCuts 64 cuts64, altN, altN_ok⟩
theorem e64 (n : Nat) (a0 : Int) (a1 : Int) (a2 : Int) (a3 : Int) (a4 : Int) (a5 : Bool) (a6 : Bool) (a7 : Int) (a8 : Int) (a9 : List (Int)) (a10 : ByteArray) (a11 : Int) (a12 : Int) (a13 : Bool) (a14 : Int) : entF X64 8 64 pa64 (endK sr64 toB64) n [.i a0, .i a1, .i a2, .i a3, .i a4, .b a5, .b a6, .i a7, .i a8, .l [.int .i64] a9, .s a10, .i a11, .i a12, .b a13, .i a14] = F64 n a0 a1 a2 a3 a4 a5 a6 a7 a8 a9 a10 a11 a12 a13 a14 := by kernel_rfl
theorem sp64 {n : Nat} (a0 : Int) (a1 : Int) (a2 : Int) (a3 : Int) (a4 : Int) (a5 : Bool) (a6 : Bool) (a7 : Int) (a8 : Int) (a9 : List (Int)) (a10 : ByteArray) (a11 : Int) (a12 : Int) (a13 : Bool) (a14 : Int) {y : Bool} (h : F64 n a0 a1 a2 a3 a4 a5 a6 a7 a8 a9 a10 a11 a12 a13 a14 = some y) : SpecF T Try.prog 64 pa64 [.i a0, .i a1, .i a2, .i a3, .i a4, .b a5, .b a6, .i a7, .i a8, .l [.int .i64] a9, .s a10, .i a11, .i a12, .b a13, .i a14] sr64 (ofB64 y) :=
  fun_ok (X := X64) tok (sfok_of ⟨ok61, ok93, ok94, trivial⟩) mixed 64 8 cuts64 rfl toB64_ok trivial ((e64 n a0 a1 a2 a3 a4 a5 a6 a7 a8 a9 a10 a11 a12 a13 a14).trans h)
theorem ok64 {R : Type} : SFone T Try.prog 64 (run64 : SF R) := by
  intro ls K r h
  simp only [run64] at h
  obtain ⟨a0, ls1, rfl, h1⟩ := gI_ok h; obtain ⟨a1, ls2, rfl, h2⟩ := gI_ok h1; obtain ⟨a2, ls3, rfl, h3⟩ := gI_ok h2; obtain ⟨a3, ls4, rfl, h4⟩ := gI_ok h3; obtain ⟨a4, ls5, rfl, h5⟩ := gI_ok h4; obtain ⟨a5, ls6, rfl, h6⟩ := gB_ok h5; obtain ⟨a6, ls7, rfl, h7⟩ := gB_ok h6; obtain ⟨a7, ls8, rfl, h8⟩ := gI_ok h7; obtain ⟨a8, ls9, rfl, h9⟩ := gI_ok h8; obtain ⟨a9, ls10, rfl, h10⟩ := gL_ok h9; obtain ⟨a10, ls11, rfl, h11⟩ := gS_ok h10; obtain ⟨a11, ls12, rfl, h12⟩ := gI_ok h11; obtain ⟨a12, ls13, rfl, h13⟩ := gI_ok h12; obtain ⟨a13, ls14, rfl, h14⟩ := gB_ok h13; obtain ⟨a14, ls15, rfl, h15⟩ := gI_ok h14; obtain ⟨rfl, h16⟩ := gE_ok h15
  obtain ⟨y, k1, k2⟩ := Option.bind_eq_some_iff.1 h16
  exact ⟨_, k2, sp64 a0 a1 a2 a3 a4 a5 a6 a7 a8 a9 a10 a11 a12 a13 a14 k1⟩

/-! ### garland/garlandref06.Right -/
def pa28 : List VP := [.agg [.i .u8, .i .i64, .i .i64, .i .i64, .i .i64, .b, .b, .i .i64, .i .i64, .sl false [.int .i64], .s, .i .i64, .i .i64, .b, .i .i64]]
def sr28 : RShape := ⟨.b, [], none⟩
def toB28 : List Leaf → Option (Bool) := gB (fun b0 => gE (some b0))
def ofB28 (y : Bool) : List Leaf := [.b y]
theorem toB28_ok : ∀ ls b, toB28 ls = some b → ls = ofB28 b := by
  intro ls b h
  unfold toB28 at h
  obtain ⟨b0, ls1, rfl, h1⟩ := gB_ok h; obtain ⟨rfl, h2⟩ := gE_ok h1
  cases h2; rfl
def run28 {R : Type} : SF R := ⟨pa28, sr28, fun ls K => (gI (fun a0 => gI (fun a1 => gI (fun a2 => gI (fun a3 => gI (fun a4 => gB (fun a5 => gB (fun a6 => gI (fun a7 => gI (fun a8 => gL [.int .i64] (fun a9 => gS (fun a10 => gI (fun a11 => gI (fun a12 => gB (fun a13 => gI (fun a14 => gE (Option.bind (F28 FUEL a0 a1 a2 a3 a4 a5 a6 a7 a8 a9 a10 a11 a12 a13 a14) fun y => K (ofB28 y)))))))))))))))))) ls⟩
def cuts28 : List (List Nat × Cut (Bool)) := []
noncomputable def X28 : Px (Bool) := ⟨T, Try.prog, lkF [(61, run61), (62, run62), (63, run63), (19, run19), (64, run64)], mkCuts 28 cuts28, altN, altN_ok⟩
theorem e28 (n : Nat) (a0 : Int) (a1 : Int) (a2 : Int) (a3 : Int) (a4 : Int) (a5 : Bool) (a6 : Bool) (a7 : Int) (a8 : Int) (a9 : List (Int)) (a10 : ByteArray) (a11 : Int) (a12 : Int) (a13 : Bool) (a14 : Int) : entF X28 8 28 pa28 (endK sr28 toB28) n [.i a0, .i a1, .i a2, .i a3, .i a4, .b a5, .b a6, .i a7, .i a8, .l [.int .i64] a9, .s a10, .i a11, .i a12, .b a13, .i a14] = F28 n a0 a1 a2 a3 a4 a5 a6 a7 a8 a9 a10 a11 a12 a13 a14 := by kernel_rfl
theorem sp28 {n : Nat} (a0 : Int) (a1 : Int) (a2 : Int) (a3 : Int) (a4 : Int) (a5 : Bool) (a6 : Bool) (a7 : Int) (a8 : Int) (a9 : List (Int)) (a10 : ByteArray) (a11 : Int) (a12 : Int) (a13 : Bool) (a14 : Int) {y : Bool} (h : F28 n a0 a1 a2 a3 a4 a5 a6 a7 a8 a9 a10 a11 a12 a13 a14 = some y) : SpecF T Try.prog 28 pa28 [.i a0, .i a1, .i a2, .i a3, .i a4, .b a5, .b a6, .i a7, .i a8, .l [.int .i64] a9, .s a10, .i a11, .i a12, .b a13, .i a14] sr28 (ofB28 y) :=
  fun_ok (X := X28) tok (sfok_of ⟨ok61, ok62, ok63, ok19, ok64, trivial⟩) mixed 28 8 cuts28 rfl toB28_ok trivial ((e28 n a0 a1 a2 a3 a4 a5 a6 a7 a8 a9 a10 a11 a12 a13 a14).trans h)
theorem ok28 {R : Type} : SFone T Try.prog 28 (run28 : SF R) := by
  intro ls K r h
  simp only [run28] at h
  obtain ⟨a0, ls1, rfl, h1⟩ := gI_ok h; obtain ⟨a1, ls2, rfl, h2⟩ := gI_ok h1; obtain ⟨a2, ls3, rfl, h3⟩ := gI_ok h2; obtain ⟨a3, ls4, rfl, h4⟩ := gI_ok h3; obtain ⟨a4, ls5, rfl, h5⟩ := gI_ok h4; obtain ⟨a5, ls6, rfl, h6⟩ := gB_ok h5; obtain ⟨a6, ls7, rfl, h7⟩ := gB_ok h6; obtain ⟨a7, ls8, rfl, h8⟩ := gI_ok h7; obtain ⟨a8, ls9, rfl, h9⟩ := gI_ok h8; obtain ⟨a9, ls10, rfl, h10⟩ := gL_ok h9; obtain ⟨a10, ls11, rfl, h11⟩ := gS_ok h10; obtain ⟨a11, ls12, rfl, h12⟩ := gI_ok h11; obtain ⟨a12, ls13, rfl, h13⟩ := gI_ok h12; obtain ⟨a13, ls14, rfl, h14⟩ := gB_ok h13; obtain ⟨a14, ls15, rfl, h15⟩ := gI_ok h14; obtain ⟨rfl, h16⟩ := gE_ok h15
  obtain ⟨y, k1, k2⟩ := Option.bind_eq_some_iff.1 h16
  exact ⟨_, k2, sp28 a0 a1 a2 a3 a4 a5 a6 a7 a8 a9 a10 a11 a12 a13 a14 k1⟩

/-! ### garland/garlandref18.Told -/
def pa36 : List VP := [.agg [.i .i64, .sl false [.int .i64], .sl false [.int .i64], .i .i64, .i .i64, .i .i64, .i .i64, .i .i64, .i .i64, .i .i64, .i .i64, .i .i64, .i .i64, .i .i64, .i .i64, .i .i64, .i .i64, .i .i64, .i .i64, .i .i64], .agg [.i .i64, .i .i64, .i .i64, .b, .b, .i .i64], .agg [.i .u8, .i .i64, .i .i64, .i .i64, .i .i64, .b, .b, .i .i64, .i .i64, .sl false [.int .i64], .s, .i .i64, .i .i64, .b, .i .i64]]
def sr36 : RShape := ⟨.agg [.i .i64, .i .i64, .i .i64, .b, .b, .i .i64], [], none⟩
def toB36 : List Leaf → Option (Si3b2i) := gI (fun b0 => gI (fun b1 => gI (fun b2 => gB (fun b3 => gB (fun b4 => gI (fun b5 => gE (some ⟨b0, b1, b2, b3, b4, b5⟩)))))))
def ofB36 (y : Si3b2i) : List Leaf := [.i y.q0, .i y.q1, .i y.q2, .b y.q3, .b y.q4, .i y.q5]
theorem toB36_ok : ∀ ls b, toB36 ls = some b → ls = ofB36 b := by
  intro ls b h
  unfold toB36 at h
  obtain ⟨b0, ls1, rfl, h1⟩ := gI_ok h; obtain ⟨b1, ls2, rfl, h2⟩ := gI_ok h1; obtain ⟨b2, ls3, rfl, h3⟩ := gI_ok h2; obtain ⟨b3, ls4, rfl, h4⟩ := gB_ok h3; obtain ⟨b4, ls5, rfl, h5⟩ := gB_ok h4; obtain ⟨b5, ls6, rfl, h6⟩ := gI_ok h5; obtain ⟨rfl, h7⟩ := gE_ok h6
  cases h7; rfl
def run36 {R : Type} : SF R := ⟨pa36, sr36, fun ls K => (gI (fun a0 => gL [.int .i64] (fun a1 => gL [.int .i64] (fun a2 => gI (fun a3 => gI (fun a4 => gI (fun a5 => gI (fun a6 => gI (fun a7 => gI (fun a8 => gI (fun a9 => gI (fun a10 => gI (fun a11 => gI (fun a12 => gI (fun a13 => gI (fun a14 => gI (fun a15 => gI (fun a16 => gI (fun a17 => gI (fun a18 => gI (fun a19 => gI (fun a20 => gI (fun a21 => gI (fun a22 => gB (fun a23 => gB (fun a24 => gI (fun a25 => gI (fun a26 => gI (fun a27 => gI (fun a28 => gI (fun a29 => gI (fun a30 => gB (fun a31 => gB (fun a32 => gI (fun a33 => gI (fun a34 => gL [.int .i64] (fun a35 => gS (fun a36 => gI (fun a37 => gI (fun a38 => gB (fun a39 => gI (fun a40 => gE (Option.bind (F36 FUEL a0 a1 a2 a3 a4 a5 a6 a7 a8 a9 a10 a11 a12 a13 a14 a15 a16 a17 a18 a19 a20 a21 a22 a23 a24 a25 a26 a27 a28 a29 a30 a31 a32 a33 a34 a35 a36 a37 a38 a39 a40) fun y => K (ofB36 y)))))))))))))))))))))))))))))))))))))))))))) ls⟩
def cuts36 : List (List Nat × Cut (Si3b2i)) := []
noncomputable def X36 : Px (Si3b2i) := ⟨T, Try.prog, lkF [(24, run24), (40, run40), (42, run42), (28, run28), (67, run67)], mkCuts 36 cuts36, altN, altN_ok⟩
theorem e36 (n : Nat) (a0 : Int) (a1 : List (Int)) (a2 : List (Int)) (a3 : Int) (a4 : Int) (a5 : Int) (a6 : Int) (a7 : Int) (a8 : Int) (a9 : Int) (a10 : Int) (a11 : Int) (a12 : Int) (a13 : Int) (a14 : Int) (a15 : Int) (a16 : Int) (a17 : Int) (a18 : Int) (a19 : Int) (a20 : Int) (a21 : Int) (a22 : Int) (a23 : Bool) (a24 : Bool) (a25 : Int) (a26 : Int) (a27 : Int) (a28 : Int) (a29 : Int) (a30 : Int) (a31 : Bool) (a32 : Bool) (a33 : Int) (a34 : Int) (a35 : List (Int)) (a36 : ByteArray) (a37 : Int) (a38 : Int) (a39 : Bool) (a40 : Int) : entF X36 8 36 pa36 (endK sr36 toB36) n [.i a0, .l [.int .i64] a1, .l [.int .i64] a2, .i a3, .i a4, .i a5, .i a6, .i a7, .i a8, .i a9, .i a10, .i a11, .i a12, .i a13, .i a14, .i a15, .i a16, .i a17, .i a18, .i a19, .i a20, .i a21, .i a22, .b a23, .b a24, .i a25, .i a26, .i a27, .i a28, .i a29, .i a30, .b a31, .b a32, .i a33, .i a34, .l [.int .i64] a35, .s a36, .i a37, .i a38, .b a39, .i a40] = F36 n a0 a1 a2 a3 a4 a5 a6 a7 a8 a9 a10 a11 a12 a13 a14 a15 a16 a17 a18 a19 a20 a21 a22 a23 a24 a25 a26 a27 a28 a29 a30 a31 a32 a33 a34 a35 a36 a37 a38 a39 a40 := by kernel_rfl
theorem sp36 {n : Nat} (a0 : Int) (a1 : List (Int)) (a2 : List (Int)) (a3 : Int) (a4 : Int) (a5 : Int) (a6 : Int) (a7 : Int) (a8 : Int) (a9 : Int) (a10 : Int) (a11 : Int) (a12 : Int) (a13 : Int) (a14 : Int) (a15 : Int) (a16 : Int) (a17 : Int) (a18 : Int) (a19 : Int) (a20 : Int) (a21 : Int) (a22 : Int) (a23 : Bool) (a24 : Bool) (a25 : Int) (a26 : Int) (a27 : Int) (a28 : Int) (a29 : Int) (a30 : Int) (a31 : Bool) (a32 : Bool) (a33 : Int) (a34 : Int) (a35 : List (Int)) (a36 : ByteArray) (a37 : Int) (a38 : Int) (a39 : Bool) (a40 : Int) {y : Si3b2i} (h : F36 n a0 a1 a2 a3 a4 a5 a6 a7 a8 a9 a10 a11 a12 a13 a14 a15 a16 a17 a18 a19 a20 a21 a22 a23 a24 a25 a26 a27 a28 a29 a30 a31 a32 a33 a34 a35 a36 a37 a38 a39 a40 = some y) : SpecF T Try.prog 36 pa36 [.i a0, .l [.int .i64] a1, .l [.int .i64] a2, .i a3, .i a4, .i a5, .i a6, .i a7, .i a8, .i a9, .i a10, .i a11, .i a12, .i a13, .i a14, .i a15, .i a16, .i a17, .i a18, .i a19, .i a20, .i a21, .i a22, .b a23, .b a24, .i a25, .i a26, .i a27, .i a28, .i a29, .i a30, .b a31, .b a32, .i a33, .i a34, .l [.int .i64] a35, .s a36, .i a37, .i a38, .b a39, .i a40] sr36 (ofB36 y) :=
  fun_ok (X := X36) tok (sfok_of ⟨ok24, ok40, ok42, ok28, ok67, trivial⟩) mixed 36 8 cuts36 rfl toB36_ok trivial ((e36 n a0 a1 a2 a3 a4 a5 a6 a7 a8 a9 a10 a11 a12 a13 a14 a15 a16 a17 a18 a19 a20 a21 a22 a23 a24 a25 a26 a27 a28 a29 a30 a31 a32 a33 a34 a35 a36 a37 a38 a39 a40).trans h)
theorem ok36 {R : Type} : SFone T Try.prog 36 (run36 : SF R) := by
  intro ls K r h
  simp only [run36] at h
  obtain ⟨a0, ls1, rfl, h1⟩ := gI_ok h; obtain ⟨a1, ls2, rfl, h2⟩ := gL_ok h1; obtain ⟨a2, ls3, rfl, h3⟩ := gL_ok h2; obtain ⟨a3, ls4, rfl, h4⟩ := gI_ok h3; obtain ⟨a4, ls5, rfl, h5⟩ := gI_ok h4; obtain ⟨a5, ls6, rfl, h6⟩ := gI_ok h5; obtain ⟨a6, ls7, rfl, h7⟩ := gI_ok h6; obtain ⟨a7, ls8, rfl, h8⟩ := gI_ok h7; obtain ⟨a8, ls9, rfl, h9⟩ := gI_ok h8; obtain ⟨a9, ls10, rfl, h10⟩ := gI_ok h9; obtain ⟨a10, ls11, rfl, h11⟩ := gI_ok h10; obtain ⟨a11, ls12, rfl, h12⟩ := gI_ok h11; obtain ⟨a12, ls13, rfl, h13⟩ := gI_ok h12; obtain ⟨a13, ls14, rfl, h14⟩ := gI_ok h13; obtain ⟨a14, ls15, rfl, h15⟩ := gI_ok h14; obtain ⟨a15, ls16, rfl, h16⟩ := gI_ok h15; obtain ⟨a16, ls17, rfl, h17⟩ := gI_ok h16; obtain ⟨a17, ls18, rfl, h18⟩ := gI_ok h17; obtain ⟨a18, ls19, rfl, h19⟩ := gI_ok h18; obtain ⟨a19, ls20, rfl, h20⟩ := gI_ok h19; obtain ⟨a20, ls21, rfl, h21⟩ := gI_ok h20; obtain ⟨a21, ls22, rfl, h22⟩ := gI_ok h21; obtain ⟨a22, ls23, rfl, h23⟩ := gI_ok h22; obtain ⟨a23, ls24, rfl, h24⟩ := gB_ok h23; obtain ⟨a24, ls25, rfl, h25⟩ := gB_ok h24; obtain ⟨a25, ls26, rfl, h26⟩ := gI_ok h25; obtain ⟨a26, ls27, rfl, h27⟩ := gI_ok h26; obtain ⟨a27, ls28, rfl, h28⟩ := gI_ok h27; obtain ⟨a28, ls29, rfl, h29⟩ := gI_ok h28; obtain ⟨a29, ls30, rfl, h30⟩ := gI_ok h29; obtain ⟨a30, ls31, rfl, h31⟩ := gI_ok h30; obtain ⟨a31, ls32, rfl, h32⟩ := gB_ok h31; obtain ⟨a32, ls33, rfl, h33⟩ := gB_ok h32; obtain ⟨a33, ls34, rfl, h34⟩ := gI_ok h33; obtain ⟨a34, ls35, rfl, h35⟩ := gI_ok h34; obtain ⟨a35, ls36, rfl, h36⟩ := gL_ok h35; obtain ⟨a36, ls37, rfl, h37⟩ := gS_ok h36; obtain ⟨a37, ls38, rfl, h38⟩ := gI_ok h37; obtain ⟨a38, ls39, rfl, h39⟩ := gI_ok h38; obtain ⟨a39, ls40, rfl, h40⟩ := gB_ok h39; obtain ⟨a40, ls41, rfl, h41⟩ := gI_ok h40; obtain ⟨rfl, h42⟩ := gE_ok h41
  obtain ⟨y, k1, k2⟩ := Option.bind_eq_some_iff.1 h42
  exact ⟨_, k2, sp36 a0 a1 a2 a3 a4 a5 a6 a7 a8 a9 a10 a11 a12 a13 a14 a15 a16 a17 a18 a19 a20 a21 a22 a23 a24 a25 a26 a27 a28 a29 a30 a31 a32 a33 a34 a35 a36 a37 a38 a39 a40 k1⟩

/-! ### garland/garlandref18.Again -/
def pa38 : List VP := [.agg [.i .i64, .sl false [.int .i64], .sl false [.int .i64], .i .i64, .i .i64, .i .i64, .i .i64, .i .i64, .i .i64, .i .i64, .i .i64, .i .i64, .i .i64, .i .i64, .i .i64, .i .i64, .i .i64, .i .i64, .i .i64, .i .i64], .agg [.i .i64, .i .i64, .i .i64, .b, .b, .i .i64]]
def sr38 : RShape := ⟨.agg [.i .i64, .i .i64, .i .i64, .b, .b, .i .i64], [], none⟩
def toB38 : List Leaf → Option (Si3b2i) := gI (fun b0 => gI (fun b1 => gI (fun b2 => gB (fun b3 => gB (fun b4 => gI (fun b5 => gE (some ⟨b0, b1, b2, b3, b4, b5⟩)))))))
def ofB38 (y : Si3b2i) : List Leaf := [.i y.q0, .i y.q1, .i y.q2, .b y.q3, .b y.q4, .i y.q5]
theorem toB38_ok : ∀ ls b, toB38 ls = some b → ls = ofB38 b := by
  intro ls b h
  unfold toB38 at h
  obtain ⟨b0, ls1, rfl, h1⟩ := gI_ok h; obtain ⟨b1, ls2, rfl, h2⟩ := gI_ok h1; obtain ⟨b2, ls3, rfl, h3⟩ := gI_ok h2; obtain ⟨b3, ls4, rfl, h4⟩ := gB_ok h3; obtain ⟨b4, ls5, rfl, h5⟩ := gB_ok h4; obtain ⟨b5, ls6, rfl, h6⟩ := gI_ok h5; obtain ⟨rfl, h7⟩ := gE_ok h6
  cases h7; rfl
def run38 {R : Type} : SF R := ⟨pa38, sr38, fun ls K => (gI (fun a0 => gL [.int .i64] (fun a1 => gL [.int .i64] (fun a2 => gI (fun a3 => gI (fun a4 => gI (fun a5 => gI (fun a6 => gI (fun a7 => gI (fun a8 => gI (fun a9 => gI (fun a10 => gI (fun a11 => gI (fun a12 => gI (fun a13 => gI (fun a14 => gI (fun a15 => gI (fun a16 => gI (fun a17 => gI (fun a18 => gI (fun a19 => gI (fun a20 => gI (fun a21 => gI (fun a22 => gB (fun a23 => gB (fun a24 => gI (fun a25 => gE (Option.bind (F38 FUEL a0 a1 a2 a3 a4 a5 a6 a7 a8 a9 a10 a11 a12 a13 a14 a15 a16 a17 a18 a19 a20 a21 a22 a23 a24 a25) fun y => K (ofB38 y))))))))))))))))))))))))))))) ls⟩
def cuts38 : List (List Nat × Cut (Si3b2i)) := []
noncomputable def X38 : Px (Si3b2i) := ⟨T, Try.prog, lkF [(24, run24), (40, run40), (42, run42), (67, run67)], mkCuts 38 cuts38, altN, altN_ok⟩
theorem e38 (n : Nat) (a0 : Int) (a1 : List (Int)) (a2 : List (Int)) (a3 : Int) (a4 : Int) (a5 : Int) (a6 : Int) (a7 : Int) (a8 : Int) (a9 : Int) (a10 : Int) (a11 : Int) (a12 : Int) (a13 : Int) (a14 : Int) (a15 : Int) (a16 : Int) (a17 : Int) (a18 : Int) (a19 : Int) (a20 : Int) (a21 : Int) (a22 : Int) (a23 : Bool) (a24 : Bool) (a25 : Int) : entF X38 8 38 pa38 (endK sr38 toB38) n [.i a0, .l [.int .i64] a1, .l [.int .i64] a2, .i a3, .i a4, .i a5, .i a6, .i a7, .i a8, .i a9, .i a10, .i a11, .i a12, .i a13, .i a14, .i a15, .i a16, .i a17, .i a18, .i a19, .i a20, .i a21, .i a22, .b a23, .b a24, .i a25] = F38 n a0 a1 a2 a3 a4 a5 a6 a7 a8 a9 a10 a11 a12 a13 a14 a15 a16 a17 a18 a19 a20 a21 a22 a23 a24 a25 := by kernel_rfl
theorem sp38 {n : Nat} (a0 : Int) (a1 : List (Int)) (a2 : List (Int)) (a3 : Int) (a4 : Int) (a5 : Int) (a6 : Int) (a7 : Int) (a8 : Int) (a9 : Int) (a10 : Int) (a11 : Int) (a12 : Int) (a13 : Int) (a14 : Int) (a15 : Int) (a16 : Int) (a17 : Int) (a18 : Int) (a19 : Int) (a20 : Int) (a21 : Int) (a22 : Int) (a23 : Bool) (a24 : Bool) (a25 : Int) {y : Si3b2i} (h : F38 n a0 a1 a2 a3 a4 a5 a6 a7 a8 a9 a10 a11 a12 a13 a14 a15 a16 a17 a18 a19 a20 a21 a22 a23 a24 a25 = some y) : SpecF T Try.prog 38 pa38 [.i a0, .l [.int .i64] a1, .l [.int .i64] a2, .i a3, .i a4, .i a5, .i a6, .i a7, .i a8, .i a9, .i a10, .i a11, .i a12, .i a13, .i a14, .i a15, .i a16, .i a17, .i a18, .i a19, .i a20, .i a21, .i a22, .b a23, .b a24, .i a25] sr38 (ofB38 y) :=
  fun_ok (X := X38) tok (sfok_of ⟨ok24, ok40, ok42, ok67, trivial⟩) mixed 38 8 cuts38 rfl toB38_ok trivial ((e38 n a0 a1 a2 a3 a4 a5 a6 a7 a8 a9 a10 a11 a12 a13 a14 a15 a16 a17 a18 a19 a20 a21 a22 a23 a24 a25).trans h)
theorem ok38 {R : Type} : SFone T Try.prog 38 (run38 : SF R) := by
  intro ls K r h
  simp only [run38] at h
  obtain ⟨a0, ls1, rfl, h1⟩ := gI_ok h; obtain ⟨a1, ls2, rfl, h2⟩ := gL_ok h1; obtain ⟨a2, ls3, rfl, h3⟩ := gL_ok h2; obtain ⟨a3, ls4, rfl, h4⟩ := gI_ok h3; obtain ⟨a4, ls5, rfl, h5⟩ := gI_ok h4; obtain ⟨a5, ls6, rfl, h6⟩ := gI_ok h5; obtain ⟨a6, ls7, rfl, h7⟩ := gI_ok h6; obtain ⟨a7, ls8, rfl, h8⟩ := gI_ok h7; obtain ⟨a8, ls9, rfl, h9⟩ := gI_ok h8; obtain ⟨a9, ls10, rfl, h10⟩ := gI_ok h9; obtain ⟨a10, ls11, rfl, h11⟩ := gI_ok h10; obtain ⟨a11, ls12, rfl, h12⟩ := gI_ok h11; obtain ⟨a12, ls13, rfl, h13⟩ := gI_ok h12; obtain ⟨a13, ls14, rfl, h14⟩ := gI_ok h13; obtain ⟨a14, ls15, rfl, h15⟩ := gI_ok h14; obtain ⟨a15, ls16, rfl, h16⟩ := gI_ok h15; obtain ⟨a16, ls17, rfl, h17⟩ := gI_ok h16; obtain ⟨a17, ls18, rfl, h18⟩ := gI_ok h17; obtain ⟨a18, ls19, rfl, h19⟩ := gI_ok h18; obtain ⟨a19, ls20, rfl, h20⟩ := gI_ok h19; obtain ⟨a20, ls21, rfl, h21⟩ := gI_ok h20; obtain ⟨a21, ls22, rfl, h22⟩ := gI_ok h21; obtain ⟨a22, ls23, rfl, h23⟩ := gI_ok h22; obtain ⟨a23, ls24, rfl, h24⟩ := gB_ok h23; obtain ⟨a24, ls25, rfl, h25⟩ := gB_ok h24; obtain ⟨a25, ls26, rfl, h26⟩ := gI_ok h25; obtain ⟨rfl, h27⟩ := gE_ok h26
  obtain ⟨y, k1, k2⟩ := Option.bind_eq_some_iff.1 h27
  exact ⟨_, k2, sp38 a0 a1 a2 a3 a4 a5 a6 a7 a8 a9 a10 a11 a12 a13 a14 a15 a16 a17 a18 a19 a20 a21 a22 a23 a24 a25 k1⟩

/-! ### garland/garlandlaw18.LookTells -/
def pa8 : List VP := [.agg [.i .i64, .sl false [.int .i64], .sl false [.int .i64], .i .i64, .i .i64, .i .i64, .i .i64, .i .i64, .i .i64, .i .i64, .i .i64, .i .i64, .i .i64, .i .i64, .i .i64, .i .i64, .i .i64, .i .i64, .i .i64, .i .i64], .agg [.i .i64, .i .i64, .i .i64, .b, .b, .i .i64], .agg [.i .u8, .i .i64, .i .i64, .i .i64, .i .i64, .b, .b, .i .i64, .i .i64, .sl false [.int .i64], .s, .i .i64, .i .i64, .b, .i .i64], .i .i64]
def sr8 : RShape := ⟨.b, [], none⟩
def toB8 : List Leaf → Option (Bool) := gB (fun b0 => gE (some b0))
def ofB8 (y : Bool) : List Leaf := [.b y]
theorem toB8_ok : ∀ ls b, toB8 ls = some b → ls = ofB8 b := by
  intro ls b h
  unfold toB8 at h
  obtain ⟨b0, ls1, rfl, h1⟩ := gB_ok h; obtain ⟨rfl, h2⟩ := gE_ok h1
  cases h2; rfl
def run8 {R : Type} : SF R := ⟨pa8, sr8, fun ls K => (gI (fun a0 => gL [.int .i64] (fun a1 => gL [.int .i64] (fun a2 => gI (fun a3 => gI (fun a4 => gI (fun a5 => gI (fun a6 => gI (fun a7 => gI (fun a8 => gI (fun a9 => gI (fun a10 => gI (fun a11 => gI (fun a12 => gI (fun a13 => gI (fun a14 => gI (fun a15 => gI (fun a16 => gI (fun a17 => gI (fun a18 => gI (fun a19 => gI (fun a20 => gI (fun a21 => gI (fun a22 => gB (fun a23 => gB (fun a24 => gI (fun a25 => gI (fun a26 => gI (fun a27 => gI (fun a28 => gI (fun a29 => gI (fun a30 => gB (fun a31 => gB (fun a32 => gI (fun a33 => gI (fun a34 => gL [.int .i64] (fun a35 => gS (fun a36 => gI (fun a37 => gI (fun a38 => gB (fun a39 => gI (fun a40 => gI (fun a41 => gE (Option.bind (F8 FUEL a0 a1 a2 a3 a4 a5 a6 a7 a8 a9 a10 a11 a12 a13 a14 a15 a16 a17 a18 a19 a20 a21 a22 a23 a24 a25 a26 a27 a28 a29 a30 a31 a32 a33 a34 a35 a36 a37 a38 a39 a40 a41) fun y => K (ofB8 y))))))))))))))))))))))))))))))))))))))))))))) ls⟩
def cuts8 : List (List Nat × Cut (Bool)) := []
noncomputable def X8 : Px (Bool) := ⟨T, Try.prog, lkF [(29, run29), (30, run30), (31, run31), (32, run32), (33, run33), (34, run34), (35, run35), (36, run36), (37, run37), (38, run38), (39, run39), (40, run40), (41, run41), (42, run42), (19, run19)], mkCuts 8 cuts8, altN, altN_ok⟩
theorem e8 (n : Nat) (a0 : Int) (a1 : List (Int)) (a2 : List (Int)) (a3 : Int) (a4 : Int) (a5 : Int) (a6 : Int) (a7 : Int) (a8 : Int) (a9 : Int) (a10 : Int) (a11 : Int) (a12 : Int) (a13 : Int) (a14 : Int) (a15 : Int) (a16 : Int) (a17 : Int) (a18 : Int) (a19 : Int) (a20 : Int) (a21 : Int) (a22 : Int) (a23 : Bool) (a24 : Bool) (a25 : Int) (a26 : Int) (a27 : Int) (a28 : Int) (a29 : Int) (a30 : Int) (a31 : Bool) (a32 : Bool) (a33 : Int) (a34 : Int) (a35 : List (Int)) (a36 : ByteArray) (a37 : Int) (a38 : Int) (a39 : Bool) (a40 : Int) (a41 : Int) : entF X8 8 8 pa8 (endK sr8 toB8) n [.i a0, .l [.int .i64] a1, .l [.int .i64] a2, .i a3, .i a4, .i a5, .i a6, .i a7, .i a8, .i a9, .i a10, .i a11, .i a12, .i a13, .i a14, .i a15, .i a16, .i a17, .i a18, .i a19, .i a20, .i a21, .i a22, .b a23, .b a24, .i a25, .i a26, .i a27, .i a28, .i a29, .i a30, .b a31, .b a32, .i a33, .i a34, .l [.int .i64] a35, .s a36, .i a37, .i a38, .b a39, .i a40, .i a41] = F8 n a0 a1 a2 a3 a4 a5 a6 a7 a8 a9 a10 a11 a12 a13 a14 a15 a16 a17 a18 a19 a20 a21 a22 a23 a24 a25 a26 a27 a28 a29 a30 a31 a32 a33 a34 a35 a36 a37 a38 a39 a40 a41 := by kernel_rfl
theorem sp8 {n : Nat} (a0 : Int) (a1 : List (Int)) (a2 : List (Int)) (a3 : Int) (a4 : Int) (a5 : Int) (a6 : Int) (a7 : Int) (a8 : Int) (a9 : Int) (a10 : Int) (a11 : Int) (a12 : Int) (a13 : Int) (a14 : Int) (a15 : Int) (a16 : Int) (a17 : Int) (a18 : Int) (a19 : Int) (a20 : Int) (a21 : Int) (a22 : Int) (a23 : Bool) (a24 : Bool) (a25 : Int) (a26 : Int) (a27 : Int) (a28 : Int) (a29 : Int) (a30 : Int) (a31 : Bool) (a32 : Bool) (a33 : Int) (a34 : Int) (a35 : List (Int)) (a36 : ByteArray) (a37 : Int) (a38 : Int) (a39 : Bool) (a40 : Int) (a41 : Int) {y : Bool} (h : F8 n a0 a1 a2 a3 a4 a5 a6 a7 a8 a9 a10 a11 a12 a13 a14 a15 a16 a17 a18 a19 a20 a21 a22 a23 a24 a25 a26 a27 a28 a29 a30 a31 a32 a33 a34 a35 a36 a37 a38 a39 a40 a41 = some y) : SpecF T Try.prog 8 pa8 [.i a0, .l [.int .i64] a1, .l [.int .i64] a2, .i a3, .i a4, .i a5, .i a6, .i a7, .i a8, .i a9, .i a10, .i a11, .i a12, .i a13, .i a14, .i a15, .i a16, .i a17, .i a18, .i a19, .i a20, .i a21, .i a22, .b a23, .b a24, .i a25, .i a26, .i a27, .i a28, .i a29, .i a30, .b a31, .b a32, .i a33, .i a34, .l [.int .i64] a35, .s a36, .i a37, .i a38, .b a39, .i a40, .i a41] sr8 (ofB8 y) :=
  fun_ok (X := X8) tok (sfok_of ⟨ok29, ok30, ok31, ok32, ok33, ok34, ok35, ok36, ok37, ok38, ok39, ok40, ok41, ok42, ok19, trivial⟩) mixed 8 8 cuts8 rfl toB8_ok trivial ((e8 n a0 a1 a2 a3 a4 a5 a6 a7 a8 a9 a10 a11 a12 a13 a14 a15 a16 a17 a18 a19 a20 a21 a22 a23 a24 a25 a26 a27 a28 a29 a30 a31 a32 a33 a34 a35 a36 a37 a38 a39 a40 a41).trans h)
theorem ok8 {R : Type} : SFone T Try.prog 8 (run8 : SF R) := by
  intro ls K r h
  simp only [run8] at h
  obtain ⟨a0, ls1, rfl, h1⟩ := gI_ok h; obtain ⟨a1, ls2, rfl, h2⟩ := gL_ok h1; obtain ⟨a2, ls3, rfl, h3⟩ := gL_ok h2; obtain ⟨a3, ls4, rfl, h4⟩ := gI_ok h3; obtain ⟨a4, ls5, rfl, h5⟩ := gI_ok h4; obtain ⟨a5, ls6, rfl, h6⟩ := gI_ok h5; obtain ⟨a6, ls7, rfl, h7⟩ := gI_ok h6; obtain ⟨a7, ls8, rfl, h8⟩ := gI_ok h7; obtain ⟨a8, ls9, rfl, h9⟩ := gI_ok h8; obtain ⟨a9, ls10, rfl, h10⟩ := gI_ok h9; obtain ⟨a10, ls11, rfl, h11⟩ := gI_ok h10; obtain ⟨a11, ls12, rfl, h12⟩ := gI_ok h11; obtain ⟨a12, ls13, rfl, h13⟩ := gI_ok h12; obtain ⟨a13, ls14, rfl, h14⟩ := gI_ok h13; obtain ⟨a14, ls15, rfl, h15⟩ := gI_ok h14; obtain ⟨a15, ls16, rfl, h16⟩ := gI_ok h15; obtain ⟨a16, ls17, rfl, h17⟩ := gI_ok h16; obtain ⟨a17, ls18, rfl, h18⟩ := gI_ok h17; obtain ⟨a18, ls19, rfl, h19⟩ := gI_ok h18; obtain ⟨a19, ls20, rfl, h20⟩ := gI_ok h19; obtain ⟨a20, ls21, rfl, h21⟩ := gI_ok h20; obtain ⟨a21, ls22, rfl, h22⟩ := gI_ok h21; obtain ⟨a22, ls23, rfl, h23⟩ := gI_ok h22; obtain ⟨a23, ls24, rfl, h24⟩ := gB_ok h23; obtain ⟨a24, ls25, rfl, h25⟩ := gB_ok h24; obtain ⟨a25, ls26, rfl, h26⟩ := gI_ok h25; obtain ⟨a26, ls27, rfl, h27⟩ := gI_ok h26; obtain ⟨a27, ls28, rfl, h28⟩ := gI_ok h27; obtain ⟨a28, ls29, rfl, h29⟩ := gI_ok h28; obtain ⟨a29, ls30, rfl, h30⟩ := gI_ok h29; obtain ⟨a30, ls31, rfl, h31⟩ := gI_ok h30; obtain ⟨a31, ls32, rfl, h32⟩ := gB_ok h31; obtain ⟨a32, ls33, rfl, h33⟩ := gB_ok h32; obtain ⟨a33, ls34, rfl, h34⟩ := gI_ok h33; obtain ⟨a34, ls35, rfl, h35⟩ := gI_ok h34; obtain ⟨a35, ls36, rfl, h36⟩ := gL_ok h35; obtain ⟨a36, ls37, rfl, h37⟩ := gS_ok h36; obtain ⟨a37, ls38, rfl, h38⟩ := gI_ok h37; obtain ⟨a38, ls39, rfl, h39⟩ := gI_ok h38; obtain ⟨a39, ls40, rfl, h40⟩ := gB_ok h39; obtain ⟨a40, ls41, rfl, h41⟩ := gI_ok h40; obtain ⟨a41, ls42, rfl, h42⟩ := gI_ok h41; obtain ⟨rfl, h43⟩ := gE_ok h42
  obtain ⟨y, k1, k2⟩ := Option.bind_eq_some_iff.1 h43
  exact ⟨_, k2, sp8 a0 a1 a2 a3 a4 a5 a6 a7 a8 a9 a10 a11 a12 a13 a14 a15 a16 a17 a18 a19 a20 a21 a22 a23 a24 a25 a26 a27 a28 a29 a30 a31 a32 a33 a34 a35 a36 a37 a38 a39 a40 a41 k1⟩

/-! ### garland/garlandlaw18.LookEnds -/
def pa9 : List VP := [.agg [.i .i64, .sl false [.int .i64], .sl false [.int .i64], .i .i64, .i .i64, .i .i64, .i .i64, .i .i64, .i .i64, .i .i64, .i .i64, .i .i64, .i .i64, .i .i64, .i .i64, .i .i64, .i .i64, .i .i64, .i .i64, .i .i64], .i .i64, .sl false [.int .i64, .int .i64], .sl false [.bool]]
def sr9 : RShape := ⟨.b, [], none⟩
def toB9 : List Leaf → Option (Bool) := gB (fun b0 => gE (some b0))
def ofB9 (y : Bool) : List Leaf := [.b y]
theorem toB9_ok : ∀ ls b, toB9 ls = some b → ls = ofB9 b := by
  intro ls b h
  unfold toB9 at h
  obtain ⟨b0, ls1, rfl, h1⟩ := gB_ok h; obtain ⟨rfl, h2⟩ := gE_ok h1
  cases h2; rfl
def run9 {R : Type} : SF R := ⟨pa9, sr9, fun ls K => (gI (fun a0 => gL [.int .i64] (fun a1 => gL [.int .i64] (fun a2 => gI (fun a3 => gI (fun a4 => gI (fun a5 => gI (fun a6 => gI (fun a7 => gI (fun a8 => gI (fun a9 => gI (fun a10 => gI (fun a11 => gI (fun a12 => gI (fun a13 => gI (fun a14 => gI (fun a15 => gI (fun a16 => gI (fun a17 => gI (fun a18 => gI (fun a19 => gI (fun a20 => gL [.int .i64, .int .i64] (fun a21 => gL [.bool] (fun a22 => gE (Option.bind (F9 FUEL a0 a1 a2 a3 a4 a5 a6 a7 a8 a9 a10 a11 a12 a13 a14 a15 a16 a17 a18 a19 a20 a21 a22) fun y => K (ofB9 y)))))))))))))))))))))))))) ls⟩
def sh9_0 : Shape := ⟨[(195, [(1, .i .i64), (2, .sl false [.int .i64, .int .i64]), (3, .sl false [.bool]), (4, .ref 0 0), (9, .ref 1 0), (10, .i .i64), (11, .i .i64)])], [.cells [.i .i64, .sl false [.int .i64], .sl false [.int .i64], .i .i64, .i .i64, .i .i64, .i .i64, .i .i64, .i .i64, .i .i64, .i .i64, .i .i64, .i .i64, .i .i64, .i .i64, .i .i64, .i .i64, .i .i64, .i .i64, .i .i64], .cells [.i .i64, .i .i64, .i .i64, .b, .b, .i .i64]]⟩
def g9_0 (n : Nat) : List Leaf → Option (Bool) := gI (fun x0 => gL [.int .i64, .int .i64] (fun x1 => gL [.bool] (fun x2 => gI (fun x3 => gI (fun x4 => gI (fun x5 => gL [.int .i64] (fun x6 => gL [.int .i64] (fun x7 => gI (fun x8 => gI (fun x9 => gI (fun x10 => gI (fun x11 => gI (fun x12 => gI (fun x13 => gI (fun x14 => gI (fun x15 => gI (fun x16 => gI (fun x17 => gI (fun x18 => gI (fun x19 => gI (fun x20 => gI (fun x21 => gI (fun x22 => gI (fun x23 => gI (fun x24 => gI (fun x25 => gI (fun x26 => gI (fun x27 => gB (fun x28 => gB (fun x29 => gI (fun x30 => gE (F9_c0 n x0 x1 x2 x3 x4 x5 x6 x7 x8 x9 x10 x11 x12 x13 x14 x15 x16 x17 x18 x19 x20 x21 x22 x23 x24 x25 x26 x27 x28 x29 x30))))))))))))))))))))))))))))))))
def cuts9 : List (List Nat × Cut (Bool)) := [([1, 1, 1, 1, 0, 1, 0], ⟨sh9_0, g9_0⟩)]
noncomputable def X9 : Px (Bool) := ⟨T, Try.prog, lkF [(24, run24), (30, run30), (33, run33), (39, run39), (27, run27), (31, run31), (41, run41), (37, run37), (43, run43), (35, run35)], mkCuts 9 cuts9, altN, altN_ok⟩
theorem e9_0 (n : Nat) (x0 : Int) (x1 : List (Int × Int)) (x2 : List (Bool)) (x3 : Int) (x4 : Int) (x5 : Int) (x6 : List (Int)) (x7 : List (Int)) (x8 : Int) (x9 : Int) (x10 : Int) (x11 : Int) (x12 : Int) (x13 : Int) (x14 : Int) (x15 : Int) (x16 : Int) (x17 : Int) (x18 : Int) (x19 : Int) (x20 : Int) (x21 : Int) (x22 : Int) (x23 : Int) (x24 : Int) (x25 : Int) (x26 : Int) (x27 : Int) (x28 : Bool) (x29 : Bool) (x30 : Int) : stepF X9 8 9 (endK sr9 toB9) [1, 1, 1, 1, 0, 1, 0] sh9_0 n [.i x0, .l [.int .i64, .int .i64] x1, .l [.bool] x2, .i x3, .i x4, .i x5, .l [.int .i64] x6, .l [.int .i64] x7, .i x8, .i x9, .i x10, .i x11, .i x12, .i x13, .i x14, .i x15, .i x16, .i x17, .i x18, .i x19, .i x20, .i x21, .i x22, .i x23, .i x24, .i x25, .i x26, .i x27, .b x28, .b x29, .i x30] = F9_c0 (n + 1) x0 x1 x2 x3 x4 x5 x6 x7 x8 x9 x10 x11 x12 x13 x14 x15 x16 x17 x18 x19 x20 x21 x22 x23 x24 x25 x26 x27 x28 x29 x30 := by kernel_rfl
theorem e9 (n : Nat) (a0 : Int) (a1 : List (Int)) (a2 : List (Int)) (a3 : Int) (a4 : Int) (a5 : Int) (a6 : Int) (a7 : Int) (a8 : Int) (a9 : Int) (a10 : Int) (a11 : Int) (a12 : Int) (a13 : Int) (a14 : Int) (a15 : Int) (a16 : Int) (a17 : Int) (a18 : Int) (a19 : Int) (a20 : Int) (a21 : List (Int × Int)) (a22 : List (Bool)) : entF X9 8 9 pa9 (endK sr9 toB9) n [.i a0, .l [.int .i64] a1, .l [.int .i64] a2, .i a3, .i a4, .i a5, .i a6, .i a7, .i a8, .i a9, .i a10, .i a11, .i a12, .i a13, .i a14, .i a15, .i a16, .i a17, .i a18, .i a19, .i a20, .l [.int .i64, .int .i64] a21, .l [.bool] a22] = F9 n a0 a1 a2 a3 a4 a5 a6 a7 a8 a9 a10 a11 a12 a13 a14 a15 a16 a17 a18 a19 a20 a21 a22 := by kernel_rfl
theorem c9_0 : CutOK X9 8 9 (endK sr9 toB9) [1, 1, 1, 1, 0, 1, 0] ⟨sh9_0, g9_0⟩ := by
  refine ⟨fun ls => ?_, fun n ls r h => ?_⟩
  · cases h : g9_0 0 ls with
    | none => exact h
    | some r =>
      unfold g9_0 at h; obtain ⟨x0, ls1, rfl, h1⟩ := gI_ok h; obtain ⟨x1, ls2, rfl, h2⟩ := gL_ok h1; obtain ⟨x2, ls3, rfl, h3⟩ := gL_ok h2; obtain ⟨x3, ls4, rfl, h4⟩ := gI_ok h3; obtain ⟨x4, ls5, rfl, h5⟩ := gI_ok h4; obtain ⟨x5, ls6, rfl, h6⟩ := gI_ok h5; obtain ⟨x6, ls7, rfl, h7⟩ := gL_ok h6; obtain ⟨x7, ls8, rfl, h8⟩ := gL_ok h7; obtain ⟨x8, ls9, rfl, h9⟩ := gI_ok h8; obtain ⟨x9, ls10, rfl, h10⟩ := gI_ok h9; obtain ⟨x10, ls11, rfl, h11⟩ := gI_ok h10; obtain ⟨x11, ls12, rfl, h12⟩ := gI_ok h11; obtain ⟨x12, ls13, rfl, h13⟩ := gI_ok h12; obtain ⟨x13, ls14, rfl, h14⟩ := gI_ok h13; obtain ⟨x14, ls15, rfl, h15⟩ := gI_ok h14; obtain ⟨x15, ls16, rfl, h16⟩ := gI_ok h15; obtain ⟨x16, ls17, rfl, h17⟩ := gI_ok h16; obtain ⟨x17, ls18, rfl, h18⟩ := gI_ok h17; obtain ⟨x18, ls19, rfl, h19⟩ := gI_ok h18; obtain ⟨x19, ls20, rfl, h20⟩ := gI_ok h19; obtain ⟨x20, ls21, rfl, h21⟩ := gI_ok h20; obtain ⟨x21, ls22, rfl, h22⟩ := gI_ok h21; obtain ⟨x22, ls23, rfl, h23⟩ := gI_ok h22; obtain ⟨x23, ls24, rfl, h24⟩ := gI_ok h23; obtain ⟨x24, ls25, rfl, h25⟩ := gI_ok h24; obtain ⟨x25, ls26, rfl, h26⟩ := gI_ok h25; obtain ⟨x26, ls27, rfl, h27⟩ := gI_ok h26; obtain ⟨x27, ls28, rfl, h28⟩ := gI_ok h27; obtain ⟨x28, ls29, rfl, h29⟩ := gB_ok h28; obtain ⟨x29, ls30, rfl, h30⟩ := gB_ok h29; obtain ⟨x30, ls31, rfl, h31⟩ := gI_ok h30; obtain ⟨rfl, h32⟩ := gE_ok h31; simp only [F9_c0] at h32; cases h32
  · replace h : g9_0 (n + 1) ls = some r := h
    unfold g9_0 at h
    obtain ⟨x0, ls1, rfl, h1⟩ := gI_ok h; obtain ⟨x1, ls2, rfl, h2⟩ := gL_ok h1; obtain ⟨x2, ls3, rfl, h3⟩ := gL_ok h2; obtain ⟨x3, ls4, rfl, h4⟩ := gI_ok h3; obtain ⟨x4, ls5, rfl, h5⟩ := gI_ok h4; obtain ⟨x5, ls6, rfl, h6⟩ := gI_ok h5; obtain ⟨x6, ls7, rfl, h7⟩ := gL_ok h6; obtain ⟨x7, ls8, rfl, h8⟩ := gL_ok h7; obtain ⟨x8, ls9, rfl, h9⟩ := gI_ok h8; obtain ⟨x9, ls10, rfl, h10⟩ := gI_ok h9; obtain ⟨x10, ls11, rfl, h11⟩ := gI_ok h10; obtain ⟨x11, ls12, rfl, h12⟩ := gI_ok h11; obtain ⟨x12, ls13, rfl, h13⟩ := gI_ok h12; obtain ⟨x13, ls14, rfl, h14⟩ := gI_ok h13; obtain ⟨x14, ls15, rfl, h15⟩ := gI_ok h14; obtain ⟨x15, ls16, rfl, h16⟩ := gI_ok h15; obtain ⟨x16, ls17, rfl, h17⟩ := gI_ok h16; obtain ⟨x17, ls18, rfl, h18⟩ := gI_ok h17; obtain ⟨x18, ls19, rfl, h19⟩ := gI_ok h18; obtain ⟨x19, ls20, rfl, h20⟩ := gI_ok h19; obtain ⟨x20, ls21, rfl, h21⟩ := gI_ok h20; obtain ⟨x21, ls22, rfl, h22⟩ := gI_ok h21; obtain ⟨x22, ls23, rfl, h23⟩ := gI_ok h22; obtain ⟨x23, ls24, rfl, h24⟩ := gI_ok h23; obtain ⟨x24, ls25, rfl, h25⟩ := gI_ok h24; obtain ⟨x25, ls26, rfl, h26⟩ := gI_ok h25; obtain ⟨x26, ls27, rfl, h27⟩ := gI_ok h26; obtain ⟨x27, ls28, rfl, h28⟩ := gI_ok h27; obtain ⟨x28, ls29, rfl, h29⟩ := gB_ok h28; obtain ⟨x29, ls30, rfl, h30⟩ := gB_ok h29; obtain ⟨x30, ls31, rfl, h31⟩ := gI_ok h30; obtain ⟨rfl, h32⟩ := gE_ok h31
    exact (e9_0 n x0 x1 x2 x3 x4 x5 x6 x7 x8 x9 x10 x11 x12 x13 x14 x15 x16 x17 x18 x19 x20 x21 x22 x23 x24 x25 x26 x27 x28 x29 x30).trans h32
theorem sp9 {n : Nat} (a0 : Int) (a1 : List (Int)) (a2 : List (Int)) (a3 : Int) (a4 : Int) (a5 : Int) (a6 : Int) (a7 : Int) (a8 : Int) (a9 : Int) (a10 : Int) (a11 : Int) (a12 : Int) (a13 : Int) (a14 : Int) (a15 : Int) (a16 : Int) (a17 : Int) (a18 : Int) (a19 : Int) (a20 : Int) (a21 : List (Int × Int)) (a22 : List (Bool)) {y : Bool} (h : F9 n a0 a1 a2 a3 a4 a5 a6 a7 a8 a9 a10 a11 a12 a13 a14 a15 a16 a17 a18 a19 a20 a21 a22 = some y) : SpecF T Try.prog 9 pa9 [.i a0, .l [.int .i64] a1, .l [.int .i64] a2, .i a3, .i a4, .i a5, .i a6, .i a7, .i a8, .i a9, .i a10, .i a11, .i a12, .i a13, .i a14, .i a15, .i a16, .i a17, .i a18, .i a19, .i a20, .l [.int .i64, .int .i64] a21, .l [.bool] a22] sr9 (ofB9 y) :=
  fun_ok (X := X9) tok (sfok_of ⟨ok24, ok30, ok33, ok39, ok27, ok31, ok41, ok37, ok43, ok35, trivial⟩) mixed 9 8 cuts9 rfl toB9_ok ⟨c9_0, trivial⟩ ((e9 n a0 a1 a2 a3 a4 a5 a6 a7 a8 a9 a10 a11 a12 a13 a14 a15 a16 a17 a18 a19 a20 a21 a22).trans h)
theorem ok9 {R : Type} : SFone T Try.prog 9 (run9 : SF R) := by
  intro ls K r h
  simp only [run9] at h
  obtain ⟨a0, ls1, rfl, h1⟩ := gI_ok h; obtain ⟨a1, ls2, rfl, h2⟩ := gL_ok h1; obtain ⟨a2, ls3, rfl, h3⟩ := gL_ok h2; obtain ⟨a3, ls4, rfl, h4⟩ := gI_ok h3; obtain ⟨a4, ls5, rfl, h5⟩ := gI_ok h4; obtain ⟨a5, ls6, rfl, h6⟩ := gI_ok h5; obtain ⟨a6, ls7, rfl, h7⟩ := gI_ok h6; obtain ⟨a7, ls8, rfl, h8⟩ := gI_ok h7; obtain ⟨a8, ls9, rfl, h9⟩ := gI_ok h8; obtain ⟨a9, ls10, rfl, h10⟩ := gI_ok h9; obtain ⟨a10, ls11, rfl, h11⟩ := gI_ok h10; obtain ⟨a11, ls12, rfl, h12⟩ := gI_ok h11; obtain ⟨a12, ls13, rfl, h13⟩ := gI_ok h12; obtain ⟨a13, ls14, rfl, h14⟩ := gI_ok h13; obtain ⟨a14, ls15, rfl, h15⟩ := gI_ok h14; obtain ⟨a15, ls16, rfl, h16⟩ := gI_ok h15; obtain ⟨a16, ls17, rfl, h17⟩ := gI_ok h16; obtain ⟨a17, ls18, rfl, h18⟩ := gI_ok h17; obtain ⟨a18, ls19, rfl, h19⟩ := gI_ok h18; obtain ⟨a19, ls20, rfl, h20⟩ := gI_ok h19; obtain ⟨a20, ls21, rfl, h21⟩ := gI_ok h20; obtain ⟨a21, ls22, rfl, h22⟩ := gL_ok h21; obtain ⟨a22, ls23, rfl, h23⟩ := gL_ok h22; obtain ⟨rfl, h24⟩ := gE_ok h23
  obtain ⟨y, k1, k2⟩ := Option.bind_eq_some_iff.1 h24
  exact ⟨_, k2, sp9 a0 a1 a2 a3 a4 a5 a6 a7 a8 a9 a10 a11 a12 a13 a14 a15 a16 a17 a18 a19 a20 a21 a22 k1⟩

/-! ### garland/garlandref16.left -/
def pa53 : List VP := [.i .i64, .i .i64]
def sr53 : RShape := ⟨.i .i64, [], none⟩
def toB53 : List Leaf → Option (Int) := gI (fun b0 => gE (some b0))
def ofB53 (y : Int) : List Leaf := [.i y]
theorem toB53_ok : ∀ ls b, toB53 ls = some b → ls = ofB53 b := by
  intro ls b h
  unfold toB53 at h
  obtain ⟨b0, ls1, rfl, h1⟩ := gI_ok h; obtain ⟨rfl, h2⟩ := gE_ok h1
  cases h2; rfl
def run53 {R : Type} : SF R := ⟨pa53, sr53, fun ls K => (gI (fun a0 => gI (fun a1 => gE (Option.bind (F53 FUEL a0 a1) fun y => K (ofB53 y))))) ls⟩
def cuts53 : List (List Nat × Cut (Int)) := []
noncomputable def X53 : Px (Int) := ⟨T, Try.prog, lkF [(26, run26)], mkCuts 53 cuts53, altN, altN_ok⟩
theorem e53 (n : Nat) (a0 : Int) (a1 : Int) : entF X53 8 53 pa53 (endK sr53 toB53) n [.i a0, .i a1] = F53 n a0 a1 := by kernel_rfl
theorem sp53 {n : Nat} (a0 : Int) (a1 : Int) {y : Int} (h : F53 n a0 a1 = some y) : SpecF T Try.prog 53 pa53 [.i a0, .i a1] sr53 (ofB53 y) :=
  fun_ok (X := X53) tok (sfok_of ⟨ok26, trivial⟩) mixed 53 8 cuts53 rfl toB53_ok trivial ((e53 n a0 a1).trans h)
theorem ok53 {R : Type} : SFone T Try.prog 53 (run53 : SF R) := by
  intro ls K r h
  simp only [run53] at h
  obtain ⟨a0, ls1, rfl, h1⟩ := gI_ok h; obtain ⟨a1, ls2, rfl, h2⟩ := gI_ok h1; obtain ⟨rfl, h3⟩ := gE_ok h2
  obtain ⟨y, k1, k2⟩ := Option.bind_eq_some_iff.1 h3
  exact ⟨_, k2, sp53 a0 a1 k1⟩

/-! ### garland/garlandref16.Closer -/
def pa23 : List VP := [.i .i64, .i .i64, .i .i64]
def sr23 : RShape := ⟨.b, [], none⟩
def toB23 : List Leaf → Option (Bool) := gB (fun b0 => gE (some b0))
def ofB23 (y : Bool) : List Leaf := [.b y]
theorem toB23_ok : ∀ ls b, toB23 ls = some b → ls = ofB23 b := by
  intro ls b h
  unfold toB23 at h
  obtain ⟨b0, ls1, rfl, h1⟩ := gB_ok h; obtain ⟨rfl, h2⟩ := gE_ok h1
  cases h2; rfl
def run23 {R : Type} : SF R := ⟨pa23, sr23, fun ls K => (gI (fun a0 => gI (fun a1 => gI (fun a2 => gE (Option.bind (F23 FUEL a0 a1 a2) fun y => K (ofB23 y)))))) ls⟩
def cuts23 : List (List Nat × Cut (Bool)) := []
noncomputable def X23 : Px (Bool) := ⟨T, Try.prog, lkF [(53, run53)], mkCuts 23 cuts23, altN, altN_ok⟩
theorem e23 (n : Nat) (a0 : Int) (a1 : Int) (a2 : Int) : entF X23 8 23 pa23 (endK sr23 toB23) n [.i a0, .i a1, .i a2] = F23 n a0 a1 a2 := by kernel_rfl
theorem sp23 {n : Nat} (a0 : Int) (a1 : Int) (a2 : Int) {y : Bool} (h : F23 n a0 a1 a2 = some y) : SpecF T Try.prog 23 pa23 [.i a0, .i a1, .i a2] sr23 (ofB23 y) :=
  fun_ok (X := X23) tok (sfok_of ⟨ok53, trivial⟩) mixed 23 8 cuts23 rfl toB23_ok trivial ((e23 n a0 a1 a2).trans h)
theorem ok23 {R : Type} : SFone T Try.prog 23 (run23 : SF R) := by
  intro ls K r h
  simp only [run23] at h
  obtain ⟨a0, ls1, rfl, h1⟩ := gI_ok h; obtain ⟨a1, ls2, rfl, h2⟩ := gI_ok h1; obtain ⟨a2, ls3, rfl, h3⟩ := gI_ok h2; obtain ⟨rfl, h4⟩ := gE_ok h3
  obtain ⟨y, k1, k2⟩ := Option.bind_eq_some_iff.1 h4
  exact ⟨_, k2, sp23 a0 a1 a2 k1⟩

/-! ### garland/garlandlaw18.LookCloser -/
def pa10 : List VP := [.sl false [.int .i64, .sl [.int .i64], .sl [.int .i64], .int .i64, .int .i64, .int .i64, .int .i64, .int .i64, .int .i64, .int .i64, .int .i64, .int .i64, .int .i64, .int .i64, .int .i64, .int .i64, .int .i64, .int .i64, .int .i64, .int .i64], .i .i64, .i .i64]
def sr10 : RShape := ⟨.b, [], none⟩
def toB10 : List Leaf → Option (Bool) := gB (fun b0 => gE (some b0))
def ofB10 (y : Bool) : List Leaf := [.b y]
theorem toB10_ok : ∀ ls b, toB10 ls = some b → ls = ofB10 b := by
  intro ls b h
  unfold toB10 at h
  obtain ⟨b0, ls1, rfl, h1⟩ := gB_ok h; obtain ⟨rfl, h2⟩ := gE_ok h1
  cases h2; rfl
def run10 {R : Type} : SF R := ⟨pa10, sr10, fun ls K => (gL [.int .i64, .sl [.int .i64], .sl [.int .i64], .int .i64, .int .i64, .int .i64, .int .i64, .int .i64, .int .i64, .int .i64, .int .i64, .int .i64, .int .i64, .int .i64, .int .i64, .int .i64, .int .i64, .int .i64, .int .i64, .int .i64] (fun a0 => gI (fun a1 => gI (fun a2 => gE (Option.bind (F10 FUEL a0 a1 a2) fun y => K (ofB10 y)))))) ls⟩
def sh10_0 : Shape := ⟨[(177, [(0, .sl false [.int .i64, .sl [.int .i64], .sl [.int .i64], .int .i64, .int .i64, .int .i64, .int .i64, .int .i64, .int .i64, .int .i64, .int .i64, .int .i64, .int .i64, .int .i64, .int .i64, .int .i64, .int .i64, .int .i64, .int .i64, .int .i64]), (1, .i .i64), (2, .i .i64), (7, .i .i64)])], []⟩
def g10_0 (n : Nat) : List Leaf → Option (Bool) := gL [.int .i64, .sl [.int .i64], .sl [.int .i64], .int .i64, .int .i64, .int .i64, .int .i64, .int .i64, .int .i64, .int .i64, .int .i64, .int .i64, .int .i64, .int .i64, .int .i64, .int .i64, .int .i64, .int .i64, .int .i64, .int .i64] (fun x0 => gI (fun x1 => gI (fun x2 => gI (fun x3 => gE (F10_c0 n x0 x1 x2 x3)))))
def sh10_1 : Shape := ⟨[(177, [(0, .sl false [.int .i64, .sl [.int .i64], .sl [.int .i64], .int .i64, .int .i64, .int .i64, .int .i64, .int .i64, .int .i64, .int .i64, .int .i64, .int .i64, .int .i64, .int .i64, .int .i64, .int .i64, .int .i64, .int .i64, .int .i64, .int .i64]), (1, .i .i64), (2, .i .i64), (7, .i .i64), (8, .i .i64)])], []⟩
def g10_1 (n : Nat) : List Leaf → Option (Bool) := gL [.int .i64, .sl [.int .i64], .sl [.int .i64], .int .i64, .int .i64, .int .i64, .int .i64, .int .i64, .int .i64, .int .i64, .int .i64, .int .i64, .int .i64, .int .i64, .int .i64, .int .i64, .int .i64, .int .i64, .int .i64, .int .i64] (fun x0 => gI (fun x1 => gI (fun x2 => gI (fun x3 => gI (fun x4 => gE (F10_c1 n x0 x1 x2 x3 x4))))))
def sh10_2 : Shape := ⟨[(177, [(0, .sl false [.int .i64, .sl [.int .i64], .sl [.int .i64], .int .i64, .int .i64, .int .i64, .int .i64, .int .i64, .int .i64, .int .i64, .int .i64, .int .i64, .int .i64, .int .i64, .int .i64, .int .i64, .int .i64, .int .i64, .int .i64, .int .i64]), (1, .i .i64), (9, .ref 0 0), (10, .ref 1 0), (11, .i .i64)])], [.cells [.i .i64, .sl false [.int .i64], .sl false [.int .i64], .i .i64, .i .i64, .i .i64, .i .i64, .i .i64, .i .i64, .i .i64, .i .i64, .i .i64, .i .i64, .i .i64, .i .i64, .i .i64, .i .i64, .i .i64, .i .i64, .i .i64], .cells [.i .i64, .i .i64, .i .i64, .b, .b, .i .i64]]⟩
def g10_2 (n : Nat) : List Leaf → Option (Bool) := gL [.int .i64, .sl [.int .i64], .sl [.int .i64], .int .i64, .int .i64, .int .i64, .int .i64, .int .i64, .int .i64, .int .i64, .int .i64, .int .i64, .int .i64, .int .i64, .int .i64, .int .i64, .int .i64, .int .i64, .int .i64, .int .i64] (fun x0 => gI (fun x1 => gI (fun x2 => gI (fun x3 => gL [.int .i64] (fun x4 => gL [.int .i64] (fun x5 => gI (fun x6 => gI (fun x7 => gI (fun x8 => gI (fun x9 => gI (fun x10 => gI (fun x11 => gI (fun x12 => gI (fun x13 => gI (fun x14 => gI (fun x15 => gI (fun x16 => gI (fun x17 => gI (fun x18 => gI (fun x19 => gI (fun x20 => gI (fun x21 => gI (fun x22 => gI (fun x23 => gI (fun x24 => gI (fun x25 => gB (fun x26 => gB (fun x27 => gI (fun x28 => gE (F10_c2 n x0 x1 x2 x3 x4 x5 x6 x7 x8 x9 x10 x11 x12 x13 x14 x15 x16 x17 x18 x19 x20 x21 x22 x23 x24 x25 x26 x27 x28))))))))))))))))))))))))))))))
def sh10_3 : Shape := ⟨[(177, [(0, .sl false [.int .i64, .sl [.int .i64], .sl [.int .i64], .int .i64, .int .i64, .int .i64, .int .i64, .int .i64, .int .i64, .int .i64, .int .i64, .int .i64, .int .i64, .int .i64, .int .i64, .int .i64, .int .i64, .int .i64, .int .i64, .int .i64]), (1, .i .i64), (9, .ref 0 0), (10, .ref 1 0), (11, .i .i64), (12, .i .i64), (13, .i .i64)])], [.cells [.i .i64, .sl false [.int .i64], .sl false [.int .i64], .i .i64, .i .i64, .i .i64, .i .i64, .i .i64, .i .i64, .i .i64, .i .i64, .i .i64, .i .i64, .i .i64, .i .i64, .i .i64, .i .i64, .i .i64, .i .i64, .i .i64], .cells [.i .i64, .i .i64, .i .i64, .b, .b, .i .i64]]⟩
def g10_3 (n : Nat) : List Leaf → Option (Bool) := gL [.int .i64, .sl [.int .i64], .sl [.int .i64], .int .i64, .int .i64, .int .i64, .int .i64, .int .i64, .int .i64, .int .i64, .int .i64, .int .i64, .int .i64, .int .i64, .int .i64, .int .i64, .int .i64, .int .i64, .int .i64, .int .i64] (fun x0 => gI (fun x1 => gI (fun x2 => gI (fun x3 => gI (fun x4 => gI (fun x5 => gL [.int .i64] (fun x6 => gL [.int .i64] (fun x7 => gI (fun x8 => gI (fun x9 => gI (fun x10 => gI (fun x11 => gI (fun x12 => gI (fun x13 => gI (fun x14 => gI (fun x15 => gI (fun x16 => gI (fun x17 => gI (fun x18 => gI (fun x19 => gI (fun x20 => gI (fun x21 => gI (fun x22 => gI (fun x23 => gI (fun x24 => gI (fun x25 => gI (fun x26 => gI (fun x27 => gB (fun x28 => gB (fun x29 => gI (fun x30 => gE (F10_c3 n x0 x1 x2 x3 x4 x5 x6 x7 x8 x9 x10 x11 x12 x13 x14 x15 x16 x17 x18 x19 x20 x21 x22 x23 x24 x25 x26 x27 x28 x29 x30))))))))))))))))))))))))))))))))
def cuts10 : List (List Nat × Cut (Bool)) := [([1, 1, 0, 1, 0], ⟨sh10_0, g10_0⟩), ([1, 1, 0, 1, 0, 0, 1, 0, 0, 1, 1, 0], ⟨sh10_1, g10_1⟩), ([1, 1, 1, 1, 1, 0, 1, 0], ⟨sh10_2, g10_2⟩), ([1, 1, 1, 1, 1, 0, 1, 0, 0, 1, 0, 0, 1, 1, 0, 1, 0], ⟨sh10_3, g10_3⟩)]
noncomputable def X10 : Px (Bool) := ⟨T, Try.prog, lkF [(30, run30), (24, run24), (33, run33), (41, run41), (16, run16), (43, run43), (35, run35), (23, run23)], mkCuts 10 cuts10, altN, altN_ok⟩
theorem e10_0 (n : Nat) (x0 : List (Int × (List (Int)) × (List (Int)) × Int × Int × Int × Int × Int × Int × Int × Int × Int × Int × Int × Int × Int × Int × Int × Int × Int)) (x1 : Int) (x2 : Int) (x3 : Int) : stepF X10 8 10 (endK sr10 toB10) [1, 1, 0, 1, 0] sh10_0 n [.l [.int .i64, .sl [.int .i64], .sl [.int .i64], .int .i64, .int .i64, .int .i64, .int .i64, .int .i64, .int .i64, .int .i64, .int .i64, .int .i64, .int .i64, .int .i64, .int .i64, .int .i64, .int .i64, .int .i64, .int .i64, .int .i64] x0, .i x1, .i x2, .i x3] = F10_c0 (n + 1) x0 x1 x2 x3 := by kernel_rfl
theorem e10_1 (n : Nat) (x0 : List (Int × (List (Int)) × (List (Int)) × Int × Int × Int × Int × Int × Int × Int × Int × Int × Int × Int × Int × Int × Int × Int × Int × Int)) (x1 : Int) (x2 : Int) (x3 : Int) (x4 : Int) : stepF X10 8 10 (endK sr10 toB10) [1, 1, 0, 1, 0, 0, 1, 0, 0, 1, 1, 0] sh10_1 n [.l [.int .i64, .sl [.int .i64], .sl [.int .i64], .int .i64, .int .i64, .int .i64, .int .i64, .int .i64, .int .i64, .int .i64, .int .i64, .int .i64, .int .i64, .int .i64, .int .i64, .int .i64, .int .i64, .int .i64, .int .i64, .int .i64] x0, .i x1, .i x2, .i x3, .i x4] = F10_c1 (n + 1) x0 x1 x2 x3 x4 := by kernel_rfl
theorem e10_2 (n : Nat) (x0 : List (Int × (List (Int)) × (List (Int)) × Int × Int × Int × Int × Int × Int × Int × Int × Int × Int × Int × Int × Int × Int × Int × Int × Int)) (x1 : Int) (x2 : Int) (x3 : Int) (x4 : List (Int)) (x5 : List (Int)) (x6 : Int) (x7 : Int) (x8 : Int) (x9 : Int) (x10 : Int) (x11 : Int) (x12 : Int) (x13 : Int) (x14 : Int) (x15 : Int) (x16 : Int) (x17 : Int) (x18 : Int) (x19 : Int) (x20 : Int) (x21 : Int) (x22 : Int) (x23 : Int) (x24 : Int) (x25 : Int) (x26 : Bool) (x27 : Bool) (x28 : Int) : stepF X10 8 10 (endK sr10 toB10) [1, 1, 1, 1, 1, 0, 1, 0] sh10_2 n [.l [.int .i64, .sl [.int .i64], .sl [.int .i64], .int .i64, .int .i64, .int .i64, .int .i64, .int .i64, .int .i64, .int .i64, .int .i64, .int .i64, .int .i64, .int .i64, .int .i64, .int .i64, .int .i64, .int .i64, .int .i64, .int .i64] x0, .i x1, .i x2, .i x3, .l [.int .i64] x4, .l [.int .i64] x5, .i x6, .i x7, .i x8, .i x9, .i x10, .i x11, .i x12, .i x13, .i x14, .i x15, .i x16, .i x17, .i x18, .i x19, .i x20, .i x21, .i x22, .i x23, .i x24, .i x25, .b x26, .b x27, .i x28] = F10_c2 (n + 1) x0 x1 x2 x3 x4 x5 x6 x7 x8 x9 x10 x11 x12 x13 x14 x15 x16 x17 x18 x19 x20 x21 x22 x23 x24 x25 x26 x27 x28 := by kernel_rfl
theorem e10_3 (n : Nat) (x0 : List (Int × (List (Int)) × (List (Int)) × Int × Int × Int × Int × Int × Int × Int × Int × Int × Int × Int × Int × Int × Int × Int × Int × Int)) (x1 : Int) (x2 : Int) (x3 : Int) (x4 : Int) (x5 : Int) (x6 : List (Int)) (x7 : List (Int)) (x8 : Int) (x9 : Int) (x10 : Int) (x11 : Int) (x12 : Int) (x13 : Int) (x14 : Int) (x15 : Int) (x16 : Int) (x17 : Int) (x18 : Int) (x19 : Int) (x20 : Int) (x21 : Int) (x22 : Int) (x23 : Int) (x24 : Int) (x25 : Int) (x26 : Int) (x27 : Int) (x28 : Bool) (x29 : Bool) (x30 : Int) : stepF X10 8 10 (endK sr10 toB10) [1, 1, 1, 1, 1, 0, 1, 0, 0, 1, 0, 0, 1, 1, 0, 1, 0] sh10_3 n [.l [.int .i64, .sl [.int .i64], .sl [.int .i64], .int .i64, .int .i64, .int .i64, .int .i64, .int .i64, .int .i64, .int .i64, .int .i64, .int .i64, .int .i64, .int .i64, .int .i64, .int .i64, .int .i64, .int .i64, .int .i64, .int .i64] x0, .i x1, .i x2, .i x3, .i x4, .i x5, .l [.int .i64] x6, .l [.int .i64] x7, .i x8, .i x9, .i x10, .i x11, .i x12, .i x13, .i x14, .i x15, .i x16, .i x17, .i x18, .i x19, .i x20, .i x21, .i x22, .i x23, .i x24, .i x25, .i x26, .i x27, .b x28, .b x29, .i x30] = F10_c3 (n + 1) x0 x1 x2 x3 x4 x5 x6 x7 x8 x9 x10 x11 x12 x13 x14 x15 x16 x17 x18 x19 x20 x21 x22 x23 x24 x25 x26 x27 x28 x29 x30 := by kernel_rfl
theorem e10 (n : Nat) (a0 : List (Int × (List (Int)) × (List (Int)) × Int × Int × Int × Int × Int × Int × Int × Int × Int × Int × Int × Int × Int × Int × Int × Int × Int)) (a1 : Int) (a2 : Int) : entF X10 8 10 pa10 (endK sr10 toB10) n [.l [.int .i64, .sl [.int .i64], .sl [.int .i64], .int .i64, .int .i64, .int .i64, .int .i64, .int .i64, .int .i64, .int .i64, .int .i64, .int .i64, .int .i64, .int .i64, .int .i64, .int .i64, .int .i64, .int .i64, .int .i64, .int .i64] a0, .i a1, .i a2] = F10 n a0 a1 a2 := by kernel_rfl
theorem c10_0 : CutOK X10 8 10 (endK sr10 toB10) [1, 1, 0, 1, 0] ⟨sh10_0, g10_0⟩ := by
  refine ⟨fun ls => ?_, fun n ls r h => ?_⟩
  · cases h : g10_0 0 ls with
    | none => exact h
    | some r =>
      unfold g10_0 at h; obtain ⟨x0, ls1, rfl, h1⟩ := gL_ok h; obtain ⟨x1, ls2, rfl, h2⟩ := gI_ok h1; obtain ⟨x2, ls3, rfl, h3⟩ := gI_ok h2; obtain ⟨x3, ls4, rfl, h4⟩ := gI_ok h3; obtain ⟨rfl, h5⟩ := gE_ok h4; simp only [F10_c0] at h5; cases h5
  · replace h : g10_0 (n + 1) ls = some r := h
    unfold g10_0 at h
    obtain ⟨x0, ls1, rfl, h1⟩ := gL_ok h; obtain ⟨x1, ls2, rfl, h2⟩ := gI_ok h1; obtain ⟨x2, ls3, rfl, h3⟩ := gI_ok h2; obtain ⟨x3, ls4, rfl, h4⟩ := gI_ok h3; obtain ⟨rfl, h5⟩ := gE_ok h4
    exact (e10_0 n x0 x1 x2 x3).trans h5
theorem c10_1 : CutOK X10 8 10 (endK sr10 toB10) [1, 1, 0, 1, 0, 0, 1, 0, 0, 1, 1, 0] ⟨sh10_1, g10_1⟩ := by
  refine ⟨fun ls => ?_, fun n ls r h => ?_⟩
  · cases h : g10_1 0 ls with
    | none => exact h
    | some r =>
      unfold g10_1 at h; obtain ⟨x0, ls1, rfl, h1⟩ := gL_ok h; obtain ⟨x1, ls2, rfl, h2⟩ := gI_ok h1; obtain ⟨x2, ls3, rfl, h3⟩ := gI_ok h2; obtain ⟨x3, ls4, rfl, h4⟩ := gI_ok h3; obtain ⟨x4, ls5, rfl, h5⟩ := gI_ok h4; obtain ⟨rfl, h6⟩ := gE_ok h5; simp only [F10_c1] at h6; cases h6
  · replace h : g10_1 (n + 1) ls = some r := h
    unfold g10_1 at h
    obtain ⟨x0, ls1, rfl, h1⟩ := gL_ok h; obtain ⟨x1, ls2, rfl, h2⟩ := gI_ok h1; obtain ⟨x2, ls3, rfl, h3⟩ := gI_ok h2; obtain ⟨x3, ls4, rfl, h4⟩ := gI_ok h3; obtain ⟨x4, ls5, rfl, h5⟩ := gI_ok h4; obtain ⟨rfl, h6⟩ := gE_ok h5
    exact (e10_1 n x0 x1 x2 x3 x4).trans h6
theorem c10_2 : CutOK X10 8 10 (endK sr10 toB10) [1, 1, 1, 1, 1, 0, 1, 0] ⟨sh10_2, g10_2⟩ := by
  refine ⟨fun ls => ?_, fun n ls r h => ?_⟩
  · cases h : g10_2 0 ls with
    | none => exact h
    | some r =>
      unfold g10_2 at h; obtain ⟨x0, ls1, rfl, h1⟩ := gL_ok h; obtain ⟨x1, ls2, rfl, h2⟩ := gI_ok h1; obtain ⟨x2, ls3, rfl, h3⟩ := gI_ok h2; obtain ⟨x3, ls4, rfl, h4⟩ := gI_ok h3; obtain ⟨x4, ls5, rfl, h5⟩ := gL_ok h4; obtain ⟨x5, ls6, rfl, h6⟩ := gL_ok h5; obtain ⟨x6, ls7, rfl, h7⟩ := gI_ok h6; obtain ⟨x7, ls8, rfl, h8⟩ := gI_ok h7; obtain ⟨x8, ls9, rfl, h9⟩ := gI_ok h8; obtain ⟨x9, ls10, rfl, h10⟩ := gI_ok h9; obtain ⟨x10, ls11, rfl, h11⟩ := gI_ok h10; obtain ⟨x11, ls12, rfl, h12⟩ := gI_ok h11; obtain ⟨x12, ls13, rfl, h13⟩ := gI_ok h12; obtain ⟨x13, ls14, rfl, h14⟩ := gI_ok h13; obtain ⟨x14, ls15, rfl, h15⟩ := gI_ok h14; obtain ⟨x15, ls16, rfl, h16⟩ := gI_ok h15; obtain ⟨x16, ls17, rfl, h17⟩ := gI_ok h16; obtain ⟨x17, ls18, rfl, h18⟩ := gI_ok h17; obtain ⟨x18, ls19, rfl, h19⟩ := gI_ok h18; obtain ⟨x19, ls20, rfl, h20⟩ := gI_ok h19; obtain ⟨x20, ls21, rfl, h21⟩ := gI_ok h20; obtain ⟨x21, ls22, rfl, h22⟩ := gI_ok h21; obtain ⟨x22, ls23, rfl, h23⟩ := gI_ok h22; obtain ⟨x23, ls24, rfl, h24⟩ := gI_ok h23; obtain ⟨x24, ls25, rfl, h25⟩ := gI_ok h24; obtain ⟨x25, ls26, rfl, h26⟩ := gI_ok h25; obtain ⟨x26, ls27, rfl, h27⟩ := gB_ok h26; obtain ⟨x27, ls28, rfl, h28⟩ := gB_ok h27; obtain ⟨x28, ls29, rfl, h29⟩ := gI_ok h28; obtain ⟨rfl, h30⟩ := gE_ok h29; simp only [F10_c2] at h30; cases h30
  · replace h : g10_2 (n + 1) ls = some r := h
    unfold g10_2 at h
    obtain ⟨x0, ls1, rfl, h1⟩ := gL_ok h; obtain ⟨x1, ls2, rfl, h2⟩ := gI_ok h1; obtain ⟨x2, ls3, rfl, h3⟩ := gI_ok h2; obtain ⟨x3, ls4, rfl, h4⟩ := gI_ok h3; obtain ⟨x4, ls5, rfl, h5⟩ := gL_ok h4; obtain ⟨x5, ls6, rfl, h6⟩ := gL_ok h5; obtain ⟨x6, ls7, rfl, h7⟩ := gI_ok h6; obtain ⟨x7, ls8, rfl, h8⟩ := gI_ok h7; obtain ⟨x8, ls9, rfl, h9⟩ := gI_ok h8; obtain ⟨x9, ls10, rfl, h10⟩ := gI_ok h9; obtain ⟨x10, ls11, rfl, h11⟩ := gI_ok h10; obtain ⟨x11, ls12, rfl, h12⟩ := gI_ok h11; obtain ⟨x12, ls13, rfl, h13⟩ := gI_ok h12; obtain ⟨x13, ls14, rfl, h14⟩ := gI_ok h13; obtain ⟨x14, ls15, rfl, h15⟩ := gI_ok h14; obtain ⟨x15, ls16, rfl, h16⟩ := gI_ok h15; obtain ⟨x16, ls17, rfl, h17⟩ := gI_ok h16; obtain ⟨x17, ls18, rfl, h18⟩ := gI_ok h17; obtain ⟨x18, ls19, rfl, h19⟩ := gI_ok h18; obtain ⟨x19, ls20, rfl, h20⟩ := gI_ok h19; obtain ⟨x20, ls21, rfl, h21⟩ := gI_ok h20; obtain ⟨x21, ls22, rfl, h22⟩ := gI_ok h21; obtain ⟨x22, ls23, rfl, h23⟩ := gI_ok h22; obtain ⟨x23, ls24, rfl, h24⟩ := gI_ok h23; obtain ⟨x24, ls25, rfl, h25⟩ := gI_ok h24; obtain ⟨x25, ls26, rfl, h26⟩ := gI_ok h25; obtain ⟨x26, ls27, rfl, h27⟩ := gB_ok h26; obtain ⟨x27, ls28, rfl, h28⟩ := gB_ok h27; obtain ⟨x28, ls29, rfl, h29⟩ := gI_ok h28; obtain ⟨rfl, h30⟩ := gE_ok h29
    exact (e10_2 n x0 x1 x2 x3 x4 x5 x6 x7 x8 x9 x10 x11 x12 x13 x14 x15 x16 x17 x18 x19 x20 x21 x22 x23 x24 x25 x26 x27 x28).trans h30
theorem c10_3 : CutOK X10 8 10 (endK sr10 toB10) [1, 1, 1, 1, 1, 0, 1, 0, 0, 1, 0, 0, 1, 1, 0, 1, 0] ⟨sh10_3, g10_3⟩ := by
  refine ⟨fun ls => ?_, fun n ls r h => ?_⟩
  · cases h : g10_3 0 ls with
    | none => exact h
    | some r =>
      unfold g10_3 at h; obtain ⟨x0, ls1, rfl, h1⟩ := gL_ok h; obtain ⟨x1, ls2, rfl, h2⟩ := gI_ok h1; obtain ⟨x2, ls3, rfl, h3⟩ := gI_ok h2; obtain ⟨x3, ls4, rfl, h4⟩ := gI_ok h3; obtain ⟨x4, ls5, rfl, h5⟩ := gI_ok h4; obtain ⟨x5, ls6, rfl, h6⟩ := gI_ok h5; obtain ⟨x6, ls7, rfl, h7⟩ := gL_ok h6; obtain ⟨x7, ls8, rfl, h8⟩ := gL_ok h7; obtain ⟨x8, ls9, rfl, h9⟩ := gI_ok h8; obtain ⟨x9, ls10, rfl, h10⟩ := gI_ok h9; obtain ⟨x10, ls11, rfl, h11⟩ := gI_ok h10; obtain ⟨x11, ls12, rfl, h12⟩ := gI_ok h11; obtain ⟨x12, ls13, rfl, h13⟩ := gI_ok h12; obtain ⟨x13, ls14, rfl, h14⟩ := gI_ok h13; obtain ⟨x14, ls15, rfl, h15⟩ := gI_ok h14; obtain ⟨x15, ls16, rfl, h16⟩ := gI_ok h15; obtain ⟨x16, ls17, rfl, h17⟩ := gI_ok h16; obtain ⟨x17, ls18, rfl, h18⟩ := gI_ok h17; obtain ⟨x18, ls19, rfl, h19⟩ := gI_ok h18; obtain ⟨x19, ls20, rfl, h20⟩ := gI_ok h19; obtain ⟨x20, ls21, rfl, h21⟩ := gI_ok h20; obtain ⟨x21, ls22, rfl, h22⟩ := gI_ok h21; obtain ⟨x22, ls23, rfl, h23⟩ := gI_ok h22; obtain ⟨x23, ls24, rfl, h24⟩ := gI_ok h23; obtain ⟨x24, ls25, rfl, h25⟩ := gI_ok h24; obtain ⟨x25, ls26, rfl, h26⟩ := gI_ok h25; obtain ⟨x26, ls27, rfl, h27⟩ := gI_ok h26; obtain ⟨x27, ls28, rfl, h28⟩ := gI_ok h27; obtain ⟨x28, ls29, rfl, h29⟩ := gB_ok h28; obtain ⟨x29, ls30, rfl, h30⟩ := gB_ok h29; obtain ⟨x30, ls31, rfl, h31⟩ := gI_ok h30; obtain ⟨rfl, h32⟩ := gE_ok h31; simp only [F10_c3] at h32; cases h32
  · replace h : g10_3 (n + 1) ls = some r := h
    unfold g10_3 at h
    obtain ⟨x0, ls1, rfl, h1⟩ := gL_ok h; obtain ⟨x1, ls2, rfl, h2⟩ := gI_ok h1; obtain ⟨x2, ls3, rfl, h3⟩ := gI_ok h2; obtain ⟨x3, ls4, rfl, h4⟩ := gI_ok h3; obtain ⟨x4, ls5, rfl, h5⟩ := gI_ok h4; obtain ⟨x5, ls6, rfl, h6⟩ := gI_ok h5; obtain ⟨x6, ls7, rfl, h7⟩ := gL_ok h6; obtain ⟨x7, ls8, rfl, h8⟩ := gL_ok h7; obtain ⟨x8, ls9, rfl, h9⟩ := gI_ok h8; obtain ⟨x9, ls10, rfl, h10⟩ := gI_ok h9; obtain ⟨x10, ls11, rfl, h11⟩ := gI_ok h10; obtain ⟨x11, ls12, rfl, h12⟩ := gI_ok h11; obtain ⟨x12, ls13, rfl, h13⟩ := gI_ok h12; obtain ⟨x13, ls14, rfl, h14⟩ := gI_ok h13; obtain ⟨x14, ls15, rfl, h15⟩ := gI_ok h14; obtain ⟨x15, ls16, rfl, h16⟩ := gI_ok h15; obtain ⟨x16, ls17, rfl, h17⟩ := gI_ok h16; obtain ⟨x17, ls18, rfl, h18⟩ := gI_ok h17; obtain ⟨x18, ls19, rfl, h19⟩ := gI_ok h18; obtain ⟨x19, ls20, rfl, h20⟩ := gI_ok h19; obtain ⟨x20, ls21, rfl, h21⟩ := gI_ok h20; obtain ⟨x21, ls22, rfl, h22⟩ := gI_ok h21; obtain ⟨x22, ls23, rfl, h23⟩ := gI_ok h22; obtain ⟨x23, ls24, rfl, h24⟩ := gI_ok h23; obtain ⟨x24, ls25, rfl, h25⟩ := gI_ok h24; obtain ⟨x25, ls26, rfl, h26⟩ := gI_ok h25; obtain ⟨x26, ls27, rfl, h27⟩ := gI_ok h26; obtain ⟨x27, ls28, rfl, h28⟩ := gI_ok h27; obtain ⟨x28, ls29, rfl, h29⟩ := gB_ok h28; obtain ⟨x29, ls30, rfl, h30⟩ := gB_ok h29; obtain ⟨x30, ls31, rfl, h31⟩ := gI_ok h30; obtain ⟨rfl, h32⟩ := gE_ok h31
    exact (e10_3 n x0 x1 x2 x3 x4 x5 x6 x7 x8 x9 x10 x11 x12 x13 x14 x15 x16 x17 x18 x19 x20 x21 x22 x23 x24 x25 x26 x27 x28 x29 x30).trans h32
theorem sp10 {n : Nat} (a0 : List (Int × (List (Int)) × (List (Int)) × Int × Int × Int × Int × Int × Int × Int × Int × Int × Int × Int × Int × Int × Int × Int × Int × Int)) (a1 : Int) (a2 : Int) {y : Bool} (h : F10 n a0 a1 a2 = some y) : SpecF T Try.prog 10 pa10 [.l [.int .i64, .sl [.int .i64], .sl [.int .i64], .int .i64, .int .i64, .int .i64, .int .i64, .int .i64, .int .i64, .int .i64, .int .i64, .int .i64, .int .i64, .int .i64, .int .i64, .int .i64, .int .i64, .int .i64, .int .i64, .int .i64] a0, .i a1, .i a2] sr10 (ofB10 y) :=
  fun_ok (X := X10) tok (sfok_of ⟨ok30, ok24, ok33, ok41, ok16, ok43, ok35, ok23, trivial⟩) mixed 10 8 cuts10 rfl toB10_ok ⟨c10_0, c10_1, c10_2, c10_3, trivial⟩ ((e10 n a0 a1 a2).trans h)
theorem ok10 {R : Type} : SFone T Try.prog 10 (run10 : SF R) := by
  intro ls K r h
  simp only [run10] at h
  obtain ⟨a0, ls1, rfl, h1⟩ := gL_ok h; obtain ⟨a1, ls2, rfl, h2⟩ := gI_ok h1; obtain ⟨a2, ls3, rfl, h3⟩ := gI_ok h2; obtain ⟨rfl, h4⟩ := gE_ok h3
  obtain ⟨y, k1, k2⟩ := Option.bind_eq_some_iff.1 h4
  exact ⟨_, k2, sp10 a0 a1 a2 k1⟩

/-! ### garland/garlandlaw18.LookNot -/
def pa11 : List VP := [.agg [.i .i64, .sl false [.int .i64], .sl false [.int .i64], .i .i64, .i .i64, .i .i64, .i .i64, .i .i64, .i .i64, .i .i64, .i .i64, .i .i64, .i .i64, .i .i64, .i .i64, .i .i64, .i .i64, .i .i64, .i .i64, .i .i64], .agg [.i .i64, .i .i64, .i .i64, .b, .b, .i .i64], .agg [.i .u8, .i .i64, .i .i64, .i .i64, .i .i64, .b, .b, .i .i64, .i .i64, .sl false [.int .i64], .s, .i .i64, .i .i64, .b, .i .i64]]
def sr11 : RShape := ⟨.b, [], none⟩
def toB11 : List Leaf → Option (Bool) := gB (fun b0 => gE (some b0))
def ofB11 (y : Bool) : List Leaf := [.b y]
theorem toB11_ok : ∀ ls b, toB11 ls = some b → ls = ofB11 b := by
  intro ls b h
  unfold toB11 at h
  obtain ⟨b0, ls1, rfl, h1⟩ := gB_ok h; obtain ⟨rfl, h2⟩ := gE_ok h1
  cases h2; rfl
def run11 {R : Type} : SF R := ⟨pa11, sr11, fun ls K => (gI (fun a0 => gL [.int .i64] (fun a1 => gL [.int .i64] (fun a2 => gI (fun a3 => gI (fun a4 => gI (fun a5 => gI (fun a6 => gI (fun a7 => gI (fun a8 => gI (fun a9 => gI (fun a10 => gI (fun a11 => gI (fun a12 => gI (fun a13 => gI (fun a14 => gI (fun a15 => gI (fun a16 => gI (fun a17 => gI (fun a18 => gI (fun a19 => gI (fun a20 => gI (fun a21 => gI (fun a22 => gB (fun a23 => gB (fun a24 => gI (fun a25 => gI (fun a26 => gI (fun a27 => gI (fun a28 => gI (fun a29 => gI (fun a30 => gB (fun a31 => gB (fun a32 => gI (fun a33 => gI (fun a34 => gL [.int .i64] (fun a35 => gS (fun a36 => gI (fun a37 => gI (fun a38 => gB (fun a39 => gI (fun a40 => gE (Option.bind (F11 FUEL a0 a1 a2 a3 a4 a5 a6 a7 a8 a9 a10 a11 a12 a13 a14 a15 a16 a17 a18 a19 a20 a21 a22 a23 a24 a25 a26 a27 a28 a29 a30 a31 a32 a33 a34 a35 a36 a37 a38 a39 a40) fun y => K (ofB11 y)))))))))))))))))))))))))))))))))))))))))))) ls⟩
def cuts11 : List (List Nat × Cut (Bool)) := []
noncomputable def X11 : Px (Bool) := ⟨T, Try.prog, lkF [(24, run24), (30, run30), (29, run29), (35, run35), (37, run37), (40, run40), (28, run28), (39, run39)], mkCuts 11 cuts11, altN, altN_ok⟩
theorem e11 (n : Nat) (a0 : Int) (a1 : List (Int)) (a2 : List (Int)) (a3 : Int) (a4 : Int) (a5 : Int) (a6 : Int) (a7 : Int) (a8 : Int) (a9 : Int) (a10 : Int) (a11 : Int) (a12 : Int) (a13 : Int) (a14 : Int) (a15 : Int) (a16 : Int) (a17 : Int) (a18 : Int) (a19 : Int) (a20 : Int) (a21 : Int) (a22 : Int) (a23 : Bool) (a24 : Bool) (a25 : Int) (a26 : Int) (a27 : Int) (a28 : Int) (a29 : Int) (a30 : Int) (a31 : Bool) (a32 : Bool) (a33 : Int) (a34 : Int) (a35 : List (Int)) (a36 : ByteArray) (a37 : Int) (a38 : Int) (a39 : Bool) (a40 : Int) : entF X11 8 11 pa11 (endK sr11 toB11) n [.i a0, .l [.int .i64] a1, .l [.int .i64] a2, .i a3, .i a4, .i a5, .i a6, .i a7, .i a8, .i a9, .i a10, .i a11, .i a12, .i a13, .i a14, .i a15, .i a16, .i a17, .i a18, .i a19, .i a20, .i a21, .i a22, .b a23, .b a24, .i a25, .i a26, .i a27, .i a28, .i a29, .i a30, .b a31, .b a32, .i a33, .i a34, .l [.int .i64] a35, .s a36, .i a37, .i a38, .b a39, .i a40] = F11 n a0 a1 a2 a3 a4 a5 a6 a7 a8 a9 a10 a11 a12 a13 a14 a15 a16 a17 a18 a19 a20 a21 a22 a23 a24 a25 a26 a27 a28 a29 a30 a31 a32 a33 a34 a35 a36 a37 a38 a39 a40 := by kernel_rfl
theorem sp11 {n : Nat} (a0 : Int) (a1 : List (Int)) (a2 : List (Int)) (a3 : Int) (a4 : Int) (a5 : Int) (a6 : Int) (a7 : Int) (a8 : Int) (a9 : Int) (a10 : Int) (a11 : Int) (a12 : Int) (a13 : Int) (a14 : Int) (a15 : Int) (a16 : Int) (a17 : Int) (a18 : Int) (a19 : Int) (a20 : Int) (a21 : Int) (a22 : Int) (a23 : Bool) (a24 : Bool) (a25 : Int) (a26 : Int) (a27 : Int) (a28 : Int) (a29 : Int) (a30 : Int) (a31 : Bool) (a32 : Bool) (a33 : Int) (a34 : Int) (a35 : List (Int)) (a36 : ByteArray) (a37 : Int) (a38 : Int) (a39 : Bool) (a40 : Int) {y : Bool} (h : F11 n a0 a1 a2 a3 a4 a5 a6 a7 a8 a9 a10 a11 a12 a13 a14 a15 a16 a17 a18 a19 a20 a21 a22 a23 a24 a25 a26 a27 a28 a29 a30 a31 a32 a33 a34 a35 a36 a37 a38 a39 a40 = some y) : SpecF T Try.prog 11 pa11 [.i a0, .l [.int .i64] a1, .l [.int .i64] a2, .i a3, .i a4, .i a5, .i a6, .i a7, .i a8, .i a9, .i a10, .i a11, .i a12, .i a13, .i a14, .i a15, .i a16, .i a17, .i a18, .i a19, .i a20, .i a21, .i a22, .b a23, .b a24, .i a25, .i a26, .i a27, .i a28, .i a29, .i a30, .b a31, .b a32, .i a33, .i a34, .l [.int .i64] a35, .s a36, .i a37, .i a38, .b a39, .i a40] sr11 (ofB11 y) :=
  fun_ok (X := X11) tok (sfok_of ⟨ok24, ok30, ok29, ok35, ok37, ok40, ok28, ok39, trivial⟩) mixed 11 8 cuts11 rfl toB11_ok trivial ((e11 n a0 a1 a2 a3 a4 a5 a6 a7 a8 a9 a10 a11 a12 a13 a14 a15 a16 a17 a18 a19 a20 a21 a22 a23 a24 a25 a26 a27 a28 a29 a30 a31 a32 a33 a34 a35 a36 a37 a38 a39 a40).trans h)
theorem ok11 {R : Type} : SFone T Try.prog 11 (run11 : SF R) := by
  intro ls K r h
  simp only [run11] at h
  obtain ⟨a0, ls1, rfl, h1⟩ := gI_ok h; obtain ⟨a1, ls2, rfl, h2⟩ := gL_ok h1; obtain ⟨a2, ls3, rfl, h3⟩ := gL_ok h2; obtain ⟨a3, ls4, rfl, h4⟩ := gI_ok h3; obtain ⟨a4, ls5, rfl, h5⟩ := gI_ok h4; obtain ⟨a5, ls6, rfl, h6⟩ := gI_ok h5; obtain ⟨a6, ls7, rfl, h7⟩ := gI_ok h6; obtain ⟨a7, ls8, rfl, h8⟩ := gI_ok h7; obtain ⟨a8, ls9, rfl, h9⟩ := gI_ok h8; obtain ⟨a9, ls10, rfl, h10⟩ := gI_ok h9; obtain ⟨a10, ls11, rfl, h11⟩ := gI_ok h10; obtain ⟨a11, ls12, rfl, h12⟩ := gI_ok h11; obtain ⟨a12, ls13, rfl, h13⟩ := gI_ok h12; obtain ⟨a13, ls14, rfl, h14⟩ := gI_ok h13; obtain ⟨a14, ls15, rfl, h15⟩ := gI_ok h14; obtain ⟨a15, ls16, rfl, h16⟩ := gI_ok h15; obtain ⟨a16, ls17, rfl, h17⟩ := gI_ok h16; obtain ⟨a17, ls18, rfl, h18⟩ := gI_ok h17; obtain ⟨a18, ls19, rfl, h19⟩ := gI_ok h18; obtain ⟨a19, ls20, rfl, h20⟩ := gI_ok h19; obtain ⟨a20, ls21, rfl, h21⟩ := gI_ok h20; obtain ⟨a21, ls22, rfl, h22⟩ := gI_ok h21; obtain ⟨a22, ls23, rfl, h23⟩ := gI_ok h22; obtain ⟨a23, ls24, rfl, h24⟩ := gB_ok h23; obtain ⟨a24, ls25, rfl, h25⟩ := gB_ok h24; obtain ⟨a25, ls26, rfl, h26⟩ := gI_ok h25; obtain ⟨a26, ls27, rfl, h27⟩ := gI_ok h26; obtain ⟨a27, ls28, rfl, h28⟩ := gI_ok h27; obtain ⟨a28, ls29, rfl, h29⟩ := gI_ok h28; obtain ⟨a29, ls30, rfl, h30⟩ := gI_ok h29; obtain ⟨a30, ls31, rfl, h31⟩ := gI_ok h30; obtain ⟨a31, ls32, rfl, h32⟩ := gB_ok h31; obtain ⟨a32, ls33, rfl, h33⟩ := gB_ok h32; obtain ⟨a33, ls34, rfl, h34⟩ := gI_ok h33; obtain ⟨a34, ls35, rfl, h35⟩ := gI_ok h34; obtain ⟨a35, ls36, rfl, h36⟩ := gL_ok h35; obtain ⟨a36, ls37, rfl, h37⟩ := gS_ok h36; obtain ⟨a37, ls38, rfl, h38⟩ := gI_ok h37; obtain ⟨a38, ls39, rfl, h39⟩ := gI_ok h38; obtain ⟨a39, ls40, rfl, h40⟩ := gB_ok h39; obtain ⟨a40, ls41, rfl, h41⟩ := gI_ok h40; obtain ⟨rfl, h42⟩ := gE_ok h41
  obtain ⟨y, k1, k2⟩ := Option.bind_eq_some_iff.1 h42
  exact ⟨_, k2, sp11 a0 a1 a2 a3 a4 a5 a6 a7 a8 a9 a10 a11 a12 a13 a14 a15 a16 a17 a18 a19 a20 a21 a22 a23 a24 a25 a26 a27 a28 a29 a30 a31 a32 a33 a34 a35 a36 a37 a38 a39 a40 k1⟩

/-! ### garland/garlandlaw18.LookOwn -/
def pa12 : List VP := [.agg [.i .i64, .sl false [.int .i64], .sl false [.int .i64], .i .i64, .i .i64, .i .i64, .i .i64, .i .i64, .i .i64, .i .i64, .i .i64, .i .i64, .i .i64, .i .i64, .i .i64, .i .i64, .i .i64, .i .i64, .i .i64, .i .i64], .i .i64]
def sr12 : RShape := ⟨.b, [], none⟩
def toB12 : List Leaf → Option (Bool) := gB (fun b0 => gE (some b0))
def ofB12 (y : Bool) : List Leaf := [.b y]
theorem toB12_ok : ∀ ls b, toB12 ls = some b → ls = ofB12 b := by
  intro ls b h
  unfold toB12 at h
  obtain ⟨b0, ls1, rfl, h1⟩ := gB_ok h; obtain ⟨rfl, h2⟩ := gE_ok h1
  cases h2; rfl
def run12 {R : Type} : SF R := ⟨pa12, sr12, fun ls K => (gI (fun a0 => gL [.int .i64] (fun a1 => gL [.int .i64] (fun a2 => gI (fun a3 => gI (fun a4 => gI (fun a5 => gI (fun a6 => gI (fun a7 => gI (fun a8 => gI (fun a9 => gI (fun a10 => gI (fun a11 => gI (fun a12 => gI (fun a13 => gI (fun a14 => gI (fun a15 => gI (fun a16 => gI (fun a17 => gI (fun a18 => gI (fun a19 => gI (fun a20 => gE (Option.bind (F12 FUEL a0 a1 a2 a3 a4 a5 a6 a7 a8 a9 a10 a11 a12 a13 a14 a15 a16 a17 a18 a19 a20) fun y => K (ofB12 y)))))))))))))))))))))))) ls⟩
def cuts12 : List (List Nat × Cut (Bool)) := []
noncomputable def X12 : Px (Bool) := ⟨T, Try.prog, lkF [(24, run24), (33, run33), (30, run30), (16, run16), (43, run43), (35, run35)], mkCuts 12 cuts12, altN, altN_ok⟩
theorem e12 (n : Nat) (a0 : Int) (a1 : List (Int)) (a2 : List (Int)) (a3 : Int) (a4 : Int) (a5 : Int) (a6 : Int) (a7 : Int) (a8 : Int) (a9 : Int) (a10 : Int) (a11 : Int) (a12 : Int) (a13 : Int) (a14 : Int) (a15 : Int) (a16 : Int) (a17 : Int) (a18 : Int) (a19 : Int) (a20 : Int) : entF X12 8 12 pa12 (endK sr12 toB12) n [.i a0, .l [.int .i64] a1, .l [.int .i64] a2, .i a3, .i a4, .i a5, .i a6, .i a7, .i a8, .i a9, .i a10, .i a11, .i a12, .i a13, .i a14, .i a15, .i a16, .i a17, .i a18, .i a19, .i a20] = F12 n a0 a1 a2 a3 a4 a5 a6 a7 a8 a9 a10 a11 a12 a13 a14 a15 a16 a17 a18 a19 a20 := by kernel_rfl
theorem sp12 {n : Nat} (a0 : Int) (a1 : List (Int)) (a2 : List (Int)) (a3 : Int) (a4 : Int) (a5 : Int) (a6 : Int) (a7 : Int) (a8 : Int) (a9 : Int) (a10 : Int) (a11 : Int) (a12 : Int) (a13 : Int) (a14 : Int) (a15 : Int) (a16 : Int) (a17 : Int) (a18 : Int) (a19 : Int) (a20 : Int) {y : Bool} (h : F12 n a0 a1 a2 a3 a4 a5 a6 a7 a8 a9 a10 a11 a12 a13 a14 a15 a16 a17 a18 a19 a20 = some y) : SpecF T Try.prog 12 pa12 [.i a0, .l [.int .i64] a1, .l [.int .i64] a2, .i a3, .i a4, .i a5, .i a6, .i a7, .i a8, .i a9, .i a10, .i a11, .i a12, .i a13, .i a14, .i a15, .i a16, .i a17, .i a18, .i a19, .i a20] sr12 (ofB12 y) :=
  fun_ok (X := X12) tok (sfok_of ⟨ok24, ok33, ok30, ok16, ok43, ok35, trivial⟩) mixed 12 8 cuts12 rfl toB12_ok trivial ((e12 n a0 a1 a2 a3 a4 a5 a6 a7 a8 a9 a10 a11 a12 a13 a14 a15 a16 a17 a18 a19 a20).trans h)
theorem ok12 {R : Type} : SFone T Try.prog 12 (run12 : SF R) := by
  intro ls K r h
  simp only [run12] at h
  obtain ⟨a0, ls1, rfl, h1⟩ := gI_ok h; obtain ⟨a1, ls2, rfl, h2⟩ := gL_ok h1; obtain ⟨a2, ls3, rfl, h3⟩ := gL_ok h2; obtain ⟨a3, ls4, rfl, h4⟩ := gI_ok h3; obtain ⟨a4, ls5, rfl, h5⟩ := gI_ok h4; obtain ⟨a5, ls6, rfl, h6⟩ := gI_ok h5; obtain ⟨a6, ls7, rfl, h7⟩ := gI_ok h6; obtain ⟨a7, ls8, rfl, h8⟩ := gI_ok h7; obtain ⟨a8, ls9, rfl, h9⟩ := gI_ok h8; obtain ⟨a9, ls10, rfl, h10⟩ := gI_ok h9; obtain ⟨a10, ls11, rfl, h11⟩ := gI_ok h10; obtain ⟨a11, ls12, rfl, h12⟩ := gI_ok h11; obtain ⟨a12, ls13, rfl, h13⟩ := gI_ok h12; obtain ⟨a13, ls14, rfl, h14⟩ := gI_ok h13; obtain ⟨a14, ls15, rfl, h15⟩ := gI_ok h14; obtain ⟨a15, ls16, rfl, h16⟩ := gI_ok h15; obtain ⟨a16, ls17, rfl, h17⟩ := gI_ok h16; obtain ⟨a17, ls18, rfl, h18⟩ := gI_ok h17; obtain ⟨a18, ls19, rfl, h19⟩ := gI_ok h18; obtain ⟨a19, ls20, rfl, h20⟩ := gI_ok h19; obtain ⟨a20, ls21, rfl, h21⟩ := gI_ok h20; obtain ⟨rfl, h22⟩ := gE_ok h21
  obtain ⟨y, k1, k2⟩ := Option.bind_eq_some_iff.1 h22
  exact ⟨_, k2, sp12 a0 a1 a2 a3 a4 a5 a6 a7 a8 a9 a10 a11 a12 a13 a14 a15 a16 a17 a18 a19 a20 k1⟩

end Go.Proofs.Ytlbdcdflffgehaa
