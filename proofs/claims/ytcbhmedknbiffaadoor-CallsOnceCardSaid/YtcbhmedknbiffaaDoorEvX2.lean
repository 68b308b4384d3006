/-
  The functions of this program, evaluated; each is as it is evaluated.
-/
import Derived.Test.YtcbhmedknbiffaaDoorEvX
namespace Go.Proofs.YtcbhmedknbiffaaDoor
open Go Go.RowKit
set_option maxRecDepth 100000


/-! ### garland/garlandref10.Call -/
def pa15 : List VP := [.agg [.i .i64, .i .u8, .i .i64, .i .i64, .i .i64, .i .i64, .b, .b, .i .i64, .i .i64, .sl false [.int .i64], .s, .i .i64, .i .i64, .b, .i .i64, .i .u8, .i .i64, .i .i64, .i .i64], .agg [.i .i64, .i .u8, .i .i64, .i .i64, .i .i64, .i .i64, .b, .b, .i .i64, .i .i64, .sl false [.int .i64], .s, .i .i64, .i .i64, .b, .i .i64, .i .u8, .i .i64, .i .i64, .i .i64]]
def sr15 : RShape := ⟨.b, [], none⟩
def toB15 : List Leaf → Option (Bool) := gB (fun b0 => gE (some b0))
def ofB15 (y : Bool) : List Leaf := [.b y]
theorem toB15_ok : ∀ ls b, toB15 ls = some b → ls = ofB15 b := by
  intro ls b h
  unfold toB15 at h
  obtain ⟨b0, _, rfl, h1⟩ := gB_ok h; obtain ⟨rfl, h2⟩ := gE_ok h1
  cases h2; rfl
def run15 {R : Type} : SF R := ⟨pa15, sr15, fun ls K => (gI (fun a0 => gI (fun a1 => gI (fun a2 => gI (fun a3 => gI (fun a4 => gI (fun a5 => gB (fun a6 => gB (fun a7 => gI (fun a8 => gI (fun a9 => gL [.int .i64] (fun a10 => gS (fun a11 => gI (fun a12 => gI (fun a13 => gB (fun a14 => gI (fun a15 => gI (fun a16 => gI (fun a17 => gI (fun a18 => gI (fun a19 => gI (fun a20 => gI (fun a21 => gI (fun a22 => gI (fun a23 => gI (fun a24 => gI (fun a25 => gB (fun a26 => gB (fun a27 => gI (fun a28 => gI (fun a29 => gL [.int .i64] (fun a30 => gS (fun a31 => gI (fun a32 => gI (fun a33 => gB (fun a34 => gI (fun a35 => gI (fun a36 => gI (fun a37 => gI (fun a38 => gI (fun a39 => gE (Option.bind (F15 FUEL a0 a1 a2 a3 a4 a5 a6 a7 a8 a9 a10 a11 a12 a13 a14 a15 a16 a17 a18 a19 a20 a21 a22 a23 a24 a25 a26 a27 a28 a29 a30 a31 a32 a33 a34 a35 a36 a37 a38 a39) fun y => K (ofB15 y))))))))))))))))))))))))))))))))))))))))))) ls⟩
def cuts15 : List (List Nat × Cut (Bool)) := []
noncomputable def X15 : Px (Bool) := ⟨T, Tryd.prog, lkF [(22, run22)], mkCuts 15 cuts15, altN, altN_ok⟩
theorem e15 (n : Nat) (a0 a1 a2 a3 a4 a5 : Int) (a6 a7 : Bool) (a8 a9 : Int) (a10 : List (Int)) (a11 : ByteArray) (a12 a13 : Int) (a14 : Bool) (a15 a16 a17 a18 a19 a20 a21 a22 a23 a24 a25 : Int) (a26 a27 : Bool) (a28 a29 : Int) (a30 : List (Int)) (a31 : ByteArray) (a32 a33 : Int) (a34 : Bool) (a35 a36 a37 a38 a39 : Int) : entF X15 8 15 pa15 (endK sr15 toB15) n [.i a0, .i a1, .i a2, .i a3, .i a4, .i a5, .b a6, .b a7, .i a8, .i a9, .l [.int .i64] a10, .s a11, .i a12, .i a13, .b a14, .i a15, .i a16, .i a17, .i a18, .i a19, .i a20, .i a21, .i a22, .i a23, .i a24, .i a25, .b a26, .b a27, .i a28, .i a29, .l [.int .i64] a30, .s a31, .i a32, .i a33, .b a34, .i a35, .i a36, .i a37, .i a38, .i a39] = F15 n a0 a1 a2 a3 a4 a5 a6 a7 a8 a9 a10 a11 a12 a13 a14 a15 a16 a17 a18 a19 a20 a21 a22 a23 a24 a25 a26 a27 a28 a29 a30 a31 a32 a33 a34 a35 a36 a37 a38 a39 := by kernel_rfl
theorem sp15 {n : Nat} (a0 a1 a2 a3 a4 a5 : Int) (a6 a7 : Bool) (a8 a9 : Int) (a10 : List (Int)) (a11 : ByteArray) (a12 a13 : Int) (a14 : Bool) (a15 a16 a17 a18 a19 a20 a21 a22 a23 a24 a25 : Int) (a26 a27 : Bool) (a28 a29 : Int) (a30 : List (Int)) (a31 : ByteArray) (a32 a33 : Int) (a34 : Bool) (a35 a36 a37 a38 a39 : Int) {y : Bool} (h : F15 n a0 a1 a2 a3 a4 a5 a6 a7 a8 a9 a10 a11 a12 a13 a14 a15 a16 a17 a18 a19 a20 a21 a22 a23 a24 a25 a26 a27 a28 a29 a30 a31 a32 a33 a34 a35 a36 a37 a38 a39 = some y) : SpecF T Tryd.prog 15 pa15 [.i a0, .i a1, .i a2, .i a3, .i a4, .i a5, .b a6, .b a7, .i a8, .i a9, .l [.int .i64] a10, .s a11, .i a12, .i a13, .b a14, .i a15, .i a16, .i a17, .i a18, .i a19, .i a20, .i a21, .i a22, .i a23, .i a24, .i a25, .b a26, .b a27, .i a28, .i a29, .l [.int .i64] a30, .s a31, .i a32, .i a33, .b a34, .i a35, .i a36, .i a37, .i a38, .i a39] sr15 (ofB15 y) :=
  fun_ok (X := X15) tok (sfok_of ⟨ok22, trivial⟩) mixed 15 8 cuts15 rfl toB15_ok trivial ((e15 n a0 a1 a2 a3 a4 a5 a6 a7 a8 a9 a10 a11 a12 a13 a14 a15 a16 a17 a18 a19 a20 a21 a22 a23 a24 a25 a26 a27 a28 a29 a30 a31 a32 a33 a34 a35 a36 a37 a38 a39).trans h)
theorem ok15 {R : Type} : SFone T Tryd.prog 15 (run15 : SF R) := by
  intro ls K r h
  simp only [run15] at h
  obtain ⟨a0, a1, a2, a3, _, rfl, h1⟩ := gI4_ok h; obtain ⟨a4, _, rfl, h2⟩ := gI_ok h1; obtain ⟨a5, _, rfl, h3⟩ := gI_ok h2; obtain ⟨a6, _, rfl, h4⟩ := gB_ok h3; obtain ⟨a7, _, rfl, h5⟩ := gB_ok h4; obtain ⟨a8, _, rfl, h6⟩ := gI_ok h5; obtain ⟨a9, _, rfl, h7⟩ := gI_ok h6; obtain ⟨a10, _, rfl, h8⟩ := gL_ok h7; obtain ⟨a11, _, rfl, h9⟩ := gS_ok h8; obtain ⟨a12, _, rfl, h10⟩ := gI_ok h9; obtain ⟨a13, _, rfl, h11⟩ := gI_ok h10; obtain ⟨a14, _, rfl, h12⟩ := gB_ok h11; obtain ⟨a15, a16, a17, a18, a19, a20, a21, a22, _, rfl, h13⟩ := gI8_ok h12; obtain ⟨a23, _, rfl, h14⟩ := gI_ok h13; obtain ⟨a24, _, rfl, h15⟩ := gI_ok h14; obtain ⟨a25, _, rfl, h16⟩ := gI_ok h15; obtain ⟨a26, _, rfl, h17⟩ := gB_ok h16; obtain ⟨a27, _, rfl, h18⟩ := gB_ok h17; obtain ⟨a28, _, rfl, h19⟩ := gI_ok h18; obtain ⟨a29, _, rfl, h20⟩ := gI_ok h19; obtain ⟨a30, _, rfl, h21⟩ := gL_ok h20; obtain ⟨a31, _, rfl, h22⟩ := gS_ok h21; obtain ⟨a32, _, rfl, h23⟩ := gI_ok h22; obtain ⟨a33, _, rfl, h24⟩ := gI_ok h23; obtain ⟨a34, _, rfl, h25⟩ := gB_ok h24; obtain ⟨a35, a36, a37, a38, _, rfl, h26⟩ := gI4_ok h25; obtain ⟨a39, _, rfl, h27⟩ := gI_ok h26; obtain ⟨rfl, h28⟩ := gE_ok h27
  obtain ⟨y, k1, k2⟩ := Option.bind_eq_some_iff.1 h28
  exact ⟨_, k2, sp15 a0 a1 a2 a3 a4 a5 a6 a7 a8 a9 a10 a11 a12 a13 a14 a15 a16 a17 a18 a19 a20 a21 a22 a23 a24 a25 a26 a27 a28 a29 a30 a31 a32 a33 a34 a35 a36 a37 a38 a39 k1⟩

/-! ### garland/garlandref10.Calls -/
def pa19 : List VP := [.sl false [.int .i64, .int .u8, .int .i64, .int .i64, .int .i64, .int .i64, .bool, .bool, .int .i64, .int .i64, .sl [.int .i64], .str, .int .i64, .int .i64, .bool, .int .i64, .int .u8, .int .i64, .int .i64, .int .i64], .sl false [.int .i64, .int .u8, .int .i64, .int .i64, .int .i64, .int .i64, .bool, .bool, .int .i64, .int .i64, .sl [.int .i64], .str, .int .i64, .int .i64, .bool, .int .i64, .int .u8, .int .i64, .int .i64, .int .i64]]
def sr19 : RShape := ⟨.b, [], none⟩
def toB19 : List Leaf → Option (Bool) := gB (fun b0 => gE (some b0))
def ofB19 (y : Bool) : List Leaf := [.b y]
theorem toB19_ok : ∀ ls b, toB19 ls = some b → ls = ofB19 b := by
  intro ls b h
  unfold toB19 at h
  obtain ⟨b0, _, rfl, h1⟩ := gB_ok h; obtain ⟨rfl, h2⟩ := gE_ok h1
  cases h2; rfl
def run19 {R : Type} : SF R := ⟨pa19, sr19, fun ls K => (gL [.int .i64, .int .u8, .int .i64, .int .i64, .int .i64, .int .i64, .bool, .bool, .int .i64, .int .i64, .sl [.int .i64], .str, .int .i64, .int .i64, .bool, .int .i64, .int .u8, .int .i64, .int .i64, .int .i64] (fun a0 => gL [.int .i64, .int .u8, .int .i64, .int .i64, .int .i64, .int .i64, .bool, .bool, .int .i64, .int .i64, .sl [.int .i64], .str, .int .i64, .int .i64, .bool, .int .i64, .int .u8, .int .i64, .int .i64, .int .i64] (fun a1 => gE (Option.bind (F19 FUEL a0 a1) fun y => K (ofB19 y))))) ls⟩
def sh19_0 : Shape := ⟨[(27, [(0, .sl false [.int .i64, .int .u8, .int .i64, .int .i64, .int .i64, .int .i64, .bool, .bool, .int .i64, .int .i64, .sl [.int .i64], .str, .int .i64, .int .i64, .bool, .int .i64, .int .u8, .int .i64, .int .i64, .int .i64]), (1, .sl false [.int .i64, .int .u8, .int .i64, .int .i64, .int .i64, .int .i64, .bool, .bool, .int .i64, .int .i64, .sl [.int .i64], .str, .int .i64, .int .i64, .bool, .int .i64, .int .u8, .int .i64, .int .i64, .int .i64]), (5, .i .i64)])], []⟩
def g19_0 (n : Nat) : List Leaf → Option (Bool) := gL [.int .i64, .int .u8, .int .i64, .int .i64, .int .i64, .int .i64, .bool, .bool, .int .i64, .int .i64, .sl [.int .i64], .str, .int .i64, .int .i64, .bool, .int .i64, .int .u8, .int .i64, .int .i64, .int .i64] (fun x0 => gL [.int .i64, .int .u8, .int .i64, .int .i64, .int .i64, .int .i64, .bool, .bool, .int .i64, .int .i64, .sl [.int .i64], .str, .int .i64, .int .i64, .bool, .int .i64, .int .u8, .int .i64, .int .i64, .int .i64] (fun x1 => gI (fun x2 => gE (F19_c0 n x0 x1 x2))))
def cuts19 : List (List Nat × Cut (Bool)) := [([1, 1, 0, 1, 0], ⟨sh19_0, g19_0⟩)]
noncomputable def X19 : Px (Bool) := ⟨T, Tryd.prog, lkF [(15, run15)], mkCuts 19 cuts19, altN, altN_ok⟩
theorem e19_0 (n : Nat) (x0 x1 : List (Int × Int × Int × Int × Int × Int × Bool × Bool × Int × Int × (List (Int)) × ByteArray × Int × Int × Bool × Int × Int × Int × Int × Int)) (x2 : Int) : stepF X19 8 19 (endK sr19 toB19) [1, 1, 0, 1, 0] sh19_0 n [.l [.int .i64, .int .u8, .int .i64, .int .i64, .int .i64, .int .i64, .bool, .bool, .int .i64, .int .i64, .sl [.int .i64], .str, .int .i64, .int .i64, .bool, .int .i64, .int .u8, .int .i64, .int .i64, .int .i64] x0, .l [.int .i64, .int .u8, .int .i64, .int .i64, .int .i64, .int .i64, .bool, .bool, .int .i64, .int .i64, .sl [.int .i64], .str, .int .i64, .int .i64, .bool, .int .i64, .int .u8, .int .i64, .int .i64, .int .i64] x1, .i x2] = F19_c0 (n + 1) x0 x1 x2 := by kernel_rfl
theorem e19 (n : Nat) (a0 a1 : List (Int × Int × Int × Int × Int × Int × Bool × Bool × Int × Int × (List (Int)) × ByteArray × Int × Int × Bool × Int × Int × Int × Int × Int)) : entF X19 8 19 pa19 (endK sr19 toB19) n [.l [.int .i64, .int .u8, .int .i64, .int .i64, .int .i64, .int .i64, .bool, .bool, .int .i64, .int .i64, .sl [.int .i64], .str, .int .i64, .int .i64, .bool, .int .i64, .int .u8, .int .i64, .int .i64, .int .i64] a0, .l [.int .i64, .int .u8, .int .i64, .int .i64, .int .i64, .int .i64, .bool, .bool, .int .i64, .int .i64, .sl [.int .i64], .str, .int .i64, .int .i64, .bool, .int .i64, .int .u8, .int .i64, .int .i64, .int .i64] a1] = F19 n a0 a1 := by kernel_rfl
theorem c19_0 : CutOK X19 8 19 (endK sr19 toB19) [1, 1, 0, 1, 0] ⟨sh19_0, g19_0⟩ := by
  refine ⟨fun ls => ?_, fun n ls r h => ?_⟩
  · cases h : g19_0 0 ls with
    | none => exact h
    | some r =>
      unfold g19_0 at h; obtain ⟨x0, _, rfl, h1⟩ := gL_ok h; obtain ⟨x1, _, rfl, h2⟩ := gL_ok h1; obtain ⟨x2, _, rfl, h3⟩ := gI_ok h2; obtain ⟨rfl, h4⟩ := gE_ok h3; simp only [F19_c0] at h4; cases h4
  · replace h : g19_0 (n + 1) ls = some r := h
    unfold g19_0 at h
    obtain ⟨x0, _, rfl, h1⟩ := gL_ok h; obtain ⟨x1, _, rfl, h2⟩ := gL_ok h1; obtain ⟨x2, _, rfl, h3⟩ := gI_ok h2; obtain ⟨rfl, h4⟩ := gE_ok h3
    exact (e19_0 n x0 x1 x2).trans h4
theorem sp19 {n : Nat} (a0 a1 : List (Int × Int × Int × Int × Int × Int × Bool × Bool × Int × Int × (List (Int)) × ByteArray × Int × Int × Bool × Int × Int × Int × Int × Int)) {y : Bool} (h : F19 n a0 a1 = some y) : SpecF T Tryd.prog 19 pa19 [.l [.int .i64, .int .u8, .int .i64, .int .i64, .int .i64, .int .i64, .bool, .bool, .int .i64, .int .i64, .sl [.int .i64], .str, .int .i64, .int .i64, .bool, .int .i64, .int .u8, .int .i64, .int .i64, .int .i64] a0, .l [.int .i64, .int .u8, .int .i64, .int .i64, .int .i64, .int .i64, .bool, .bool, .int .i64, .int .i64, .sl [.int .i64], .str, .int .i64, .int .i64, .bool, .int .i64, .int .u8, .int .i64, .int .i64, .int .i64] a1] sr19 (ofB19 y) :=
  fun_ok (X := X19) tok (sfok_of ⟨ok15, trivial⟩) mixed 19 8 cuts19 rfl toB19_ok ⟨c19_0, trivial⟩ ((e19 n a0 a1).trans h)
theorem ok19 {R : Type} : SFone T Tryd.prog 19 (run19 : SF R) := by
  intro ls K r h
  simp only [run19] at h
  obtain ⟨a0, _, rfl, h1⟩ := gL_ok h; obtain ⟨a1, _, rfl, h2⟩ := gL_ok h1; obtain ⟨rfl, h3⟩ := gE_ok h2
  obtain ⟨y, k1, k2⟩ := Option.bind_eq_some_iff.1 h3
  exact ⟨_, k2, sp19 a0 a1 k1⟩

/-! ### garland/garlandref10.Same -/
def pa12 : List VP := [.agg [.i .i64, .i .i64, .sl false [.int .i64, .int .u8, .int .i64, .int .i64, .int .i64, .int .i64, .bool, .bool, .int .i64, .int .i64, .sl [.int .i64], .str, .int .i64, .int .i64, .bool, .int .i64, .int .u8, .int .i64, .int .i64, .int .i64]], .agg [.i .i64, .i .i64, .sl false [.int .i64, .int .u8, .int .i64, .int .i64, .int .i64, .int .i64, .bool, .bool, .int .i64, .int .i64, .sl [.int .i64], .str, .int .i64, .int .i64, .bool, .int .i64, .int .u8, .int .i64, .int .i64, .int .i64]]]
def sr12 : RShape := ⟨.b, [], none⟩
def toB12 : List Leaf → Option (Bool) := gB (fun b0 => gE (some b0))
def ofB12 (y : Bool) : List Leaf := [.b y]
theorem toB12_ok : ∀ ls b, toB12 ls = some b → ls = ofB12 b := by
  intro ls b h
  unfold toB12 at h
  obtain ⟨b0, _, rfl, h1⟩ := gB_ok h; obtain ⟨rfl, h2⟩ := gE_ok h1
  cases h2; rfl
def run12 {R : Type} : SF R := ⟨pa12, sr12, fun ls K => (gI (fun a0 => gI (fun a1 => gL [.int .i64, .int .u8, .int .i64, .int .i64, .int .i64, .int .i64, .bool, .bool, .int .i64, .int .i64, .sl [.int .i64], .str, .int .i64, .int .i64, .bool, .int .i64, .int .u8, .int .i64, .int .i64, .int .i64] (fun a2 => gI (fun a3 => gI (fun a4 => gL [.int .i64, .int .u8, .int .i64, .int .i64, .int .i64, .int .i64, .bool, .bool, .int .i64, .int .i64, .sl [.int .i64], .str, .int .i64, .int .i64, .bool, .int .i64, .int .u8, .int .i64, .int .i64, .int .i64] (fun a5 => gE (Option.bind (F12 FUEL a0 a1 a2 a3 a4 a5) fun y => K (ofB12 y))))))))) ls⟩
def cuts12 : List (List Nat × Cut (Bool)) := []
noncomputable def X12 : Px (Bool) := ⟨T, Tryd.prog, lkF [(19, run19)], mkCuts 12 cuts12, altN, altN_ok⟩
theorem e12 (n : Nat) (a0 a1 : Int) (a2 : List (Int × Int × Int × Int × Int × Int × Bool × Bool × Int × Int × (List (Int)) × ByteArray × Int × Int × Bool × Int × Int × Int × Int × Int)) (a3 a4 : Int) (a5 : List (Int × Int × Int × Int × Int × Int × Bool × Bool × Int × Int × (List (Int)) × ByteArray × Int × Int × Bool × Int × Int × Int × Int × Int)) : entF X12 8 12 pa12 (endK sr12 toB12) n [.i a0, .i a1, .l [.int .i64, .int .u8, .int .i64, .int .i64, .int .i64, .int .i64, .bool, .bool, .int .i64, .int .i64, .sl [.int .i64], .str, .int .i64, .int .i64, .bool, .int .i64, .int .u8, .int .i64, .int .i64, .int .i64] a2, .i a3, .i a4, .l [.int .i64, .int .u8, .int .i64, .int .i64, .int .i64, .int .i64, .bool, .bool, .int .i64, .int .i64, .sl [.int .i64], .str, .int .i64, .int .i64, .bool, .int .i64, .int .u8, .int .i64, .int .i64, .int .i64] a5] = F12 n a0 a1 a2 a3 a4 a5 := by kernel_rfl
theorem sp12 {n : Nat} (a0 a1 : Int) (a2 : List (Int × Int × Int × Int × Int × Int × Bool × Bool × Int × Int × (List (Int)) × ByteArray × Int × Int × Bool × Int × Int × Int × Int × Int)) (a3 a4 : Int) (a5 : List (Int × Int × Int × Int × Int × Int × Bool × Bool × Int × Int × (List (Int)) × ByteArray × Int × Int × Bool × Int × Int × Int × Int × Int)) {y : Bool} (h : F12 n a0 a1 a2 a3 a4 a5 = some y) : SpecF T Tryd.prog 12 pa12 [.i a0, .i a1, .l [.int .i64, .int .u8, .int .i64, .int .i64, .int .i64, .int .i64, .bool, .bool, .int .i64, .int .i64, .sl [.int .i64], .str, .int .i64, .int .i64, .bool, .int .i64, .int .u8, .int .i64, .int .i64, .int .i64] a2, .i a3, .i a4, .l [.int .i64, .int .u8, .int .i64, .int .i64, .int .i64, .int .i64, .bool, .bool, .int .i64, .int .i64, .sl [.int .i64], .str, .int .i64, .int .i64, .bool, .int .i64, .int .u8, .int .i64, .int .i64, .int .i64] a5] sr12 (ofB12 y) :=
  fun_ok (X := X12) tok (sfok_of ⟨ok19, trivial⟩) mixed 12 8 cuts12 rfl toB12_ok trivial ((e12 n a0 a1 a2 a3 a4 a5).trans h)
theorem ok12 {R : Type} : SFone T Tryd.prog 12 (run12 : SF R) := by
  intro ls K r h
  simp only [run12] at h
  obtain ⟨a0, _, rfl, h1⟩ := gI_ok h; obtain ⟨a1, _, rfl, h2⟩ := gI_ok h1; obtain ⟨a2, _, rfl, h3⟩ := gL_ok h2; obtain ⟨a3, _, rfl, h4⟩ := gI_ok h3; obtain ⟨a4, _, rfl, h5⟩ := gI_ok h4; obtain ⟨a5, _, rfl, h6⟩ := gL_ok h5; obtain ⟨rfl, h7⟩ := gE_ok h6
  obtain ⟨y, k1, k2⟩ := Option.bind_eq_some_iff.1 h7
  exact ⟨_, k2, sp12 a0 a1 a2 a3 a4 a5 k1⟩

/-! ### garland/garlandlaw10.CallsOnce -/
def pa3 : List VP := [.i .i64, .sl false [.int .i64, .int .i64, .int .u8, .int .i64, .int .i64, .int .i64, .int .i64, .bool, .bool, .int .i64, .int .i64, .sl [.int .i64], .str, .int .i64, .int .i64, .bool, .int .i64, .int .u8]]
def sr3 : RShape := ⟨.b, [], none⟩
def toB3 : List Leaf → Option (Bool) := gB (fun b0 => gE (some b0))
def ofB3 (y : Bool) : List Leaf := [.b y]
theorem toB3_ok : ∀ ls b, toB3 ls = some b → ls = ofB3 b := by
  intro ls b h
  unfold toB3 at h
  obtain ⟨b0, _, rfl, h1⟩ := gB_ok h; obtain ⟨rfl, h2⟩ := gE_ok h1
  cases h2; rfl
def run3 {R : Type} : SF R := ⟨pa3, sr3, fun ls K => (gI (fun a0 => gL [.int .i64, .int .i64, .int .u8, .int .i64, .int .i64, .int .i64, .int .i64, .bool, .bool, .int .i64, .int .i64, .sl [.int .i64], .str, .int .i64, .int .i64, .bool, .int .i64, .int .u8] (fun a1 => gE (Option.bind (F3 FUEL a0 a1) fun y => K (ofB3 y))))) ls⟩
def sh3_0 : Shape := ⟨[(283, [(0, .i .i64), (1, .sl false [.int .i64, .int .i64, .int .u8, .int .i64, .int .i64, .int .i64, .int .i64, .bool, .bool, .int .i64, .int .i64, .sl [.int .i64], .str, .int .i64, .int .i64, .bool, .int .i64, .int .u8]), (5, .ref 0 0), (7, .i .i64), (8, .i .i64), (9, .i .i64), (10, .i .i64)])], [.cells [.i .i64, .i .i64, .row 1], .row true [.int .i64, .int .u8, .int .i64, .int .i64, .int .i64, .int .i64, .bool, .bool, .int .i64, .int .i64, .sl [.int .i64], .str, .int .i64, .int .i64, .bool, .int .i64, .int .u8, .int .i64, .int .i64, .int .i64]]⟩
def g3_0 (n : Nat) : List Leaf → Option (Bool) := gI (fun x0 => gL [.int .i64, .int .i64, .int .u8, .int .i64, .int .i64, .int .i64, .int .i64, .bool, .bool, .int .i64, .int .i64, .sl [.int .i64], .str, .int .i64, .int .i64, .bool, .int .i64, .int .u8] (fun x1 => gI (fun x2 => gI (fun x3 => gI (fun x4 => gI (fun x5 => gI (fun x6 => gI (fun x7 => gL [.int .i64, .int .u8, .int .i64, .int .i64, .int .i64, .int .i64, .bool, .bool, .int .i64, .int .i64, .sl [.int .i64], .str, .int .i64, .int .i64, .bool, .int .i64, .int .u8, .int .i64, .int .i64, .int .i64] (fun x8 => gE (F3_c0 n x0 x1 x2 x3 x4 x5 x6 x7 x8))))))))))
def cuts3 : List (List Nat × Cut (Bool)) := [([1, 1, 1, 1, 0, 1, 0], ⟨sh3_0, g3_0⟩)]
noncomputable def X3 : Px (Bool) := ⟨T, Tryd.prog, lkF [(7, run7), (8, run8), (9, run9), (10, run10), (11, run11), (17, run17), (12, run12), (13, run13), (14, run14), (15, run15), (16, run16)], mkCuts 3 cuts3, altN, altN_ok⟩
theorem e3_0 (n : Nat) (x0 : Int) (x1 : List (Int × Int × Int × Int × Int × Int × Int × Bool × Bool × Int × Int × (List (Int)) × ByteArray × Int × Int × Bool × Int × Int)) (x2 x3 x4 x5 x6 x7 : Int) (x8 : List (Int × Int × Int × Int × Int × Int × Bool × Bool × Int × Int × (List (Int)) × ByteArray × Int × Int × Bool × Int × Int × Int × Int × Int)) : stepF X3 8 3 (endK sr3 toB3) [1, 1, 1, 1, 0, 1, 0] sh3_0 n [.i x0, .l [.int .i64, .int .i64, .int .u8, .int .i64, .int .i64, .int .i64, .int .i64, .bool, .bool, .int .i64, .int .i64, .sl [.int .i64], .str, .int .i64, .int .i64, .bool, .int .i64, .int .u8] x1, .i x2, .i x3, .i x4, .i x5, .i x6, .i x7, .l [.int .i64, .int .u8, .int .i64, .int .i64, .int .i64, .int .i64, .bool, .bool, .int .i64, .int .i64, .sl [.int .i64], .str, .int .i64, .int .i64, .bool, .int .i64, .int .u8, .int .i64, .int .i64, .int .i64] x8] = F3_c0 (n + 1) x0 x1 x2 x3 x4 x5 x6 x7 x8 := by kernel_rfl
theorem e3 (n : Nat) (a0 : Int) (a1 : List (Int × Int × Int × Int × Int × Int × Int × Bool × Bool × Int × Int × (List (Int)) × ByteArray × Int × Int × Bool × Int × Int)) : entF X3 8 3 pa3 (endK sr3 toB3) n [.i a0, .l [.int .i64, .int .i64, .int .u8, .int .i64, .int .i64, .int .i64, .int .i64, .bool, .bool, .int .i64, .int .i64, .sl [.int .i64], .str, .int .i64, .int .i64, .bool, .int .i64, .int .u8] a1] = F3 n a0 a1 := by kernel_rfl
theorem c3_0 : CutOK X3 8 3 (endK sr3 toB3) [1, 1, 1, 1, 0, 1, 0] ⟨sh3_0, g3_0⟩ := by
  refine ⟨fun ls => ?_, fun n ls r h => ?_⟩
  · cases h : g3_0 0 ls with
    | none => exact h
    | some r =>
      unfold g3_0 at h; obtain ⟨x0, _, rfl, h1⟩ := gI_ok h; obtain ⟨x1, _, rfl, h2⟩ := gL_ok h1; obtain ⟨x2, x3, x4, x5, _, rfl, h3⟩ := gI4_ok h2; obtain ⟨x6, _, rfl, h4⟩ := gI_ok h3; obtain ⟨x7, _, rfl, h5⟩ := gI_ok h4; obtain ⟨x8, _, rfl, h6⟩ := gL_ok h5; obtain ⟨rfl, h7⟩ := gE_ok h6; simp only [F3_c0] at h7; cases h7
  · replace h : g3_0 (n + 1) ls = some r := h
    unfold g3_0 at h
    obtain ⟨x0, _, rfl, h1⟩ := gI_ok h; obtain ⟨x1, _, rfl, h2⟩ := gL_ok h1; obtain ⟨x2, x3, x4, x5, _, rfl, h3⟩ := gI4_ok h2; obtain ⟨x6, _, rfl, h4⟩ := gI_ok h3; obtain ⟨x7, _, rfl, h5⟩ := gI_ok h4; obtain ⟨x8, _, rfl, h6⟩ := gL_ok h5; obtain ⟨rfl, h7⟩ := gE_ok h6
    exact (e3_0 n x0 x1 x2 x3 x4 x5 x6 x7 x8).trans h7
theorem sp3 {n : Nat} (a0 : Int) (a1 : List (Int × Int × Int × Int × Int × Int × Int × Bool × Bool × Int × Int × (List (Int)) × ByteArray × Int × Int × Bool × Int × Int)) {y : Bool} (h : F3 n a0 a1 = some y) : SpecF T Tryd.prog 3 pa3 [.i a0, .l [.int .i64, .int .i64, .int .u8, .int .i64, .int .i64, .int .i64, .int .i64, .bool, .bool, .int .i64, .int .i64, .sl [.int .i64], .str, .int .i64, .int .i64, .bool, .int .i64, .int .u8] a1] sr3 (ofB3 y) :=
  fun_ok (X := X3) tok (sfok_of ⟨ok7, ok8, ok9, ok10, ok11, ok17, ok12, ok13, ok14, ok15, ok16, trivial⟩) mixed 3 8 cuts3 rfl toB3_ok ⟨c3_0, trivial⟩ ((e3 n a0 a1).trans h)
theorem ok3 {R : Type} : SFone T Tryd.prog 3 (run3 : SF R) := by
  intro ls K r h
  simp only [run3] at h
  obtain ⟨a0, _, rfl, h1⟩ := gI_ok h; obtain ⟨a1, _, rfl, h2⟩ := gL_ok h1; obtain ⟨rfl, h3⟩ := gE_ok h2
  obtain ⟨y, k1, k2⟩ := Option.bind_eq_some_iff.1 h3
  exact ⟨_, k2, sp3 a0 a1 k1⟩

/-! ### garland/garlandref10.tick -/
def pa45 : List VP := [.i .i64]
def sr45 : RShape := ⟨.b, [], none⟩
def toB45 : List Leaf → Option (Bool) := gB (fun b0 => gE (some b0))
def ofB45 (y : Bool) : List Leaf := [.b y]
theorem toB45_ok : ∀ ls b, toB45 ls = some b → ls = ofB45 b := by
  intro ls b h
  unfold toB45 at h
  obtain ⟨b0, _, rfl, h1⟩ := gB_ok h; obtain ⟨rfl, h2⟩ := gE_ok h1
  cases h2; rfl
def run45 {R : Type} : SF R := ⟨pa45, sr45, fun ls K => (gI (fun a0 => gE (Option.bind (F45 FUEL a0) fun y => K (ofB45 y)))) ls⟩
def cuts45 : List (List Nat × Cut (Bool)) := []
noncomputable def X45 : Px (Bool) := ⟨T, Tryd.prog, lkF [], mkCuts 45 cuts45, altN, altN_ok⟩
theorem e45 (n : Nat) (a0 : Int) : entF X45 8 45 pa45 (endK sr45 toB45) n [.i a0] = F45 n a0 := by kernel_rfl
theorem sp45 {n : Nat} (a0 : Int) {y : Bool} (h : F45 n a0 = some y) : SpecF T Tryd.prog 45 pa45 [.i a0] sr45 (ofB45 y) :=
  fun_ok (X := X45) tok (sfok_of trivial) mixed 45 8 cuts45 rfl toB45_ok trivial ((e45 n a0).trans h)
theorem ok45 {R : Type} : SFone T Tryd.prog 45 (run45 : SF R) := by
  intro ls K r h
  simp only [run45] at h
  obtain ⟨a0, _, rfl, h1⟩ := gI_ok h; obtain ⟨rfl, h2⟩ := gE_ok h1
  obtain ⟨y, k1, k2⟩ := Option.bind_eq_some_iff.1 h2
  exact ⟨_, k2, sp45 a0 k1⟩

/-! ### garland/garlandref10.Right -/
def pa18 : List VP := [.agg [.i .i64, .i .i64, .sl false [.int .i64, .int .u8, .int .i64, .int .i64, .int .i64, .int .i64, .bool, .bool, .int .i64, .int .i64, .sl [.int .i64], .str, .int .i64, .int .i64, .bool, .int .i64, .int .u8, .int .i64, .int .i64, .int .i64]]]
def sr18 : RShape := ⟨.b, [], none⟩
def toB18 : List Leaf → Option (Bool) := gB (fun b0 => gE (some b0))
def ofB18 (y : Bool) : List Leaf := [.b y]
theorem toB18_ok : ∀ ls b, toB18 ls = some b → ls = ofB18 b := by
  intro ls b h
  unfold toB18 at h
  obtain ⟨b0, _, rfl, h1⟩ := gB_ok h; obtain ⟨rfl, h2⟩ := gE_ok h1
  cases h2; rfl
def run18 {R : Type} : SF R := ⟨pa18, sr18, fun ls K => (gI (fun a0 => gI (fun a1 => gL [.int .i64, .int .u8, .int .i64, .int .i64, .int .i64, .int .i64, .bool, .bool, .int .i64, .int .i64, .sl [.int .i64], .str, .int .i64, .int .i64, .bool, .int .i64, .int .u8, .int .i64, .int .i64, .int .i64] (fun a2 => gE (Option.bind (F18 FUEL a0 a1 a2) fun y => K (ofB18 y)))))) ls⟩
def sh18_0 : Shape := ⟨[(110, [(1, .ref 0 0), (3, .i .i64)])], [.cells [.i .i64, .i .i64, .sl false [.int .i64, .int .u8, .int .i64, .int .i64, .int .i64, .int .i64, .bool, .bool, .int .i64, .int .i64, .sl [.int .i64], .str, .int .i64, .int .i64, .bool, .int .i64, .int .u8, .int .i64, .int .i64, .int .i64]]]⟩
def g18_0 (n : Nat) : List Leaf → Option (Bool) := gI (fun x0 => gI (fun x1 => gI (fun x2 => gL [.int .i64, .int .u8, .int .i64, .int .i64, .int .i64, .int .i64, .bool, .bool, .int .i64, .int .i64, .sl [.int .i64], .str, .int .i64, .int .i64, .bool, .int .i64, .int .u8, .int .i64, .int .i64, .int .i64] (fun x3 => gE (F18_c0 n x0 x1 x2 x3)))))
def cuts18 : List (List Nat × Cut (Bool)) := [([1, 1, 0, 1, 0], ⟨sh18_0, g18_0⟩)]
noncomputable def X18 : Px (Bool) := ⟨T, Tryd.prog, lkF [(11, run11), (37, run37), (45, run45)], mkCuts 18 cuts18, altN, altN_ok⟩
theorem e18_0 (n : Nat) (x0 x1 x2 : Int) (x3 : List (Int × Int × Int × Int × Int × Int × Bool × Bool × Int × Int × (List (Int)) × ByteArray × Int × Int × Bool × Int × Int × Int × Int × Int)) : stepF X18 8 18 (endK sr18 toB18) [1, 1, 0, 1, 0] sh18_0 n [.i x0, .i x1, .i x2, .l [.int .i64, .int .u8, .int .i64, .int .i64, .int .i64, .int .i64, .bool, .bool, .int .i64, .int .i64, .sl [.int .i64], .str, .int .i64, .int .i64, .bool, .int .i64, .int .u8, .int .i64, .int .i64, .int .i64] x3] = F18_c0 (n + 1) x0 x1 x2 x3 := by kernel_rfl
theorem e18 (n : Nat) (a0 a1 : Int) (a2 : List (Int × Int × Int × Int × Int × Int × Bool × Bool × Int × Int × (List (Int)) × ByteArray × Int × Int × Bool × Int × Int × Int × Int × Int)) : entF X18 8 18 pa18 (endK sr18 toB18) n [.i a0, .i a1, .l [.int .i64, .int .u8, .int .i64, .int .i64, .int .i64, .int .i64, .bool, .bool, .int .i64, .int .i64, .sl [.int .i64], .str, .int .i64, .int .i64, .bool, .int .i64, .int .u8, .int .i64, .int .i64, .int .i64] a2] = F18 n a0 a1 a2 := by kernel_rfl
theorem c18_0 : CutOK X18 8 18 (endK sr18 toB18) [1, 1, 0, 1, 0] ⟨sh18_0, g18_0⟩ := by
  refine ⟨fun ls => ?_, fun n ls r h => ?_⟩
  · cases h : g18_0 0 ls with
    | none => exact h
    | some r =>
      unfold g18_0 at h; obtain ⟨x0, _, rfl, h1⟩ := gI_ok h; obtain ⟨x1, _, rfl, h2⟩ := gI_ok h1; obtain ⟨x2, _, rfl, h3⟩ := gI_ok h2; obtain ⟨x3, _, rfl, h4⟩ := gL_ok h3; obtain ⟨rfl, h5⟩ := gE_ok h4; simp only [F18_c0] at h5; cases h5
  · replace h : g18_0 (n + 1) ls = some r := h
    unfold g18_0 at h
    obtain ⟨x0, _, rfl, h1⟩ := gI_ok h; obtain ⟨x1, _, rfl, h2⟩ := gI_ok h1; obtain ⟨x2, _, rfl, h3⟩ := gI_ok h2; obtain ⟨x3, _, rfl, h4⟩ := gL_ok h3; obtain ⟨rfl, h5⟩ := gE_ok h4
    exact (e18_0 n x0 x1 x2 x3).trans h5
theorem sp18 {n : Nat} (a0 a1 : Int) (a2 : List (Int × Int × Int × Int × Int × Int × Bool × Bool × Int × Int × (List (Int)) × ByteArray × Int × Int × Bool × Int × Int × Int × Int × Int)) {y : Bool} (h : F18 n a0 a1 a2 = some y) : SpecF T Tryd.prog 18 pa18 [.i a0, .i a1, .l [.int .i64, .int .u8, .int .i64, .int .i64, .int .i64, .int .i64, .bool, .bool, .int .i64, .int .i64, .sl [.int .i64], .str, .int .i64, .int .i64, .bool, .int .i64, .int .u8, .int .i64, .int .i64, .int .i64] a2] sr18 (ofB18 y) :=
  fun_ok (X := X18) tok (sfok_of ⟨ok11, ok37, ok45, trivial⟩) mixed 18 8 cuts18 rfl toB18_ok ⟨c18_0, trivial⟩ ((e18 n a0 a1 a2).trans h)
theorem ok18 {R : Type} : SFone T Tryd.prog 18 (run18 : SF R) := by
  intro ls K r h
  simp only [run18] at h
  obtain ⟨a0, _, rfl, h1⟩ := gI_ok h; obtain ⟨a1, _, rfl, h2⟩ := gI_ok h1; obtain ⟨a2, _, rfl, h3⟩ := gL_ok h2; obtain ⟨rfl, h4⟩ := gE_ok h3
  obtain ⟨y, k1, k2⟩ := Option.bind_eq_some_iff.1 h4
  exact ⟨_, k2, sp18 a0 a1 a2 k1⟩

/-! ### garland/garlandlaw10.CallsClose -/
def pa4 : List VP := [.agg [.i .i64, .i .i64, .sl false [.int .i64, .int .u8, .int .i64, .int .i64, .int .i64, .int .i64, .bool, .bool, .int .i64, .int .i64, .sl [.int .i64], .str, .int .i64, .int .i64, .bool, .int .i64, .int .u8, .int .i64, .int .i64, .int .i64]], .agg [.i .u8, .i .i64, .i .i64, .i .i64, .i .i64, .b, .b, .i .i64, .i .i64, .sl false [.int .i64], .s, .i .i64, .i .i64, .b, .i .i64]]
def sr4 : RShape := ⟨.b, [], none⟩
def toB4 : List Leaf → Option (Bool) := gB (fun b0 => gE (some b0))
def ofB4 (y : Bool) : List Leaf := [.b y]
theorem toB4_ok : ∀ ls b, toB4 ls = some b → ls = ofB4 b := by
  intro ls b h
  unfold toB4 at h
  obtain ⟨b0, _, rfl, h1⟩ := gB_ok h; obtain ⟨rfl, h2⟩ := gE_ok h1
  cases h2; rfl
def run4 {R : Type} : SF R := ⟨pa4, sr4, fun ls K => (gI (fun a0 => gI (fun a1 => gL [.int .i64, .int .u8, .int .i64, .int .i64, .int .i64, .int .i64, .bool, .bool, .int .i64, .int .i64, .sl [.int .i64], .str, .int .i64, .int .i64, .bool, .int .i64, .int .u8, .int .i64, .int .i64, .int .i64] (fun a2 => gI (fun a3 => gI (fun a4 => gI (fun a5 => gI (fun a6 => gI (fun a7 => gB (fun a8 => gB (fun a9 => gI (fun a10 => gI (fun a11 => gL [.int .i64] (fun a12 => gS (fun a13 => gI (fun a14 => gI (fun a15 => gB (fun a16 => gI (fun a17 => gE (Option.bind (F4 FUEL a0 a1 a2 a3 a4 a5 a6 a7 a8 a9 a10 a11 a12 a13 a14 a15 a16 a17) fun y => K (ofB4 y))))))))))))))))))))) ls⟩
def sh4_0 : Shape := ⟨[(132, [(2, .ref 0 0), (3, .ref 1 0), (5, .i .i64), (6, .i .i64)])], [.cells [.i .i64, .i .i64, .sl false [.int .i64, .int .u8, .int .i64, .int .i64, .int .i64, .int .i64, .bool, .bool, .int .i64, .int .i64, .sl [.int .i64], .str, .int .i64, .int .i64, .bool, .int .i64, .int .u8, .int .i64, .int .i64, .int .i64]], .cells [.i .u8, .i .i64, .i .i64, .i .i64, .i .i64, .b, .b, .i .i64, .i .i64, .sl false [.int .i64], .s, .i .i64, .i .i64, .b, .i .i64]]⟩
def g4_0 (n : Nat) : List Leaf → Option (Bool) := gI (fun x0 => gI (fun x1 => gI (fun x2 => gI (fun x3 => gL [.int .i64, .int .u8, .int .i64, .int .i64, .int .i64, .int .i64, .bool, .bool, .int .i64, .int .i64, .sl [.int .i64], .str, .int .i64, .int .i64, .bool, .int .i64, .int .u8, .int .i64, .int .i64, .int .i64] (fun x4 => gI (fun x5 => gI (fun x6 => gI (fun x7 => gI (fun x8 => gI (fun x9 => gB (fun x10 => gB (fun x11 => gI (fun x12 => gI (fun x13 => gL [.int .i64] (fun x14 => gS (fun x15 => gI (fun x16 => gI (fun x17 => gB (fun x18 => gI (fun x19 => gE (F4_c0 n x0 x1 x2 x3 x4 x5 x6 x7 x8 x9 x10 x11 x12 x13 x14 x15 x16 x17 x18 x19)))))))))))))))))))))
def cuts4 : List (List Nat × Cut (Bool)) := [([1, 1, 1, 0, 1, 0], ⟨sh4_0, g4_0⟩)]
noncomputable def X4 : Px (Bool) := ⟨T, Tryd.prog, lkF [(18, run18), (8, run8), (9, run9), (11, run11), (14, run14), (12, run12), (15, run15), (19, run19)], mkCuts 4 cuts4, altN, altN_ok⟩
theorem e4_0 (n : Nat) (x0 x1 x2 x3 : Int) (x4 : List (Int × Int × Int × Int × Int × Int × Bool × Bool × Int × Int × (List (Int)) × ByteArray × Int × Int × Bool × Int × Int × Int × Int × Int)) (x5 x6 x7 x8 x9 : Int) (x10 x11 : Bool) (x12 x13 : Int) (x14 : List (Int)) (x15 : ByteArray) (x16 x17 : Int) (x18 : Bool) (x19 : Int) : stepF X4 8 4 (endK sr4 toB4) [1, 1, 1, 0, 1, 0] sh4_0 n [.i x0, .i x1, .i x2, .i x3, .l [.int .i64, .int .u8, .int .i64, .int .i64, .int .i64, .int .i64, .bool, .bool, .int .i64, .int .i64, .sl [.int .i64], .str, .int .i64, .int .i64, .bool, .int .i64, .int .u8, .int .i64, .int .i64, .int .i64] x4, .i x5, .i x6, .i x7, .i x8, .i x9, .b x10, .b x11, .i x12, .i x13, .l [.int .i64] x14, .s x15, .i x16, .i x17, .b x18, .i x19] = F4_c0 (n + 1) x0 x1 x2 x3 x4 x5 x6 x7 x8 x9 x10 x11 x12 x13 x14 x15 x16 x17 x18 x19 := by kernel_rfl
theorem e4 (n : Nat) (a0 a1 : Int) (a2 : List (Int × Int × Int × Int × Int × Int × Bool × Bool × Int × Int × (List (Int)) × ByteArray × Int × Int × Bool × Int × Int × Int × Int × Int)) (a3 a4 a5 a6 a7 : Int) (a8 a9 : Bool) (a10 a11 : Int) (a12 : List (Int)) (a13 : ByteArray) (a14 a15 : Int) (a16 : Bool) (a17 : Int) : entF X4 8 4 pa4 (endK sr4 toB4) n [.i a0, .i a1, .l [.int .i64, .int .u8, .int .i64, .int .i64, .int .i64, .int .i64, .bool, .bool, .int .i64, .int .i64, .sl [.int .i64], .str, .int .i64, .int .i64, .bool, .int .i64, .int .u8, .int .i64, .int .i64, .int .i64] a2, .i a3, .i a4, .i a5, .i a6, .i a7, .b a8, .b a9, .i a10, .i a11, .l [.int .i64] a12, .s a13, .i a14, .i a15, .b a16, .i a17] = F4 n a0 a1 a2 a3 a4 a5 a6 a7 a8 a9 a10 a11 a12 a13 a14 a15 a16 a17 := by kernel_rfl
theorem c4_0 : CutOK X4 8 4 (endK sr4 toB4) [1, 1, 1, 0, 1, 0] ⟨sh4_0, g4_0⟩ := by
  refine ⟨fun ls => ?_, fun n ls r h => ?_⟩
  · cases h : g4_0 0 ls with
    | none => exact h
    | some r =>
      unfold g4_0 at h; obtain ⟨x0, x1, x2, x3, _, rfl, h1⟩ := gI4_ok h; obtain ⟨x4, _, rfl, h2⟩ := gL_ok h1; obtain ⟨x5, x6, x7, x8, _, rfl, h3⟩ := gI4_ok h2; obtain ⟨x9, _, rfl, h4⟩ := gI_ok h3; obtain ⟨x10, _, rfl, h5⟩ := gB_ok h4; obtain ⟨x11, _, rfl, h6⟩ := gB_ok h5; obtain ⟨x12, _, rfl, h7⟩ := gI_ok h6; obtain ⟨x13, _, rfl, h8⟩ := gI_ok h7; obtain ⟨x14, _, rfl, h9⟩ := gL_ok h8; obtain ⟨x15, _, rfl, h10⟩ := gS_ok h9; obtain ⟨x16, _, rfl, h11⟩ := gI_ok h10; obtain ⟨x17, _, rfl, h12⟩ := gI_ok h11; obtain ⟨x18, _, rfl, h13⟩ := gB_ok h12; obtain ⟨x19, _, rfl, h14⟩ := gI_ok h13; obtain ⟨rfl, h15⟩ := gE_ok h14; simp only [F4_c0] at h15; cases h15
  · replace h : g4_0 (n + 1) ls = some r := h
    unfold g4_0 at h
    obtain ⟨x0, x1, x2, x3, _, rfl, h1⟩ := gI4_ok h; obtain ⟨x4, _, rfl, h2⟩ := gL_ok h1; obtain ⟨x5, x6, x7, x8, _, rfl, h3⟩ := gI4_ok h2; obtain ⟨x9, _, rfl, h4⟩ := gI_ok h3; obtain ⟨x10, _, rfl, h5⟩ := gB_ok h4; obtain ⟨x11, _, rfl, h6⟩ := gB_ok h5; obtain ⟨x12, _, rfl, h7⟩ := gI_ok h6; obtain ⟨x13, _, rfl, h8⟩ := gI_ok h7; obtain ⟨x14, _, rfl, h9⟩ := gL_ok h8; obtain ⟨x15, _, rfl, h10⟩ := gS_ok h9; obtain ⟨x16, _, rfl, h11⟩ := gI_ok h10; obtain ⟨x17, _, rfl, h12⟩ := gI_ok h11; obtain ⟨x18, _, rfl, h13⟩ := gB_ok h12; obtain ⟨x19, _, rfl, h14⟩ := gI_ok h13; obtain ⟨rfl, h15⟩ := gE_ok h14
    exact (e4_0 n x0 x1 x2 x3 x4 x5 x6 x7 x8 x9 x10 x11 x12 x13 x14 x15 x16 x17 x18 x19).trans h15
theorem sp4 {n : Nat} (a0 a1 : Int) (a2 : List (Int × Int × Int × Int × Int × Int × Bool × Bool × Int × Int × (List (Int)) × ByteArray × Int × Int × Bool × Int × Int × Int × Int × Int)) (a3 a4 a5 a6 a7 : Int) (a8 a9 : Bool) (a10 a11 : Int) (a12 : List (Int)) (a13 : ByteArray) (a14 a15 : Int) (a16 : Bool) (a17 : Int) {y : Bool} (h : F4 n a0 a1 a2 a3 a4 a5 a6 a7 a8 a9 a10 a11 a12 a13 a14 a15 a16 a17 = some y) : SpecF T Tryd.prog 4 pa4 [.i a0, .i a1, .l [.int .i64, .int .u8, .int .i64, .int .i64, .int .i64, .int .i64, .bool, .bool, .int .i64, .int .i64, .sl [.int .i64], .str, .int .i64, .int .i64, .bool, .int .i64, .int .u8, .int .i64, .int .i64, .int .i64] a2, .i a3, .i a4, .i a5, .i a6, .i a7, .b a8, .b a9, .i a10, .i a11, .l [.int .i64] a12, .s a13, .i a14, .i a15, .b a16, .i a17] sr4 (ofB4 y) :=
  fun_ok (X := X4) tok (sfok_of ⟨ok18, ok8, ok9, ok11, ok14, ok12, ok15, ok19, trivial⟩) mixed 4 8 cuts4 rfl toB4_ok ⟨c4_0, trivial⟩ ((e4 n a0 a1 a2 a3 a4 a5 a6 a7 a8 a9 a10 a11 a12 a13 a14 a15 a16 a17).trans h)
theorem ok4 {R : Type} : SFone T Tryd.prog 4 (run4 : SF R) := by
  intro ls K r h
  simp only [run4] at h
  obtain ⟨a0, _, rfl, h1⟩ := gI_ok h; obtain ⟨a1, _, rfl, h2⟩ := gI_ok h1; obtain ⟨a2, _, rfl, h3⟩ := gL_ok h2; obtain ⟨a3, a4, a5, a6, _, rfl, h4⟩ := gI4_ok h3; obtain ⟨a7, _, rfl, h5⟩ := gI_ok h4; obtain ⟨a8, _, rfl, h6⟩ := gB_ok h5; obtain ⟨a9, _, rfl, h7⟩ := gB_ok h6; obtain ⟨a10, _, rfl, h8⟩ := gI_ok h7; obtain ⟨a11, _, rfl, h9⟩ := gI_ok h8; obtain ⟨a12, _, rfl, h10⟩ := gL_ok h9; obtain ⟨a13, _, rfl, h11⟩ := gS_ok h10; obtain ⟨a14, _, rfl, h12⟩ := gI_ok h11; obtain ⟨a15, _, rfl, h13⟩ := gI_ok h12; obtain ⟨a16, _, rfl, h14⟩ := gB_ok h13; obtain ⟨a17, _, rfl, h15⟩ := gI_ok h14; obtain ⟨rfl, h16⟩ := gE_ok h15
  obtain ⟨y, k1, k2⟩ := Option.bind_eq_some_iff.1 h16
  exact ⟨_, k2, sp4 a0 a1 a2 a3 a4 a5 a6 a7 a8 a9 a10 a11 a12 a13 a14 a15 a16 a17 k1⟩

/-! ### garland/garlandref09.Over -/
def pa20 : List VP := [.i .i64, .i .i64, .i .i64]
def sr20 : RShape := ⟨.b, [], none⟩
def toB20 : List Leaf → Option (Bool) := gB (fun b0 => gE (some b0))
def ofB20 (y : Bool) : List Leaf := [.b y]
theorem toB20_ok : ∀ ls b, toB20 ls = some b → ls = ofB20 b := by
  intro ls b h
  unfold toB20 at h
  obtain ⟨b0, _, rfl, h1⟩ := gB_ok h; obtain ⟨rfl, h2⟩ := gE_ok h1
  cases h2; rfl
def run20 {R : Type} : SF R := ⟨pa20, sr20, fun ls K => (gI (fun a0 => gI (fun a1 => gI (fun a2 => gE (Option.bind (F20 FUEL a0 a1 a2) fun y => K (ofB20 y)))))) ls⟩
def cuts20 : List (List Nat × Cut (Bool)) := []
noncomputable def X20 : Px (Bool) := ⟨T, Tryd.prog, lkF [], mkCuts 20 cuts20, altN, altN_ok⟩
theorem e20 (n : Nat) (a0 a1 a2 : Int) : entF X20 8 20 pa20 (endK sr20 toB20) n [.i a0, .i a1, .i a2] = F20 n a0 a1 a2 := by kernel_rfl
theorem sp20 {n : Nat} (a0 a1 a2 : Int) {y : Bool} (h : F20 n a0 a1 a2 = some y) : SpecF T Tryd.prog 20 pa20 [.i a0, .i a1, .i a2] sr20 (ofB20 y) :=
  fun_ok (X := X20) tok (sfok_of trivial) mixed 20 8 cuts20 rfl toB20_ok trivial ((e20 n a0 a1 a2).trans h)
theorem ok20 {R : Type} : SFone T Tryd.prog 20 (run20 : SF R) := by
  intro ls K r h
  simp only [run20] at h
  obtain ⟨a0, _, rfl, h1⟩ := gI_ok h; obtain ⟨a1, _, rfl, h2⟩ := gI_ok h1; obtain ⟨a2, _, rfl, h3⟩ := gI_ok h2; obtain ⟨rfl, h4⟩ := gE_ok h3
  obtain ⟨y, k1, k2⟩ := Option.bind_eq_some_iff.1 h4
  exact ⟨_, k2, sp20 a0 a1 a2 k1⟩

/-! ### garland/garlandref09.Wait -/
def pa46 : List VP := [.i .i64]
def sr46 : RShape := ⟨.i .i64, [], none⟩
def toB46 : List Leaf → Option (Int) := gI (fun b0 => gE (some b0))
def ofB46 (y : Int) : List Leaf := [.i y]
theorem toB46_ok : ∀ ls b, toB46 ls = some b → ls = ofB46 b := by
  intro ls b h
  unfold toB46 at h
  obtain ⟨b0, _, rfl, h1⟩ := gI_ok h; obtain ⟨rfl, h2⟩ := gE_ok h1
  cases h2; rfl
def run46 {R : Type} : SF R := ⟨pa46, sr46, fun ls K => (gI (fun a0 => gE (Option.bind (F46 FUEL a0) fun y => K (ofB46 y)))) ls⟩
def cuts46 : List (List Nat × Cut (Int)) := []
noncomputable def X46 : Px (Int) := ⟨T, Tryd.prog, lkF [], mkCuts 46 cuts46, altN, altN_ok⟩
theorem e46 (n : Nat) (a0 : Int) : entF X46 8 46 pa46 (endK sr46 toB46) n [.i a0] = F46 n a0 := by kernel_rfl
theorem sp46 {n : Nat} (a0 : Int) {y : Int} (h : F46 n a0 = some y) : SpecF T Tryd.prog 46 pa46 [.i a0] sr46 (ofB46 y) :=
  fun_ok (X := X46) tok (sfok_of trivial) mixed 46 8 cuts46 rfl toB46_ok trivial ((e46 n a0).trans h)
theorem ok46 {R : Type} : SFone T Tryd.prog 46 (run46 : SF R) := by
  intro ls K r h
  simp only [run46] at h
  obtain ⟨a0, _, rfl, h1⟩ := gI_ok h; obtain ⟨rfl, h2⟩ := gE_ok h1
  obtain ⟨y, k1, k2⟩ := Option.bind_eq_some_iff.1 h2
  exact ⟨_, k2, sp46 a0 k1⟩

/-! ### garland/garlandref09.Due -/
def pa21 : List VP := [.i .i64, .i .i64, .i .i64]
def sr21 : RShape := ⟨.b, [], none⟩
def toB21 : List Leaf → Option (Bool) := gB (fun b0 => gE (some b0))
def ofB21 (y : Bool) : List Leaf := [.b y]
theorem toB21_ok : ∀ ls b, toB21 ls = some b → ls = ofB21 b := by
  intro ls b h
  unfold toB21 at h
  obtain ⟨b0, _, rfl, h1⟩ := gB_ok h; obtain ⟨rfl, h2⟩ := gE_ok h1
  cases h2; rfl
def run21 {R : Type} : SF R := ⟨pa21, sr21, fun ls K => (gI (fun a0 => gI (fun a1 => gI (fun a2 => gE (Option.bind (F21 FUEL a0 a1 a2) fun y => K (ofB21 y)))))) ls⟩
def cuts21 : List (List Nat × Cut (Bool)) := []
noncomputable def X21 : Px (Bool) := ⟨T, Tryd.prog, lkF [(46, run46)], mkCuts 21 cuts21, altN, altN_ok⟩
theorem e21 (n : Nat) (a0 a1 a2 : Int) : entF X21 8 21 pa21 (endK sr21 toB21) n [.i a0, .i a1, .i a2] = F21 n a0 a1 a2 := by kernel_rfl
theorem sp21 {n : Nat} (a0 a1 a2 : Int) {y : Bool} (h : F21 n a0 a1 a2 = some y) : SpecF T Tryd.prog 21 pa21 [.i a0, .i a1, .i a2] sr21 (ofB21 y) :=
  fun_ok (X := X21) tok (sfok_of ⟨ok46, trivial⟩) mixed 21 8 cuts21 rfl toB21_ok trivial ((e21 n a0 a1 a2).trans h)
theorem ok21 {R : Type} : SFone T Tryd.prog 21 (run21 : SF R) := by
  intro ls K r h
  simp only [run21] at h
  obtain ⟨a0, _, rfl, h1⟩ := gI_ok h; obtain ⟨a1, _, rfl, h2⟩ := gI_ok h1; obtain ⟨a2, _, rfl, h3⟩ := gI_ok h2; obtain ⟨rfl, h4⟩ := gE_ok h3
  obtain ⟨y, k1, k2⟩ := Option.bind_eq_some_iff.1 h4
  exact ⟨_, k2, sp21 a0 a1 a2 k1⟩

/-! ### garland/garlandref10.Next -/
def pa23 : List VP := [.agg [.i .i64, .i .u8, .i .i64, .i .i64, .i .i64, .i .i64, .b, .b, .i .i64, .i .i64, .opq 0, .s, .i .i64, .i .i64, .b, .i .i64, .i .u8, .i .i64, .i .i64, .i .i64], .i .i64]
def sr23 : RShape := ⟨.agg [.i .i64, .i .u8, .i .i64, .i .i64, .i .i64, .i .i64, .b, .b, .i .i64, .i .i64, .opq 0, .s, .i .i64, .i .i64, .b, .i .i64, .i .u8, .i .i64, .i .i64, .i .i64], [], none⟩
def toB23 : List Leaf → Option (Si6b2i2si2bi5) := gI (fun b0 => gI (fun b1 => gI (fun b2 => gI (fun b3 => gI (fun b4 => gI (fun b5 => gB (fun b6 => gB (fun b7 => gI (fun b8 => gI (fun b9 => gS (fun b10 => gI (fun b11 => gI (fun b12 => gB (fun b13 => gI (fun b14 => gI (fun b15 => gI (fun b16 => gI (fun b17 => gI (fun b18 => gE (some ⟨b0, b1, b2, b3, b4, b5, b6, b7, b8, b9, b10, b11, b12, b13, b14, b15, b16, b17, b18⟩))))))))))))))))))))
def ofB23 (y : Si6b2i2si2bi5) : List Leaf := [.i y.q0, .i y.q1, .i y.q2, .i y.q3, .i y.q4, .i y.q5, .b y.q6, .b y.q7, .i y.q8, .i y.q9, .s y.q10, .i y.q11, .i y.q12, .b y.q13, .i y.q14, .i y.q15, .i y.q16, .i y.q17, .i y.q18]
theorem toB23_ok : ∀ ls b, toB23 ls = some b → ls = ofB23 b := by
  intro ls b h
  unfold toB23 at h
  obtain ⟨b0, b1, b2, b3, _, rfl, h1⟩ := gI4_ok h; obtain ⟨b4, _, rfl, h2⟩ := gI_ok h1; obtain ⟨b5, _, rfl, h3⟩ := gI_ok h2; obtain ⟨b6, _, rfl, h4⟩ := gB_ok h3; obtain ⟨b7, _, rfl, h5⟩ := gB_ok h4; obtain ⟨b8, _, rfl, h6⟩ := gI_ok h5; obtain ⟨b9, _, rfl, h7⟩ := gI_ok h6; obtain ⟨b10, _, rfl, h8⟩ := gS_ok h7; obtain ⟨b11, _, rfl, h9⟩ := gI_ok h8; obtain ⟨b12, _, rfl, h10⟩ := gI_ok h9; obtain ⟨b13, _, rfl, h11⟩ := gB_ok h10; obtain ⟨b14, b15, b16, b17, _, rfl, h12⟩ := gI4_ok h11; obtain ⟨b18, _, rfl, h13⟩ := gI_ok h12; obtain ⟨rfl, h14⟩ := gE_ok h13
  cases h14; rfl
def run23 {R : Type} : SF R := ⟨pa23, sr23, fun ls K => (gI (fun a0 => gI (fun a1 => gI (fun a2 => gI (fun a3 => gI (fun a4 => gI (fun a5 => gB (fun a6 => gB (fun a7 => gI (fun a8 => gI (fun a9 => gS (fun a10 => gI (fun a11 => gI (fun a12 => gB (fun a13 => gI (fun a14 => gI (fun a15 => gI (fun a16 => gI (fun a17 => gI (fun a18 => gI (fun a19 => gE (Option.bind (F23 FUEL a0 a1 a2 a3 a4 a5 a6 a7 a8 a9 a10 a11 a12 a13 a14 a15 a16 a17 a18 a19) fun y => K (ofB23 y))))))))))))))))))))))) ls⟩
def cuts23 : List (List Nat × Cut (Si6b2i2si2bi5)) := []
noncomputable def X23 : Px (Si6b2i2si2bi5) := ⟨T, Tryd.prog, lkF [(21, run21)], mkCuts 23 cuts23, altN, altN_ok⟩
theorem e23 (n : Nat) (a0 a1 a2 a3 a4 a5 : Int) (a6 a7 : Bool) (a8 a9 : Int) (a10 : ByteArray) (a11 a12 : Int) (a13 : Bool) (a14 a15 a16 a17 a18 a19 : Int) : entF X23 8 23 pa23 (endK sr23 toB23) n [.i a0, .i a1, .i a2, .i a3, .i a4, .i a5, .b a6, .b a7, .i a8, .i a9, .s a10, .i a11, .i a12, .b a13, .i a14, .i a15, .i a16, .i a17, .i a18, .i a19] = F23 n a0 a1 a2 a3 a4 a5 a6 a7 a8 a9 a10 a11 a12 a13 a14 a15 a16 a17 a18 a19 := by kernel_rfl
theorem sp23 {n : Nat} (a0 a1 a2 a3 a4 a5 : Int) (a6 a7 : Bool) (a8 a9 : Int) (a10 : ByteArray) (a11 a12 : Int) (a13 : Bool) (a14 a15 a16 a17 a18 a19 : Int) {y : Si6b2i2si2bi5} (h : F23 n a0 a1 a2 a3 a4 a5 a6 a7 a8 a9 a10 a11 a12 a13 a14 a15 a16 a17 a18 a19 = some y) : SpecF T Tryd.prog 23 pa23 [.i a0, .i a1, .i a2, .i a3, .i a4, .i a5, .b a6, .b a7, .i a8, .i a9, .s a10, .i a11, .i a12, .b a13, .i a14, .i a15, .i a16, .i a17, .i a18, .i a19] sr23 (ofB23 y) :=
  fun_ok (X := X23) tok (sfok_of ⟨ok21, trivial⟩) mixed 23 8 cuts23 rfl toB23_ok trivial ((e23 n a0 a1 a2 a3 a4 a5 a6 a7 a8 a9 a10 a11 a12 a13 a14 a15 a16 a17 a18 a19).trans h)
theorem ok23 {R : Type} : SFone T Tryd.prog 23 (run23 : SF R) := by
  intro ls K r h
  simp only [run23] at h
  obtain ⟨a0, a1, a2, a3, _, rfl, h1⟩ := gI4_ok h; obtain ⟨a4, _, rfl, h2⟩ := gI_ok h1; obtain ⟨a5, _, rfl, h3⟩ := gI_ok h2; obtain ⟨a6, _, rfl, h4⟩ := gB_ok h3; obtain ⟨a7, _, rfl, h5⟩ := gB_ok h4; obtain ⟨a8, _, rfl, h6⟩ := gI_ok h5; obtain ⟨a9, _, rfl, h7⟩ := gI_ok h6; obtain ⟨a10, _, rfl, h8⟩ := gS_ok h7; obtain ⟨a11, _, rfl, h9⟩ := gI_ok h8; obtain ⟨a12, _, rfl, h10⟩ := gI_ok h9; obtain ⟨a13, _, rfl, h11⟩ := gB_ok h10; obtain ⟨a14, a15, a16, a17, _, rfl, h12⟩ := gI4_ok h11; obtain ⟨a18, _, rfl, h13⟩ := gI_ok h12; obtain ⟨a19, _, rfl, h14⟩ := gI_ok h13; obtain ⟨rfl, h15⟩ := gE_ok h14
  obtain ⟨y, k1, k2⟩ := Option.bind_eq_some_iff.1 h15
  exact ⟨_, k2, sp23 a0 a1 a2 a3 a4 a5 a6 a7 a8 a9 a10 a11 a12 a13 a14 a15 a16 a17 a18 a19 k1⟩

/-! ### garland/garlandlaw10.CallsLate -/
def pa5 : List VP := [.agg [.i .i64, .i .i64, .sl false [.int .i64, .int .u8, .int .i64, .int .i64, .int .i64, .int .i64, .bool, .bool, .int .i64, .int .i64, .sl [.int .i64], .str, .int .i64, .int .i64, .bool, .int .i64, .int .u8, .int .i64, .int .i64, .int .i64]], .i .i64]
def sr5 : RShape := ⟨.b, [], none⟩
def toB5 : List Leaf → Option (Bool) := gB (fun b0 => gE (some b0))
def ofB5 (y : Bool) : List Leaf := [.b y]
theorem toB5_ok : ∀ ls b, toB5 ls = some b → ls = ofB5 b := by
  intro ls b h
  unfold toB5 at h
  obtain ⟨b0, _, rfl, h1⟩ := gB_ok h; obtain ⟨rfl, h2⟩ := gE_ok h1
  cases h2; rfl
def run5 {R : Type} : SF R := ⟨pa5, sr5, fun ls K => (gI (fun a0 => gI (fun a1 => gL [.int .i64, .int .u8, .int .i64, .int .i64, .int .i64, .int .i64, .bool, .bool, .int .i64, .int .i64, .sl [.int .i64], .str, .int .i64, .int .i64, .bool, .int .i64, .int .u8, .int .i64, .int .i64, .int .i64] (fun a2 => gI (fun a3 => gE (Option.bind (F5 FUEL a0 a1 a2 a3) fun y => K (ofB5 y))))))) ls⟩
def sh5_0 : Shape := ⟨[(153, [(1, .i .i64), (2, .ref 0 0), (5, .ref 1 0), (6, .row 2), (7, .row 3), (8, .i .i64), (9, .i .i64), (10, .i .i64), (11, .i .i64)])], [.cells [.i .i64, .i .i64, .sl false [.int .i64, .int .u8, .int .i64, .int .i64, .int .i64, .int .i64, .bool, .bool, .int .i64, .int .i64, .sl [.int .i64], .str, .int .i64, .int .i64, .bool, .int .i64, .int .u8, .int .i64, .int .i64, .int .i64]], .cells [.i .i64, .i .i64, .row 4], .row true [.int .u8, .int .i64, .int .i64, .int .i64, .int .i64, .bool, .bool, .int .i64, .int .i64, .sl [.int .i64], .str, .int .i64, .int .i64, .bool, .int .i64], .row true [.int .i64, .int .u8, .int .i64, .int .i64, .int .i64, .int .i64, .bool, .bool, .int .i64, .int .i64, .sl [.int .i64], .str, .int .i64, .int .i64, .bool, .int .i64, .int .u8, .int .i64, .int .i64, .int .i64], .row true [.int .i64, .int .u8, .int .i64, .int .i64, .int .i64, .int .i64, .bool, .bool, .int .i64, .int .i64, .sl [.int .i64], .str, .int .i64, .int .i64, .bool, .int .i64, .int .u8, .int .i64, .int .i64, .int .i64]]⟩
def g5_0 (n : Nat) : List Leaf → Option (Bool) := gI (fun x0 => gI (fun x1 => gI (fun x2 => gI (fun x3 => gI (fun x4 => gI (fun x5 => gI (fun x6 => gL [.int .i64, .int .u8, .int .i64, .int .i64, .int .i64, .int .i64, .bool, .bool, .int .i64, .int .i64, .sl [.int .i64], .str, .int .i64, .int .i64, .bool, .int .i64, .int .u8, .int .i64, .int .i64, .int .i64] (fun x7 => gI (fun x8 => gI (fun x9 => gL [.int .u8, .int .i64, .int .i64, .int .i64, .int .i64, .bool, .bool, .int .i64, .int .i64, .sl [.int .i64], .str, .int .i64, .int .i64, .bool, .int .i64] (fun x10 => gL [.int .i64, .int .u8, .int .i64, .int .i64, .int .i64, .int .i64, .bool, .bool, .int .i64, .int .i64, .sl [.int .i64], .str, .int .i64, .int .i64, .bool, .int .i64, .int .u8, .int .i64, .int .i64, .int .i64] (fun x11 => gL [.int .i64, .int .u8, .int .i64, .int .i64, .int .i64, .int .i64, .bool, .bool, .int .i64, .int .i64, .sl [.int .i64], .str, .int .i64, .int .i64, .bool, .int .i64, .int .u8, .int .i64, .int .i64, .int .i64] (fun x12 => gE (F5_c0 n x0 x1 x2 x3 x4 x5 x6 x7 x8 x9 x10 x11 x12))))))))))))))
def cuts5 : List (List Nat × Cut (Bool)) := [([1, 1, 1, 1, 0, 1, 0], ⟨sh5_0, g5_0⟩)]
noncomputable def X5 : Px (Bool) := ⟨T, Tryd.prog, lkF [(18, run18), (8, run8), (16, run16), (20, run20), (15, run15), (21, run21), (22, run22), (23, run23), (17, run17), (12, run12)], mkCuts 5 cuts5, altN, altN_ok⟩
theorem e5_0 (n : Nat) (x0 x1 x2 x3 x4 x5 x6 : Int) (x7 : List (Int × Int × Int × Int × Int × Int × Bool × Bool × Int × Int × (List (Int)) × ByteArray × Int × Int × Bool × Int × Int × Int × Int × Int)) (x8 x9 : Int) (x10 : List (Int × Int × Int × Int × Int × Bool × Bool × Int × Int × (List (Int)) × ByteArray × Int × Int × Bool × Int)) (x11 x12 : List (Int × Int × Int × Int × Int × Int × Bool × Bool × Int × Int × (List (Int)) × ByteArray × Int × Int × Bool × Int × Int × Int × Int × Int)) : stepF X5 8 5 (endK sr5 toB5) [1, 1, 1, 1, 0, 1, 0] sh5_0 n [.i x0, .i x1, .i x2, .i x3, .i x4, .i x5, .i x6, .l [.int .i64, .int .u8, .int .i64, .int .i64, .int .i64, .int .i64, .bool, .bool, .int .i64, .int .i64, .sl [.int .i64], .str, .int .i64, .int .i64, .bool, .int .i64, .int .u8, .int .i64, .int .i64, .int .i64] x7, .i x8, .i x9, .l [.int .u8, .int .i64, .int .i64, .int .i64, .int .i64, .bool, .bool, .int .i64, .int .i64, .sl [.int .i64], .str, .int .i64, .int .i64, .bool, .int .i64] x10, .l [.int .i64, .int .u8, .int .i64, .int .i64, .int .i64, .int .i64, .bool, .bool, .int .i64, .int .i64, .sl [.int .i64], .str, .int .i64, .int .i64, .bool, .int .i64, .int .u8, .int .i64, .int .i64, .int .i64] x11, .l [.int .i64, .int .u8, .int .i64, .int .i64, .int .i64, .int .i64, .bool, .bool, .int .i64, .int .i64, .sl [.int .i64], .str, .int .i64, .int .i64, .bool, .int .i64, .int .u8, .int .i64, .int .i64, .int .i64] x12] = F5_c0 (n + 1) x0 x1 x2 x3 x4 x5 x6 x7 x8 x9 x10 x11 x12 := by kernel_rfl
theorem e5 (n : Nat) (a0 a1 : Int) (a2 : List (Int × Int × Int × Int × Int × Int × Bool × Bool × Int × Int × (List (Int)) × ByteArray × Int × Int × Bool × Int × Int × Int × Int × Int)) (a3 : Int) : entF X5 8 5 pa5 (endK sr5 toB5) n [.i a0, .i a1, .l [.int .i64, .int .u8, .int .i64, .int .i64, .int .i64, .int .i64, .bool, .bool, .int .i64, .int .i64, .sl [.int .i64], .str, .int .i64, .int .i64, .bool, .int .i64, .int .u8, .int .i64, .int .i64, .int .i64] a2, .i a3] = F5 n a0 a1 a2 a3 := by kernel_rfl
theorem c5_0 : CutOK X5 8 5 (endK sr5 toB5) [1, 1, 1, 1, 0, 1, 0] ⟨sh5_0, g5_0⟩ := by
  refine ⟨fun ls => ?_, fun n ls r h => ?_⟩
  · cases h : g5_0 0 ls with
    | none => exact h
    | some r =>
      unfold g5_0 at h; obtain ⟨x0, x1, x2, x3, _, rfl, h1⟩ := gI4_ok h; obtain ⟨x4, _, rfl, h2⟩ := gI_ok h1; obtain ⟨x5, _, rfl, h3⟩ := gI_ok h2; obtain ⟨x6, _, rfl, h4⟩ := gI_ok h3; obtain ⟨x7, _, rfl, h5⟩ := gL_ok h4; obtain ⟨x8, _, rfl, h6⟩ := gI_ok h5; obtain ⟨x9, _, rfl, h7⟩ := gI_ok h6; obtain ⟨x10, _, rfl, h8⟩ := gL_ok h7; obtain ⟨x11, _, rfl, h9⟩ := gL_ok h8; obtain ⟨x12, _, rfl, h10⟩ := gL_ok h9; obtain ⟨rfl, h11⟩ := gE_ok h10; simp only [F5_c0] at h11; cases h11
  · replace h : g5_0 (n + 1) ls = some r := h
    unfold g5_0 at h
    obtain ⟨x0, x1, x2, x3, _, rfl, h1⟩ := gI4_ok h; obtain ⟨x4, _, rfl, h2⟩ := gI_ok h1; obtain ⟨x5, _, rfl, h3⟩ := gI_ok h2; obtain ⟨x6, _, rfl, h4⟩ := gI_ok h3; obtain ⟨x7, _, rfl, h5⟩ := gL_ok h4; obtain ⟨x8, _, rfl, h6⟩ := gI_ok h5; obtain ⟨x9, _, rfl, h7⟩ := gI_ok h6; obtain ⟨x10, _, rfl, h8⟩ := gL_ok h7; obtain ⟨x11, _, rfl, h9⟩ := gL_ok h8; obtain ⟨x12, _, rfl, h10⟩ := gL_ok h9; obtain ⟨rfl, h11⟩ := gE_ok h10
    exact (e5_0 n x0 x1 x2 x3 x4 x5 x6 x7 x8 x9 x10 x11 x12).trans h11
theorem sp5 {n : Nat} (a0 a1 : Int) (a2 : List (Int × Int × Int × Int × Int × Int × Bool × Bool × Int × Int × (List (Int)) × ByteArray × Int × Int × Bool × Int × Int × Int × Int × Int)) (a3 : Int) {y : Bool} (h : F5 n a0 a1 a2 a3 = some y) : SpecF T Tryd.prog 5 pa5 [.i a0, .i a1, .l [.int .i64, .int .u8, .int .i64, .int .i64, .int .i64, .int .i64, .bool, .bool, .int .i64, .int .i64, .sl [.int .i64], .str, .int .i64, .int .i64, .bool, .int .i64, .int .u8, .int .i64, .int .i64, .int .i64] a2, .i a3] sr5 (ofB5 y) :=
  fun_ok (X := X5) tok (sfok_of ⟨ok18, ok8, ok16, ok20, ok15, ok21, ok22, ok23, ok17, ok12, trivial⟩) mixed 5 8 cuts5 rfl toB5_ok ⟨c5_0, trivial⟩ ((e5 n a0 a1 a2 a3).trans h)
theorem ok5 {R : Type} : SFone T Tryd.prog 5 (run5 : SF R) := by
  intro ls K r h
  simp only [run5] at h
  obtain ⟨a0, _, rfl, h1⟩ := gI_ok h; obtain ⟨a1, _, rfl, h2⟩ := gI_ok h1; obtain ⟨a2, _, rfl, h3⟩ := gL_ok h2; obtain ⟨a3, _, rfl, h4⟩ := gI_ok h3; obtain ⟨rfl, h5⟩ := gE_ok h4
  obtain ⟨y, k1, k2⟩ := Option.bind_eq_some_iff.1 h5
  exact ⟨_, k2, sp5 a0 a1 a2 a3 k1⟩

/-! ### garland/garlandlaw10.CallsDrop -/
def pa6 : List VP := [.agg [.i .i64, .i .i64, .sl false [.int .i64, .int .u8, .int .i64, .int .i64, .int .i64, .int .i64, .bool, .bool, .int .i64, .int .i64, .sl [.int .i64], .str, .int .i64, .int .i64, .bool, .int .i64, .int .u8, .int .i64, .int .i64, .int .i64]], .i .u8]
def sr6 : RShape := ⟨.b, [], none⟩
def toB6 : List Leaf → Option (Bool) := gB (fun b0 => gE (some b0))
def ofB6 (y : Bool) : List Leaf := [.b y]
theorem toB6_ok : ∀ ls b, toB6 ls = some b → ls = ofB6 b := by
  intro ls b h
  unfold toB6 at h
  obtain ⟨b0, _, rfl, h1⟩ := gB_ok h; obtain ⟨rfl, h2⟩ := gE_ok h1
  cases h2; rfl
def run6 {R : Type} : SF R := ⟨pa6, sr6, fun ls K => (gI (fun a0 => gI (fun a1 => gL [.int .i64, .int .u8, .int .i64, .int .i64, .int .i64, .int .i64, .bool, .bool, .int .i64, .int .i64, .sl [.int .i64], .str, .int .i64, .int .i64, .bool, .int .i64, .int .u8, .int .i64, .int .i64, .int .i64] (fun a2 => gI (fun a3 => gE (Option.bind (F6 FUEL a0 a1 a2 a3) fun y => K (ofB6 y))))))) ls⟩
def sh6_0 : Shape := ⟨[(104, [(1, .i .u8), (2, .ref 0 0), (5, .ref 1 0), (6, .b), (7, .ref 2 0), (8, .i .i64), (9, .i .i64), (10, .i .i64)])], [.cells [.i .i64, .i .i64, .sl false [.int .i64, .int .u8, .int .i64, .int .i64, .int .i64, .int .i64, .bool, .bool, .int .i64, .int .i64, .sl [.int .i64], .str, .int .i64, .int .i64, .bool, .int .i64, .int .u8, .int .i64, .int .i64, .int .i64]], .cells [.i .i64, .i .u8, .i .i64, .i .i64, .i .i64, .i .i64, .b, .b, .i .i64, .i .i64, .sl true [.int .i64], .s, .i .i64, .i .i64, .b, .i .i64, .i .u8, .i .i64, .i .i64, .i .i64], .cells [.i .i64, .i .i64, .row 3], .row true [.int .i64, .int .u8, .int .i64, .int .i64, .int .i64, .int .i64, .bool, .bool, .int .i64, .int .i64, .sl [.int .i64], .str, .int .i64, .int .i64, .bool, .int .i64, .int .u8, .int .i64, .int .i64, .int .i64]]⟩
def g6_0 (n : Nat) : List Leaf → Option (Bool) := gI (fun x0 => gB (fun x1 => gI (fun x2 => gI (fun x3 => gI (fun x4 => gI (fun x5 => gI (fun x6 => gL [.int .i64, .int .u8, .int .i64, .int .i64, .int .i64, .int .i64, .bool, .bool, .int .i64, .int .i64, .sl [.int .i64], .str, .int .i64, .int .i64, .bool, .int .i64, .int .u8, .int .i64, .int .i64, .int .i64] (fun x7 => gI (fun x8 => gI (fun x9 => gI (fun x10 => gI (fun x11 => gI (fun x12 => gI (fun x13 => gB (fun x14 => gB (fun x15 => gI (fun x16 => gI (fun x17 => gL [.int .i64] (fun x18 => gS (fun x19 => gI (fun x20 => gI (fun x21 => gB (fun x22 => gI (fun x23 => gI (fun x24 => gI (fun x25 => gI (fun x26 => gI (fun x27 => gI (fun x28 => gI (fun x29 => gL [.int .i64, .int .u8, .int .i64, .int .i64, .int .i64, .int .i64, .bool, .bool, .int .i64, .int .i64, .sl [.int .i64], .str, .int .i64, .int .i64, .bool, .int .i64, .int .u8, .int .i64, .int .i64, .int .i64] (fun x30 => gE (F6_c0 n x0 x1 x2 x3 x4 x5 x6 x7 x8 x9 x10 x11 x12 x13 x14 x15 x16 x17 x18 x19 x20 x21 x22 x23 x24 x25 x26 x27 x28 x29 x30))))))))))))))))))))))))))))))))
def cuts6 : List (List Nat × Cut (Bool)) := [([1, 1, 1, 1, 1, 0, 1, 0], ⟨sh6_0, g6_0⟩)]
noncomputable def X6 : Px (Bool) := ⟨T, Tryd.prog, lkF [(18, run18), (8, run8), (24, run24), (25, run25), (15, run15), (17, run17)], mkCuts 6 cuts6, altN, altN_ok⟩
theorem e6_0 (n : Nat) (x0 : Int) (x1 : Bool) (x2 x3 x4 x5 x6 : Int) (x7 : List (Int × Int × Int × Int × Int × Int × Bool × Bool × Int × Int × (List (Int)) × ByteArray × Int × Int × Bool × Int × Int × Int × Int × Int)) (x8 x9 x10 x11 x12 x13 : Int) (x14 x15 : Bool) (x16 x17 : Int) (x18 : List (Int)) (x19 : ByteArray) (x20 x21 : Int) (x22 : Bool) (x23 x24 x25 x26 x27 x28 x29 : Int) (x30 : List (Int × Int × Int × Int × Int × Int × Bool × Bool × Int × Int × (List (Int)) × ByteArray × Int × Int × Bool × Int × Int × Int × Int × Int)) : stepF X6 8 6 (endK sr6 toB6) [1, 1, 1, 1, 1, 0, 1, 0] sh6_0 n [.i x0, .b x1, .i x2, .i x3, .i x4, .i x5, .i x6, .l [.int .i64, .int .u8, .int .i64, .int .i64, .int .i64, .int .i64, .bool, .bool, .int .i64, .int .i64, .sl [.int .i64], .str, .int .i64, .int .i64, .bool, .int .i64, .int .u8, .int .i64, .int .i64, .int .i64] x7, .i x8, .i x9, .i x10, .i x11, .i x12, .i x13, .b x14, .b x15, .i x16, .i x17, .l [.int .i64] x18, .s x19, .i x20, .i x21, .b x22, .i x23, .i x24, .i x25, .i x26, .i x27, .i x28, .i x29, .l [.int .i64, .int .u8, .int .i64, .int .i64, .int .i64, .int .i64, .bool, .bool, .int .i64, .int .i64, .sl [.int .i64], .str, .int .i64, .int .i64, .bool, .int .i64, .int .u8, .int .i64, .int .i64, .int .i64] x30] = F6_c0 (n + 1) x0 x1 x2 x3 x4 x5 x6 x7 x8 x9 x10 x11 x12 x13 x14 x15 x16 x17 x18 x19 x20 x21 x22 x23 x24 x25 x26 x27 x28 x29 x30 := by kernel_rfl
theorem e6 (n : Nat) (a0 a1 : Int) (a2 : List (Int × Int × Int × Int × Int × Int × Bool × Bool × Int × Int × (List (Int)) × ByteArray × Int × Int × Bool × Int × Int × Int × Int × Int)) (a3 : Int) : entF X6 8 6 pa6 (endK sr6 toB6) n [.i a0, .i a1, .l [.int .i64, .int .u8, .int .i64, .int .i64, .int .i64, .int .i64, .bool, .bool, .int .i64, .int .i64, .sl [.int .i64], .str, .int .i64, .int .i64, .bool, .int .i64, .int .u8, .int .i64, .int .i64, .int .i64] a2, .i a3] = F6 n a0 a1 a2 a3 := by kernel_rfl
theorem c6_0 : CutOK X6 8 6 (endK sr6 toB6) [1, 1, 1, 1, 1, 0, 1, 0] ⟨sh6_0, g6_0⟩ := by
  refine ⟨fun ls => ?_, fun n ls r h => ?_⟩
  · cases h : g6_0 0 ls with
    | none => exact h
    | some r =>
      unfold g6_0 at h; obtain ⟨x0, _, rfl, h1⟩ := gI_ok h; obtain ⟨x1, _, rfl, h2⟩ := gB_ok h1; obtain ⟨x2, x3, x4, x5, _, rfl, h3⟩ := gI4_ok h2; obtain ⟨x6, _, rfl, h4⟩ := gI_ok h3; obtain ⟨x7, _, rfl, h5⟩ := gL_ok h4; obtain ⟨x8, x9, x10, x11, _, rfl, h6⟩ := gI4_ok h5; obtain ⟨x12, _, rfl, h7⟩ := gI_ok h6; obtain ⟨x13, _, rfl, h8⟩ := gI_ok h7; obtain ⟨x14, _, rfl, h9⟩ := gB_ok h8; obtain ⟨x15, _, rfl, h10⟩ := gB_ok h9; obtain ⟨x16, _, rfl, h11⟩ := gI_ok h10; obtain ⟨x17, _, rfl, h12⟩ := gI_ok h11; obtain ⟨x18, _, rfl, h13⟩ := gL_ok h12; obtain ⟨x19, _, rfl, h14⟩ := gS_ok h13; obtain ⟨x20, _, rfl, h15⟩ := gI_ok h14; obtain ⟨x21, _, rfl, h16⟩ := gI_ok h15; obtain ⟨x22, _, rfl, h17⟩ := gB_ok h16; obtain ⟨x23, x24, x25, x26, _, rfl, h18⟩ := gI4_ok h17; obtain ⟨x27, _, rfl, h19⟩ := gI_ok h18; obtain ⟨x28, _, rfl, h20⟩ := gI_ok h19; obtain ⟨x29, _, rfl, h21⟩ := gI_ok h20; obtain ⟨x30, _, rfl, h22⟩ := gL_ok h21; obtain ⟨rfl, h23⟩ := gE_ok h22; simp only [F6_c0] at h23; cases h23
  · replace h : g6_0 (n + 1) ls = some r := h
    unfold g6_0 at h
    obtain ⟨x0, _, rfl, h1⟩ := gI_ok h; obtain ⟨x1, _, rfl, h2⟩ := gB_ok h1; obtain ⟨x2, x3, x4, x5, _, rfl, h3⟩ := gI4_ok h2; obtain ⟨x6, _, rfl, h4⟩ := gI_ok h3; obtain ⟨x7, _, rfl, h5⟩ := gL_ok h4; obtain ⟨x8, x9, x10, x11, _, rfl, h6⟩ := gI4_ok h5; obtain ⟨x12, _, rfl, h7⟩ := gI_ok h6; obtain ⟨x13, _, rfl, h8⟩ := gI_ok h7; obtain ⟨x14, _, rfl, h9⟩ := gB_ok h8; obtain ⟨x15, _, rfl, h10⟩ := gB_ok h9; obtain ⟨x16, _, rfl, h11⟩ := gI_ok h10; obtain ⟨x17, _, rfl, h12⟩ := gI_ok h11; obtain ⟨x18, _, rfl, h13⟩ := gL_ok h12; obtain ⟨x19, _, rfl, h14⟩ := gS_ok h13; obtain ⟨x20, _, rfl, h15⟩ := gI_ok h14; obtain ⟨x21, _, rfl, h16⟩ := gI_ok h15; obtain ⟨x22, _, rfl, h17⟩ := gB_ok h16; obtain ⟨x23, x24, x25, x26, _, rfl, h18⟩ := gI4_ok h17; obtain ⟨x27, _, rfl, h19⟩ := gI_ok h18; obtain ⟨x28, _, rfl, h20⟩ := gI_ok h19; obtain ⟨x29, _, rfl, h21⟩ := gI_ok h20; obtain ⟨x30, _, rfl, h22⟩ := gL_ok h21; obtain ⟨rfl, h23⟩ := gE_ok h22
    exact (e6_0 n x0 x1 x2 x3 x4 x5 x6 x7 x8 x9 x10 x11 x12 x13 x14 x15 x16 x17 x18 x19 x20 x21 x22 x23 x24 x25 x26 x27 x28 x29 x30).trans h23
theorem sp6 {n : Nat} (a0 a1 : Int) (a2 : List (Int × Int × Int × Int × Int × Int × Bool × Bool × Int × Int × (List (Int)) × ByteArray × Int × Int × Bool × Int × Int × Int × Int × Int)) (a3 : Int) {y : Bool} (h : F6 n a0 a1 a2 a3 = some y) : SpecF T Tryd.prog 6 pa6 [.i a0, .i a1, .l [.int .i64, .int .u8, .int .i64, .int .i64, .int .i64, .int .i64, .bool, .bool, .int .i64, .int .i64, .sl [.int .i64], .str, .int .i64, .int .i64, .bool, .int .i64, .int .u8, .int .i64, .int .i64, .int .i64] a2, .i a3] sr6 (ofB6 y) :=
  fun_ok (X := X6) tok (sfok_of ⟨ok18, ok8, ok24, ok25, ok15, ok17, trivial⟩) mixed 6 8 cuts6 rfl toB6_ok ⟨c6_0, trivial⟩ ((e6 n a0 a1 a2 a3).trans h)
theorem ok6 {R : Type} : SFone T Tryd.prog 6 (run6 : SF R) := by
  intro ls K r h
  simp only [run6] at h
  obtain ⟨a0, _, rfl, h1⟩ := gI_ok h; obtain ⟨a1, _, rfl, h2⟩ := gI_ok h1; obtain ⟨a2, _, rfl, h3⟩ := gL_ok h2; obtain ⟨a3, _, rfl, h4⟩ := gI_ok h3; obtain ⟨rfl, h5⟩ := gE_ok h4
  obtain ⟨y, k1, k2⟩ := Option.bind_eq_some_iff.1 h5
  exact ⟨_, k2, sp6 a0 a1 a2 a3 k1⟩

end Go.Proofs.YtcbhmedknbiffaaDoor
