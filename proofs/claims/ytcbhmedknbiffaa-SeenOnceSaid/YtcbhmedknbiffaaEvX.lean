/-
  The functions of this program, evaluated; each is as it is evaluated.
-/
import Derived.Test.YtcbhmedknbiffaaEvR
import Derived.Test.YtcbhmedknbiffaaEvY
import Derived.Test.YtcbhmedknbiffaaVsT
import Derived.KernelRfl
namespace Go.Proofs.Ytcbhmedknbiffaa
open Go Go.RowKit
set_option maxRecDepth 100000

theorem mixed : Try.prog.follows .mixedOrders = true := by kernel_rfl


/-! ### garland/garlandref11.Great -/
def pa8 : List VP := [.sl false [.int .i64, .int .i64, .int .u8, .int .i64, .int .i64, .int .i64, .int .i64, .bool, .bool, .int .i64, .int .i64, .sl [.int .i64], .str, .int .i64, .int .i64, .bool, .int .i64]]
def sr8 : RShape := ⟨.b, [], none⟩
def toB8 : List Leaf → Option (Bool) := gB (fun b0 => gE (some b0))
def ofB8 (y : Bool) : List Leaf := [.b y]
theorem toB8_ok : ∀ ls b, toB8 ls = some b → ls = ofB8 b := by
  intro ls b h
  unfold toB8 at h
  obtain ⟨b0, _, rfl, h1⟩ := gB_ok h; obtain ⟨rfl, h2⟩ := gE_ok h1
  cases h2; rfl
def run8 {R : Type} : SF R := ⟨pa8, sr8, fun ls K => (gL [.int .i64, .int .i64, .int .u8, .int .i64, .int .i64, .int .i64, .int .i64, .bool, .bool, .int .i64, .int .i64, .sl [.int .i64], .str, .int .i64, .int .i64, .bool, .int .i64] (fun a0 => gE (Option.bind (F8 FUEL a0) fun y => K (ofB8 y)))) ls⟩
def sh8_0 : Shape := ⟨[(36, [(0, .sl false [.int .i64, .int .i64, .int .u8, .int .i64, .int .i64, .int .i64, .int .i64, .bool, .bool, .int .i64, .int .i64, .sl [.int .i64], .str, .int .i64, .int .i64, .bool, .int .i64]), (3, .i .i64)])], []⟩
def g8_0 (n : Nat) : List Leaf → Option (Bool) := gL [.int .i64, .int .i64, .int .u8, .int .i64, .int .i64, .int .i64, .int .i64, .bool, .bool, .int .i64, .int .i64, .sl [.int .i64], .str, .int .i64, .int .i64, .bool, .int .i64] (fun x0 => gI (fun x1 => gE (F8_c0 n x0 x1)))
def cuts8 : List (List Nat × Cut (Bool)) := [([1, 0, 1, 0], ⟨sh8_0, g8_0⟩)]
noncomputable def X8 : Px (Bool) := ⟨T, Try.prog, lkF [], mkCuts 8 cuts8, altN, altN_ok⟩
theorem e8_0 (n : Nat) (x0 : List (Int × Int × Int × Int × Int × Int × Int × Bool × Bool × Int × Int × (List (Int)) × ByteArray × Int × Int × Bool × Int)) (x1 : Int) : stepF X8 8 8 (endK sr8 toB8) [1, 0, 1, 0] sh8_0 n [.l [.int .i64, .int .i64, .int .u8, .int .i64, .int .i64, .int .i64, .int .i64, .bool, .bool, .int .i64, .int .i64, .sl [.int .i64], .str, .int .i64, .int .i64, .bool, .int .i64] x0, .i x1] = F8_c0 (n + 1) x0 x1 := by kernel_rfl
theorem e8 (n : Nat) (a0 : List (Int × Int × Int × Int × Int × Int × Int × Bool × Bool × Int × Int × (List (Int)) × ByteArray × Int × Int × Bool × Int)) : entF X8 8 8 pa8 (endK sr8 toB8) n [.l [.int .i64, .int .i64, .int .u8, .int .i64, .int .i64, .int .i64, .int .i64, .bool, .bool, .int .i64, .int .i64, .sl [.int .i64], .str, .int .i64, .int .i64, .bool, .int .i64] a0] = F8 n a0 := by kernel_rfl
theorem c8_0 : CutOK X8 8 8 (endK sr8 toB8) [1, 0, 1, 0] ⟨sh8_0, g8_0⟩ := by
  refine ⟨fun ls => ?_, fun n ls r h => ?_⟩
  · cases h : g8_0 0 ls with
    | none => exact h
    | some r =>
      unfold g8_0 at h; obtain ⟨x0, _, rfl, h1⟩ := gL_ok h; obtain ⟨x1, _, rfl, h2⟩ := gI_ok h1; obtain ⟨rfl, h3⟩ := gE_ok h2; simp only [F8_c0] at h3; cases h3
  · replace h : g8_0 (n + 1) ls = some r := h
    unfold g8_0 at h
    obtain ⟨x0, _, rfl, h1⟩ := gL_ok h; obtain ⟨x1, _, rfl, h2⟩ := gI_ok h1; obtain ⟨rfl, h3⟩ := gE_ok h2
    exact (e8_0 n x0 x1).trans h3
theorem sp8 {n : Nat} (a0 : List (Int × Int × Int × Int × Int × Int × Int × Bool × Bool × Int × Int × (List (Int)) × ByteArray × Int × Int × Bool × Int)) {y : Bool} (h : F8 n a0 = some y) : SpecF T Try.prog 8 pa8 [.l [.int .i64, .int .i64, .int .u8, .int .i64, .int .i64, .int .i64, .int .i64, .bool, .bool, .int .i64, .int .i64, .sl [.int .i64], .str, .int .i64, .int .i64, .bool, .int .i64] a0] sr8 (ofB8 y) :=
  fun_ok (X := X8) tok (sfok_of trivial) mixed 8 8 cuts8 rfl toB8_ok ⟨c8_0, trivial⟩ ((e8 n a0).trans h)
theorem ok8 {R : Type} : SFone T Try.prog 8 (run8 : SF R) := by
  intro ls K r h
  simp only [run8] at h
  obtain ⟨a0, _, rfl, h1⟩ := gL_ok h; obtain ⟨rfl, h2⟩ := gE_ok h1
  obtain ⟨y, k1, k2⟩ := Option.bind_eq_some_iff.1 h2
  exact ⟨_, k2, sp8 a0 k1⟩

/-! ### garland/garlandref11.Msgs -/
def pa9 : List VP := [.sl false [.int .u8, .int .i64, .int .i64, .int .i64, .int .i64, .bool, .bool, .int .i64, .int .i64, .sl [.int .i64], .str, .int .i64, .int .i64, .bool, .int .i64]]
def sr9 : RShape := ⟨.b, [], none⟩
def toB9 : List Leaf → Option (Bool) := gB (fun b0 => gE (some b0))
def ofB9 (y : Bool) : List Leaf := [.b y]
theorem toB9_ok : ∀ ls b, toB9 ls = some b → ls = ofB9 b := by
  intro ls b h
  unfold toB9 at h
  obtain ⟨b0, _, rfl, h1⟩ := gB_ok h; obtain ⟨rfl, h2⟩ := gE_ok h1
  cases h2; rfl
def run9 {R : Type} : SF R := ⟨pa9, sr9, fun ls K => (gL [.int .u8, .int .i64, .int .i64, .int .i64, .int .i64, .bool, .bool, .int .i64, .int .i64, .sl [.int .i64], .str, .int .i64, .int .i64, .bool, .int .i64] (fun a0 => gE (Option.bind (F9 FUEL a0) fun y => K (ofB9 y)))) ls⟩
def sh9_0 : Shape := ⟨[(34, [(0, .sl false [.int .u8, .int .i64, .int .i64, .int .i64, .int .i64, .bool, .bool, .int .i64, .int .i64, .sl [.int .i64], .str, .int .i64, .int .i64, .bool, .int .i64]), (3, .i .i64)])], []⟩
def g9_0 (n : Nat) : List Leaf → Option (Bool) := gL [.int .u8, .int .i64, .int .i64, .int .i64, .int .i64, .bool, .bool, .int .i64, .int .i64, .sl [.int .i64], .str, .int .i64, .int .i64, .bool, .int .i64] (fun x0 => gI (fun x1 => gE (F9_c0 n x0 x1)))
def cuts9 : List (List Nat × Cut (Bool)) := [([1, 0, 1, 0], ⟨sh9_0, g9_0⟩)]
noncomputable def X9 : Px (Bool) := ⟨T, Try.prog, lkF [], mkCuts 9 cuts9, altN, altN_ok⟩
theorem e9_0 (n : Nat) (x0 : List (Int × Int × Int × Int × Int × Bool × Bool × Int × Int × (List (Int)) × ByteArray × Int × Int × Bool × Int)) (x1 : Int) : stepF X9 8 9 (endK sr9 toB9) [1, 0, 1, 0] sh9_0 n [.l [.int .u8, .int .i64, .int .i64, .int .i64, .int .i64, .bool, .bool, .int .i64, .int .i64, .sl [.int .i64], .str, .int .i64, .int .i64, .bool, .int .i64] x0, .i x1] = F9_c0 (n + 1) x0 x1 := by kernel_rfl
theorem e9 (n : Nat) (a0 : List (Int × Int × Int × Int × Int × Bool × Bool × Int × Int × (List (Int)) × ByteArray × Int × Int × Bool × Int)) : entF X9 8 9 pa9 (endK sr9 toB9) n [.l [.int .u8, .int .i64, .int .i64, .int .i64, .int .i64, .bool, .bool, .int .i64, .int .i64, .sl [.int .i64], .str, .int .i64, .int .i64, .bool, .int .i64] a0] = F9 n a0 := by kernel_rfl
theorem c9_0 : CutOK X9 8 9 (endK sr9 toB9) [1, 0, 1, 0] ⟨sh9_0, g9_0⟩ := by
  refine ⟨fun ls => ?_, fun n ls r h => ?_⟩
  · cases h : g9_0 0 ls with
    | none => exact h
    | some r =>
      unfold g9_0 at h; obtain ⟨x0, _, rfl, h1⟩ := gL_ok h; obtain ⟨x1, _, rfl, h2⟩ := gI_ok h1; obtain ⟨rfl, h3⟩ := gE_ok h2; simp only [F9_c0] at h3; cases h3
  · replace h : g9_0 (n + 1) ls = some r := h
    unfold g9_0 at h
    obtain ⟨x0, _, rfl, h1⟩ := gL_ok h; obtain ⟨x1, _, rfl, h2⟩ := gI_ok h1; obtain ⟨rfl, h3⟩ := gE_ok h2
    exact (e9_0 n x0 x1).trans h3
theorem sp9 {n : Nat} (a0 : List (Int × Int × Int × Int × Int × Bool × Bool × Int × Int × (List (Int)) × ByteArray × Int × Int × Bool × Int)) {y : Bool} (h : F9 n a0 = some y) : SpecF T Try.prog 9 pa9 [.l [.int .u8, .int .i64, .int .i64, .int .i64, .int .i64, .bool, .bool, .int .i64, .int .i64, .sl [.int .i64], .str, .int .i64, .int .i64, .bool, .int .i64] a0] sr9 (ofB9 y) :=
  fun_ok (X := X9) tok (sfok_of trivial) mixed 9 8 cuts9 rfl toB9_ok ⟨c9_0, trivial⟩ ((e9 n a0).trans h)
theorem ok9 {R : Type} : SFone T Try.prog 9 (run9 : SF R) := by
  intro ls K r h
  simp only [run9] at h
  obtain ⟨a0, _, rfl, h1⟩ := gL_ok h; obtain ⟨rfl, h2⟩ := gE_ok h1
  obtain ⟨y, k1, k2⟩ := Option.bind_eq_some_iff.1 h2
  exact ⟨_, k2, sp9 a0 k1⟩

/-! ### garland/seen.to -/
def pa35 : List VP := [.i .i64, .i .i64]
def sr35 : RShape := ⟨.clos 48 [.ref 0 0, .ref 1 0], [.cells [.i .i64], .cells [.i .i64]], none⟩
def toB35 : List Leaf → Option (Int × Int) := gI (fun b0 => gI (fun b1 => gE (some (b0, b1))))
def ofB35 (y : Int × Int) : List Leaf := [.i y.1, .i y.2]
theorem toB35_ok : ∀ ls b, toB35 ls = some b → ls = ofB35 b := by
  intro ls b h
  unfold toB35 at h
  obtain ⟨b0, _, rfl, h1⟩ := gI_ok h; obtain ⟨b1, _, rfl, h2⟩ := gI_ok h1; obtain ⟨rfl, h3⟩ := gE_ok h2
  cases h3; rfl
def run35 {R : Type} : SF R := ⟨pa35, sr35, fun ls K => (gI (fun a0 => gI (fun a1 => gE (Option.bind (F35 FUEL a0 a1) fun y => K (ofB35 y))))) ls⟩
def cuts35 : List (List Nat × Cut (Int × Int)) := []
noncomputable def X35 : Px (Int × Int) := ⟨T, Try.prog, lkF [], mkCuts 35 cuts35, altN, altN_ok⟩
theorem e35 (n : Nat) (a0 a1 : Int) : entF X35 8 35 pa35 (endK sr35 toB35) n [.i a0, .i a1] = F35 n a0 a1 := by kernel_rfl
theorem sp35 {n : Nat} (a0 a1 : Int) {y : Int × Int} (h : F35 n a0 a1 = some y) : SpecF T Try.prog 35 pa35 [.i a0, .i a1] sr35 (ofB35 y) :=
  fun_ok (X := X35) tok (sfok_of trivial) mixed 35 8 cuts35 rfl toB35_ok trivial ((e35 n a0 a1).trans h)
theorem ok35 {R : Type} : SFone T Try.prog 35 (run35 : SF R) := by
  intro ls K r h
  simp only [run35] at h
  obtain ⟨a0, _, rfl, h1⟩ := gI_ok h; obtain ⟨a1, _, rfl, h2⟩ := gI_ok h1; obtain ⟨rfl, h3⟩ := gE_ok h2
  obtain ⟨y, k1, k2⟩ := Option.bind_eq_some_iff.1 h3
  exact ⟨_, k2, sp35 a0 a1 k1⟩

/-! ### garland/seen.first -/
def pa34 : List VP := [.sl false [.int .i64, .int .i64, .int .u8, .int .i64, .int .i64, .int .i64, .int .i64, .bool, .bool, .int .i64, .int .i64, .sl [.int .i64], .str, .int .i64, .int .i64, .bool, .int .i64], .clos 48 [.ep [.i .i64], .ep [.i .i64]]]
def sr34 : RShape := ⟨.i .i64, [], none⟩
def toB34 : List Leaf → Option (Int) := gI (fun b0 => gE (some b0))
def ofB34 (y : Int) : List Leaf := [.i y]
theorem toB34_ok : ∀ ls b, toB34 ls = some b → ls = ofB34 b := by
  intro ls b h
  unfold toB34 at h
  obtain ⟨b0, _, rfl, h1⟩ := gI_ok h; obtain ⟨rfl, h2⟩ := gE_ok h1
  cases h2; rfl
def run34 {R : Type} : SF R := ⟨pa34, sr34, fun ls K => (gL [.int .i64, .int .i64, .int .u8, .int .i64, .int .i64, .int .i64, .int .i64, .bool, .bool, .int .i64, .int .i64, .sl [.int .i64], .str, .int .i64, .int .i64, .bool, .int .i64] (fun a0 => gI (fun a1 => gI (fun a2 => gE (Option.bind (F34 FUEL a0 a1 a2) fun y => K (ofB34 y)))))) ls⟩
def sh34_0 : Shape := ⟨[(18, [(0, .yield 5), (5, .sl false [.int .i64, .int .i64, .int .u8, .int .i64, .int .i64, .int .i64, .int .i64, .bool, .bool, .int .i64, .int .i64, .sl [.int .i64], .str, .int .i64, .int .i64, .bool, .int .i64]), (6, .i .i64), (7, .i .i64)]), (15, [(3, .ref 0 0), (4, .ref 1 0)])], [.cells [.clos 48 [.ep [.i .i64], .ep [.i .i64]]], .cells [.i .i64]]⟩
def g34_0 (n : Nat) : List Leaf → Option (Int) := gL [.int .i64, .int .i64, .int .u8, .int .i64, .int .i64, .int .i64, .int .i64, .bool, .bool, .int .i64, .int .i64, .sl [.int .i64], .str, .int .i64, .int .i64, .bool, .int .i64] (fun x0 => gI (fun x1 => gI (fun x2 => gI (fun x3 => gI (fun x4 => gI (fun x5 => gE (F34_c0 n x0 x1 x2 x3 x4 x5)))))))
def cuts34 : List (List Nat × Cut (Int)) := [([1, 0, 1, 0, 98, 1, 0], ⟨sh34_0, g34_0⟩)]
noncomputable def X34 : Px (Int) := ⟨T, Try.prog, lkF [], mkCuts 34 cuts34, altN, altN_ok⟩
theorem e34_0 (n : Nat) (x0 : List (Int × Int × Int × Int × Int × Int × Int × Bool × Bool × Int × Int × (List (Int)) × ByteArray × Int × Int × Bool × Int)) (x1 x2 x3 x4 x5 : Int) : stepF X34 8 34 (endK sr34 toB34) [1, 0, 1, 0, 98, 1, 0] sh34_0 n [.l [.int .i64, .int .i64, .int .u8, .int .i64, .int .i64, .int .i64, .int .i64, .bool, .bool, .int .i64, .int .i64, .sl [.int .i64], .str, .int .i64, .int .i64, .bool, .int .i64] x0, .i x1, .i x2, .i x3, .i x4, .i x5] = F34_c0 (n + 1) x0 x1 x2 x3 x4 x5 := by kernel_rfl
theorem e34 (n : Nat) (a0 : List (Int × Int × Int × Int × Int × Int × Int × Bool × Bool × Int × Int × (List (Int)) × ByteArray × Int × Int × Bool × Int)) (a1 a2 : Int) : entF X34 8 34 pa34 (endK sr34 toB34) n [.l [.int .i64, .int .i64, .int .u8, .int .i64, .int .i64, .int .i64, .int .i64, .bool, .bool, .int .i64, .int .i64, .sl [.int .i64], .str, .int .i64, .int .i64, .bool, .int .i64] a0, .i a1, .i a2] = F34 n a0 a1 a2 := by kernel_rfl
theorem c34_0 : CutOK X34 8 34 (endK sr34 toB34) [1, 0, 1, 0, 98, 1, 0] ⟨sh34_0, g34_0⟩ := by
  refine ⟨fun ls => ?_, fun n ls r h => ?_⟩
  · cases h : g34_0 0 ls with
    | none => exact h
    | some r =>
      unfold g34_0 at h; obtain ⟨x0, _, rfl, h1⟩ := gL_ok h; obtain ⟨x1, x2, x3, x4, _, rfl, h2⟩ := gI4_ok h1; obtain ⟨x5, _, rfl, h3⟩ := gI_ok h2; obtain ⟨rfl, h4⟩ := gE_ok h3; simp only [F34_c0] at h4; cases h4
  · replace h : g34_0 (n + 1) ls = some r := h
    unfold g34_0 at h
    obtain ⟨x0, _, rfl, h1⟩ := gL_ok h; obtain ⟨x1, x2, x3, x4, _, rfl, h2⟩ := gI4_ok h1; obtain ⟨x5, _, rfl, h3⟩ := gI_ok h2; obtain ⟨rfl, h4⟩ := gE_ok h3
    exact (e34_0 n x0 x1 x2 x3 x4 x5).trans h4
theorem sp34 {n : Nat} (a0 : List (Int × Int × Int × Int × Int × Int × Int × Bool × Bool × Int × Int × (List (Int)) × ByteArray × Int × Int × Bool × Int)) (a1 a2 : Int) {y : Int} (h : F34 n a0 a1 a2 = some y) : SpecF T Try.prog 34 pa34 [.l [.int .i64, .int .i64, .int .u8, .int .i64, .int .i64, .int .i64, .int .i64, .bool, .bool, .int .i64, .int .i64, .sl [.int .i64], .str, .int .i64, .int .i64, .bool, .int .i64] a0, .i a1, .i a2] sr34 (ofB34 y) :=
  fun_ok (X := X34) tok (sfok_of trivial) mixed 34 8 cuts34 rfl toB34_ok ⟨c34_0, trivial⟩ ((e34 n a0 a1 a2).trans h)
theorem ok34 {R : Type} : SFone T Try.prog 34 (run34 : SF R) := by
  intro ls K r h
  simp only [run34] at h
  obtain ⟨a0, _, rfl, h1⟩ := gL_ok h; obtain ⟨a1, _, rfl, h2⟩ := gI_ok h1; obtain ⟨a2, _, rfl, h3⟩ := gI_ok h2; obtain ⟨rfl, h4⟩ := gE_ok h3
  obtain ⟨y, k1, k2⟩ := Option.bind_eq_some_iff.1 h4
  exact ⟨_, k2, sp34 a0 a1 a2 k1⟩

/-! ### garland/msg.Own -/
def pa32 : List VP := [.agg [.i .u8, .i .i64, .i .i64, .i .i64, .i .i64, .b, .b, .i .i64, .i .i64, .sl false [.int .i64], .s, .i .i64, .i .i64, .b, .i .i64]]
def sr32 : RShape := ⟨.agg [.i .u8, .i .i64, .i .i64, .i .i64, .i .i64, .b, .b, .i .i64, .i .i64, .row 0, .s, .i .i64, .i .i64, .b, .i .i64], [.row true [.int .i64]], none⟩
def toB32 : List Leaf → Option (Si5b2i2si2bil) := gI (fun b0 => gI (fun b1 => gI (fun b2 => gI (fun b3 => gI (fun b4 => gB (fun b5 => gB (fun b6 => gI (fun b7 => gI (fun b8 => gS (fun b9 => gI (fun b10 => gI (fun b11 => gB (fun b12 => gI (fun b13 => gL [.int .i64] (fun b14 => gE (some ⟨b0, b1, b2, b3, b4, b5, b6, b7, b8, b9, b10, b11, b12, b13, b14⟩))))))))))))))))
def ofB32 (y : Si5b2i2si2bil) : List Leaf := [.i y.q0, .i y.q1, .i y.q2, .i y.q3, .i y.q4, .b y.q5, .b y.q6, .i y.q7, .i y.q8, .s y.q9, .i y.q10, .i y.q11, .b y.q12, .i y.q13, .l [.int .i64] y.q14]
theorem toB32_ok : ∀ ls b, toB32 ls = some b → ls = ofB32 b := by
  intro ls b h
  unfold toB32 at h
  obtain ⟨b0, b1, b2, b3, _, rfl, h1⟩ := gI4_ok h; obtain ⟨b4, _, rfl, h2⟩ := gI_ok h1; obtain ⟨b5, _, rfl, h3⟩ := gB_ok h2; obtain ⟨b6, _, rfl, h4⟩ := gB_ok h3; obtain ⟨b7, _, rfl, h5⟩ := gI_ok h4; obtain ⟨b8, _, rfl, h6⟩ := gI_ok h5; obtain ⟨b9, _, rfl, h7⟩ := gS_ok h6; obtain ⟨b10, _, rfl, h8⟩ := gI_ok h7; obtain ⟨b11, _, rfl, h9⟩ := gI_ok h8; obtain ⟨b12, _, rfl, h10⟩ := gB_ok h9; obtain ⟨b13, _, rfl, h11⟩ := gI_ok h10; obtain ⟨b14, _, rfl, h12⟩ := gL_ok h11; obtain ⟨rfl, h13⟩ := gE_ok h12
  cases h13; rfl
def run32 {R : Type} : SF R := ⟨pa32, sr32, fun ls K => (gI (fun a0 => gI (fun a1 => gI (fun a2 => gI (fun a3 => gI (fun a4 => gB (fun a5 => gB (fun a6 => gI (fun a7 => gI (fun a8 => gL [.int .i64] (fun a9 => gS (fun a10 => gI (fun a11 => gI (fun a12 => gB (fun a13 => gI (fun a14 => gE (Option.bind (F32 FUEL a0 a1 a2 a3 a4 a5 a6 a7 a8 a9 a10 a11 a12 a13 a14) fun y => K (ofB32 y)))))))))))))))))) ls⟩
def cuts32 : List (List Nat × Cut (Si5b2i2si2bil)) := []
noncomputable def X32 : Px (Si5b2i2si2bil) := ⟨T, Try.prog, lkF [], mkCuts 32 cuts32, altN, altN_ok⟩
theorem e32 (n : Nat) (a0 a1 a2 a3 a4 : Int) (a5 a6 : Bool) (a7 a8 : Int) (a9 : List (Int)) (a10 : ByteArray) (a11 a12 : Int) (a13 : Bool) (a14 : Int) : entF X32 8 32 pa32 (endK sr32 toB32) n [.i a0, .i a1, .i a2, .i a3, .i a4, .b a5, .b a6, .i a7, .i a8, .l [.int .i64] a9, .s a10, .i a11, .i a12, .b a13, .i a14] = F32 n a0 a1 a2 a3 a4 a5 a6 a7 a8 a9 a10 a11 a12 a13 a14 := by kernel_rfl
theorem sp32 {n : Nat} (a0 a1 a2 a3 a4 : Int) (a5 a6 : Bool) (a7 a8 : Int) (a9 : List (Int)) (a10 : ByteArray) (a11 a12 : Int) (a13 : Bool) (a14 : Int) {y : Si5b2i2si2bil} (h : F32 n a0 a1 a2 a3 a4 a5 a6 a7 a8 a9 a10 a11 a12 a13 a14 = some y) : SpecF T Try.prog 32 pa32 [.i a0, .i a1, .i a2, .i a3, .i a4, .b a5, .b a6, .i a7, .i a8, .l [.int .i64] a9, .s a10, .i a11, .i a12, .b a13, .i a14] sr32 (ofB32 y) :=
  fun_ok (X := X32) tok (sfok_of trivial) mixed 32 8 cuts32 rfl toB32_ok trivial ((e32 n a0 a1 a2 a3 a4 a5 a6 a7 a8 a9 a10 a11 a12 a13 a14).trans h)
theorem ok32 {R : Type} : SFone T Try.prog 32 (run32 : SF R) := by
  intro ls K r h
  simp only [run32] at h
  obtain ⟨a0, a1, a2, a3, _, rfl, h1⟩ := gI4_ok h; obtain ⟨a4, _, rfl, h2⟩ := gI_ok h1; obtain ⟨a5, _, rfl, h3⟩ := gB_ok h2; obtain ⟨a6, _, rfl, h4⟩ := gB_ok h3; obtain ⟨a7, _, rfl, h5⟩ := gI_ok h4; obtain ⟨a8, _, rfl, h6⟩ := gI_ok h5; obtain ⟨a9, _, rfl, h7⟩ := gL_ok h6; obtain ⟨a10, _, rfl, h8⟩ := gS_ok h7; obtain ⟨a11, _, rfl, h9⟩ := gI_ok h8; obtain ⟨a12, _, rfl, h10⟩ := gI_ok h9; obtain ⟨a13, _, rfl, h11⟩ := gB_ok h10; obtain ⟨a14, _, rfl, h12⟩ := gI_ok h11; obtain ⟨rfl, h13⟩ := gE_ok h12
  obtain ⟨y, k1, k2⟩ := Option.bind_eq_some_iff.1 h13
  exact ⟨_, k2, sp32 a0 a1 a2 a3 a4 a5 a6 a7 a8 a9 a10 a11 a12 a13 a14 k1⟩

/-! ### garland/seen.Find -/
def pa13 : List VP := [.sl false [.int .i64, .int .i64, .int .u8, .int .i64, .int .i64, .int .i64, .int .i64, .bool, .bool, .int .i64, .int .i64, .sl [.int .i64], .str, .int .i64, .int .i64, .bool, .int .i64], .i .i64, .i .i64]
def sr13 : RShape := ⟨.tup [.agg [.i .u8, .i .i64, .i .i64, .i .i64, .i .i64, .b, .b, .i .i64, .i .i64, .row 0, .s, .i .i64, .i .i64, .b, .i .i64], .b], [.row true [.int .i64]], none⟩
def toB13 : List Leaf → Option (Si5b2i2si2bibl) := gI (fun b0 => gI (fun b1 => gI (fun b2 => gI (fun b3 => gI (fun b4 => gB (fun b5 => gB (fun b6 => gI (fun b7 => gI (fun b8 => gS (fun b9 => gI (fun b10 => gI (fun b11 => gB (fun b12 => gI (fun b13 => gB (fun b14 => gL [.int .i64] (fun b15 => gE (some ⟨b0, b1, b2, b3, b4, b5, b6, b7, b8, b9, b10, b11, b12, b13, b14, b15⟩)))))))))))))))))
def ofB13 (y : Si5b2i2si2bibl) : List Leaf := [.i y.q0, .i y.q1, .i y.q2, .i y.q3, .i y.q4, .b y.q5, .b y.q6, .i y.q7, .i y.q8, .s y.q9, .i y.q10, .i y.q11, .b y.q12, .i y.q13, .b y.q14, .l [.int .i64] y.q15]
theorem toB13_ok : ∀ ls b, toB13 ls = some b → ls = ofB13 b := by
  intro ls b h
  unfold toB13 at h
  obtain ⟨b0, b1, b2, b3, _, rfl, h1⟩ := gI4_ok h; obtain ⟨b4, _, rfl, h2⟩ := gI_ok h1; obtain ⟨b5, _, rfl, h3⟩ := gB_ok h2; obtain ⟨b6, _, rfl, h4⟩ := gB_ok h3; obtain ⟨b7, _, rfl, h5⟩ := gI_ok h4; obtain ⟨b8, _, rfl, h6⟩ := gI_ok h5; obtain ⟨b9, _, rfl, h7⟩ := gS_ok h6; obtain ⟨b10, _, rfl, h8⟩ := gI_ok h7; obtain ⟨b11, _, rfl, h9⟩ := gI_ok h8; obtain ⟨b12, _, rfl, h10⟩ := gB_ok h9; obtain ⟨b13, _, rfl, h11⟩ := gI_ok h10; obtain ⟨b14, _, rfl, h12⟩ := gB_ok h11; obtain ⟨b15, _, rfl, h13⟩ := gL_ok h12; obtain ⟨rfl, h14⟩ := gE_ok h13
  cases h14; rfl
def run13 {R : Type} : SF R := ⟨pa13, sr13, fun ls K => (gL [.int .i64, .int .i64, .int .u8, .int .i64, .int .i64, .int .i64, .int .i64, .bool, .bool, .int .i64, .int .i64, .sl [.int .i64], .str, .int .i64, .int .i64, .bool, .int .i64] (fun a0 => gI (fun a1 => gI (fun a2 => gE (Option.bind (F13 FUEL a0 a1 a2) fun y => K (ofB13 y)))))) ls⟩
def cuts13 : List (List Nat × Cut (Si5b2i2si2bibl)) := []
noncomputable def X13 : Px (Si5b2i2si2bibl) := ⟨T, Try.prog, lkF [(35, run35), (34, run34), (32, run32)], mkCuts 13 cuts13, altN, altN_ok⟩
theorem e13 (n : Nat) (a0 : List (Int × Int × Int × Int × Int × Int × Int × Bool × Bool × Int × Int × (List (Int)) × ByteArray × Int × Int × Bool × Int)) (a1 a2 : Int) : entF X13 8 13 pa13 (endK sr13 toB13) n [.l [.int .i64, .int .i64, .int .u8, .int .i64, .int .i64, .int .i64, .int .i64, .bool, .bool, .int .i64, .int .i64, .sl [.int .i64], .str, .int .i64, .int .i64, .bool, .int .i64] a0, .i a1, .i a2] = F13 n a0 a1 a2 := by kernel_rfl
theorem sp13 {n : Nat} (a0 : List (Int × Int × Int × Int × Int × Int × Int × Bool × Bool × Int × Int × (List (Int)) × ByteArray × Int × Int × Bool × Int)) (a1 a2 : Int) {y : Si5b2i2si2bibl} (h : F13 n a0 a1 a2 = some y) : SpecF T Try.prog 13 pa13 [.l [.int .i64, .int .i64, .int .u8, .int .i64, .int .i64, .int .i64, .int .i64, .bool, .bool, .int .i64, .int .i64, .sl [.int .i64], .str, .int .i64, .int .i64, .bool, .int .i64] a0, .i a1, .i a2] sr13 (ofB13 y) :=
  fun_ok (X := X13) tok (sfok_of ⟨ok35, ok34, ok32, trivial⟩) mixed 13 8 cuts13 rfl toB13_ok trivial ((e13 n a0 a1 a2).trans h)
theorem ok13 {R : Type} : SFone T Try.prog 13 (run13 : SF R) := by
  intro ls K r h
  simp only [run13] at h
  obtain ⟨a0, _, rfl, h1⟩ := gL_ok h; obtain ⟨a1, _, rfl, h2⟩ := gI_ok h1; obtain ⟨a2, _, rfl, h3⟩ := gI_ok h2; obtain ⟨rfl, h4⟩ := gE_ok h3
  obtain ⟨y, k1, k2⟩ := Option.bind_eq_some_iff.1 h4
  exact ⟨_, k2, sp13 a0 a1 a2 k1⟩

/-! ### garland/garlandlaw11.ask -/
def pa29 : List VP := [.i .i64]
def sr29 : RShape := ⟨.agg [.i .u8, .i .i64, .i .i64, .i .i64, .i .i64, .b, .b, .i .i64, .i .i64, .nil, .s, .i .i64, .i .i64, .b, .i .i64], [], none⟩
def toB29 : List Leaf → Option (Si5b2i2si2bi) := gI (fun b0 => gI (fun b1 => gI (fun b2 => gI (fun b3 => gI (fun b4 => gB (fun b5 => gB (fun b6 => gI (fun b7 => gI (fun b8 => gS (fun b9 => gI (fun b10 => gI (fun b11 => gB (fun b12 => gI (fun b13 => gE (some ⟨b0, b1, b2, b3, b4, b5, b6, b7, b8, b9, b10, b11, b12, b13⟩)))))))))))))))
def ofB29 (y : Si5b2i2si2bi) : List Leaf := [.i y.q0, .i y.q1, .i y.q2, .i y.q3, .i y.q4, .b y.q5, .b y.q6, .i y.q7, .i y.q8, .s y.q9, .i y.q10, .i y.q11, .b y.q12, .i y.q13]
theorem toB29_ok : ∀ ls b, toB29 ls = some b → ls = ofB29 b := by
  intro ls b h
  unfold toB29 at h
  obtain ⟨b0, b1, b2, b3, _, rfl, h1⟩ := gI4_ok h; obtain ⟨b4, _, rfl, h2⟩ := gI_ok h1; obtain ⟨b5, _, rfl, h3⟩ := gB_ok h2; obtain ⟨b6, _, rfl, h4⟩ := gB_ok h3; obtain ⟨b7, _, rfl, h5⟩ := gI_ok h4; obtain ⟨b8, _, rfl, h6⟩ := gI_ok h5; obtain ⟨b9, _, rfl, h7⟩ := gS_ok h6; obtain ⟨b10, _, rfl, h8⟩ := gI_ok h7; obtain ⟨b11, _, rfl, h9⟩ := gI_ok h8; obtain ⟨b12, _, rfl, h10⟩ := gB_ok h9; obtain ⟨b13, _, rfl, h11⟩ := gI_ok h10; obtain ⟨rfl, h12⟩ := gE_ok h11
  cases h12; rfl
def run29 {R : Type} : SF R := ⟨pa29, sr29, fun ls K => (gI (fun a0 => gE (Option.bind (F29 FUEL a0) fun y => K (ofB29 y)))) ls⟩
def cuts29 : List (List Nat × Cut (Si5b2i2si2bi)) := []
noncomputable def X29 : Px (Si5b2i2si2bi) := ⟨T, Try.prog, lkF [], mkCuts 29 cuts29, altN, altN_ok⟩
theorem e29 (n : Nat) (a0 : Int) : entF X29 8 29 pa29 (endK sr29 toB29) n [.i a0] = F29 n a0 := by kernel_rfl
theorem sp29 {n : Nat} (a0 : Int) {y : Si5b2i2si2bi} (h : F29 n a0 = some y) : SpecF T Try.prog 29 pa29 [.i a0] sr29 (ofB29 y) :=
  fun_ok (X := X29) tok (sfok_of trivial) mixed 29 8 cuts29 rfl toB29_ok trivial ((e29 n a0).trans h)
theorem ok29 {R : Type} : SFone T Try.prog 29 (run29 : SF R) := by
  intro ls K r h
  simp only [run29] at h
  obtain ⟨a0, _, rfl, h1⟩ := gI_ok h; obtain ⟨rfl, h2⟩ := gE_ok h1
  obtain ⟨y, k1, k2⟩ := Option.bind_eq_some_iff.1 h2
  exact ⟨_, k2, sp29 a0 k1⟩

/-! ### garland/garlandref06.Asks -/
def pa26 : List VP := [.agg [.i .u8, .i .i64, .i .i64, .i .i64, .i .i64, .b, .b, .i .i64, .i .i64, .sl false [.int .i64], .s, .i .i64, .i .i64, .b, .i .i64]]
def sr26 : RShape := ⟨.b, [], none⟩
def toB26 : List Leaf → Option (Bool) := gB (fun b0 => gE (some b0))
def ofB26 (y : Bool) : List Leaf := [.b y]
theorem toB26_ok : ∀ ls b, toB26 ls = some b → ls = ofB26 b := by
  intro ls b h
  unfold toB26 at h
  obtain ⟨b0, _, rfl, h1⟩ := gB_ok h; obtain ⟨rfl, h2⟩ := gE_ok h1
  cases h2; rfl
def run26 {R : Type} : SF R := ⟨pa26, sr26, fun ls K => (gI (fun a0 => gI (fun a1 => gI (fun a2 => gI (fun a3 => gI (fun a4 => gB (fun a5 => gB (fun a6 => gI (fun a7 => gI (fun a8 => gL [.int .i64] (fun a9 => gS (fun a10 => gI (fun a11 => gI (fun a12 => gB (fun a13 => gI (fun a14 => gE (Option.bind (F26 FUEL a0 a1 a2 a3 a4 a5 a6 a7 a8 a9 a10 a11 a12 a13 a14) fun y => K (ofB26 y)))))))))))))))))) ls⟩
def cuts26 : List (List Nat × Cut (Bool)) := []
noncomputable def X26 : Px (Bool) := ⟨T, Try.prog, lkF [], mkCuts 26 cuts26, altN, altN_ok⟩
theorem e26 (n : Nat) (a0 a1 a2 a3 a4 : Int) (a5 a6 : Bool) (a7 a8 : Int) (a9 : List (Int)) (a10 : ByteArray) (a11 a12 : Int) (a13 : Bool) (a14 : Int) : entF X26 8 26 pa26 (endK sr26 toB26) n [.i a0, .i a1, .i a2, .i a3, .i a4, .b a5, .b a6, .i a7, .i a8, .l [.int .i64] a9, .s a10, .i a11, .i a12, .b a13, .i a14] = F26 n a0 a1 a2 a3 a4 a5 a6 a7 a8 a9 a10 a11 a12 a13 a14 := by kernel_rfl
theorem sp26 {n : Nat} (a0 a1 a2 a3 a4 : Int) (a5 a6 : Bool) (a7 a8 : Int) (a9 : List (Int)) (a10 : ByteArray) (a11 a12 : Int) (a13 : Bool) (a14 : Int) {y : Bool} (h : F26 n a0 a1 a2 a3 a4 a5 a6 a7 a8 a9 a10 a11 a12 a13 a14 = some y) : SpecF T Try.prog 26 pa26 [.i a0, .i a1, .i a2, .i a3, .i a4, .b a5, .b a6, .i a7, .i a8, .l [.int .i64] a9, .s a10, .i a11, .i a12, .b a13, .i a14] sr26 (ofB26 y) :=
  fun_ok (X := X26) tok (sfok_of trivial) mixed 26 8 cuts26 rfl toB26_ok trivial ((e26 n a0 a1 a2 a3 a4 a5 a6 a7 a8 a9 a10 a11 a12 a13 a14).trans h)
theorem ok26 {R : Type} : SFone T Try.prog 26 (run26 : SF R) := by
  intro ls K r h
  simp only [run26] at h
  obtain ⟨a0, a1, a2, a3, _, rfl, h1⟩ := gI4_ok h; obtain ⟨a4, _, rfl, h2⟩ := gI_ok h1; obtain ⟨a5, _, rfl, h3⟩ := gB_ok h2; obtain ⟨a6, _, rfl, h4⟩ := gB_ok h3; obtain ⟨a7, _, rfl, h5⟩ := gI_ok h4; obtain ⟨a8, _, rfl, h6⟩ := gI_ok h5; obtain ⟨a9, _, rfl, h7⟩ := gL_ok h6; obtain ⟨a10, _, rfl, h8⟩ := gS_ok h7; obtain ⟨a11, _, rfl, h9⟩ := gI_ok h8; obtain ⟨a12, _, rfl, h10⟩ := gI_ok h9; obtain ⟨a13, _, rfl, h11⟩ := gB_ok h10; obtain ⟨a14, _, rfl, h12⟩ := gI_ok h11; obtain ⟨rfl, h13⟩ := gE_ok h12
  obtain ⟨y, k1, k2⟩ := Option.bind_eq_some_iff.1 h13
  exact ⟨_, k2, sp26 a0 a1 a2 a3 a4 a5 a6 a7 a8 a9 a10 a11 a12 a13 a14 k1⟩

/-! ### garland/garlandref06.Tell -/
def pa27 : List VP := [.agg [.i .u8, .i .i64, .i .i64, .i .i64, .i .i64, .b, .b, .i .i64, .i .i64, .sl false [.int .i64], .s, .i .i64, .i .i64, .b, .i .i64]]
def sr27 : RShape := ⟨.agg [.i .u8, .i .i64, .i .i64, .i .i64, .i .i64, .b, .b, .i .i64, .i .i64, .nil, .s, .i .i64, .i .i64, .b, .i .i64], [], none⟩
def toB27 : List Leaf → Option (Si5b2i2si2bi) := gI (fun b0 => gI (fun b1 => gI (fun b2 => gI (fun b3 => gI (fun b4 => gB (fun b5 => gB (fun b6 => gI (fun b7 => gI (fun b8 => gS (fun b9 => gI (fun b10 => gI (fun b11 => gB (fun b12 => gI (fun b13 => gE (some ⟨b0, b1, b2, b3, b4, b5, b6, b7, b8, b9, b10, b11, b12, b13⟩)))))))))))))))
def ofB27 (y : Si5b2i2si2bi) : List Leaf := [.i y.q0, .i y.q1, .i y.q2, .i y.q3, .i y.q4, .b y.q5, .b y.q6, .i y.q7, .i y.q8, .s y.q9, .i y.q10, .i y.q11, .b y.q12, .i y.q13]
theorem toB27_ok : ∀ ls b, toB27 ls = some b → ls = ofB27 b := by
  intro ls b h
  unfold toB27 at h
  obtain ⟨b0, b1, b2, b3, _, rfl, h1⟩ := gI4_ok h; obtain ⟨b4, _, rfl, h2⟩ := gI_ok h1; obtain ⟨b5, _, rfl, h3⟩ := gB_ok h2; obtain ⟨b6, _, rfl, h4⟩ := gB_ok h3; obtain ⟨b7, _, rfl, h5⟩ := gI_ok h4; obtain ⟨b8, _, rfl, h6⟩ := gI_ok h5; obtain ⟨b9, _, rfl, h7⟩ := gS_ok h6; obtain ⟨b10, _, rfl, h8⟩ := gI_ok h7; obtain ⟨b11, _, rfl, h9⟩ := gI_ok h8; obtain ⟨b12, _, rfl, h10⟩ := gB_ok h9; obtain ⟨b13, _, rfl, h11⟩ := gI_ok h10; obtain ⟨rfl, h12⟩ := gE_ok h11
  cases h12; rfl
def run27 {R : Type} : SF R := ⟨pa27, sr27, fun ls K => (gI (fun a0 => gI (fun a1 => gI (fun a2 => gI (fun a3 => gI (fun a4 => gB (fun a5 => gB (fun a6 => gI (fun a7 => gI (fun a8 => gL [.int .i64] (fun a9 => gS (fun a10 => gI (fun a11 => gI (fun a12 => gB (fun a13 => gI (fun a14 => gE (Option.bind (F27 FUEL a0 a1 a2 a3 a4 a5 a6 a7 a8 a9 a10 a11 a12 a13 a14) fun y => K (ofB27 y)))))))))))))))))) ls⟩
def cuts27 : List (List Nat × Cut (Si5b2i2si2bi)) := []
noncomputable def X27 : Px (Si5b2i2si2bi) := ⟨T, Try.prog, lkF [(26, run26)], mkCuts 27 cuts27, altN, altN_ok⟩
theorem e27 (n : Nat) (a0 a1 a2 a3 a4 : Int) (a5 a6 : Bool) (a7 a8 : Int) (a9 : List (Int)) (a10 : ByteArray) (a11 a12 : Int) (a13 : Bool) (a14 : Int) : entF X27 8 27 pa27 (endK sr27 toB27) n [.i a0, .i a1, .i a2, .i a3, .i a4, .b a5, .b a6, .i a7, .i a8, .l [.int .i64] a9, .s a10, .i a11, .i a12, .b a13, .i a14] = F27 n a0 a1 a2 a3 a4 a5 a6 a7 a8 a9 a10 a11 a12 a13 a14 := by kernel_rfl
theorem sp27 {n : Nat} (a0 a1 a2 a3 a4 : Int) (a5 a6 : Bool) (a7 a8 : Int) (a9 : List (Int)) (a10 : ByteArray) (a11 a12 : Int) (a13 : Bool) (a14 : Int) {y : Si5b2i2si2bi} (h : F27 n a0 a1 a2 a3 a4 a5 a6 a7 a8 a9 a10 a11 a12 a13 a14 = some y) : SpecF T Try.prog 27 pa27 [.i a0, .i a1, .i a2, .i a3, .i a4, .b a5, .b a6, .i a7, .i a8, .l [.int .i64] a9, .s a10, .i a11, .i a12, .b a13, .i a14] sr27 (ofB27 y) :=
  fun_ok (X := X27) tok (sfok_of ⟨ok26, trivial⟩) mixed 27 8 cuts27 rfl toB27_ok trivial ((e27 n a0 a1 a2 a3 a4 a5 a6 a7 a8 a9 a10 a11 a12 a13 a14).trans h)
theorem ok27 {R : Type} : SFone T Try.prog 27 (run27 : SF R) := by
  intro ls K r h
  simp only [run27] at h
  obtain ⟨a0, a1, a2, a3, _, rfl, h1⟩ := gI4_ok h; obtain ⟨a4, _, rfl, h2⟩ := gI_ok h1; obtain ⟨a5, _, rfl, h3⟩ := gB_ok h2; obtain ⟨a6, _, rfl, h4⟩ := gB_ok h3; obtain ⟨a7, _, rfl, h5⟩ := gI_ok h4; obtain ⟨a8, _, rfl, h6⟩ := gI_ok h5; obtain ⟨a9, _, rfl, h7⟩ := gL_ok h6; obtain ⟨a10, _, rfl, h8⟩ := gS_ok h7; obtain ⟨a11, _, rfl, h9⟩ := gI_ok h8; obtain ⟨a12, _, rfl, h10⟩ := gI_ok h9; obtain ⟨a13, _, rfl, h11⟩ := gB_ok h10; obtain ⟨a14, _, rfl, h12⟩ := gI_ok h11; obtain ⟨rfl, h13⟩ := gE_ok h12
  obtain ⟨y, k1, k2⟩ := Option.bind_eq_some_iff.1 h13
  exact ⟨_, k2, sp27 a0 a1 a2 a3 a4 a5 a6 a7 a8 a9 a10 a11 a12 a13 a14 k1⟩

/-! ### garland/seen.Own -/
def pa24 : List VP := [.sl false [.int .i64, .int .i64, .int .u8, .int .i64, .int .i64, .int .i64, .int .i64, .bool, .bool, .int .i64, .int .i64, .sl [.int .i64], .str, .int .i64, .int .i64, .bool, .int .i64]]
def sr24 : RShape := ⟨.row 0, [.row true [.int .i64, .int .i64, .int .u8, .int .i64, .int .i64, .int .i64, .int .i64, .bool, .bool, .int .i64, .int .i64, .sl [.int .i64], .str, .int .i64, .int .i64, .bool, .int .i64]], none⟩
def toB24 : List Leaf → Option ((List (Int × Int × Int × Int × Int × Int × Int × Bool × Bool × Int × Int × (List (Int)) × ByteArray × Int × Int × Bool × Int))) := gL [.int .i64, .int .i64, .int .u8, .int .i64, .int .i64, .int .i64, .int .i64, .bool, .bool, .int .i64, .int .i64, .sl [.int .i64], .str, .int .i64, .int .i64, .bool, .int .i64] (fun b0 => gE (some b0))
def ofB24 (y : (List (Int × Int × Int × Int × Int × Int × Int × Bool × Bool × Int × Int × (List (Int)) × ByteArray × Int × Int × Bool × Int))) : List Leaf := [.l [.int .i64, .int .i64, .int .u8, .int .i64, .int .i64, .int .i64, .int .i64, .bool, .bool, .int .i64, .int .i64, .sl [.int .i64], .str, .int .i64, .int .i64, .bool, .int .i64] y]
theorem toB24_ok : ∀ ls b, toB24 ls = some b → ls = ofB24 b := by
  intro ls b h
  unfold toB24 at h
  obtain ⟨b0, _, rfl, h1⟩ := gL_ok h; obtain ⟨rfl, h2⟩ := gE_ok h1
  cases h2; rfl
def run24 {R : Type} : SF R := ⟨pa24, sr24, fun ls K => (gL [.int .i64, .int .i64, .int .u8, .int .i64, .int .i64, .int .i64, .int .i64, .bool, .bool, .int .i64, .int .i64, .sl [.int .i64], .str, .int .i64, .int .i64, .bool, .int .i64] (fun a0 => gE (Option.bind (F24 FUEL a0) fun y => K (ofB24 y)))) ls⟩
def sh24_0 : Shape := ⟨[(18, [(0, .yield 6), (5, .sl false [.int .i64, .int .i64, .int .u8, .int .i64, .int .i64, .int .i64, .int .i64, .bool, .bool, .int .i64, .int .i64, .sl [.int .i64], .str, .int .i64, .int .i64, .bool, .int .i64]), (6, .i .i64), (7, .i .i64)]), (19, [(3, .ref 0 0)])], [.cells [.row 1], .row true [.int .i64, .int .i64, .int .u8, .int .i64, .int .i64, .int .i64, .int .i64, .bool, .bool, .int .i64, .int .i64, .sl [.int .i64], .str, .int .i64, .int .i64, .bool, .int .i64]]⟩
def g24_0 (n : Nat) : List Leaf → Option ((List (Int × Int × Int × Int × Int × Int × Int × Bool × Bool × Int × Int × (List (Int)) × ByteArray × Int × Int × Bool × Int))) := gL [.int .i64, .int .i64, .int .u8, .int .i64, .int .i64, .int .i64, .int .i64, .bool, .bool, .int .i64, .int .i64, .sl [.int .i64], .str, .int .i64, .int .i64, .bool, .int .i64] (fun x0 => gI (fun x1 => gI (fun x2 => gL [.int .i64, .int .i64, .int .u8, .int .i64, .int .i64, .int .i64, .int .i64, .bool, .bool, .int .i64, .int .i64, .sl [.int .i64], .str, .int .i64, .int .i64, .bool, .int .i64] (fun x3 => gE (F24_c0 n x0 x1 x2 x3)))))
def cuts24 : List (List Nat × Cut ((List (Int × Int × Int × Int × Int × Int × Int × Bool × Bool × Int × Int × (List (Int)) × ByteArray × Int × Int × Bool × Int)))) := [([1, 1, 0, 1, 0, 98, 1, 0], ⟨sh24_0, g24_0⟩)]
noncomputable def X24 : Px ((List (Int × Int × Int × Int × Int × Int × Int × Bool × Bool × Int × Int × (List (Int)) × ByteArray × Int × Int × Bool × Int))) := ⟨T, Try.prog, lkF [(32, run32)], mkCuts 24 cuts24, altN, altN_ok⟩
theorem e24_0 (n : Nat) (x0 : List (Int × Int × Int × Int × Int × Int × Int × Bool × Bool × Int × Int × (List (Int)) × ByteArray × Int × Int × Bool × Int)) (x1 x2 : Int) (x3 : List (Int × Int × Int × Int × Int × Int × Int × Bool × Bool × Int × Int × (List (Int)) × ByteArray × Int × Int × Bool × Int)) : stepF X24 8 24 (endK sr24 toB24) [1, 1, 0, 1, 0, 98, 1, 0] sh24_0 n [.l [.int .i64, .int .i64, .int .u8, .int .i64, .int .i64, .int .i64, .int .i64, .bool, .bool, .int .i64, .int .i64, .sl [.int .i64], .str, .int .i64, .int .i64, .bool, .int .i64] x0, .i x1, .i x2, .l [.int .i64, .int .i64, .int .u8, .int .i64, .int .i64, .int .i64, .int .i64, .bool, .bool, .int .i64, .int .i64, .sl [.int .i64], .str, .int .i64, .int .i64, .bool, .int .i64] x3] = F24_c0 (n + 1) x0 x1 x2 x3 := by kernel_rfl
theorem e24 (n : Nat) (a0 : List (Int × Int × Int × Int × Int × Int × Int × Bool × Bool × Int × Int × (List (Int)) × ByteArray × Int × Int × Bool × Int)) : entF X24 8 24 pa24 (endK sr24 toB24) n [.l [.int .i64, .int .i64, .int .u8, .int .i64, .int .i64, .int .i64, .int .i64, .bool, .bool, .int .i64, .int .i64, .sl [.int .i64], .str, .int .i64, .int .i64, .bool, .int .i64] a0] = F24 n a0 := by kernel_rfl
theorem c24_0 : CutOK X24 8 24 (endK sr24 toB24) [1, 1, 0, 1, 0, 98, 1, 0] ⟨sh24_0, g24_0⟩ := by
  refine ⟨fun ls => ?_, fun n ls r h => ?_⟩
  · cases h : g24_0 0 ls with
    | none => exact h
    | some r =>
      unfold g24_0 at h; obtain ⟨x0, _, rfl, h1⟩ := gL_ok h; obtain ⟨x1, _, rfl, h2⟩ := gI_ok h1; obtain ⟨x2, _, rfl, h3⟩ := gI_ok h2; obtain ⟨x3, _, rfl, h4⟩ := gL_ok h3; obtain ⟨rfl, h5⟩ := gE_ok h4; simp only [F24_c0] at h5; cases h5
  · replace h : g24_0 (n + 1) ls = some r := h
    unfold g24_0 at h
    obtain ⟨x0, _, rfl, h1⟩ := gL_ok h; obtain ⟨x1, _, rfl, h2⟩ := gI_ok h1; obtain ⟨x2, _, rfl, h3⟩ := gI_ok h2; obtain ⟨x3, _, rfl, h4⟩ := gL_ok h3; obtain ⟨rfl, h5⟩ := gE_ok h4
    exact (e24_0 n x0 x1 x2 x3).trans h5
theorem sp24 {n : Nat} (a0 : List (Int × Int × Int × Int × Int × Int × Int × Bool × Bool × Int × Int × (List (Int)) × ByteArray × Int × Int × Bool × Int)) {y : (List (Int × Int × Int × Int × Int × Int × Int × Bool × Bool × Int × Int × (List (Int)) × ByteArray × Int × Int × Bool × Int))} (h : F24 n a0 = some y) : SpecF T Try.prog 24 pa24 [.l [.int .i64, .int .i64, .int .u8, .int .i64, .int .i64, .int .i64, .int .i64, .bool, .bool, .int .i64, .int .i64, .sl [.int .i64], .str, .int .i64, .int .i64, .bool, .int .i64] a0] sr24 (ofB24 y) :=
  fun_ok (X := X24) tok (sfok_of ⟨ok32, trivial⟩) mixed 24 8 cuts24 rfl toB24_ok ⟨c24_0, trivial⟩ ((e24 n a0).trans h)
theorem ok24 {R : Type} : SFone T Try.prog 24 (run24 : SF R) := by
  intro ls K r h
  simp only [run24] at h
  obtain ⟨a0, _, rfl, h1⟩ := gL_ok h; obtain ⟨rfl, h2⟩ := gE_ok h1
  obtain ⟨y, k1, k2⟩ := Option.bind_eq_some_iff.1 h2
  exact ⟨_, k2, sp24 a0 k1⟩

/-! ### garland/msg.isKey -/
def pa54 : List VP := [.s]
def sr54 : RShape := ⟨.b, [], none⟩
def toB54 : List Leaf → Option (Bool) := gB (fun b0 => gE (some b0))
def ofB54 (y : Bool) : List Leaf := [.b y]
theorem toB54_ok : ∀ ls b, toB54 ls = some b → ls = ofB54 b := by
  intro ls b h
  unfold toB54 at h
  obtain ⟨b0, _, rfl, h1⟩ := gB_ok h; obtain ⟨rfl, h2⟩ := gE_ok h1
  cases h2; rfl
def run54 {R : Type} : SF R := ⟨pa54, sr54, fun ls K => (gS (fun a0 => gE (Option.bind (F54 FUEL a0) fun y => K (ofB54 y)))) ls⟩
def cuts54 : List (List Nat × Cut (Bool)) := []
noncomputable def X54 : Px (Bool) := ⟨T, Try.prog, lkF [], mkCuts 54 cuts54, altN, altN_ok⟩
theorem e54 (n : Nat) (a0 : ByteArray) : entF X54 8 54 pa54 (endK sr54 toB54) n [.s a0] = F54 n a0 := by kernel_rfl
theorem sp54 {n : Nat} (a0 : ByteArray) {y : Bool} (h : F54 n a0 = some y) : SpecF T Try.prog 54 pa54 [.s a0] sr54 (ofB54 y) :=
  fun_ok (X := X54) tok (sfok_of trivial) mixed 54 8 cuts54 rfl toB54_ok trivial ((e54 n a0).trans h)
theorem ok54 {R : Type} : SFone T Try.prog 54 (run54 : SF R) := by
  intro ls K r h
  simp only [run54] at h
  obtain ⟨a0, _, rfl, h1⟩ := gS_ok h; obtain ⟨rfl, h2⟩ := gE_ok h1
  obtain ⟨y, k1, k2⟩ := Option.bind_eq_some_iff.1 h2
  exact ⟨_, k2, sp54 a0 k1⟩

/-! ### garland/msg.isValue -/
def pa57 : List VP := [.i .i64]
def sr57 : RShape := ⟨.b, [], none⟩
def toB57 : List Leaf → Option (Bool) := gB (fun b0 => gE (some b0))
def ofB57 (y : Bool) : List Leaf := [.b y]
theorem toB57_ok : ∀ ls b, toB57 ls = some b → ls = ofB57 b := by
  intro ls b h
  unfold toB57 at h
  obtain ⟨b0, _, rfl, h1⟩ := gB_ok h; obtain ⟨rfl, h2⟩ := gE_ok h1
  cases h2; rfl
def run57 {R : Type} : SF R := ⟨pa57, sr57, fun ls K => (gI (fun a0 => gE (Option.bind (F57 FUEL a0) fun y => K (ofB57 y)))) ls⟩
def cuts57 : List (List Nat × Cut (Bool)) := []
noncomputable def X57 : Px (Bool) := ⟨T, Try.prog, lkF [], mkCuts 57 cuts57, altN, altN_ok⟩
theorem e57 (n : Nat) (a0 : Int) : entF X57 8 57 pa57 (endK sr57 toB57) n [.i a0] = F57 n a0 := by kernel_rfl
theorem sp57 {n : Nat} (a0 : Int) {y : Bool} (h : F57 n a0 = some y) : SpecF T Try.prog 57 pa57 [.i a0] sr57 (ofB57 y) :=
  fun_ok (X := X57) tok (sfok_of trivial) mixed 57 8 cuts57 rfl toB57_ok trivial ((e57 n a0).trans h)
theorem ok57 {R : Type} : SFone T Try.prog 57 (run57 : SF R) := by
  intro ls K r h
  simp only [run57] at h
  obtain ⟨a0, _, rfl, h1⟩ := gI_ok h; obtain ⟨rfl, h2⟩ := gE_ok h1
  obtain ⟨y, k1, k2⟩ := Option.bind_eq_some_iff.1 h2
  exact ⟨_, k2, sp57 a0 k1⟩

/-! ### garland/msg.Pair -/
def pa53 : List VP := [.agg [.s, .i .i64, .i .i64, .b]]
def sr53 : RShape := ⟨.b, [], none⟩
def toB53 : List Leaf → Option (Bool) := gB (fun b0 => gE (some b0))
def ofB53 (y : Bool) : List Leaf := [.b y]
theorem toB53_ok : ∀ ls b, toB53 ls = some b → ls = ofB53 b := by
  intro ls b h
  unfold toB53 at h
  obtain ⟨b0, _, rfl, h1⟩ := gB_ok h; obtain ⟨rfl, h2⟩ := gE_ok h1
  cases h2; rfl
def run53 {R : Type} : SF R := ⟨pa53, sr53, fun ls K => (gS (fun a0 => gI (fun a1 => gI (fun a2 => gB (fun a3 => gE (Option.bind (F53 FUEL a0 a1 a2 a3) fun y => K (ofB53 y))))))) ls⟩
def cuts53 : List (List Nat × Cut (Bool)) := []
noncomputable def X53 : Px (Bool) := ⟨T, Try.prog, lkF [(54, run54), (57, run57)], mkCuts 53 cuts53, altN, altN_ok⟩
theorem e53 (n : Nat) (a0 : ByteArray) (a1 a2 : Int) (a3 : Bool) : entF X53 8 53 pa53 (endK sr53 toB53) n [.s a0, .i a1, .i a2, .b a3] = F53 n a0 a1 a2 a3 := by kernel_rfl
theorem sp53 {n : Nat} (a0 : ByteArray) (a1 a2 : Int) (a3 : Bool) {y : Bool} (h : F53 n a0 a1 a2 a3 = some y) : SpecF T Try.prog 53 pa53 [.s a0, .i a1, .i a2, .b a3] sr53 (ofB53 y) :=
  fun_ok (X := X53) tok (sfok_of ⟨ok54, ok57, trivial⟩) mixed 53 8 cuts53 rfl toB53_ok trivial ((e53 n a0 a1 a2 a3).trans h)
theorem ok53 {R : Type} : SFone T Try.prog 53 (run53 : SF R) := by
  intro ls K r h
  simp only [run53] at h
  obtain ⟨a0, _, rfl, h1⟩ := gS_ok h; obtain ⟨a1, _, rfl, h2⟩ := gI_ok h1; obtain ⟨a2, _, rfl, h3⟩ := gI_ok h2; obtain ⟨a3, _, rfl, h4⟩ := gB_ok h3; obtain ⟨rfl, h5⟩ := gE_ok h4
  obtain ⟨y, k1, k2⟩ := Option.bind_eq_some_iff.1 h5
  exact ⟨_, k2, sp53 a0 a1 a2 a3 k1⟩

/-! ### slices.Index[[]int,int] -/
def pa59 : List VP := [.sl false [.int .i64], .i .i64]
def sr59 : RShape := ⟨.i .i64, [], none⟩
def toB59 : List Leaf → Option (Int) := gI (fun b0 => gE (some b0))
def ofB59 (y : Int) : List Leaf := [.i y]
theorem toB59_ok : ∀ ls b, toB59 ls = some b → ls = ofB59 b := by
  intro ls b h
  unfold toB59 at h
  obtain ⟨b0, _, rfl, h1⟩ := gI_ok h; obtain ⟨rfl, h2⟩ := gE_ok h1
  cases h2; rfl
def run59 {R : Type} : SF R := ⟨pa59, sr59, fun ls K => (gL [.int .i64] (fun a0 => gI (fun a1 => gE (Option.bind (F59 FUEL a0 a1) fun y => K (ofB59 y))))) ls⟩
def sh59_0 : Shape := ⟨[(19, [(0, .sl false [.int .i64]), (1, .i .i64), (7, .i .i64), (8, .i .i64)])], []⟩
def g59_0 (n : Nat) : List Leaf → Option (Int) := gL [.int .i64] (fun x0 => gI (fun x1 => gI (fun x2 => gI (fun x3 => gE (F59_c0 n x0 x1 x2 x3)))))
def cuts59 : List (List Nat × Cut (Int)) := [([1, 0, 1, 0], ⟨sh59_0, g59_0⟩)]
noncomputable def X59 : Px (Int) := ⟨T, Try.prog, lkF [], mkCuts 59 cuts59, altN, altN_ok⟩
theorem e59_0 (n : Nat) (x0 : List (Int)) (x1 x2 x3 : Int) : stepF X59 8 59 (endK sr59 toB59) [1, 0, 1, 0] sh59_0 n [.l [.int .i64] x0, .i x1, .i x2, .i x3] = F59_c0 (n + 1) x0 x1 x2 x3 := by kernel_rfl
theorem e59 (n : Nat) (a0 : List (Int)) (a1 : Int) : entF X59 8 59 pa59 (endK sr59 toB59) n [.l [.int .i64] a0, .i a1] = F59 n a0 a1 := by kernel_rfl
theorem c59_0 : CutOK X59 8 59 (endK sr59 toB59) [1, 0, 1, 0] ⟨sh59_0, g59_0⟩ := by
  refine ⟨fun ls => ?_, fun n ls r h => ?_⟩
  · cases h : g59_0 0 ls with
    | none => exact h
    | some r =>
      unfold g59_0 at h; obtain ⟨x0, _, rfl, h1⟩ := gL_ok h; obtain ⟨x1, _, rfl, h2⟩ := gI_ok h1; obtain ⟨x2, _, rfl, h3⟩ := gI_ok h2; obtain ⟨x3, _, rfl, h4⟩ := gI_ok h3; obtain ⟨rfl, h5⟩ := gE_ok h4; simp only [F59_c0] at h5; cases h5
  · replace h : g59_0 (n + 1) ls = some r := h
    unfold g59_0 at h
    obtain ⟨x0, _, rfl, h1⟩ := gL_ok h; obtain ⟨x1, _, rfl, h2⟩ := gI_ok h1; obtain ⟨x2, _, rfl, h3⟩ := gI_ok h2; obtain ⟨x3, _, rfl, h4⟩ := gI_ok h3; obtain ⟨rfl, h5⟩ := gE_ok h4
    exact (e59_0 n x0 x1 x2 x3).trans h5
theorem sp59 {n : Nat} (a0 : List (Int)) (a1 : Int) {y : Int} (h : F59 n a0 a1 = some y) : SpecF T Try.prog 59 pa59 [.l [.int .i64] a0, .i a1] sr59 (ofB59 y) :=
  fun_ok (X := X59) tok (sfok_of trivial) mixed 59 8 cuts59 rfl toB59_ok ⟨c59_0, trivial⟩ ((e59 n a0 a1).trans h)
theorem ok59 {R : Type} : SFone T Try.prog 59 (run59 : SF R) := by
  intro ls K r h
  simp only [run59] at h
  obtain ⟨a0, _, rfl, h1⟩ := gL_ok h; obtain ⟨a1, _, rfl, h2⟩ := gI_ok h1; obtain ⟨rfl, h3⟩ := gE_ok h2
  obtain ⟨y, k1, k2⟩ := Option.bind_eq_some_iff.1 h3
  exact ⟨_, k2, sp59 a0 a1 k1⟩

/-! ### slices.Contains[[]int,int] -/
def pa58 : List VP := [.sl false [.int .i64], .i .i64]
def sr58 : RShape := ⟨.b, [], none⟩
def toB58 : List Leaf → Option (Bool) := gB (fun b0 => gE (some b0))
def ofB58 (y : Bool) : List Leaf := [.b y]
theorem toB58_ok : ∀ ls b, toB58 ls = some b → ls = ofB58 b := by
  intro ls b h
  unfold toB58 at h
  obtain ⟨b0, _, rfl, h1⟩ := gB_ok h; obtain ⟨rfl, h2⟩ := gE_ok h1
  cases h2; rfl
def run58 {R : Type} : SF R := ⟨pa58, sr58, fun ls K => (gL [.int .i64] (fun a0 => gI (fun a1 => gE (Option.bind (F58 FUEL a0 a1) fun y => K (ofB58 y))))) ls⟩
def cuts58 : List (List Nat × Cut (Bool)) := []
noncomputable def X58 : Px (Bool) := ⟨T, Try.prog, lkF [(59, run59)], mkCuts 58 cuts58, altN, altN_ok⟩
theorem e58 (n : Nat) (a0 : List (Int)) (a1 : Int) : entF X58 8 58 pa58 (endK sr58 toB58) n [.l [.int .i64] a0, .i a1] = F58 n a0 a1 := by kernel_rfl
theorem sp58 {n : Nat} (a0 : List (Int)) (a1 : Int) {y : Bool} (h : F58 n a0 a1 = some y) : SpecF T Try.prog 58 pa58 [.l [.int .i64] a0, .i a1] sr58 (ofB58 y) :=
  fun_ok (X := X58) tok (sfok_of ⟨ok59, trivial⟩) mixed 58 8 cuts58 rfl toB58_ok trivial ((e58 n a0 a1).trans h)
theorem ok58 {R : Type} : SFone T Try.prog 58 (run58 : SF R) := by
  intro ls K r h
  simp only [run58] at h
  obtain ⟨a0, _, rfl, h1⟩ := gL_ok h; obtain ⟨a1, _, rfl, h2⟩ := gI_ok h1; obtain ⟨rfl, h3⟩ := gE_ok h2
  obtain ⟨y, k1, k2⟩ := Option.bind_eq_some_iff.1 h3
  exact ⟨_, k2, sp58 a0 a1 k1⟩

/-! ### garland/msg.apart -/
def pa55 : List VP := [.i .i64, .sl false [.int .i64]]
def sr55 : RShape := ⟨.b, [], none⟩
def toB55 : List Leaf → Option (Bool) := gB (fun b0 => gE (some b0))
def ofB55 (y : Bool) : List Leaf := [.b y]
theorem toB55_ok : ∀ ls b, toB55 ls = some b → ls = ofB55 b := by
  intro ls b h
  unfold toB55 at h
  obtain ⟨b0, _, rfl, h1⟩ := gB_ok h; obtain ⟨rfl, h2⟩ := gE_ok h1
  cases h2; rfl
def run55 {R : Type} : SF R := ⟨pa55, sr55, fun ls K => (gI (fun a0 => gL [.int .i64] (fun a1 => gE (Option.bind (F55 FUEL a0 a1) fun y => K (ofB55 y))))) ls⟩
def sh55_0 : Shape := ⟨[(25, [(0, .i .i64), (1, .sl false [.int .i64]), (7, .sl false [.int .i64]), (8, .i .i64), (9, .i .i64)])], []⟩
def g55_0 (n : Nat) : List Leaf → Option (Bool) := gI (fun x0 => gL [.int .i64] (fun x1 => gL [.int .i64] (fun x2 => gI (fun x3 => gI (fun x4 => gE (F55_c0 n x0 x1 x2 x3 x4))))))
def cuts55 : List (List Nat × Cut (Bool)) := [([1, 0, 1, 0], ⟨sh55_0, g55_0⟩)]
noncomputable def X55 : Px (Bool) := ⟨T, Try.prog, lkF [(58, run58)], mkCuts 55 cuts55, altN, altN_ok⟩
theorem e55_0 (n : Nat) (x0 : Int) (x1 x2 : List (Int)) (x3 x4 : Int) : stepF X55 8 55 (endK sr55 toB55) [1, 0, 1, 0] sh55_0 n [.i x0, .l [.int .i64] x1, .l [.int .i64] x2, .i x3, .i x4] = F55_c0 (n + 1) x0 x1 x2 x3 x4 := by kernel_rfl
theorem e55 (n : Nat) (a0 : Int) (a1 : List (Int)) : entF X55 8 55 pa55 (endK sr55 toB55) n [.i a0, .l [.int .i64] a1] = F55 n a0 a1 := by kernel_rfl
theorem c55_0 : CutOK X55 8 55 (endK sr55 toB55) [1, 0, 1, 0] ⟨sh55_0, g55_0⟩ := by
  refine ⟨fun ls => ?_, fun n ls r h => ?_⟩
  · cases h : g55_0 0 ls with
    | none => exact h
    | some r =>
      unfold g55_0 at h; obtain ⟨x0, _, rfl, h1⟩ := gI_ok h; obtain ⟨x1, _, rfl, h2⟩ := gL_ok h1; obtain ⟨x2, _, rfl, h3⟩ := gL_ok h2; obtain ⟨x3, _, rfl, h4⟩ := gI_ok h3; obtain ⟨x4, _, rfl, h5⟩ := gI_ok h4; obtain ⟨rfl, h6⟩ := gE_ok h5; simp only [F55_c0] at h6; cases h6
  · replace h : g55_0 (n + 1) ls = some r := h
    unfold g55_0 at h
    obtain ⟨x0, _, rfl, h1⟩ := gI_ok h; obtain ⟨x1, _, rfl, h2⟩ := gL_ok h1; obtain ⟨x2, _, rfl, h3⟩ := gL_ok h2; obtain ⟨x3, _, rfl, h4⟩ := gI_ok h3; obtain ⟨x4, _, rfl, h5⟩ := gI_ok h4; obtain ⟨rfl, h6⟩ := gE_ok h5
    exact (e55_0 n x0 x1 x2 x3 x4).trans h6
theorem sp55 {n : Nat} (a0 : Int) (a1 : List (Int)) {y : Bool} (h : F55 n a0 a1 = some y) : SpecF T Try.prog 55 pa55 [.i a0, .l [.int .i64] a1] sr55 (ofB55 y) :=
  fun_ok (X := X55) tok (sfok_of ⟨ok58, trivial⟩) mixed 55 8 cuts55 rfl toB55_ok ⟨c55_0, trivial⟩ ((e55 n a0 a1).trans h)
theorem ok55 {R : Type} : SFone T Try.prog 55 (run55 : SF R) := by
  intro ls K r h
  simp only [run55] at h
  obtain ⟨a0, _, rfl, h1⟩ := gI_ok h; obtain ⟨a1, _, rfl, h2⟩ := gL_ok h1; obtain ⟨rfl, h3⟩ := gE_ok h2
  obtain ⟨y, k1, k2⟩ := Option.bind_eq_some_iff.1 h3
  exact ⟨_, k2, sp55 a0 a1 k1⟩

/-! ### garland/msg.holds -/
def pa42 : List VP := [.agg [.i .u8, .i .i64, .i .i64, .i .i64, .i .i64, .b, .b, .i .i64, .i .i64, .sl false [.int .i64], .s, .i .i64, .i .i64, .b, .i .i64]]
def sr42 : RShape := ⟨.b, [], none⟩
def toB42 : List Leaf → Option (Bool) := gB (fun b0 => gE (some b0))
def ofB42 (y : Bool) : List Leaf := [.b y]
theorem toB42_ok : ∀ ls b, toB42 ls = some b → ls = ofB42 b := by
  intro ls b h
  unfold toB42 at h
  obtain ⟨b0, _, rfl, h1⟩ := gB_ok h; obtain ⟨rfl, h2⟩ := gE_ok h1
  cases h2; rfl
def run42 {R : Type} : SF R := ⟨pa42, sr42, fun ls K => (gI (fun a0 => gI (fun a1 => gI (fun a2 => gI (fun a3 => gI (fun a4 => gB (fun a5 => gB (fun a6 => gI (fun a7 => gI (fun a8 => gL [.int .i64] (fun a9 => gS (fun a10 => gI (fun a11 => gI (fun a12 => gB (fun a13 => gI (fun a14 => gE (Option.bind (F42 FUEL a0 a1 a2 a3 a4 a5 a6 a7 a8 a9 a10 a11 a12 a13 a14) fun y => K (ofB42 y)))))))))))))))))) ls⟩
def cuts42 : List (List Nat × Cut (Bool)) := []
noncomputable def X42 : Px (Bool) := ⟨T, Try.prog, lkF [(53, run53), (54, run54), (55, run55)], mkCuts 42 cuts42, altN, altN_ok⟩
theorem e42 (n : Nat) (a0 a1 a2 a3 a4 : Int) (a5 a6 : Bool) (a7 a8 : Int) (a9 : List (Int)) (a10 : ByteArray) (a11 a12 : Int) (a13 : Bool) (a14 : Int) : entF X42 8 42 pa42 (endK sr42 toB42) n [.i a0, .i a1, .i a2, .i a3, .i a4, .b a5, .b a6, .i a7, .i a8, .l [.int .i64] a9, .s a10, .i a11, .i a12, .b a13, .i a14] = F42 n a0 a1 a2 a3 a4 a5 a6 a7 a8 a9 a10 a11 a12 a13 a14 := by kernel_rfl
theorem sp42 {n : Nat} (a0 a1 a2 a3 a4 : Int) (a5 a6 : Bool) (a7 a8 : Int) (a9 : List (Int)) (a10 : ByteArray) (a11 a12 : Int) (a13 : Bool) (a14 : Int) {y : Bool} (h : F42 n a0 a1 a2 a3 a4 a5 a6 a7 a8 a9 a10 a11 a12 a13 a14 = some y) : SpecF T Try.prog 42 pa42 [.i a0, .i a1, .i a2, .i a3, .i a4, .b a5, .b a6, .i a7, .i a8, .l [.int .i64] a9, .s a10, .i a11, .i a12, .b a13, .i a14] sr42 (ofB42 y) :=
  fun_ok (X := X42) tok (sfok_of ⟨ok53, ok54, ok55, trivial⟩) mixed 42 8 cuts42 rfl toB42_ok trivial ((e42 n a0 a1 a2 a3 a4 a5 a6 a7 a8 a9 a10 a11 a12 a13 a14).trans h)
theorem ok42 {R : Type} : SFone T Try.prog 42 (run42 : SF R) := by
  intro ls K r h
  simp only [run42] at h
  obtain ⟨a0, a1, a2, a3, _, rfl, h1⟩ := gI4_ok h; obtain ⟨a4, _, rfl, h2⟩ := gI_ok h1; obtain ⟨a5, _, rfl, h3⟩ := gB_ok h2; obtain ⟨a6, _, rfl, h4⟩ := gB_ok h3; obtain ⟨a7, _, rfl, h5⟩ := gI_ok h4; obtain ⟨a8, _, rfl, h6⟩ := gI_ok h5; obtain ⟨a9, _, rfl, h7⟩ := gL_ok h6; obtain ⟨a10, _, rfl, h8⟩ := gS_ok h7; obtain ⟨a11, _, rfl, h9⟩ := gI_ok h8; obtain ⟨a12, _, rfl, h10⟩ := gI_ok h9; obtain ⟨a13, _, rfl, h11⟩ := gB_ok h10; obtain ⟨a14, _, rfl, h12⟩ := gI_ok h11; obtain ⟨rfl, h13⟩ := gE_ok h12
  obtain ⟨y, k1, k2⟩ := Option.bind_eq_some_iff.1 h13
  exact ⟨_, k2, sp42 a0 a1 a2 a3 a4 a5 a6 a7 a8 a9 a10 a11 a12 a13 a14 k1⟩

/-! ### garland/msg.isPlace -/
def pa44 : List VP := [.i .i64]
def sr44 : RShape := ⟨.b, [], none⟩
def toB44 : List Leaf → Option (Bool) := gB (fun b0 => gE (some b0))
def ofB44 (y : Bool) : List Leaf := [.b y]
theorem toB44_ok : ∀ ls b, toB44 ls = some b → ls = ofB44 b := by
  intro ls b h
  unfold toB44 at h
  obtain ⟨b0, _, rfl, h1⟩ := gB_ok h; obtain ⟨rfl, h2⟩ := gE_ok h1
  cases h2; rfl
def run44 {R : Type} : SF R := ⟨pa44, sr44, fun ls K => (gI (fun a0 => gE (Option.bind (F44 FUEL a0) fun y => K (ofB44 y)))) ls⟩
def cuts44 : List (List Nat × Cut (Bool)) := []
noncomputable def X44 : Px (Bool) := ⟨T, Try.prog, lkF [], mkCuts 44 cuts44, altN, altN_ok⟩
theorem e44 (n : Nat) (a0 : Int) : entF X44 8 44 pa44 (endK sr44 toB44) n [.i a0] = F44 n a0 := by kernel_rfl
theorem sp44 {n : Nat} (a0 : Int) {y : Bool} (h : F44 n a0 = some y) : SpecF T Try.prog 44 pa44 [.i a0] sr44 (ofB44 y) :=
  fun_ok (X := X44) tok (sfok_of trivial) mixed 44 8 cuts44 rfl toB44_ok trivial ((e44 n a0).trans h)
theorem ok44 {R : Type} : SFone T Try.prog 44 (run44 : SF R) := by
  intro ls K r h
  simp only [run44] at h
  obtain ⟨a0, _, rfl, h1⟩ := gI_ok h; obtain ⟨rfl, h2⟩ := gE_ok h1
  obtain ⟨y, k1, k2⟩ := Option.bind_eq_some_iff.1 h2
  exact ⟨_, k2, sp44 a0 k1⟩

/-! ### garland/msg.Asks -/
def pa31 : List VP := [.agg [.i .u8, .i .i64, .i .i64, .i .i64, .i .i64, .b, .b, .i .i64, .i .i64, .sl false [.int .i64], .s, .i .i64, .i .i64, .b, .i .i64]]
def sr31 : RShape := ⟨.b, [], none⟩
def toB31 : List Leaf → Option (Bool) := gB (fun b0 => gE (some b0))
def ofB31 (y : Bool) : List Leaf := [.b y]
theorem toB31_ok : ∀ ls b, toB31 ls = some b → ls = ofB31 b := by
  intro ls b h
  unfold toB31 at h
  obtain ⟨b0, _, rfl, h1⟩ := gB_ok h; obtain ⟨rfl, h2⟩ := gE_ok h1
  cases h2; rfl
def run31 {R : Type} : SF R := ⟨pa31, sr31, fun ls K => (gI (fun a0 => gI (fun a1 => gI (fun a2 => gI (fun a3 => gI (fun a4 => gB (fun a5 => gB (fun a6 => gI (fun a7 => gI (fun a8 => gL [.int .i64] (fun a9 => gS (fun a10 => gI (fun a11 => gI (fun a12 => gB (fun a13 => gI (fun a14 => gE (Option.bind (F31 FUEL a0 a1 a2 a3 a4 a5 a6 a7 a8 a9 a10 a11 a12 a13 a14) fun y => K (ofB31 y)))))))))))))))))) ls⟩
def cuts31 : List (List Nat × Cut (Bool)) := []
noncomputable def X31 : Px (Bool) := ⟨T, Try.prog, lkF [], mkCuts 31 cuts31, altN, altN_ok⟩
theorem e31 (n : Nat) (a0 a1 a2 a3 a4 : Int) (a5 a6 : Bool) (a7 a8 : Int) (a9 : List (Int)) (a10 : ByteArray) (a11 a12 : Int) (a13 : Bool) (a14 : Int) : entF X31 8 31 pa31 (endK sr31 toB31) n [.i a0, .i a1, .i a2, .i a3, .i a4, .b a5, .b a6, .i a7, .i a8, .l [.int .i64] a9, .s a10, .i a11, .i a12, .b a13, .i a14] = F31 n a0 a1 a2 a3 a4 a5 a6 a7 a8 a9 a10 a11 a12 a13 a14 := by kernel_rfl
theorem sp31 {n : Nat} (a0 a1 a2 a3 a4 : Int) (a5 a6 : Bool) (a7 a8 : Int) (a9 : List (Int)) (a10 : ByteArray) (a11 a12 : Int) (a13 : Bool) (a14 : Int) {y : Bool} (h : F31 n a0 a1 a2 a3 a4 a5 a6 a7 a8 a9 a10 a11 a12 a13 a14 = some y) : SpecF T Try.prog 31 pa31 [.i a0, .i a1, .i a2, .i a3, .i a4, .b a5, .b a6, .i a7, .i a8, .l [.int .i64] a9, .s a10, .i a11, .i a12, .b a13, .i a14] sr31 (ofB31 y) :=
  fun_ok (X := X31) tok (sfok_of trivial) mixed 31 8 cuts31 rfl toB31_ok trivial ((e31 n a0 a1 a2 a3 a4 a5 a6 a7 a8 a9 a10 a11 a12 a13 a14).trans h)
theorem ok31 {R : Type} : SFone T Try.prog 31 (run31 : SF R) := by
  intro ls K r h
  simp only [run31] at h
  obtain ⟨a0, a1, a2, a3, _, rfl, h1⟩ := gI4_ok h; obtain ⟨a4, _, rfl, h2⟩ := gI_ok h1; obtain ⟨a5, _, rfl, h3⟩ := gB_ok h2; obtain ⟨a6, _, rfl, h4⟩ := gB_ok h3; obtain ⟨a7, _, rfl, h5⟩ := gI_ok h4; obtain ⟨a8, _, rfl, h6⟩ := gI_ok h5; obtain ⟨a9, _, rfl, h7⟩ := gL_ok h6; obtain ⟨a10, _, rfl, h8⟩ := gS_ok h7; obtain ⟨a11, _, rfl, h9⟩ := gI_ok h8; obtain ⟨a12, _, rfl, h10⟩ := gI_ok h9; obtain ⟨a13, _, rfl, h11⟩ := gB_ok h10; obtain ⟨a14, _, rfl, h12⟩ := gI_ok h11; obtain ⟨rfl, h13⟩ := gE_ok h12
  obtain ⟨y, k1, k2⟩ := Option.bind_eq_some_iff.1 h13
  exact ⟨_, k2, sp31 a0 a1 a2 a3 a4 a5 a6 a7 a8 a9 a10 a11 a12 a13 a14 k1⟩

/-! ### garland/msg.Asker -/
def pa46 : List VP := [.agg [.i .u8, .i .i64, .i .i64, .i .i64, .i .i64, .b, .b, .i .i64, .i .i64, .sl false [.int .i64], .s, .i .i64, .i .i64, .b, .i .i64]]
def sr46 : RShape := ⟨.i .i64, [], none⟩
def toB46 : List Leaf → Option (Int) := gI (fun b0 => gE (some b0))
def ofB46 (y : Int) : List Leaf := [.i y]
theorem toB46_ok : ∀ ls b, toB46 ls = some b → ls = ofB46 b := by
  intro ls b h
  unfold toB46 at h
  obtain ⟨b0, _, rfl, h1⟩ := gI_ok h; obtain ⟨rfl, h2⟩ := gE_ok h1
  cases h2; rfl
def run46 {R : Type} : SF R := ⟨pa46, sr46, fun ls K => (gI (fun a0 => gI (fun a1 => gI (fun a2 => gI (fun a3 => gI (fun a4 => gB (fun a5 => gB (fun a6 => gI (fun a7 => gI (fun a8 => gL [.int .i64] (fun a9 => gS (fun a10 => gI (fun a11 => gI (fun a12 => gB (fun a13 => gI (fun a14 => gE (Option.bind (F46 FUEL a0 a1 a2 a3 a4 a5 a6 a7 a8 a9 a10 a11 a12 a13 a14) fun y => K (ofB46 y)))))))))))))))))) ls⟩
def cuts46 : List (List Nat × Cut (Int)) := []
noncomputable def X46 : Px (Int) := ⟨T, Try.prog, lkF [(31, run31)], mkCuts 46 cuts46, altN, altN_ok⟩
theorem e46 (n : Nat) (a0 a1 a2 a3 a4 : Int) (a5 a6 : Bool) (a7 a8 : Int) (a9 : List (Int)) (a10 : ByteArray) (a11 a12 : Int) (a13 : Bool) (a14 : Int) : entF X46 8 46 pa46 (endK sr46 toB46) n [.i a0, .i a1, .i a2, .i a3, .i a4, .b a5, .b a6, .i a7, .i a8, .l [.int .i64] a9, .s a10, .i a11, .i a12, .b a13, .i a14] = F46 n a0 a1 a2 a3 a4 a5 a6 a7 a8 a9 a10 a11 a12 a13 a14 := by kernel_rfl
theorem sp46 {n : Nat} (a0 a1 a2 a3 a4 : Int) (a5 a6 : Bool) (a7 a8 : Int) (a9 : List (Int)) (a10 : ByteArray) (a11 a12 : Int) (a13 : Bool) (a14 : Int) {y : Int} (h : F46 n a0 a1 a2 a3 a4 a5 a6 a7 a8 a9 a10 a11 a12 a13 a14 = some y) : SpecF T Try.prog 46 pa46 [.i a0, .i a1, .i a2, .i a3, .i a4, .b a5, .b a6, .i a7, .i a8, .l [.int .i64] a9, .s a10, .i a11, .i a12, .b a13, .i a14] sr46 (ofB46 y) :=
  fun_ok (X := X46) tok (sfok_of ⟨ok31, trivial⟩) mixed 46 8 cuts46 rfl toB46_ok trivial ((e46 n a0 a1 a2 a3 a4 a5 a6 a7 a8 a9 a10 a11 a12 a13 a14).trans h)
theorem ok46 {R : Type} : SFone T Try.prog 46 (run46 : SF R) := by
  intro ls K r h
  simp only [run46] at h
  obtain ⟨a0, a1, a2, a3, _, rfl, h1⟩ := gI4_ok h; obtain ⟨a4, _, rfl, h2⟩ := gI_ok h1; obtain ⟨a5, _, rfl, h3⟩ := gB_ok h2; obtain ⟨a6, _, rfl, h4⟩ := gB_ok h3; obtain ⟨a7, _, rfl, h5⟩ := gI_ok h4; obtain ⟨a8, _, rfl, h6⟩ := gI_ok h5; obtain ⟨a9, _, rfl, h7⟩ := gL_ok h6; obtain ⟨a10, _, rfl, h8⟩ := gS_ok h7; obtain ⟨a11, _, rfl, h9⟩ := gI_ok h8; obtain ⟨a12, _, rfl, h10⟩ := gI_ok h9; obtain ⟨a13, _, rfl, h11⟩ := gB_ok h10; obtain ⟨a14, _, rfl, h12⟩ := gI_ok h11; obtain ⟨rfl, h13⟩ := gE_ok h12
  obtain ⟨y, k1, k2⟩ := Option.bind_eq_some_iff.1 h13
  exact ⟨_, k2, sp46 a0 a1 a2 a3 a4 a5 a6 a7 a8 a9 a10 a11 a12 a13 a14 k1⟩

/-! ### garland/msg.isCall -/
def pa45 : List VP := [.i .i64, .i .i64]
def sr45 : RShape := ⟨.b, [], none⟩
def toB45 : List Leaf → Option (Bool) := gB (fun b0 => gE (some b0))
def ofB45 (y : Bool) : List Leaf := [.b y]
theorem toB45_ok : ∀ ls b, toB45 ls = some b → ls = ofB45 b := by
  intro ls b h
  unfold toB45 at h
  obtain ⟨b0, _, rfl, h1⟩ := gB_ok h; obtain ⟨rfl, h2⟩ := gE_ok h1
  cases h2; rfl
def run45 {R : Type} : SF R := ⟨pa45, sr45, fun ls K => (gI (fun a0 => gI (fun a1 => gE (Option.bind (F45 FUEL a0 a1) fun y => K (ofB45 y))))) ls⟩
def cuts45 : List (List Nat × Cut (Bool)) := []
noncomputable def X45 : Px (Bool) := ⟨T, Try.prog, lkF [], mkCuts 45 cuts45, altN, altN_ok⟩
theorem e45 (n : Nat) (a0 a1 : Int) : entF X45 8 45 pa45 (endK sr45 toB45) n [.i a0, .i a1] = F45 n a0 a1 := by kernel_rfl
theorem sp45 {n : Nat} (a0 a1 : Int) {y : Bool} (h : F45 n a0 a1 = some y) : SpecF T Try.prog 45 pa45 [.i a0, .i a1] sr45 (ofB45 y) :=
  fun_ok (X := X45) tok (sfok_of trivial) mixed 45 8 cuts45 rfl toB45_ok trivial ((e45 n a0 a1).trans h)
theorem ok45 {R : Type} : SFone T Try.prog 45 (run45 : SF R) := by
  intro ls K r h
  simp only [run45] at h
  obtain ⟨a0, _, rfl, h1⟩ := gI_ok h; obtain ⟨a1, _, rfl, h2⟩ := gI_ok h1; obtain ⟨rfl, h3⟩ := gE_ok h2
  obtain ⟨y, k1, k2⟩ := Option.bind_eq_some_iff.1 h3
  exact ⟨_, k2, sp45 a0 a1 k1⟩

/-! ### garland/msg.beside -/
def pa47 : List VP := [.agg [.i .u8, .i .i64, .i .i64, .i .i64, .i .i64, .b, .b, .i .i64, .i .i64, .opq 0, .s, .i .i64, .i .i64, .b, .i .i64]]
def sr47 : RShape := ⟨.agg [.i .u8, .i .i64, .i .i64, .i .i64, .i .i64, .b, .b, .i .i64, .i .i64, .opq 0, .s, .i .i64, .i .i64, .b, .i .i64], [], some (.agg [.i .u8, .i .i64, .i .i64, .i .i64, .i .i64, .b, .b, .i .i64, .i .i64, .nil, .s, .i .i64, .i .i64, .b, .i .i64])⟩
def toB47 : List Leaf → Option (Sbi5b2i2si2bi) := gB (fun b0 => gI (fun b1 => gI (fun b2 => gI (fun b3 => gI (fun b4 => gI (fun b5 => gB (fun b6 => gB (fun b7 => gI (fun b8 => gI (fun b9 => gS (fun b10 => gI (fun b11 => gI (fun b12 => gB (fun b13 => gI (fun b14 => gE (some ⟨b0, b1, b2, b3, b4, b5, b6, b7, b8, b9, b10, b11, b12, b13, b14⟩))))))))))))))))
def ofB47 (y : Sbi5b2i2si2bi) : List Leaf := [.b y.q0, .i y.q1, .i y.q2, .i y.q3, .i y.q4, .i y.q5, .b y.q6, .b y.q7, .i y.q8, .i y.q9, .s y.q10, .i y.q11, .i y.q12, .b y.q13, .i y.q14]
theorem toB47_ok : ∀ ls b, toB47 ls = some b → ls = ofB47 b := by
  intro ls b h
  unfold toB47 at h
  obtain ⟨b0, _, rfl, h1⟩ := gB_ok h; obtain ⟨b1, b2, b3, b4, _, rfl, h2⟩ := gI4_ok h1; obtain ⟨b5, _, rfl, h3⟩ := gI_ok h2; obtain ⟨b6, _, rfl, h4⟩ := gB_ok h3; obtain ⟨b7, _, rfl, h5⟩ := gB_ok h4; obtain ⟨b8, _, rfl, h6⟩ := gI_ok h5; obtain ⟨b9, _, rfl, h7⟩ := gI_ok h6; obtain ⟨b10, _, rfl, h8⟩ := gS_ok h7; obtain ⟨b11, _, rfl, h9⟩ := gI_ok h8; obtain ⟨b12, _, rfl, h10⟩ := gI_ok h9; obtain ⟨b13, _, rfl, h11⟩ := gB_ok h10; obtain ⟨b14, _, rfl, h12⟩ := gI_ok h11; obtain ⟨rfl, h13⟩ := gE_ok h12
  cases h13; rfl
def run47 {R : Type} : SF R := ⟨pa47, sr47, fun ls K => (gI (fun a0 => gI (fun a1 => gI (fun a2 => gI (fun a3 => gI (fun a4 => gB (fun a5 => gB (fun a6 => gI (fun a7 => gI (fun a8 => gS (fun a9 => gI (fun a10 => gI (fun a11 => gB (fun a12 => gI (fun a13 => gE (Option.bind (F47 FUEL a0 a1 a2 a3 a4 a5 a6 a7 a8 a9 a10 a11 a12 a13) fun y => K (ofB47 y))))))))))))))))) ls⟩
def cuts47 : List (List Nat × Cut (Sbi5b2i2si2bi)) := []
noncomputable def X47 : Px (Sbi5b2i2si2bi) := ⟨T, Try.prog, lkF [], mkCuts 47 cuts47, altN, altN_ok⟩
theorem e47 (n : Nat) (a0 a1 a2 a3 a4 : Int) (a5 a6 : Bool) (a7 a8 : Int) (a9 : ByteArray) (a10 a11 : Int) (a12 : Bool) (a13 : Int) : entF X47 8 47 pa47 (endK sr47 toB47) n [.i a0, .i a1, .i a2, .i a3, .i a4, .b a5, .b a6, .i a7, .i a8, .s a9, .i a10, .i a11, .b a12, .i a13] = F47 n a0 a1 a2 a3 a4 a5 a6 a7 a8 a9 a10 a11 a12 a13 := by kernel_rfl
theorem sp47 {n : Nat} (a0 a1 a2 a3 a4 : Int) (a5 a6 : Bool) (a7 a8 : Int) (a9 : ByteArray) (a10 a11 : Int) (a12 : Bool) (a13 : Int) {y : Sbi5b2i2si2bi} (h : F47 n a0 a1 a2 a3 a4 a5 a6 a7 a8 a9 a10 a11 a12 a13 = some y) : SpecF T Try.prog 47 pa47 [.i a0, .i a1, .i a2, .i a3, .i a4, .b a5, .b a6, .i a7, .i a8, .s a9, .i a10, .i a11, .b a12, .i a13] sr47 (ofB47 y) :=
  fun_ok (X := X47) tok (sfok_of trivial) mixed 47 8 cuts47 rfl toB47_ok trivial ((e47 n a0 a1 a2 a3 a4 a5 a6 a7 a8 a9 a10 a11 a12 a13).trans h)
theorem ok47 {R : Type} : SFone T Try.prog 47 (run47 : SF R) := by
  intro ls K r h
  simp only [run47] at h
  obtain ⟨a0, a1, a2, a3, _, rfl, h1⟩ := gI4_ok h; obtain ⟨a4, _, rfl, h2⟩ := gI_ok h1; obtain ⟨a5, _, rfl, h3⟩ := gB_ok h2; obtain ⟨a6, _, rfl, h4⟩ := gB_ok h3; obtain ⟨a7, _, rfl, h5⟩ := gI_ok h4; obtain ⟨a8, _, rfl, h6⟩ := gI_ok h5; obtain ⟨a9, _, rfl, h7⟩ := gS_ok h6; obtain ⟨a10, _, rfl, h8⟩ := gI_ok h7; obtain ⟨a11, _, rfl, h9⟩ := gI_ok h8; obtain ⟨a12, _, rfl, h10⟩ := gB_ok h9; obtain ⟨a13, _, rfl, h11⟩ := gI_ok h10; obtain ⟨rfl, h12⟩ := gE_ok h11
  obtain ⟨y, k1, k2⟩ := Option.bind_eq_some_iff.1 h12
  exact ⟨_, k2, sp47 a0 a1 a2 a3 a4 a5 a6 a7 a8 a9 a10 a11 a12 a13 k1⟩

/-! ### slices.Equal[[]int,int] -/
def pa50 : List VP := [.sl false [.int .i64], .sl false [.int .i64]]
def sr50 : RShape := ⟨.b, [], none⟩
def toB50 : List Leaf → Option (Bool) := gB (fun b0 => gE (some b0))
def ofB50 (y : Bool) : List Leaf := [.b y]
theorem toB50_ok : ∀ ls b, toB50 ls = some b → ls = ofB50 b := by
  intro ls b h
  unfold toB50 at h
  obtain ⟨b0, _, rfl, h1⟩ := gB_ok h; obtain ⟨rfl, h2⟩ := gE_ok h1
  cases h2; rfl
def run50 {R : Type} : SF R := ⟨pa50, sr50, fun ls K => (gL [.int .i64] (fun a0 => gL [.int .i64] (fun a1 => gE (Option.bind (F50 FUEL a0 a1) fun y => K (ofB50 y))))) ls⟩
def sh50_0 : Shape := ⟨[(26, [(0, .sl false [.int .i64]), (1, .sl false [.int .i64]), (12, .i .i64), (13, .i .i64)])], []⟩
def g50_0 (n : Nat) : List Leaf → Option (Bool) := gL [.int .i64] (fun x0 => gL [.int .i64] (fun x1 => gI (fun x2 => gI (fun x3 => gE (F50_c0 n x0 x1 x2 x3)))))
def cuts50 : List (List Nat × Cut (Bool)) := [([1, 1, 0, 1, 0], ⟨sh50_0, g50_0⟩)]
noncomputable def X50 : Px (Bool) := ⟨T, Try.prog, lkF [], mkCuts 50 cuts50, altN, altN_ok⟩
theorem e50_0 (n : Nat) (x0 x1 : List (Int)) (x2 x3 : Int) : stepF X50 8 50 (endK sr50 toB50) [1, 1, 0, 1, 0] sh50_0 n [.l [.int .i64] x0, .l [.int .i64] x1, .i x2, .i x3] = F50_c0 (n + 1) x0 x1 x2 x3 := by kernel_rfl
theorem e50 (n : Nat) (a0 a1 : List (Int)) : entF X50 8 50 pa50 (endK sr50 toB50) n [.l [.int .i64] a0, .l [.int .i64] a1] = F50 n a0 a1 := by kernel_rfl
theorem c50_0 : CutOK X50 8 50 (endK sr50 toB50) [1, 1, 0, 1, 0] ⟨sh50_0, g50_0⟩ := by
  refine ⟨fun ls => ?_, fun n ls r h => ?_⟩
  · cases h : g50_0 0 ls with
    | none => exact h
    | some r =>
      unfold g50_0 at h; obtain ⟨x0, _, rfl, h1⟩ := gL_ok h; obtain ⟨x1, _, rfl, h2⟩ := gL_ok h1; obtain ⟨x2, _, rfl, h3⟩ := gI_ok h2; obtain ⟨x3, _, rfl, h4⟩ := gI_ok h3; obtain ⟨rfl, h5⟩ := gE_ok h4; simp only [F50_c0] at h5; cases h5
  · replace h : g50_0 (n + 1) ls = some r := h
    unfold g50_0 at h
    obtain ⟨x0, _, rfl, h1⟩ := gL_ok h; obtain ⟨x1, _, rfl, h2⟩ := gL_ok h1; obtain ⟨x2, _, rfl, h3⟩ := gI_ok h2; obtain ⟨x3, _, rfl, h4⟩ := gI_ok h3; obtain ⟨rfl, h5⟩ := gE_ok h4
    exact (e50_0 n x0 x1 x2 x3).trans h5
theorem sp50 {n : Nat} (a0 a1 : List (Int)) {y : Bool} (h : F50 n a0 a1 = some y) : SpecF T Try.prog 50 pa50 [.l [.int .i64] a0, .l [.int .i64] a1] sr50 (ofB50 y) :=
  fun_ok (X := X50) tok (sfok_of trivial) mixed 50 8 cuts50 rfl toB50_ok ⟨c50_0, trivial⟩ ((e50 n a0 a1).trans h)
theorem ok50 {R : Type} : SFone T Try.prog 50 (run50 : SF R) := by
  intro ls K r h
  simp only [run50] at h
  obtain ⟨a0, _, rfl, h1⟩ := gL_ok h; obtain ⟨a1, _, rfl, h2⟩ := gL_ok h1; obtain ⟨rfl, h3⟩ := gE_ok h2
  obtain ⟨y, k1, k2⟩ := Option.bind_eq_some_iff.1 h3
  exact ⟨_, k2, sp50 a0 a1 k1⟩

/-! ### garland/msg.Same -/
def pa37 : List VP := [.agg [.i .u8, .i .i64, .i .i64, .i .i64, .i .i64, .b, .b, .i .i64, .i .i64, .sl false [.int .i64], .s, .i .i64, .i .i64, .b, .i .i64], .agg [.i .u8, .i .i64, .i .i64, .i .i64, .i .i64, .b, .b, .i .i64, .i .i64, .sl false [.int .i64], .s, .i .i64, .i .i64, .b, .i .i64]]
def sr37 : RShape := ⟨.b, [], none⟩
def toB37 : List Leaf → Option (Bool) := gB (fun b0 => gE (some b0))
def ofB37 (y : Bool) : List Leaf := [.b y]
theorem toB37_ok : ∀ ls b, toB37 ls = some b → ls = ofB37 b := by
  intro ls b h
  unfold toB37 at h
  obtain ⟨b0, _, rfl, h1⟩ := gB_ok h; obtain ⟨rfl, h2⟩ := gE_ok h1
  cases h2; rfl
def run37 {R : Type} : SF R := ⟨pa37, sr37, fun ls K => (gI (fun a0 => gI (fun a1 => gI (fun a2 => gI (fun a3 => gI (fun a4 => gB (fun a5 => gB (fun a6 => gI (fun a7 => gI (fun a8 => gL [.int .i64] (fun a9 => gS (fun a10 => gI (fun a11 => gI (fun a12 => gB (fun a13 => gI (fun a14 => gI (fun a15 => gI (fun a16 => gI (fun a17 => gI (fun a18 => gI (fun a19 => gB (fun a20 => gB (fun a21 => gI (fun a22 => gI (fun a23 => gL [.int .i64] (fun a24 => gS (fun a25 => gI (fun a26 => gI (fun a27 => gB (fun a28 => gI (fun a29 => gE (Option.bind (F37 FUEL a0 a1 a2 a3 a4 a5 a6 a7 a8 a9 a10 a11 a12 a13 a14 a15 a16 a17 a18 a19 a20 a21 a22 a23 a24 a25 a26 a27 a28 a29) fun y => K (ofB37 y))))))))))))))))))))))))))))))))) ls⟩
def cuts37 : List (List Nat × Cut (Bool)) := []
noncomputable def X37 : Px (Bool) := ⟨T, Try.prog, lkF [(50, run50)], mkCuts 37 cuts37, altN, altN_ok⟩
theorem e37 (n : Nat) (a0 a1 a2 a3 a4 : Int) (a5 a6 : Bool) (a7 a8 : Int) (a9 : List (Int)) (a10 : ByteArray) (a11 a12 : Int) (a13 : Bool) (a14 a15 a16 a17 a18 a19 : Int) (a20 a21 : Bool) (a22 a23 : Int) (a24 : List (Int)) (a25 : ByteArray) (a26 a27 : Int) (a28 : Bool) (a29 : Int) : entF X37 8 37 pa37 (endK sr37 toB37) n [.i a0, .i a1, .i a2, .i a3, .i a4, .b a5, .b a6, .i a7, .i a8, .l [.int .i64] a9, .s a10, .i a11, .i a12, .b a13, .i a14, .i a15, .i a16, .i a17, .i a18, .i a19, .b a20, .b a21, .i a22, .i a23, .l [.int .i64] a24, .s a25, .i a26, .i a27, .b a28, .i a29] = F37 n a0 a1 a2 a3 a4 a5 a6 a7 a8 a9 a10 a11 a12 a13 a14 a15 a16 a17 a18 a19 a20 a21 a22 a23 a24 a25 a26 a27 a28 a29 := by kernel_rfl
theorem sp37 {n : Nat} (a0 a1 a2 a3 a4 : Int) (a5 a6 : Bool) (a7 a8 : Int) (a9 : List (Int)) (a10 : ByteArray) (a11 a12 : Int) (a13 : Bool) (a14 a15 a16 a17 a18 a19 : Int) (a20 a21 : Bool) (a22 a23 : Int) (a24 : List (Int)) (a25 : ByteArray) (a26 a27 : Int) (a28 : Bool) (a29 : Int) {y : Bool} (h : F37 n a0 a1 a2 a3 a4 a5 a6 a7 a8 a9 a10 a11 a12 a13 a14 a15 a16 a17 a18 a19 a20 a21 a22 a23 a24 a25 a26 a27 a28 a29 = some y) : SpecF T Try.prog 37 pa37 [.i a0, .i a1, .i a2, .i a3, .i a4, .b a5, .b a6, .i a7, .i a8, .l [.int .i64] a9, .s a10, .i a11, .i a12, .b a13, .i a14, .i a15, .i a16, .i a17, .i a18, .i a19, .b a20, .b a21, .i a22, .i a23, .l [.int .i64] a24, .s a25, .i a26, .i a27, .b a28, .i a29] sr37 (ofB37 y) :=
  fun_ok (X := X37) tok (sfok_of ⟨ok50, trivial⟩) mixed 37 8 cuts37 rfl toB37_ok trivial ((e37 n a0 a1 a2 a3 a4 a5 a6 a7 a8 a9 a10 a11 a12 a13 a14 a15 a16 a17 a18 a19 a20 a21 a22 a23 a24 a25 a26 a27 a28 a29).trans h)
theorem ok37 {R : Type} : SFone T Try.prog 37 (run37 : SF R) := by
  intro ls K r h
  simp only [run37] at h
  obtain ⟨a0, a1, a2, a3, _, rfl, h1⟩ := gI4_ok h; obtain ⟨a4, _, rfl, h2⟩ := gI_ok h1; obtain ⟨a5, _, rfl, h3⟩ := gB_ok h2; obtain ⟨a6, _, rfl, h4⟩ := gB_ok h3; obtain ⟨a7, _, rfl, h5⟩ := gI_ok h4; obtain ⟨a8, _, rfl, h6⟩ := gI_ok h5; obtain ⟨a9, _, rfl, h7⟩ := gL_ok h6; obtain ⟨a10, _, rfl, h8⟩ := gS_ok h7; obtain ⟨a11, _, rfl, h9⟩ := gI_ok h8; obtain ⟨a12, _, rfl, h10⟩ := gI_ok h9; obtain ⟨a13, _, rfl, h11⟩ := gB_ok h10; obtain ⟨a14, a15, a16, a17, _, rfl, h12⟩ := gI4_ok h11; obtain ⟨a18, _, rfl, h13⟩ := gI_ok h12; obtain ⟨a19, _, rfl, h14⟩ := gI_ok h13; obtain ⟨a20, _, rfl, h15⟩ := gB_ok h14; obtain ⟨a21, _, rfl, h16⟩ := gB_ok h15; obtain ⟨a22, _, rfl, h17⟩ := gI_ok h16; obtain ⟨a23, _, rfl, h18⟩ := gI_ok h17; obtain ⟨a24, _, rfl, h19⟩ := gL_ok h18; obtain ⟨a25, _, rfl, h20⟩ := gS_ok h19; obtain ⟨a26, _, rfl, h21⟩ := gI_ok h20; obtain ⟨a27, _, rfl, h22⟩ := gI_ok h21; obtain ⟨a28, _, rfl, h23⟩ := gB_ok h22; obtain ⟨a29, _, rfl, h24⟩ := gI_ok h23; obtain ⟨rfl, h25⟩ := gE_ok h24
  obtain ⟨y, k1, k2⟩ := Option.bind_eq_some_iff.1 h25
  exact ⟨_, k2, sp37 a0 a1 a2 a3 a4 a5 a6 a7 a8 a9 a10 a11 a12 a13 a14 a15 a16 a17 a18 a19 a20 a21 a22 a23 a24 a25 a26 a27 a28 a29 k1⟩

/-! ### garland/msg.Right -/
def pa30 : List VP := [.agg [.i .u8, .i .i64, .i .i64, .i .i64, .i .i64, .b, .b, .i .i64, .i .i64, .sl false [.int .i64], .s, .i .i64, .i .i64, .b, .i .i64]]
def sr30 : RShape := ⟨.b, [], none⟩
def toB30 : List Leaf → Option (Bool) := gB (fun b0 => gE (some b0))
def ofB30 (y : Bool) : List Leaf := [.b y]
theorem toB30_ok : ∀ ls b, toB30 ls = some b → ls = ofB30 b := by
  intro ls b h
  unfold toB30 at h
  obtain ⟨b0, _, rfl, h1⟩ := gB_ok h; obtain ⟨rfl, h2⟩ := gE_ok h1
  cases h2; rfl
def run30 {R : Type} : SF R := ⟨pa30, sr30, fun ls K => (gI (fun a0 => gI (fun a1 => gI (fun a2 => gI (fun a3 => gI (fun a4 => gB (fun a5 => gB (fun a6 => gI (fun a7 => gI (fun a8 => gL [.int .i64] (fun a9 => gS (fun a10 => gI (fun a11 => gI (fun a12 => gB (fun a13 => gI (fun a14 => gE (Option.bind (F30 FUEL a0 a1 a2 a3 a4 a5 a6 a7 a8 a9 a10 a11 a12 a13 a14) fun y => K (ofB30 y)))))))))))))))))) ls⟩
def sh30_0 : Shape := ⟨[(40, [])], []⟩
def g30_0 (n : Nat) : List Leaf → Option (Bool) := gE (F30_c0 n )
def sh30_1 : Shape := ⟨[(55, [(0, .yield 7), (44, .sl false [.int .i64]), (45, .i .i64), (46, .i .i64)]), (40, [(1, .ref 0 0)])], [.cells [.i .u8, .i .i64, .i .i64, .i .i64, .i .i64, .b, .b, .i .i64, .i .i64, .sl false [.int .i64], .s, .i .i64, .i .i64, .b, .i .i64]]⟩
def g30_1 (n : Nat) : List Leaf → Option (Bool) := gL [.int .i64] (fun x0 => gI (fun x1 => gI (fun x2 => gI (fun x3 => gI (fun x4 => gI (fun x5 => gI (fun x6 => gI (fun x7 => gB (fun x8 => gB (fun x9 => gI (fun x10 => gI (fun x11 => gL [.int .i64] (fun x12 => gS (fun x13 => gI (fun x14 => gI (fun x15 => gB (fun x16 => gI (fun x17 => gE (F30_c1 n x0 x1 x2 x3 x4 x5 x6 x7 x8 x9 x10 x11 x12 x13 x14 x15 x16 x17)))))))))))))))))))
def cuts30 : List (List Nat × Cut (Bool)) := [([1, 10], ⟨sh30_0, g30_0⟩), ([1, 0, 1, 0, 1, 0, 112, 1, 1, 0, 1, 1, 1, 1, 1, 0, 1, 1, 0], ⟨sh30_1, g30_1⟩)]
noncomputable def X30 : Px (Bool) := ⟨T, Try.prog, lkF [(42, run42), (44, run44), (46, run46), (45, run45), (47, run47), (37, run37)], mkCuts 30 cuts30, altN, altN_ok⟩
theorem e30_0 (n : Nat) : stepF X30 8 30 (endK sr30 toB30) [1, 10] sh30_0 n [] = F30_c0 (n + 1)  := by kernel_rfl
theorem e30_1 (n : Nat) (x0 : List (Int)) (x1 x2 x3 x4 x5 x6 x7 : Int) (x8 x9 : Bool) (x10 x11 : Int) (x12 : List (Int)) (x13 : ByteArray) (x14 x15 : Int) (x16 : Bool) (x17 : Int) : stepF X30 8 30 (endK sr30 toB30) [1, 0, 1, 0, 1, 0, 112, 1, 1, 0, 1, 1, 1, 1, 1, 0, 1, 1, 0] sh30_1 n [.l [.int .i64] x0, .i x1, .i x2, .i x3, .i x4, .i x5, .i x6, .i x7, .b x8, .b x9, .i x10, .i x11, .l [.int .i64] x12, .s x13, .i x14, .i x15, .b x16, .i x17] = F30_c1 (n + 1) x0 x1 x2 x3 x4 x5 x6 x7 x8 x9 x10 x11 x12 x13 x14 x15 x16 x17 := by kernel_rfl
theorem e30 (n : Nat) (a0 a1 a2 a3 a4 : Int) (a5 a6 : Bool) (a7 a8 : Int) (a9 : List (Int)) (a10 : ByteArray) (a11 a12 : Int) (a13 : Bool) (a14 : Int) : entF X30 8 30 pa30 (endK sr30 toB30) n [.i a0, .i a1, .i a2, .i a3, .i a4, .b a5, .b a6, .i a7, .i a8, .l [.int .i64] a9, .s a10, .i a11, .i a12, .b a13, .i a14] = F30 n a0 a1 a2 a3 a4 a5 a6 a7 a8 a9 a10 a11 a12 a13 a14 := by kernel_rfl
theorem c30_0 : CutOK X30 8 30 (endK sr30 toB30) [1, 10] ⟨sh30_0, g30_0⟩ := by
  refine ⟨fun ls => ?_, fun n ls r h => ?_⟩
  · cases h : g30_0 0 ls with
    | none => exact h
    | some r =>
      unfold g30_0 at h; obtain ⟨rfl, h1⟩ := gE_ok h; simp only [F30_c0] at h1; cases h1
  · replace h : g30_0 (n + 1) ls = some r := h
    unfold g30_0 at h
    obtain ⟨rfl, h1⟩ := gE_ok h
    exact (e30_0 n ).trans h1
theorem c30_1 : CutOK X30 8 30 (endK sr30 toB30) [1, 0, 1, 0, 1, 0, 112, 1, 1, 0, 1, 1, 1, 1, 1, 0, 1, 1, 0] ⟨sh30_1, g30_1⟩ := by
  refine ⟨fun ls => ?_, fun n ls r h => ?_⟩
  · cases h : g30_1 0 ls with
    | none => exact h
    | some r =>
      unfold g30_1 at h; obtain ⟨x0, _, rfl, h1⟩ := gL_ok h; obtain ⟨x1, x2, x3, x4, _, rfl, h2⟩ := gI4_ok h1; obtain ⟨x5, _, rfl, h3⟩ := gI_ok h2; obtain ⟨x6, _, rfl, h4⟩ := gI_ok h3; obtain ⟨x7, _, rfl, h5⟩ := gI_ok h4; obtain ⟨x8, _, rfl, h6⟩ := gB_ok h5; obtain ⟨x9, _, rfl, h7⟩ := gB_ok h6; obtain ⟨x10, _, rfl, h8⟩ := gI_ok h7; obtain ⟨x11, _, rfl, h9⟩ := gI_ok h8; obtain ⟨x12, _, rfl, h10⟩ := gL_ok h9; obtain ⟨x13, _, rfl, h11⟩ := gS_ok h10; obtain ⟨x14, _, rfl, h12⟩ := gI_ok h11; obtain ⟨x15, _, rfl, h13⟩ := gI_ok h12; obtain ⟨x16, _, rfl, h14⟩ := gB_ok h13; obtain ⟨x17, _, rfl, h15⟩ := gI_ok h14; obtain ⟨rfl, h16⟩ := gE_ok h15; simp only [F30_c1] at h16; cases h16
  · replace h : g30_1 (n + 1) ls = some r := h
    unfold g30_1 at h
    obtain ⟨x0, _, rfl, h1⟩ := gL_ok h; obtain ⟨x1, x2, x3, x4, _, rfl, h2⟩ := gI4_ok h1; obtain ⟨x5, _, rfl, h3⟩ := gI_ok h2; obtain ⟨x6, _, rfl, h4⟩ := gI_ok h3; obtain ⟨x7, _, rfl, h5⟩ := gI_ok h4; obtain ⟨x8, _, rfl, h6⟩ := gB_ok h5; obtain ⟨x9, _, rfl, h7⟩ := gB_ok h6; obtain ⟨x10, _, rfl, h8⟩ := gI_ok h7; obtain ⟨x11, _, rfl, h9⟩ := gI_ok h8; obtain ⟨x12, _, rfl, h10⟩ := gL_ok h9; obtain ⟨x13, _, rfl, h11⟩ := gS_ok h10; obtain ⟨x14, _, rfl, h12⟩ := gI_ok h11; obtain ⟨x15, _, rfl, h13⟩ := gI_ok h12; obtain ⟨x16, _, rfl, h14⟩ := gB_ok h13; obtain ⟨x17, _, rfl, h15⟩ := gI_ok h14; obtain ⟨rfl, h16⟩ := gE_ok h15
    exact (e30_1 n x0 x1 x2 x3 x4 x5 x6 x7 x8 x9 x10 x11 x12 x13 x14 x15 x16 x17).trans h16
theorem sp30 {n : Nat} (a0 a1 a2 a3 a4 : Int) (a5 a6 : Bool) (a7 a8 : Int) (a9 : List (Int)) (a10 : ByteArray) (a11 a12 : Int) (a13 : Bool) (a14 : Int) {y : Bool} (h : F30 n a0 a1 a2 a3 a4 a5 a6 a7 a8 a9 a10 a11 a12 a13 a14 = some y) : SpecF T Try.prog 30 pa30 [.i a0, .i a1, .i a2, .i a3, .i a4, .b a5, .b a6, .i a7, .i a8, .l [.int .i64] a9, .s a10, .i a11, .i a12, .b a13, .i a14] sr30 (ofB30 y) :=
  fun_ok (X := X30) tok (sfok_of ⟨ok42, ok44, ok46, ok45, ok47, ok37, trivial⟩) mixed 30 8 cuts30 rfl toB30_ok ⟨c30_0, c30_1, trivial⟩ ((e30 n a0 a1 a2 a3 a4 a5 a6 a7 a8 a9 a10 a11 a12 a13 a14).trans h)
theorem ok30 {R : Type} : SFone T Try.prog 30 (run30 : SF R) := by
  intro ls K r h
  simp only [run30] at h
  obtain ⟨a0, a1, a2, a3, _, rfl, h1⟩ := gI4_ok h; obtain ⟨a4, _, rfl, h2⟩ := gI_ok h1; obtain ⟨a5, _, rfl, h3⟩ := gB_ok h2; obtain ⟨a6, _, rfl, h4⟩ := gB_ok h3; obtain ⟨a7, _, rfl, h5⟩ := gI_ok h4; obtain ⟨a8, _, rfl, h6⟩ := gI_ok h5; obtain ⟨a9, _, rfl, h7⟩ := gL_ok h6; obtain ⟨a10, _, rfl, h8⟩ := gS_ok h7; obtain ⟨a11, _, rfl, h9⟩ := gI_ok h8; obtain ⟨a12, _, rfl, h10⟩ := gI_ok h9; obtain ⟨a13, _, rfl, h11⟩ := gB_ok h10; obtain ⟨a14, _, rfl, h12⟩ := gI_ok h11; obtain ⟨rfl, h13⟩ := gE_ok h12
  obtain ⟨y, k1, k2⟩ := Option.bind_eq_some_iff.1 h13
  exact ⟨_, k2, sp30 a0 a1 a2 a3 a4 a5 a6 a7 a8 a9 a10 a11 a12 a13 a14 k1⟩

/-! ### garland/seen.Of -/
def pa11 : List VP := [.agg [.i .u8, .i .i64, .i .i64, .i .i64, .i .i64, .b, .b, .i .i64, .i .i64, .sl false [.int .i64], .s, .i .i64, .i .i64, .b, .i .i64]]
def sr11 : RShape := ⟨.tup [.agg [.i .i64, .i .i64, .i .u8, .i .i64, .i .i64, .i .i64, .i .i64, .b, .b, .i .i64, .i .i64, .sl true [.int .i64], .s, .i .i64, .i .i64, .b, .i .i64], .i .i64], [], none⟩
def toB11 : List Leaf → Option (Si7b2i2lsi2bi2) := gI (fun b0 => gI (fun b1 => gI (fun b2 => gI (fun b3 => gI (fun b4 => gI (fun b5 => gI (fun b6 => gB (fun b7 => gB (fun b8 => gI (fun b9 => gI (fun b10 => gL [.int .i64] (fun b11 => gS (fun b12 => gI (fun b13 => gI (fun b14 => gB (fun b15 => gI (fun b16 => gI (fun b17 => gE (some ⟨b0, b1, b2, b3, b4, b5, b6, b7, b8, b9, b10, b11, b12, b13, b14, b15, b16, b17⟩)))))))))))))))))))
def ofB11 (y : Si7b2i2lsi2bi2) : List Leaf := [.i y.q0, .i y.q1, .i y.q2, .i y.q3, .i y.q4, .i y.q5, .i y.q6, .b y.q7, .b y.q8, .i y.q9, .i y.q10, .l [.int .i64] y.q11, .s y.q12, .i y.q13, .i y.q14, .b y.q15, .i y.q16, .i y.q17]
theorem toB11_ok : ∀ ls b, toB11 ls = some b → ls = ofB11 b := by
  intro ls b h
  unfold toB11 at h
  obtain ⟨b0, b1, b2, b3, _, rfl, h1⟩ := gI4_ok h; obtain ⟨b4, _, rfl, h2⟩ := gI_ok h1; obtain ⟨b5, _, rfl, h3⟩ := gI_ok h2; obtain ⟨b6, _, rfl, h4⟩ := gI_ok h3; obtain ⟨b7, _, rfl, h5⟩ := gB_ok h4; obtain ⟨b8, _, rfl, h6⟩ := gB_ok h5; obtain ⟨b9, _, rfl, h7⟩ := gI_ok h6; obtain ⟨b10, _, rfl, h8⟩ := gI_ok h7; obtain ⟨b11, _, rfl, h9⟩ := gL_ok h8; obtain ⟨b12, _, rfl, h10⟩ := gS_ok h9; obtain ⟨b13, _, rfl, h11⟩ := gI_ok h10; obtain ⟨b14, _, rfl, h12⟩ := gI_ok h11; obtain ⟨b15, _, rfl, h13⟩ := gB_ok h12; obtain ⟨b16, _, rfl, h14⟩ := gI_ok h13; obtain ⟨b17, _, rfl, h15⟩ := gI_ok h14; obtain ⟨rfl, h16⟩ := gE_ok h15
  cases h16; rfl
def run11 {R : Type} : SF R := ⟨pa11, sr11, fun ls K => (gI (fun a0 => gI (fun a1 => gI (fun a2 => gI (fun a3 => gI (fun a4 => gB (fun a5 => gB (fun a6 => gI (fun a7 => gI (fun a8 => gL [.int .i64] (fun a9 => gS (fun a10 => gI (fun a11 => gI (fun a12 => gB (fun a13 => gI (fun a14 => gE (Option.bind (F11 FUEL a0 a1 a2 a3 a4 a5 a6 a7 a8 a9 a10 a11 a12 a13 a14) fun y => K (ofB11 y)))))))))))))))))) ls⟩
def cuts11 : List (List Nat × Cut (Si7b2i2lsi2bi2)) := []
noncomputable def X11 : Px (Si7b2i2lsi2bi2) := ⟨T, Try.prog, lkF [(30, run30), (31, run31), (32, run32)], mkCuts 11 cuts11, altN, altN_ok⟩
theorem e11 (n : Nat) (a0 a1 a2 a3 a4 : Int) (a5 a6 : Bool) (a7 a8 : Int) (a9 : List (Int)) (a10 : ByteArray) (a11 a12 : Int) (a13 : Bool) (a14 : Int) : entF X11 8 11 pa11 (endK sr11 toB11) n [.i a0, .i a1, .i a2, .i a3, .i a4, .b a5, .b a6, .i a7, .i a8, .l [.int .i64] a9, .s a10, .i a11, .i a12, .b a13, .i a14] = F11 n a0 a1 a2 a3 a4 a5 a6 a7 a8 a9 a10 a11 a12 a13 a14 := by kernel_rfl
theorem sp11 {n : Nat} (a0 a1 a2 a3 a4 : Int) (a5 a6 : Bool) (a7 a8 : Int) (a9 : List (Int)) (a10 : ByteArray) (a11 a12 : Int) (a13 : Bool) (a14 : Int) {y : Si7b2i2lsi2bi2} (h : F11 n a0 a1 a2 a3 a4 a5 a6 a7 a8 a9 a10 a11 a12 a13 a14 = some y) : SpecF T Try.prog 11 pa11 [.i a0, .i a1, .i a2, .i a3, .i a4, .b a5, .b a6, .i a7, .i a8, .l [.int .i64] a9, .s a10, .i a11, .i a12, .b a13, .i a14] sr11 (ofB11 y) :=
  fun_ok (X := X11) tok (sfok_of ⟨ok30, ok31, ok32, trivial⟩) mixed 11 8 cuts11 rfl toB11_ok trivial ((e11 n a0 a1 a2 a3 a4 a5 a6 a7 a8 a9 a10 a11 a12 a13 a14).trans h)
theorem ok11 {R : Type} : SFone T Try.prog 11 (run11 : SF R) := by
  intro ls K r h
  simp only [run11] at h
  obtain ⟨a0, a1, a2, a3, _, rfl, h1⟩ := gI4_ok h; obtain ⟨a4, _, rfl, h2⟩ := gI_ok h1; obtain ⟨a5, _, rfl, h3⟩ := gB_ok h2; obtain ⟨a6, _, rfl, h4⟩ := gB_ok h3; obtain ⟨a7, _, rfl, h5⟩ := gI_ok h4; obtain ⟨a8, _, rfl, h6⟩ := gI_ok h5; obtain ⟨a9, _, rfl, h7⟩ := gL_ok h6; obtain ⟨a10, _, rfl, h8⟩ := gS_ok h7; obtain ⟨a11, _, rfl, h9⟩ := gI_ok h8; obtain ⟨a12, _, rfl, h10⟩ := gI_ok h9; obtain ⟨a13, _, rfl, h11⟩ := gB_ok h10; obtain ⟨a14, _, rfl, h12⟩ := gI_ok h11; obtain ⟨rfl, h13⟩ := gE_ok h12
  obtain ⟨y, k1, k2⟩ := Option.bind_eq_some_iff.1 h13
  exact ⟨_, k2, sp11 a0 a1 a2 a3 a4 a5 a6 a7 a8 a9 a10 a11 a12 a13 a14 k1⟩

/-! ### garland/seen.Add -/
def pa19 : List VP := [.sl false [.int .i64, .int .i64, .int .u8, .int .i64, .int .i64, .int .i64, .int .i64, .bool, .bool, .int .i64, .int .i64, .sl [.int .i64], .str, .int .i64, .int .i64, .bool, .int .i64], .sl false [.int .u8, .int .i64, .int .i64, .int .i64, .int .i64, .bool, .bool, .int .i64, .int .i64, .sl [.int .i64], .str, .int .i64, .int .i64, .bool, .int .i64]]
def sr19 : RShape := ⟨.sl true [.int .i64, .int .i64, .int .u8, .int .i64, .int .i64, .int .i64, .int .i64, .bool, .bool, .int .i64, .int .i64, .sl [.int .i64], .str, .int .i64, .int .i64, .bool, .int .i64], [], none⟩
def toB19 : List Leaf → Option ((List (Int × Int × Int × Int × Int × Int × Int × Bool × Bool × Int × Int × (List (Int)) × ByteArray × Int × Int × Bool × Int))) := gL [.int .i64, .int .i64, .int .u8, .int .i64, .int .i64, .int .i64, .int .i64, .bool, .bool, .int .i64, .int .i64, .sl [.int .i64], .str, .int .i64, .int .i64, .bool, .int .i64] (fun b0 => gE (some b0))
def ofB19 (y : (List (Int × Int × Int × Int × Int × Int × Int × Bool × Bool × Int × Int × (List (Int)) × ByteArray × Int × Int × Bool × Int))) : List Leaf := [.l [.int .i64, .int .i64, .int .u8, .int .i64, .int .i64, .int .i64, .int .i64, .bool, .bool, .int .i64, .int .i64, .sl [.int .i64], .str, .int .i64, .int .i64, .bool, .int .i64] y]
theorem toB19_ok : ∀ ls b, toB19 ls = some b → ls = ofB19 b := by
  intro ls b h
  unfold toB19 at h
  obtain ⟨b0, _, rfl, h1⟩ := gL_ok h; obtain ⟨rfl, h2⟩ := gE_ok h1
  cases h2; rfl
def run19 {R : Type} : SF R := ⟨pa19, sr19, fun ls K => (gL [.int .i64, .int .i64, .int .u8, .int .i64, .int .i64, .int .i64, .int .i64, .bool, .bool, .int .i64, .int .i64, .sl [.int .i64], .str, .int .i64, .int .i64, .bool, .int .i64] (fun a0 => gL [.int .u8, .int .i64, .int .i64, .int .i64, .int .i64, .bool, .bool, .int .i64, .int .i64, .sl [.int .i64], .str, .int .i64, .int .i64, .bool, .int .i64] (fun a1 => gE (Option.bind (F19 FUEL a0 a1) fun y => K (ofB19 y))))) ls⟩
def sh19_0 : Shape := ⟨[(46, [(5, .rsub 0), (12, .sl false [.int .u8, .int .i64, .int .i64, .int .i64, .int .i64, .bool, .bool, .int .i64, .int .i64, .sl [.int .i64], .str, .int .i64, .int .i64, .bool, .int .i64]), (13, .i .i64), (14, .i .i64)])], [.row true [.int .i64, .int .i64, .int .u8, .int .i64, .int .i64, .int .i64, .int .i64, .bool, .bool, .int .i64, .int .i64, .sl [.int .i64], .str, .int .i64, .int .i64, .bool, .int .i64]]⟩
def g19_0 (n : Nat) : List Leaf → Option ((List (Int × Int × Int × Int × Int × Int × Int × Bool × Bool × Int × Int × (List (Int)) × ByteArray × Int × Int × Bool × Int))) := gN (fun x0 => gN (fun x1 => gL [.int .u8, .int .i64, .int .i64, .int .i64, .int .i64, .bool, .bool, .int .i64, .int .i64, .sl [.int .i64], .str, .int .i64, .int .i64, .bool, .int .i64] (fun x2 => gI (fun x3 => gI (fun x4 => gL [.int .i64, .int .i64, .int .u8, .int .i64, .int .i64, .int .i64, .int .i64, .bool, .bool, .int .i64, .int .i64, .sl [.int .i64], .str, .int .i64, .int .i64, .bool, .int .i64] (fun x5 => gE (F19_c0 n x0 x1 x2 x3 x4 x5)))))))
def sh19_1 : Shape := ⟨[(46, [(5, .rsub 0), (12, .sl false [.int .u8, .int .i64, .int .i64, .int .i64, .int .i64, .bool, .bool, .int .i64, .int .i64, .sl [.int .i64], .str, .int .i64, .int .i64, .bool, .int .i64]), (13, .i .i64), (14, .i .i64)])], [.row true [.int .i64, .int .i64, .int .u8, .int .i64, .int .i64, .int .i64, .int .i64, .bool, .bool, .int .i64, .int .i64, .sl [.int .i64], .str, .int .i64, .int .i64, .bool, .int .i64]]⟩
def g19_1 (n : Nat) : List Leaf → Option ((List (Int × Int × Int × Int × Int × Int × Int × Bool × Bool × Int × Int × (List (Int)) × ByteArray × Int × Int × Bool × Int))) := gN (fun x0 => gN (fun x1 => gL [.int .u8, .int .i64, .int .i64, .int .i64, .int .i64, .bool, .bool, .int .i64, .int .i64, .sl [.int .i64], .str, .int .i64, .int .i64, .bool, .int .i64] (fun x2 => gI (fun x3 => gI (fun x4 => gL [.int .i64, .int .i64, .int .u8, .int .i64, .int .i64, .int .i64, .int .i64, .bool, .bool, .int .i64, .int .i64, .sl [.int .i64], .str, .int .i64, .int .i64, .bool, .int .i64] (fun x5 => gE (F19_c1 n x0 x1 x2 x3 x4 x5)))))))
def cuts19 : List (List Nat × Cut ((List (Int × Int × Int × Int × Int × Int × Int × Bool × Bool × Int × Int × (List (Int)) × ByteArray × Int × Int × Bool × Int)))) := [([1, 1, 0, 1, 0], ⟨sh19_0, g19_0⟩), ([1, 1, 0, 1, 0, 0, 1, 1, 0, 0, 1, 10], ⟨sh19_1, g19_1⟩)]
noncomputable def X19 : Px ((List (Int × Int × Int × Int × Int × Int × Int × Bool × Bool × Int × Int × (List (Int)) × ByteArray × Int × Int × Bool × Int))) := ⟨T, Try.prog, lkF [(24, run24), (11, run11), (35, run35), (34, run34)], mkCuts 19 cuts19, altN, altN_ok⟩
theorem e19_0 (n : Nat) (x0 x1 : Nat) (x2 : List (Int × Int × Int × Int × Int × Bool × Bool × Int × Int × (List (Int)) × ByteArray × Int × Int × Bool × Int)) (x3 x4 : Int) (x5 : List (Int × Int × Int × Int × Int × Int × Int × Bool × Bool × Int × Int × (List (Int)) × ByteArray × Int × Int × Bool × Int)) : stepF X19 8 19 (endK sr19 toB19) [1, 1, 0, 1, 0] sh19_0 n [.n x0, .n x1, .l [.int .u8, .int .i64, .int .i64, .int .i64, .int .i64, .bool, .bool, .int .i64, .int .i64, .sl [.int .i64], .str, .int .i64, .int .i64, .bool, .int .i64] x2, .i x3, .i x4, .l [.int .i64, .int .i64, .int .u8, .int .i64, .int .i64, .int .i64, .int .i64, .bool, .bool, .int .i64, .int .i64, .sl [.int .i64], .str, .int .i64, .int .i64, .bool, .int .i64] x5] = F19_c0 (n + 1) x0 x1 x2 x3 x4 x5 := by kernel_rfl
theorem e19_1 (n : Nat) (x0 x1 : Nat) (x2 : List (Int × Int × Int × Int × Int × Bool × Bool × Int × Int × (List (Int)) × ByteArray × Int × Int × Bool × Int)) (x3 x4 : Int) (x5 : List (Int × Int × Int × Int × Int × Int × Int × Bool × Bool × Int × Int × (List (Int)) × ByteArray × Int × Int × Bool × Int)) : stepF X19 8 19 (endK sr19 toB19) [1, 1, 0, 1, 0, 0, 1, 1, 0, 0, 1, 10] sh19_1 n [.n x0, .n x1, .l [.int .u8, .int .i64, .int .i64, .int .i64, .int .i64, .bool, .bool, .int .i64, .int .i64, .sl [.int .i64], .str, .int .i64, .int .i64, .bool, .int .i64] x2, .i x3, .i x4, .l [.int .i64, .int .i64, .int .u8, .int .i64, .int .i64, .int .i64, .int .i64, .bool, .bool, .int .i64, .int .i64, .sl [.int .i64], .str, .int .i64, .int .i64, .bool, .int .i64] x5] = F19_c1 (n + 1) x0 x1 x2 x3 x4 x5 := by kernel_rfl
theorem e19 (n : Nat) (a0 : List (Int × Int × Int × Int × Int × Int × Int × Bool × Bool × Int × Int × (List (Int)) × ByteArray × Int × Int × Bool × Int)) (a1 : List (Int × Int × Int × Int × Int × Bool × Bool × Int × Int × (List (Int)) × ByteArray × Int × Int × Bool × Int)) : entF X19 8 19 pa19 (endK sr19 toB19) n [.l [.int .i64, .int .i64, .int .u8, .int .i64, .int .i64, .int .i64, .int .i64, .bool, .bool, .int .i64, .int .i64, .sl [.int .i64], .str, .int .i64, .int .i64, .bool, .int .i64] a0, .l [.int .u8, .int .i64, .int .i64, .int .i64, .int .i64, .bool, .bool, .int .i64, .int .i64, .sl [.int .i64], .str, .int .i64, .int .i64, .bool, .int .i64] a1] = F19 n a0 a1 := by kernel_rfl
theorem c19_0 : CutOK X19 8 19 (endK sr19 toB19) [1, 1, 0, 1, 0] ⟨sh19_0, g19_0⟩ := by
  refine ⟨fun ls => ?_, fun n ls r h => ?_⟩
  · cases h : g19_0 0 ls with
    | none => exact h
    | some r =>
      unfold g19_0 at h; obtain ⟨x0, _, rfl, h1⟩ := gN_ok h; obtain ⟨x1, _, rfl, h2⟩ := gN_ok h1; obtain ⟨x2, _, rfl, h3⟩ := gL_ok h2; obtain ⟨x3, _, rfl, h4⟩ := gI_ok h3; obtain ⟨x4, _, rfl, h5⟩ := gI_ok h4; obtain ⟨x5, _, rfl, h6⟩ := gL_ok h5; obtain ⟨rfl, h7⟩ := gE_ok h6; simp only [F19_c0] at h7; cases h7
  · replace h : g19_0 (n + 1) ls = some r := h
    unfold g19_0 at h
    obtain ⟨x0, _, rfl, h1⟩ := gN_ok h; obtain ⟨x1, _, rfl, h2⟩ := gN_ok h1; obtain ⟨x2, _, rfl, h3⟩ := gL_ok h2; obtain ⟨x3, _, rfl, h4⟩ := gI_ok h3; obtain ⟨x4, _, rfl, h5⟩ := gI_ok h4; obtain ⟨x5, _, rfl, h6⟩ := gL_ok h5; obtain ⟨rfl, h7⟩ := gE_ok h6
    exact (e19_0 n x0 x1 x2 x3 x4 x5).trans h7
theorem c19_1 : CutOK X19 8 19 (endK sr19 toB19) [1, 1, 0, 1, 0, 0, 1, 1, 0, 0, 1, 10] ⟨sh19_1, g19_1⟩ := by
  refine ⟨fun ls => ?_, fun n ls r h => ?_⟩
  · cases h : g19_1 0 ls with
    | none => exact h
    | some r =>
      unfold g19_1 at h; obtain ⟨x0, _, rfl, h1⟩ := gN_ok h; obtain ⟨x1, _, rfl, h2⟩ := gN_ok h1; obtain ⟨x2, _, rfl, h3⟩ := gL_ok h2; obtain ⟨x3, _, rfl, h4⟩ := gI_ok h3; obtain ⟨x4, _, rfl, h5⟩ := gI_ok h4; obtain ⟨x5, _, rfl, h6⟩ := gL_ok h5; obtain ⟨rfl, h7⟩ := gE_ok h6; simp only [F19_c1] at h7; cases h7
  · replace h : g19_1 (n + 1) ls = some r := h
    unfold g19_1 at h
    obtain ⟨x0, _, rfl, h1⟩ := gN_ok h; obtain ⟨x1, _, rfl, h2⟩ := gN_ok h1; obtain ⟨x2, _, rfl, h3⟩ := gL_ok h2; obtain ⟨x3, _, rfl, h4⟩ := gI_ok h3; obtain ⟨x4, _, rfl, h5⟩ := gI_ok h4; obtain ⟨x5, _, rfl, h6⟩ := gL_ok h5; obtain ⟨rfl, h7⟩ := gE_ok h6
    exact (e19_1 n x0 x1 x2 x3 x4 x5).trans h7
theorem sp19 {n : Nat} (a0 : List (Int × Int × Int × Int × Int × Int × Int × Bool × Bool × Int × Int × (List (Int)) × ByteArray × Int × Int × Bool × Int)) (a1 : List (Int × Int × Int × Int × Int × Bool × Bool × Int × Int × (List (Int)) × ByteArray × Int × Int × Bool × Int)) {y : (List (Int × Int × Int × Int × Int × Int × Int × Bool × Bool × Int × Int × (List (Int)) × ByteArray × Int × Int × Bool × Int))} (h : F19 n a0 a1 = some y) : SpecF T Try.prog 19 pa19 [.l [.int .i64, .int .i64, .int .u8, .int .i64, .int .i64, .int .i64, .int .i64, .bool, .bool, .int .i64, .int .i64, .sl [.int .i64], .str, .int .i64, .int .i64, .bool, .int .i64] a0, .l [.int .u8, .int .i64, .int .i64, .int .i64, .int .i64, .bool, .bool, .int .i64, .int .i64, .sl [.int .i64], .str, .int .i64, .int .i64, .bool, .int .i64] a1] sr19 (ofB19 y) :=
  fun_ok (X := X19) tok (sfok_of ⟨ok24, ok11, ok35, ok34, trivial⟩) mixed 19 8 cuts19 rfl toB19_ok ⟨c19_0, c19_1, trivial⟩ ((e19 n a0 a1).trans h)
theorem ok19 {R : Type} : SFone T Try.prog 19 (run19 : SF R) := by
  intro ls K r h
  simp only [run19] at h
  obtain ⟨a0, _, rfl, h1⟩ := gL_ok h; obtain ⟨a1, _, rfl, h2⟩ := gL_ok h1; obtain ⟨rfl, h3⟩ := gE_ok h2
  obtain ⟨y, k1, k2⟩ := Option.bind_eq_some_iff.1 h3
  exact ⟨_, k2, sp19 a0 a1 k1⟩

/-! ### garland/garlandref06.Same -/
def pa15 : List VP := [.agg [.i .u8, .i .i64, .i .i64, .i .i64, .i .i64, .b, .b, .i .i64, .i .i64, .sl false [.int .i64], .s, .i .i64, .i .i64, .b, .i .i64], .agg [.i .u8, .i .i64, .i .i64, .i .i64, .i .i64, .b, .b, .i .i64, .i .i64, .sl false [.int .i64], .s, .i .i64, .i .i64, .b, .i .i64]]
def sr15 : RShape := ⟨.b, [], none⟩
def toB15 : List Leaf → Option (Bool) := gB (fun b0 => gE (some b0))
def ofB15 (y : Bool) : List Leaf := [.b y]
theorem toB15_ok : ∀ ls b, toB15 ls = some b → ls = ofB15 b := by
  intro ls b h
  unfold toB15 at h
  obtain ⟨b0, _, rfl, h1⟩ := gB_ok h; obtain ⟨rfl, h2⟩ := gE_ok h1
  cases h2; rfl
def run15 {R : Type} : SF R := ⟨pa15, sr15, fun ls K => (gI (fun a0 => gI (fun a1 => gI (fun a2 => gI (fun a3 => gI (fun a4 => gB (fun a5 => gB (fun a6 => gI (fun a7 => gI (fun a8 => gL [.int .i64] (fun a9 => gS (fun a10 => gI (fun a11 => gI (fun a12 => gB (fun a13 => gI (fun a14 => gI (fun a15 => gI (fun a16 => gI (fun a17 => gI (fun a18 => gI (fun a19 => gB (fun a20 => gB (fun a21 => gI (fun a22 => gI (fun a23 => gL [.int .i64] (fun a24 => gS (fun a25 => gI (fun a26 => gI (fun a27 => gB (fun a28 => gI (fun a29 => gE (Option.bind (F15 FUEL a0 a1 a2 a3 a4 a5 a6 a7 a8 a9 a10 a11 a12 a13 a14 a15 a16 a17 a18 a19 a20 a21 a22 a23 a24 a25 a26 a27 a28 a29) fun y => K (ofB15 y))))))))))))))))))))))))))))))))) ls⟩
def sh15_0 : Shape := ⟨[(106, [(2, .ref 0 0), (3, .ref 1 0), (5, .i .i64)])], [.cells [.i .u8, .i .i64, .i .i64, .i .i64, .i .i64, .b, .b, .i .i64, .i .i64, .sl false [.int .i64], .s, .i .i64, .i .i64, .b, .i .i64], .cells [.i .u8, .i .i64, .i .i64, .i .i64, .i .i64, .b, .b, .i .i64, .i .i64, .sl false [.int .i64], .s, .i .i64, .i .i64, .b, .i .i64]]⟩
def g15_0 (n : Nat) : List Leaf → Option (Bool) := gI (fun x0 => gI (fun x1 => gI (fun x2 => gI (fun x3 => gI (fun x4 => gI (fun x5 => gB (fun x6 => gB (fun x7 => gI (fun x8 => gI (fun x9 => gL [.int .i64] (fun x10 => gS (fun x11 => gI (fun x12 => gI (fun x13 => gB (fun x14 => gI (fun x15 => gI (fun x16 => gI (fun x17 => gI (fun x18 => gI (fun x19 => gI (fun x20 => gB (fun x21 => gB (fun x22 => gI (fun x23 => gI (fun x24 => gL [.int .i64] (fun x25 => gS (fun x26 => gI (fun x27 => gI (fun x28 => gB (fun x29 => gI (fun x30 => gE (F15_c0 n x0 x1 x2 x3 x4 x5 x6 x7 x8 x9 x10 x11 x12 x13 x14 x15 x16 x17 x18 x19 x20 x21 x22 x23 x24 x25 x26 x27 x28 x29 x30))))))))))))))))))))))))))))))))
def cuts15 : List (List Nat × Cut (Bool)) := [([1, 1, 0, 1, 0], ⟨sh15_0, g15_0⟩)]
noncomputable def X15 : Px (Bool) := ⟨T, Try.prog, lkF [], mkCuts 15 cuts15, altN, altN_ok⟩
theorem e15_0 (n : Nat) (x0 x1 x2 x3 x4 x5 : Int) (x6 x7 : Bool) (x8 x9 : Int) (x10 : List (Int)) (x11 : ByteArray) (x12 x13 : Int) (x14 : Bool) (x15 x16 x17 x18 x19 x20 : Int) (x21 x22 : Bool) (x23 x24 : Int) (x25 : List (Int)) (x26 : ByteArray) (x27 x28 : Int) (x29 : Bool) (x30 : Int) : stepF X15 8 15 (endK sr15 toB15) [1, 1, 0, 1, 0] sh15_0 n [.i x0, .i x1, .i x2, .i x3, .i x4, .i x5, .b x6, .b x7, .i x8, .i x9, .l [.int .i64] x10, .s x11, .i x12, .i x13, .b x14, .i x15, .i x16, .i x17, .i x18, .i x19, .i x20, .b x21, .b x22, .i x23, .i x24, .l [.int .i64] x25, .s x26, .i x27, .i x28, .b x29, .i x30] = F15_c0 (n + 1) x0 x1 x2 x3 x4 x5 x6 x7 x8 x9 x10 x11 x12 x13 x14 x15 x16 x17 x18 x19 x20 x21 x22 x23 x24 x25 x26 x27 x28 x29 x30 := by kernel_rfl
theorem e15 (n : Nat) (a0 a1 a2 a3 a4 : Int) (a5 a6 : Bool) (a7 a8 : Int) (a9 : List (Int)) (a10 : ByteArray) (a11 a12 : Int) (a13 : Bool) (a14 a15 a16 a17 a18 a19 : Int) (a20 a21 : Bool) (a22 a23 : Int) (a24 : List (Int)) (a25 : ByteArray) (a26 a27 : Int) (a28 : Bool) (a29 : Int) : entF X15 8 15 pa15 (endK sr15 toB15) n [.i a0, .i a1, .i a2, .i a3, .i a4, .b a5, .b a6, .i a7, .i a8, .l [.int .i64] a9, .s a10, .i a11, .i a12, .b a13, .i a14, .i a15, .i a16, .i a17, .i a18, .i a19, .b a20, .b a21, .i a22, .i a23, .l [.int .i64] a24, .s a25, .i a26, .i a27, .b a28, .i a29] = F15 n a0 a1 a2 a3 a4 a5 a6 a7 a8 a9 a10 a11 a12 a13 a14 a15 a16 a17 a18 a19 a20 a21 a22 a23 a24 a25 a26 a27 a28 a29 := by kernel_rfl
theorem c15_0 : CutOK X15 8 15 (endK sr15 toB15) [1, 1, 0, 1, 0] ⟨sh15_0, g15_0⟩ := by
  refine ⟨fun ls => ?_, fun n ls r h => ?_⟩
  · cases h : g15_0 0 ls with
    | none => exact h
    | some r =>
      unfold g15_0 at h; obtain ⟨x0, x1, x2, x3, _, rfl, h1⟩ := gI4_ok h; obtain ⟨x4, _, rfl, h2⟩ := gI_ok h1; obtain ⟨x5, _, rfl, h3⟩ := gI_ok h2; obtain ⟨x6, _, rfl, h4⟩ := gB_ok h3; obtain ⟨x7, _, rfl, h5⟩ := gB_ok h4; obtain ⟨x8, _, rfl, h6⟩ := gI_ok h5; obtain ⟨x9, _, rfl, h7⟩ := gI_ok h6; obtain ⟨x10, _, rfl, h8⟩ := gL_ok h7; obtain ⟨x11, _, rfl, h9⟩ := gS_ok h8; obtain ⟨x12, _, rfl, h10⟩ := gI_ok h9; obtain ⟨x13, _, rfl, h11⟩ := gI_ok h10; obtain ⟨x14, _, rfl, h12⟩ := gB_ok h11; obtain ⟨x15, x16, x17, x18, _, rfl, h13⟩ := gI4_ok h12; obtain ⟨x19, _, rfl, h14⟩ := gI_ok h13; obtain ⟨x20, _, rfl, h15⟩ := gI_ok h14; obtain ⟨x21, _, rfl, h16⟩ := gB_ok h15; obtain ⟨x22, _, rfl, h17⟩ := gB_ok h16; obtain ⟨x23, _, rfl, h18⟩ := gI_ok h17; obtain ⟨x24, _, rfl, h19⟩ := gI_ok h18; obtain ⟨x25, _, rfl, h20⟩ := gL_ok h19; obtain ⟨x26, _, rfl, h21⟩ := gS_ok h20; obtain ⟨x27, _, rfl, h22⟩ := gI_ok h21; obtain ⟨x28, _, rfl, h23⟩ := gI_ok h22; obtain ⟨x29, _, rfl, h24⟩ := gB_ok h23; obtain ⟨x30, _, rfl, h25⟩ := gI_ok h24; obtain ⟨rfl, h26⟩ := gE_ok h25; simp only [F15_c0] at h26; cases h26
  · replace h : g15_0 (n + 1) ls = some r := h
    unfold g15_0 at h
    obtain ⟨x0, x1, x2, x3, _, rfl, h1⟩ := gI4_ok h; obtain ⟨x4, _, rfl, h2⟩ := gI_ok h1; obtain ⟨x5, _, rfl, h3⟩ := gI_ok h2; obtain ⟨x6, _, rfl, h4⟩ := gB_ok h3; obtain ⟨x7, _, rfl, h5⟩ := gB_ok h4; obtain ⟨x8, _, rfl, h6⟩ := gI_ok h5; obtain ⟨x9, _, rfl, h7⟩ := gI_ok h6; obtain ⟨x10, _, rfl, h8⟩ := gL_ok h7; obtain ⟨x11, _, rfl, h9⟩ := gS_ok h8; obtain ⟨x12, _, rfl, h10⟩ := gI_ok h9; obtain ⟨x13, _, rfl, h11⟩ := gI_ok h10; obtain ⟨x14, _, rfl, h12⟩ := gB_ok h11; obtain ⟨x15, x16, x17, x18, _, rfl, h13⟩ := gI4_ok h12; obtain ⟨x19, _, rfl, h14⟩ := gI_ok h13; obtain ⟨x20, _, rfl, h15⟩ := gI_ok h14; obtain ⟨x21, _, rfl, h16⟩ := gB_ok h15; obtain ⟨x22, _, rfl, h17⟩ := gB_ok h16; obtain ⟨x23, _, rfl, h18⟩ := gI_ok h17; obtain ⟨x24, _, rfl, h19⟩ := gI_ok h18; obtain ⟨x25, _, rfl, h20⟩ := gL_ok h19; obtain ⟨x26, _, rfl, h21⟩ := gS_ok h20; obtain ⟨x27, _, rfl, h22⟩ := gI_ok h21; obtain ⟨x28, _, rfl, h23⟩ := gI_ok h22; obtain ⟨x29, _, rfl, h24⟩ := gB_ok h23; obtain ⟨x30, _, rfl, h25⟩ := gI_ok h24; obtain ⟨rfl, h26⟩ := gE_ok h25
    exact (e15_0 n x0 x1 x2 x3 x4 x5 x6 x7 x8 x9 x10 x11 x12 x13 x14 x15 x16 x17 x18 x19 x20 x21 x22 x23 x24 x25 x26 x27 x28 x29 x30).trans h26
theorem sp15 {n : Nat} (a0 a1 a2 a3 a4 : Int) (a5 a6 : Bool) (a7 a8 : Int) (a9 : List (Int)) (a10 : ByteArray) (a11 a12 : Int) (a13 : Bool) (a14 a15 a16 a17 a18 a19 : Int) (a20 a21 : Bool) (a22 a23 : Int) (a24 : List (Int)) (a25 : ByteArray) (a26 a27 : Int) (a28 : Bool) (a29 : Int) {y : Bool} (h : F15 n a0 a1 a2 a3 a4 a5 a6 a7 a8 a9 a10 a11 a12 a13 a14 a15 a16 a17 a18 a19 a20 a21 a22 a23 a24 a25 a26 a27 a28 a29 = some y) : SpecF T Try.prog 15 pa15 [.i a0, .i a1, .i a2, .i a3, .i a4, .b a5, .b a6, .i a7, .i a8, .l [.int .i64] a9, .s a10, .i a11, .i a12, .b a13, .i a14, .i a15, .i a16, .i a17, .i a18, .i a19, .b a20, .b a21, .i a22, .i a23, .l [.int .i64] a24, .s a25, .i a26, .i a27, .b a28, .i a29] sr15 (ofB15 y) :=
  fun_ok (X := X15) tok (sfok_of trivial) mixed 15 8 cuts15 rfl toB15_ok ⟨c15_0, trivial⟩ ((e15 n a0 a1 a2 a3 a4 a5 a6 a7 a8 a9 a10 a11 a12 a13 a14 a15 a16 a17 a18 a19 a20 a21 a22 a23 a24 a25 a26 a27 a28 a29).trans h)
theorem ok15 {R : Type} : SFone T Try.prog 15 (run15 : SF R) := by
  intro ls K r h
  simp only [run15] at h
  obtain ⟨a0, a1, a2, a3, _, rfl, h1⟩ := gI4_ok h; obtain ⟨a4, _, rfl, h2⟩ := gI_ok h1; obtain ⟨a5, _, rfl, h3⟩ := gB_ok h2; obtain ⟨a6, _, rfl, h4⟩ := gB_ok h3; obtain ⟨a7, _, rfl, h5⟩ := gI_ok h4; obtain ⟨a8, _, rfl, h6⟩ := gI_ok h5; obtain ⟨a9, _, rfl, h7⟩ := gL_ok h6; obtain ⟨a10, _, rfl, h8⟩ := gS_ok h7; obtain ⟨a11, _, rfl, h9⟩ := gI_ok h8; obtain ⟨a12, _, rfl, h10⟩ := gI_ok h9; obtain ⟨a13, _, rfl, h11⟩ := gB_ok h10; obtain ⟨a14, a15, a16, a17, _, rfl, h12⟩ := gI4_ok h11; obtain ⟨a18, _, rfl, h13⟩ := gI_ok h12; obtain ⟨a19, _, rfl, h14⟩ := gI_ok h13; obtain ⟨a20, _, rfl, h15⟩ := gB_ok h14; obtain ⟨a21, _, rfl, h16⟩ := gB_ok h15; obtain ⟨a22, _, rfl, h17⟩ := gI_ok h16; obtain ⟨a23, _, rfl, h18⟩ := gI_ok h17; obtain ⟨a24, _, rfl, h19⟩ := gL_ok h18; obtain ⟨a25, _, rfl, h20⟩ := gS_ok h19; obtain ⟨a26, _, rfl, h21⟩ := gI_ok h20; obtain ⟨a27, _, rfl, h22⟩ := gI_ok h21; obtain ⟨a28, _, rfl, h23⟩ := gB_ok h22; obtain ⟨a29, _, rfl, h24⟩ := gI_ok h23; obtain ⟨rfl, h25⟩ := gE_ok h24
  obtain ⟨y, k1, k2⟩ := Option.bind_eq_some_iff.1 h25
  exact ⟨_, k2, sp15 a0 a1 a2 a3 a4 a5 a6 a7 a8 a9 a10 a11 a12 a13 a14 a15 a16 a17 a18 a19 a20 a21 a22 a23 a24 a25 a26 a27 a28 a29 k1⟩

/-! ### garland/seen.Fresh -/
def pa21 : List VP := [.sl false [.int .i64, .int .i64, .int .u8, .int .i64, .int .i64, .int .i64, .int .i64, .bool, .bool, .int .i64, .int .i64, .sl [.int .i64], .str, .int .i64, .int .i64, .bool, .int .i64], .agg [.i .u8, .i .i64, .i .i64, .i .i64, .i .i64, .b, .b, .i .i64, .i .i64, .sl false [.int .i64], .s, .i .i64, .i .i64, .b, .i .i64]]
def sr21 : RShape := ⟨.b, [], none⟩
def toB21 : List Leaf → Option (Bool) := gB (fun b0 => gE (some b0))
def ofB21 (y : Bool) : List Leaf := [.b y]
theorem toB21_ok : ∀ ls b, toB21 ls = some b → ls = ofB21 b := by
  intro ls b h
  unfold toB21 at h
  obtain ⟨b0, _, rfl, h1⟩ := gB_ok h; obtain ⟨rfl, h2⟩ := gE_ok h1
  cases h2; rfl
def run21 {R : Type} : SF R := ⟨pa21, sr21, fun ls K => (gL [.int .i64, .int .i64, .int .u8, .int .i64, .int .i64, .int .i64, .int .i64, .bool, .bool, .int .i64, .int .i64, .sl [.int .i64], .str, .int .i64, .int .i64, .bool, .int .i64] (fun a0 => gI (fun a1 => gI (fun a2 => gI (fun a3 => gI (fun a4 => gI (fun a5 => gB (fun a6 => gB (fun a7 => gI (fun a8 => gI (fun a9 => gL [.int .i64] (fun a10 => gS (fun a11 => gI (fun a12 => gI (fun a13 => gB (fun a14 => gI (fun a15 => gE (Option.bind (F21 FUEL a0 a1 a2 a3 a4 a5 a6 a7 a8 a9 a10 a11 a12 a13 a14 a15) fun y => K (ofB21 y))))))))))))))))))) ls⟩
def cuts21 : List (List Nat × Cut (Bool)) := []
noncomputable def X21 : Px (Bool) := ⟨T, Try.prog, lkF [(30, run30), (31, run31), (35, run35), (34, run34)], mkCuts 21 cuts21, altN, altN_ok⟩
theorem e21 (n : Nat) (a0 : List (Int × Int × Int × Int × Int × Int × Int × Bool × Bool × Int × Int × (List (Int)) × ByteArray × Int × Int × Bool × Int)) (a1 a2 a3 a4 a5 : Int) (a6 a7 : Bool) (a8 a9 : Int) (a10 : List (Int)) (a11 : ByteArray) (a12 a13 : Int) (a14 : Bool) (a15 : Int) : entF X21 8 21 pa21 (endK sr21 toB21) n [.l [.int .i64, .int .i64, .int .u8, .int .i64, .int .i64, .int .i64, .int .i64, .bool, .bool, .int .i64, .int .i64, .sl [.int .i64], .str, .int .i64, .int .i64, .bool, .int .i64] a0, .i a1, .i a2, .i a3, .i a4, .i a5, .b a6, .b a7, .i a8, .i a9, .l [.int .i64] a10, .s a11, .i a12, .i a13, .b a14, .i a15] = F21 n a0 a1 a2 a3 a4 a5 a6 a7 a8 a9 a10 a11 a12 a13 a14 a15 := by kernel_rfl
theorem sp21 {n : Nat} (a0 : List (Int × Int × Int × Int × Int × Int × Int × Bool × Bool × Int × Int × (List (Int)) × ByteArray × Int × Int × Bool × Int)) (a1 a2 a3 a4 a5 : Int) (a6 a7 : Bool) (a8 a9 : Int) (a10 : List (Int)) (a11 : ByteArray) (a12 a13 : Int) (a14 : Bool) (a15 : Int) {y : Bool} (h : F21 n a0 a1 a2 a3 a4 a5 a6 a7 a8 a9 a10 a11 a12 a13 a14 a15 = some y) : SpecF T Try.prog 21 pa21 [.l [.int .i64, .int .i64, .int .u8, .int .i64, .int .i64, .int .i64, .int .i64, .bool, .bool, .int .i64, .int .i64, .sl [.int .i64], .str, .int .i64, .int .i64, .bool, .int .i64] a0, .i a1, .i a2, .i a3, .i a4, .i a5, .b a6, .b a7, .i a8, .i a9, .l [.int .i64] a10, .s a11, .i a12, .i a13, .b a14, .i a15] sr21 (ofB21 y) :=
  fun_ok (X := X21) tok (sfok_of ⟨ok30, ok31, ok35, ok34, trivial⟩) mixed 21 8 cuts21 rfl toB21_ok trivial ((e21 n a0 a1 a2 a3 a4 a5 a6 a7 a8 a9 a10 a11 a12 a13 a14 a15).trans h)
theorem ok21 {R : Type} : SFone T Try.prog 21 (run21 : SF R) := by
  intro ls K r h
  simp only [run21] at h
  obtain ⟨a0, _, rfl, h1⟩ := gL_ok h; obtain ⟨a1, a2, a3, a4, _, rfl, h2⟩ := gI4_ok h1; obtain ⟨a5, _, rfl, h3⟩ := gI_ok h2; obtain ⟨a6, _, rfl, h4⟩ := gB_ok h3; obtain ⟨a7, _, rfl, h5⟩ := gB_ok h4; obtain ⟨a8, _, rfl, h6⟩ := gI_ok h5; obtain ⟨a9, _, rfl, h7⟩ := gI_ok h6; obtain ⟨a10, _, rfl, h8⟩ := gL_ok h7; obtain ⟨a11, _, rfl, h9⟩ := gS_ok h8; obtain ⟨a12, _, rfl, h10⟩ := gI_ok h9; obtain ⟨a13, _, rfl, h11⟩ := gI_ok h10; obtain ⟨a14, _, rfl, h12⟩ := gB_ok h11; obtain ⟨a15, _, rfl, h13⟩ := gI_ok h12; obtain ⟨rfl, h14⟩ := gE_ok h13
  obtain ⟨y, k1, k2⟩ := Option.bind_eq_some_iff.1 h14
  exact ⟨_, k2, sp21 a0 a1 a2 a3 a4 a5 a6 a7 a8 a9 a10 a11 a12 a13 a14 a15 k1⟩

/-! ### garland/seen.Right -/
def pa16 : List VP := [.sl false [.int .i64, .int .i64, .int .u8, .int .i64, .int .i64, .int .i64, .int .i64, .bool, .bool, .int .i64, .int .i64, .sl [.int .i64], .str, .int .i64, .int .i64, .bool, .int .i64]]
def sr16 : RShape := ⟨.b, [], none⟩
def toB16 : List Leaf → Option (Bool) := gB (fun b0 => gE (some b0))
def ofB16 (y : Bool) : List Leaf := [.b y]
theorem toB16_ok : ∀ ls b, toB16 ls = some b → ls = ofB16 b := by
  intro ls b h
  unfold toB16 at h
  obtain ⟨b0, _, rfl, h1⟩ := gB_ok h; obtain ⟨rfl, h2⟩ := gE_ok h1
  cases h2; rfl
def run16 {R : Type} : SF R := ⟨pa16, sr16, fun ls K => (gL [.int .i64, .int .i64, .int .u8, .int .i64, .int .i64, .int .i64, .int .i64, .bool, .bool, .int .i64, .int .i64, .sl [.int .i64], .str, .int .i64, .int .i64, .bool, .int .i64] (fun a0 => gE (Option.bind (F16 FUEL a0) fun y => K (ofB16 y)))) ls⟩
def sh16_0 : Shape := ⟨[(18, [(0, .yield 6), (5, .sl false [.int .i64, .int .i64, .int .u8, .int .i64, .int .i64, .int .i64, .int .i64, .bool, .bool, .int .i64, .int .i64, .sl [.int .i64], .str, .int .i64, .int .i64, .bool, .int .i64]), (6, .i .i64), (7, .i .i64)]), (45, [(1, .ref 0 0), (2, .ref 1 0)])], [.cells [.sl false [.int .i64, .int .i64, .int .u8, .int .i64, .int .i64, .int .i64, .int .i64, .bool, .bool, .int .i64, .int .i64, .sl [.int .i64], .str, .int .i64, .int .i64, .bool, .int .i64]], .cells [.b]]⟩
def g16_0 (n : Nat) : List Leaf → Option (Bool) := gL [.int .i64, .int .i64, .int .u8, .int .i64, .int .i64, .int .i64, .int .i64, .bool, .bool, .int .i64, .int .i64, .sl [.int .i64], .str, .int .i64, .int .i64, .bool, .int .i64] (fun x0 => gI (fun x1 => gI (fun x2 => gL [.int .i64, .int .i64, .int .u8, .int .i64, .int .i64, .int .i64, .int .i64, .bool, .bool, .int .i64, .int .i64, .sl [.int .i64], .str, .int .i64, .int .i64, .bool, .int .i64] (fun x3 => gB (fun x4 => gE (F16_c0 n x0 x1 x2 x3 x4))))))
def cuts16 : List (List Nat × Cut (Bool)) := [([1, 1, 0, 1, 0, 98, 1, 0], ⟨sh16_0, g16_0⟩)]
noncomputable def X16 : Px (Bool) := ⟨T, Try.prog, lkF [(30, run30), (31, run31), (35, run35), (34, run34)], mkCuts 16 cuts16, altN, altN_ok⟩
theorem e16_0 (n : Nat) (x0 : List (Int × Int × Int × Int × Int × Int × Int × Bool × Bool × Int × Int × (List (Int)) × ByteArray × Int × Int × Bool × Int)) (x1 x2 : Int) (x3 : List (Int × Int × Int × Int × Int × Int × Int × Bool × Bool × Int × Int × (List (Int)) × ByteArray × Int × Int × Bool × Int)) (x4 : Bool) : stepF X16 8 16 (endK sr16 toB16) [1, 1, 0, 1, 0, 98, 1, 0] sh16_0 n [.l [.int .i64, .int .i64, .int .u8, .int .i64, .int .i64, .int .i64, .int .i64, .bool, .bool, .int .i64, .int .i64, .sl [.int .i64], .str, .int .i64, .int .i64, .bool, .int .i64] x0, .i x1, .i x2, .l [.int .i64, .int .i64, .int .u8, .int .i64, .int .i64, .int .i64, .int .i64, .bool, .bool, .int .i64, .int .i64, .sl [.int .i64], .str, .int .i64, .int .i64, .bool, .int .i64] x3, .b x4] = F16_c0 (n + 1) x0 x1 x2 x3 x4 := by kernel_rfl
theorem e16 (n : Nat) (a0 : List (Int × Int × Int × Int × Int × Int × Int × Bool × Bool × Int × Int × (List (Int)) × ByteArray × Int × Int × Bool × Int)) : entF X16 8 16 pa16 (endK sr16 toB16) n [.l [.int .i64, .int .i64, .int .u8, .int .i64, .int .i64, .int .i64, .int .i64, .bool, .bool, .int .i64, .int .i64, .sl [.int .i64], .str, .int .i64, .int .i64, .bool, .int .i64] a0] = F16 n a0 := by kernel_rfl
theorem c16_0 : CutOK X16 8 16 (endK sr16 toB16) [1, 1, 0, 1, 0, 98, 1, 0] ⟨sh16_0, g16_0⟩ := by
  refine ⟨fun ls => ?_, fun n ls r h => ?_⟩
  · cases h : g16_0 0 ls with
    | none => exact h
    | some r =>
      unfold g16_0 at h; obtain ⟨x0, _, rfl, h1⟩ := gL_ok h; obtain ⟨x1, _, rfl, h2⟩ := gI_ok h1; obtain ⟨x2, _, rfl, h3⟩ := gI_ok h2; obtain ⟨x3, _, rfl, h4⟩ := gL_ok h3; obtain ⟨x4, _, rfl, h5⟩ := gB_ok h4; obtain ⟨rfl, h6⟩ := gE_ok h5; simp only [F16_c0] at h6; cases h6
  · replace h : g16_0 (n + 1) ls = some r := h
    unfold g16_0 at h
    obtain ⟨x0, _, rfl, h1⟩ := gL_ok h; obtain ⟨x1, _, rfl, h2⟩ := gI_ok h1; obtain ⟨x2, _, rfl, h3⟩ := gI_ok h2; obtain ⟨x3, _, rfl, h4⟩ := gL_ok h3; obtain ⟨x4, _, rfl, h5⟩ := gB_ok h4; obtain ⟨rfl, h6⟩ := gE_ok h5
    exact (e16_0 n x0 x1 x2 x3 x4).trans h6
theorem sp16 {n : Nat} (a0 : List (Int × Int × Int × Int × Int × Int × Int × Bool × Bool × Int × Int × (List (Int)) × ByteArray × Int × Int × Bool × Int)) {y : Bool} (h : F16 n a0 = some y) : SpecF T Try.prog 16 pa16 [.l [.int .i64, .int .i64, .int .u8, .int .i64, .int .i64, .int .i64, .int .i64, .bool, .bool, .int .i64, .int .i64, .sl [.int .i64], .str, .int .i64, .int .i64, .bool, .int .i64] a0] sr16 (ofB16 y) :=
  fun_ok (X := X16) tok (sfok_of ⟨ok30, ok31, ok35, ok34, trivial⟩) mixed 16 8 cuts16 rfl toB16_ok ⟨c16_0, trivial⟩ ((e16 n a0).trans h)
theorem ok16 {R : Type} : SFone T Try.prog 16 (run16 : SF R) := by
  intro ls K r h
  simp only [run16] at h
  obtain ⟨a0, _, rfl, h1⟩ := gL_ok h; obtain ⟨rfl, h2⟩ := gE_ok h1
  obtain ⟨y, k1, k2⟩ := Option.bind_eq_some_iff.1 h2
  exact ⟨_, k2, sp16 a0 k1⟩

/-! ### garland/seen.Same -/
def pa23 : List VP := [.sl false [.int .i64, .int .i64, .int .u8, .int .i64, .int .i64, .int .i64, .int .i64, .bool, .bool, .int .i64, .int .i64, .sl [.int .i64], .str, .int .i64, .int .i64, .bool, .int .i64], .sl false [.int .i64, .int .i64, .int .u8, .int .i64, .int .i64, .int .i64, .int .i64, .bool, .bool, .int .i64, .int .i64, .sl [.int .i64], .str, .int .i64, .int .i64, .bool, .int .i64]]
def sr23 : RShape := ⟨.b, [], none⟩
def toB23 : List Leaf → Option (Bool) := gB (fun b0 => gE (some b0))
def ofB23 (y : Bool) : List Leaf := [.b y]
theorem toB23_ok : ∀ ls b, toB23 ls = some b → ls = ofB23 b := by
  intro ls b h
  unfold toB23 at h
  obtain ⟨b0, _, rfl, h1⟩ := gB_ok h; obtain ⟨rfl, h2⟩ := gE_ok h1
  cases h2; rfl
def run23 {R : Type} : SF R := ⟨pa23, sr23, fun ls K => (gL [.int .i64, .int .i64, .int .u8, .int .i64, .int .i64, .int .i64, .int .i64, .bool, .bool, .int .i64, .int .i64, .sl [.int .i64], .str, .int .i64, .int .i64, .bool, .int .i64] (fun a0 => gL [.int .i64, .int .i64, .int .u8, .int .i64, .int .i64, .int .i64, .int .i64, .bool, .bool, .int .i64, .int .i64, .sl [.int .i64], .str, .int .i64, .int .i64, .bool, .int .i64] (fun a1 => gE (Option.bind (F23 FUEL a0 a1) fun y => K (ofB23 y))))) ls⟩
def sh23_0 : Shape := ⟨[(18, [(0, .yield 6), (5, .sl false [.int .i64, .int .i64, .int .u8, .int .i64, .int .i64, .int .i64, .int .i64, .bool, .bool, .int .i64, .int .i64, .sl [.int .i64], .str, .int .i64, .int .i64, .bool, .int .i64]), (6, .i .i64), (7, .i .i64)]), (45, [(3, .ref 0 0), (4, .ref 1 0)])], [.cells [.sl false [.int .i64, .int .i64, .int .u8, .int .i64, .int .i64, .int .i64, .int .i64, .bool, .bool, .int .i64, .int .i64, .sl [.int .i64], .str, .int .i64, .int .i64, .bool, .int .i64]], .cells [.b]]⟩
def g23_0 (n : Nat) : List Leaf → Option (Bool) := gL [.int .i64, .int .i64, .int .u8, .int .i64, .int .i64, .int .i64, .int .i64, .bool, .bool, .int .i64, .int .i64, .sl [.int .i64], .str, .int .i64, .int .i64, .bool, .int .i64] (fun x0 => gI (fun x1 => gI (fun x2 => gL [.int .i64, .int .i64, .int .u8, .int .i64, .int .i64, .int .i64, .int .i64, .bool, .bool, .int .i64, .int .i64, .sl [.int .i64], .str, .int .i64, .int .i64, .bool, .int .i64] (fun x3 => gB (fun x4 => gE (F23_c0 n x0 x1 x2 x3 x4))))))
def cuts23 : List (List Nat × Cut (Bool)) := [([1, 1, 0, 1, 0, 98, 1, 0], ⟨sh23_0, g23_0⟩)]
noncomputable def X23 : Px (Bool) := ⟨T, Try.prog, lkF [(37, run37)], mkCuts 23 cuts23, altN, altN_ok⟩
theorem e23_0 (n : Nat) (x0 : List (Int × Int × Int × Int × Int × Int × Int × Bool × Bool × Int × Int × (List (Int)) × ByteArray × Int × Int × Bool × Int)) (x1 x2 : Int) (x3 : List (Int × Int × Int × Int × Int × Int × Int × Bool × Bool × Int × Int × (List (Int)) × ByteArray × Int × Int × Bool × Int)) (x4 : Bool) : stepF X23 8 23 (endK sr23 toB23) [1, 1, 0, 1, 0, 98, 1, 0] sh23_0 n [.l [.int .i64, .int .i64, .int .u8, .int .i64, .int .i64, .int .i64, .int .i64, .bool, .bool, .int .i64, .int .i64, .sl [.int .i64], .str, .int .i64, .int .i64, .bool, .int .i64] x0, .i x1, .i x2, .l [.int .i64, .int .i64, .int .u8, .int .i64, .int .i64, .int .i64, .int .i64, .bool, .bool, .int .i64, .int .i64, .sl [.int .i64], .str, .int .i64, .int .i64, .bool, .int .i64] x3, .b x4] = F23_c0 (n + 1) x0 x1 x2 x3 x4 := by kernel_rfl
theorem e23 (n : Nat) (a0 a1 : List (Int × Int × Int × Int × Int × Int × Int × Bool × Bool × Int × Int × (List (Int)) × ByteArray × Int × Int × Bool × Int)) : entF X23 8 23 pa23 (endK sr23 toB23) n [.l [.int .i64, .int .i64, .int .u8, .int .i64, .int .i64, .int .i64, .int .i64, .bool, .bool, .int .i64, .int .i64, .sl [.int .i64], .str, .int .i64, .int .i64, .bool, .int .i64] a0, .l [.int .i64, .int .i64, .int .u8, .int .i64, .int .i64, .int .i64, .int .i64, .bool, .bool, .int .i64, .int .i64, .sl [.int .i64], .str, .int .i64, .int .i64, .bool, .int .i64] a1] = F23 n a0 a1 := by kernel_rfl
theorem c23_0 : CutOK X23 8 23 (endK sr23 toB23) [1, 1, 0, 1, 0, 98, 1, 0] ⟨sh23_0, g23_0⟩ := by
  refine ⟨fun ls => ?_, fun n ls r h => ?_⟩
  · cases h : g23_0 0 ls with
    | none => exact h
    | some r =>
      unfold g23_0 at h; obtain ⟨x0, _, rfl, h1⟩ := gL_ok h; obtain ⟨x1, _, rfl, h2⟩ := gI_ok h1; obtain ⟨x2, _, rfl, h3⟩ := gI_ok h2; obtain ⟨x3, _, rfl, h4⟩ := gL_ok h3; obtain ⟨x4, _, rfl, h5⟩ := gB_ok h4; obtain ⟨rfl, h6⟩ := gE_ok h5; simp only [F23_c0] at h6; cases h6
  · replace h : g23_0 (n + 1) ls = some r := h
    unfold g23_0 at h
    obtain ⟨x0, _, rfl, h1⟩ := gL_ok h; obtain ⟨x1, _, rfl, h2⟩ := gI_ok h1; obtain ⟨x2, _, rfl, h3⟩ := gI_ok h2; obtain ⟨x3, _, rfl, h4⟩ := gL_ok h3; obtain ⟨x4, _, rfl, h5⟩ := gB_ok h4; obtain ⟨rfl, h6⟩ := gE_ok h5
    exact (e23_0 n x0 x1 x2 x3 x4).trans h6
theorem sp23 {n : Nat} (a0 a1 : List (Int × Int × Int × Int × Int × Int × Int × Bool × Bool × Int × Int × (List (Int)) × ByteArray × Int × Int × Bool × Int)) {y : Bool} (h : F23 n a0 a1 = some y) : SpecF T Try.prog 23 pa23 [.l [.int .i64, .int .i64, .int .u8, .int .i64, .int .i64, .int .i64, .int .i64, .bool, .bool, .int .i64, .int .i64, .sl [.int .i64], .str, .int .i64, .int .i64, .bool, .int .i64] a0, .l [.int .i64, .int .i64, .int .u8, .int .i64, .int .i64, .int .i64, .int .i64, .bool, .bool, .int .i64, .int .i64, .sl [.int .i64], .str, .int .i64, .int .i64, .bool, .int .i64] a1] sr23 (ofB23 y) :=
  fun_ok (X := X23) tok (sfok_of ⟨ok37, trivial⟩) mixed 23 8 cuts23 rfl toB23_ok ⟨c23_0, trivial⟩ ((e23 n a0 a1).trans h)
theorem ok23 {R : Type} : SFone T Try.prog 23 (run23 : SF R) := by
  intro ls K r h
  simp only [run23] at h
  obtain ⟨a0, _, rfl, h1⟩ := gL_ok h; obtain ⟨a1, _, rfl, h2⟩ := gL_ok h1; obtain ⟨rfl, h3⟩ := gE_ok h2
  obtain ⟨y, k1, k2⟩ := Option.bind_eq_some_iff.1 h3
  exact ⟨_, k2, sp23 a0 a1 k1⟩

/-! ### garland/garlandlaw11.wakes -/
def pa10 : List VP := []
def sr10 : RShape := ⟨.b, [], none⟩
def toB10 : List Leaf → Option (Bool) := gB (fun b0 => gE (some b0))
def ofB10 (y : Bool) : List Leaf := [.b y]
theorem toB10_ok : ∀ ls b, toB10 ls = some b → ls = ofB10 b := by
  intro ls b h
  unfold toB10 at h
  obtain ⟨b0, _, rfl, h1⟩ := gB_ok h; obtain ⟨rfl, h2⟩ := gE_ok h1
  cases h2; rfl
def run10 {R : Type} : SF R := ⟨pa10, sr10, fun ls K => (gE (Option.bind (F10 FUEL ) fun y => K (ofB10 y))) ls⟩
def sh10_0 : Shape := ⟨[(95, [(2, .b), (3, .sl true [.int .i64, .int .i64, .int .u8, .int .i64, .int .i64, .int .i64, .int .i64, .bool, .bool, .int .i64, .int .i64, .sl [.int .i64], .str, .int .i64, .int .i64, .bool, .int .i64]), (4, .i .i64)])], []⟩
def g10_0 (n : Nat) : List Leaf → Option (Bool) := gB (fun x0 => gL [.int .i64, .int .i64, .int .u8, .int .i64, .int .i64, .int .i64, .int .i64, .bool, .bool, .int .i64, .int .i64, .sl [.int .i64], .str, .int .i64, .int .i64, .bool, .int .i64] (fun x1 => gI (fun x2 => gE (F10_c0 n x0 x1 x2))))
def cuts10 : List (List Nat × Cut (Bool)) := [([1, 1, 1, 0, 1, 0], ⟨sh10_0, g10_0⟩)]
noncomputable def X10 : Px (Bool) := ⟨T, Try.prog, lkF [(13, run13), (29, run29), (27, run27), (19, run19), (11, run11), (15, run15), (21, run21), (16, run16), (24, run24), (23, run23)], mkCuts 10 cuts10, altN, altN_ok⟩
theorem e10_0 (n : Nat) (x0 : Bool) (x1 : List (Int × Int × Int × Int × Int × Int × Int × Bool × Bool × Int × Int × (List (Int)) × ByteArray × Int × Int × Bool × Int)) (x2 : Int) : stepF X10 8 10 (endK sr10 toB10) [1, 1, 1, 0, 1, 0] sh10_0 n [.b x0, .l [.int .i64, .int .i64, .int .u8, .int .i64, .int .i64, .int .i64, .int .i64, .bool, .bool, .int .i64, .int .i64, .sl [.int .i64], .str, .int .i64, .int .i64, .bool, .int .i64] x1, .i x2] = F10_c0 (n + 1) x0 x1 x2 := by kernel_rfl
theorem e10 (n : Nat) : entF X10 8 10 pa10 (endK sr10 toB10) n [] = F10 n  := by kernel_rfl
theorem c10_0 : CutOK X10 8 10 (endK sr10 toB10) [1, 1, 1, 0, 1, 0] ⟨sh10_0, g10_0⟩ := by
  refine ⟨fun ls => ?_, fun n ls r h => ?_⟩
  · cases h : g10_0 0 ls with
    | none => exact h
    | some r =>
      unfold g10_0 at h; obtain ⟨x0, _, rfl, h1⟩ := gB_ok h; obtain ⟨x1, _, rfl, h2⟩ := gL_ok h1; obtain ⟨x2, _, rfl, h3⟩ := gI_ok h2; obtain ⟨rfl, h4⟩ := gE_ok h3; simp only [F10_c0] at h4; cases h4
  · replace h : g10_0 (n + 1) ls = some r := h
    unfold g10_0 at h
    obtain ⟨x0, _, rfl, h1⟩ := gB_ok h; obtain ⟨x1, _, rfl, h2⟩ := gL_ok h1; obtain ⟨x2, _, rfl, h3⟩ := gI_ok h2; obtain ⟨rfl, h4⟩ := gE_ok h3
    exact (e10_0 n x0 x1 x2).trans h4
theorem sp10 {n : Nat} {y : Bool} (h : F10 n  = some y) : SpecF T Try.prog 10 pa10 [] sr10 (ofB10 y) :=
  fun_ok (X := X10) tok (sfok_of ⟨ok13, ok29, ok27, ok19, ok11, ok15, ok21, ok16, ok24, ok23, trivial⟩) mixed 10 8 cuts10 rfl toB10_ok ⟨c10_0, trivial⟩ ((e10 n ).trans h)
theorem ok10 {R : Type} : SFone T Try.prog 10 (run10 : SF R) := by
  intro ls K r h
  simp only [run10] at h
  obtain ⟨rfl, h1⟩ := gE_ok h
  obtain ⟨y, k1, k2⟩ := Option.bind_eq_some_iff.1 h1
  exact ⟨_, k2, sp10  k1⟩

/-! ### garland/garlandref06.place -/
def pa38 : List VP := [.i .i64]
def sr38 : RShape := ⟨.b, [], none⟩
def toB38 : List Leaf → Option (Bool) := gB (fun b0 => gE (some b0))
def ofB38 (y : Bool) : List Leaf := [.b y]
theorem toB38_ok : ∀ ls b, toB38 ls = some b → ls = ofB38 b := by
  intro ls b h
  unfold toB38 at h
  obtain ⟨b0, _, rfl, h1⟩ := gB_ok h; obtain ⟨rfl, h2⟩ := gE_ok h1
  cases h2; rfl
def run38 {R : Type} : SF R := ⟨pa38, sr38, fun ls K => (gI (fun a0 => gE (Option.bind (F38 FUEL a0) fun y => K (ofB38 y)))) ls⟩
def cuts38 : List (List Nat × Cut (Bool)) := []
noncomputable def X38 : Px (Bool) := ⟨T, Try.prog, lkF [], mkCuts 38 cuts38, altN, altN_ok⟩
theorem e38 (n : Nat) (a0 : Int) : entF X38 8 38 pa38 (endK sr38 toB38) n [.i a0] = F38 n a0 := by kernel_rfl
theorem sp38 {n : Nat} (a0 : Int) {y : Bool} (h : F38 n a0 = some y) : SpecF T Try.prog 38 pa38 [.i a0] sr38 (ofB38 y) :=
  fun_ok (X := X38) tok (sfok_of trivial) mixed 38 8 cuts38 rfl toB38_ok trivial ((e38 n a0).trans h)
theorem ok38 {R : Type} : SFone T Try.prog 38 (run38 : SF R) := by
  intro ls K r h
  simp only [run38] at h
  obtain ⟨a0, _, rfl, h1⟩ := gI_ok h; obtain ⟨rfl, h2⟩ := gE_ok h1
  obtain ⟨y, k1, k2⟩ := Option.bind_eq_some_iff.1 h2
  exact ⟨_, k2, sp38 a0 k1⟩

/-! ### garland/garlandref06.Asker -/
def pa39 : List VP := [.agg [.i .u8, .i .i64, .i .i64, .i .i64, .i .i64, .b, .b, .i .i64, .i .i64, .sl false [.int .i64], .s, .i .i64, .i .i64, .b, .i .i64]]
def sr39 : RShape := ⟨.i .i64, [], none⟩
def toB39 : List Leaf → Option (Int) := gI (fun b0 => gE (some b0))
def ofB39 (y : Int) : List Leaf := [.i y]
theorem toB39_ok : ∀ ls b, toB39 ls = some b → ls = ofB39 b := by
  intro ls b h
  unfold toB39 at h
  obtain ⟨b0, _, rfl, h1⟩ := gI_ok h; obtain ⟨rfl, h2⟩ := gE_ok h1
  cases h2; rfl
def run39 {R : Type} : SF R := ⟨pa39, sr39, fun ls K => (gI (fun a0 => gI (fun a1 => gI (fun a2 => gI (fun a3 => gI (fun a4 => gB (fun a5 => gB (fun a6 => gI (fun a7 => gI (fun a8 => gL [.int .i64] (fun a9 => gS (fun a10 => gI (fun a11 => gI (fun a12 => gB (fun a13 => gI (fun a14 => gE (Option.bind (F39 FUEL a0 a1 a2 a3 a4 a5 a6 a7 a8 a9 a10 a11 a12 a13 a14) fun y => K (ofB39 y)))))))))))))))))) ls⟩
def cuts39 : List (List Nat × Cut (Int)) := []
noncomputable def X39 : Px (Int) := ⟨T, Try.prog, lkF [(26, run26)], mkCuts 39 cuts39, altN, altN_ok⟩
theorem e39 (n : Nat) (a0 a1 a2 a3 a4 : Int) (a5 a6 : Bool) (a7 a8 : Int) (a9 : List (Int)) (a10 : ByteArray) (a11 a12 : Int) (a13 : Bool) (a14 : Int) : entF X39 8 39 pa39 (endK sr39 toB39) n [.i a0, .i a1, .i a2, .i a3, .i a4, .b a5, .b a6, .i a7, .i a8, .l [.int .i64] a9, .s a10, .i a11, .i a12, .b a13, .i a14] = F39 n a0 a1 a2 a3 a4 a5 a6 a7 a8 a9 a10 a11 a12 a13 a14 := by kernel_rfl
theorem sp39 {n : Nat} (a0 a1 a2 a3 a4 : Int) (a5 a6 : Bool) (a7 a8 : Int) (a9 : List (Int)) (a10 : ByteArray) (a11 a12 : Int) (a13 : Bool) (a14 : Int) {y : Int} (h : F39 n a0 a1 a2 a3 a4 a5 a6 a7 a8 a9 a10 a11 a12 a13 a14 = some y) : SpecF T Try.prog 39 pa39 [.i a0, .i a1, .i a2, .i a3, .i a4, .b a5, .b a6, .i a7, .i a8, .l [.int .i64] a9, .s a10, .i a11, .i a12, .b a13, .i a14] sr39 (ofB39 y) :=
  fun_ok (X := X39) tok (sfok_of ⟨ok26, trivial⟩) mixed 39 8 cuts39 rfl toB39_ok trivial ((e39 n a0 a1 a2 a3 a4 a5 a6 a7 a8 a9 a10 a11 a12 a13 a14).trans h)
theorem ok39 {R : Type} : SFone T Try.prog 39 (run39 : SF R) := by
  intro ls K r h
  simp only [run39] at h
  obtain ⟨a0, a1, a2, a3, _, rfl, h1⟩ := gI4_ok h; obtain ⟨a4, _, rfl, h2⟩ := gI_ok h1; obtain ⟨a5, _, rfl, h3⟩ := gB_ok h2; obtain ⟨a6, _, rfl, h4⟩ := gB_ok h3; obtain ⟨a7, _, rfl, h5⟩ := gI_ok h4; obtain ⟨a8, _, rfl, h6⟩ := gI_ok h5; obtain ⟨a9, _, rfl, h7⟩ := gL_ok h6; obtain ⟨a10, _, rfl, h8⟩ := gS_ok h7; obtain ⟨a11, _, rfl, h9⟩ := gI_ok h8; obtain ⟨a12, _, rfl, h10⟩ := gI_ok h9; obtain ⟨a13, _, rfl, h11⟩ := gB_ok h10; obtain ⟨a14, _, rfl, h12⟩ := gI_ok h11; obtain ⟨rfl, h13⟩ := gE_ok h12
  obtain ⟨y, k1, k2⟩ := Option.bind_eq_some_iff.1 h13
  exact ⟨_, k2, sp39 a0 a1 a2 a3 a4 a5 a6 a7 a8 a9 a10 a11 a12 a13 a14 k1⟩

/-! ### garland/garlandref06.bare -/
def pa40 : List VP := [.agg [.i .u8, .i .i64, .i .i64, .i .i64, .i .i64, .b, .b, .i .i64, .i .i64, .opq 0, .s, .i .i64, .i .i64, .b, .i .i64]]
def sr40 : RShape := ⟨.agg [.i .u8, .i .i64, .i .i64, .i .i64, .i .i64, .b, .b, .i .i64, .i .i64, .opq 0, .s, .i .i64, .i .i64, .b, .i .i64], [], some (.agg [.i .u8, .i .i64, .i .i64, .i .i64, .i .i64, .b, .b, .i .i64, .i .i64, .nil, .s, .i .i64, .i .i64, .b, .i .i64])⟩
def toB40 : List Leaf → Option (Sbi5b2i2si2bi) := gB (fun b0 => gI (fun b1 => gI (fun b2 => gI (fun b3 => gI (fun b4 => gI (fun b5 => gB (fun b6 => gB (fun b7 => gI (fun b8 => gI (fun b9 => gS (fun b10 => gI (fun b11 => gI (fun b12 => gB (fun b13 => gI (fun b14 => gE (some ⟨b0, b1, b2, b3, b4, b5, b6, b7, b8, b9, b10, b11, b12, b13, b14⟩))))))))))))))))
def ofB40 (y : Sbi5b2i2si2bi) : List Leaf := [.b y.q0, .i y.q1, .i y.q2, .i y.q3, .i y.q4, .i y.q5, .b y.q6, .b y.q7, .i y.q8, .i y.q9, .s y.q10, .i y.q11, .i y.q12, .b y.q13, .i y.q14]
theorem toB40_ok : ∀ ls b, toB40 ls = some b → ls = ofB40 b := by
  intro ls b h
  unfold toB40 at h
  obtain ⟨b0, _, rfl, h1⟩ := gB_ok h; obtain ⟨b1, b2, b3, b4, _, rfl, h2⟩ := gI4_ok h1; obtain ⟨b5, _, rfl, h3⟩ := gI_ok h2; obtain ⟨b6, _, rfl, h4⟩ := gB_ok h3; obtain ⟨b7, _, rfl, h5⟩ := gB_ok h4; obtain ⟨b8, _, rfl, h6⟩ := gI_ok h5; obtain ⟨b9, _, rfl, h7⟩ := gI_ok h6; obtain ⟨b10, _, rfl, h8⟩ := gS_ok h7; obtain ⟨b11, _, rfl, h9⟩ := gI_ok h8; obtain ⟨b12, _, rfl, h10⟩ := gI_ok h9; obtain ⟨b13, _, rfl, h11⟩ := gB_ok h10; obtain ⟨b14, _, rfl, h12⟩ := gI_ok h11; obtain ⟨rfl, h13⟩ := gE_ok h12
  cases h13; rfl
def run40 {R : Type} : SF R := ⟨pa40, sr40, fun ls K => (gI (fun a0 => gI (fun a1 => gI (fun a2 => gI (fun a3 => gI (fun a4 => gB (fun a5 => gB (fun a6 => gI (fun a7 => gI (fun a8 => gS (fun a9 => gI (fun a10 => gI (fun a11 => gB (fun a12 => gI (fun a13 => gE (Option.bind (F40 FUEL a0 a1 a2 a3 a4 a5 a6 a7 a8 a9 a10 a11 a12 a13) fun y => K (ofB40 y))))))))))))))))) ls⟩
def cuts40 : List (List Nat × Cut (Sbi5b2i2si2bi)) := []
noncomputable def X40 : Px (Sbi5b2i2si2bi) := ⟨T, Try.prog, lkF [], mkCuts 40 cuts40, altN, altN_ok⟩
theorem e40 (n : Nat) (a0 a1 a2 a3 a4 : Int) (a5 a6 : Bool) (a7 a8 : Int) (a9 : ByteArray) (a10 a11 : Int) (a12 : Bool) (a13 : Int) : entF X40 8 40 pa40 (endK sr40 toB40) n [.i a0, .i a1, .i a2, .i a3, .i a4, .b a5, .b a6, .i a7, .i a8, .s a9, .i a10, .i a11, .b a12, .i a13] = F40 n a0 a1 a2 a3 a4 a5 a6 a7 a8 a9 a10 a11 a12 a13 := by kernel_rfl
theorem sp40 {n : Nat} (a0 a1 a2 a3 a4 : Int) (a5 a6 : Bool) (a7 a8 : Int) (a9 : ByteArray) (a10 a11 : Int) (a12 : Bool) (a13 : Int) {y : Sbi5b2i2si2bi} (h : F40 n a0 a1 a2 a3 a4 a5 a6 a7 a8 a9 a10 a11 a12 a13 = some y) : SpecF T Try.prog 40 pa40 [.i a0, .i a1, .i a2, .i a3, .i a4, .b a5, .b a6, .i a7, .i a8, .s a9, .i a10, .i a11, .b a12, .i a13] sr40 (ofB40 y) :=
  fun_ok (X := X40) tok (sfok_of trivial) mixed 40 8 cuts40 rfl toB40_ok trivial ((e40 n a0 a1 a2 a3 a4 a5 a6 a7 a8 a9 a10 a11 a12 a13).trans h)
theorem ok40 {R : Type} : SFone T Try.prog 40 (run40 : SF R) := by
  intro ls K r h
  simp only [run40] at h
  obtain ⟨a0, a1, a2, a3, _, rfl, h1⟩ := gI4_ok h; obtain ⟨a4, _, rfl, h2⟩ := gI_ok h1; obtain ⟨a5, _, rfl, h3⟩ := gB_ok h2; obtain ⟨a6, _, rfl, h4⟩ := gB_ok h3; obtain ⟨a7, _, rfl, h5⟩ := gI_ok h4; obtain ⟨a8, _, rfl, h6⟩ := gI_ok h5; obtain ⟨a9, _, rfl, h7⟩ := gS_ok h6; obtain ⟨a10, _, rfl, h8⟩ := gI_ok h7; obtain ⟨a11, _, rfl, h9⟩ := gI_ok h8; obtain ⟨a12, _, rfl, h10⟩ := gB_ok h9; obtain ⟨a13, _, rfl, h11⟩ := gI_ok h10; obtain ⟨rfl, h12⟩ := gE_ok h11
  obtain ⟨y, k1, k2⟩ := Option.bind_eq_some_iff.1 h12
  exact ⟨_, k2, sp40 a0 a1 a2 a3 a4 a5 a6 a7 a8 a9 a10 a11 a12 a13 k1⟩

/-! ### garland/garlandref06.Pair -/
def pa51 : List VP := [.agg [.s, .i .i64, .i .i64, .b]]
def sr51 : RShape := ⟨.b, [], none⟩
def toB51 : List Leaf → Option (Bool) := gB (fun b0 => gE (some b0))
def ofB51 (y : Bool) : List Leaf := [.b y]
theorem toB51_ok : ∀ ls b, toB51 ls = some b → ls = ofB51 b := by
  intro ls b h
  unfold toB51 at h
  obtain ⟨b0, _, rfl, h1⟩ := gB_ok h; obtain ⟨rfl, h2⟩ := gE_ok h1
  cases h2; rfl
def run51 {R : Type} : SF R := ⟨pa51, sr51, fun ls K => (gS (fun a0 => gI (fun a1 => gI (fun a2 => gB (fun a3 => gE (Option.bind (F51 FUEL a0 a1 a2 a3) fun y => K (ofB51 y))))))) ls⟩
def cuts51 : List (List Nat × Cut (Bool)) := []
noncomputable def X51 : Px (Bool) := ⟨T, Try.prog, lkF [], mkCuts 51 cuts51, altN, altN_ok⟩
theorem e51 (n : Nat) (a0 : ByteArray) (a1 a2 : Int) (a3 : Bool) : entF X51 8 51 pa51 (endK sr51 toB51) n [.s a0, .i a1, .i a2, .b a3] = F51 n a0 a1 a2 a3 := by kernel_rfl
theorem sp51 {n : Nat} (a0 : ByteArray) (a1 a2 : Int) (a3 : Bool) {y : Bool} (h : F51 n a0 a1 a2 a3 = some y) : SpecF T Try.prog 51 pa51 [.s a0, .i a1, .i a2, .b a3] sr51 (ofB51 y) :=
  fun_ok (X := X51) tok (sfok_of trivial) mixed 51 8 cuts51 rfl toB51_ok trivial ((e51 n a0 a1 a2 a3).trans h)
theorem ok51 {R : Type} : SFone T Try.prog 51 (run51 : SF R) := by
  intro ls K r h
  simp only [run51] at h
  obtain ⟨a0, _, rfl, h1⟩ := gS_ok h; obtain ⟨a1, _, rfl, h2⟩ := gI_ok h1; obtain ⟨a2, _, rfl, h3⟩ := gI_ok h2; obtain ⟨a3, _, rfl, h4⟩ := gB_ok h3; obtain ⟨rfl, h5⟩ := gE_ok h4
  obtain ⟨y, k1, k2⟩ := Option.bind_eq_some_iff.1 h5
  exact ⟨_, k2, sp51 a0 a1 a2 a3 k1⟩

/-! ### garland/garlandref06.list -/
def pa52 : List VP := [.sl false [.int .i64], .i .i64]
def sr52 : RShape := ⟨.b, [], none⟩
def toB52 : List Leaf → Option (Bool) := gB (fun b0 => gE (some b0))
def ofB52 (y : Bool) : List Leaf := [.b y]
theorem toB52_ok : ∀ ls b, toB52 ls = some b → ls = ofB52 b := by
  intro ls b h
  unfold toB52 at h
  obtain ⟨b0, _, rfl, h1⟩ := gB_ok h; obtain ⟨rfl, h2⟩ := gE_ok h1
  cases h2; rfl
def run52 {R : Type} : SF R := ⟨pa52, sr52, fun ls K => (gL [.int .i64] (fun a0 => gI (fun a1 => gE (Option.bind (F52 FUEL a0 a1) fun y => K (ofB52 y))))) ls⟩
def sh52_0 : Shape := ⟨[(44, [(0, .sl false [.int .i64]), (1, .i .i64), (5, .i .i64)])], []⟩
def g52_0 (n : Nat) : List Leaf → Option (Bool) := gL [.int .i64] (fun x0 => gI (fun x1 => gI (fun x2 => gE (F52_c0 n x0 x1 x2))))
def sh52_1 : Shape := ⟨[(44, [(0, .sl false [.int .i64]), (1, .i .i64), (5, .i .i64), (6, .i .i64)])], []⟩
def g52_1 (n : Nat) : List Leaf → Option (Bool) := gL [.int .i64] (fun x0 => gI (fun x1 => gI (fun x2 => gI (fun x3 => gE (F52_c1 n x0 x1 x2 x3)))))
def cuts52 : List (List Nat × Cut (Bool)) := [([1, 0, 1, 0], ⟨sh52_0, g52_0⟩), ([1, 0, 1, 0, 0, 1, 0, 0, 1, 1, 0], ⟨sh52_1, g52_1⟩)]
noncomputable def X52 : Px (Bool) := ⟨T, Try.prog, lkF [(38, run38)], mkCuts 52 cuts52, altN, altN_ok⟩
theorem e52_0 (n : Nat) (x0 : List (Int)) (x1 x2 : Int) : stepF X52 8 52 (endK sr52 toB52) [1, 0, 1, 0] sh52_0 n [.l [.int .i64] x0, .i x1, .i x2] = F52_c0 (n + 1) x0 x1 x2 := by kernel_rfl
theorem e52_1 (n : Nat) (x0 : List (Int)) (x1 x2 x3 : Int) : stepF X52 8 52 (endK sr52 toB52) [1, 0, 1, 0, 0, 1, 0, 0, 1, 1, 0] sh52_1 n [.l [.int .i64] x0, .i x1, .i x2, .i x3] = F52_c1 (n + 1) x0 x1 x2 x3 := by kernel_rfl
theorem e52 (n : Nat) (a0 : List (Int)) (a1 : Int) : entF X52 8 52 pa52 (endK sr52 toB52) n [.l [.int .i64] a0, .i a1] = F52 n a0 a1 := by kernel_rfl
theorem c52_0 : CutOK X52 8 52 (endK sr52 toB52) [1, 0, 1, 0] ⟨sh52_0, g52_0⟩ := by
  refine ⟨fun ls => ?_, fun n ls r h => ?_⟩
  · cases h : g52_0 0 ls with
    | none => exact h
    | some r =>
      unfold g52_0 at h; obtain ⟨x0, _, rfl, h1⟩ := gL_ok h; obtain ⟨x1, _, rfl, h2⟩ := gI_ok h1; obtain ⟨x2, _, rfl, h3⟩ := gI_ok h2; obtain ⟨rfl, h4⟩ := gE_ok h3; simp only [F52_c0] at h4; cases h4
  · replace h : g52_0 (n + 1) ls = some r := h
    unfold g52_0 at h
    obtain ⟨x0, _, rfl, h1⟩ := gL_ok h; obtain ⟨x1, _, rfl, h2⟩ := gI_ok h1; obtain ⟨x2, _, rfl, h3⟩ := gI_ok h2; obtain ⟨rfl, h4⟩ := gE_ok h3
    exact (e52_0 n x0 x1 x2).trans h4
theorem c52_1 : CutOK X52 8 52 (endK sr52 toB52) [1, 0, 1, 0, 0, 1, 0, 0, 1, 1, 0] ⟨sh52_1, g52_1⟩ := by
  refine ⟨fun ls => ?_, fun n ls r h => ?_⟩
  · cases h : g52_1 0 ls with
    | none => exact h
    | some r =>
      unfold g52_1 at h; obtain ⟨x0, _, rfl, h1⟩ := gL_ok h; obtain ⟨x1, _, rfl, h2⟩ := gI_ok h1; obtain ⟨x2, _, rfl, h3⟩ := gI_ok h2; obtain ⟨x3, _, rfl, h4⟩ := gI_ok h3; obtain ⟨rfl, h5⟩ := gE_ok h4; simp only [F52_c1] at h5; cases h5
  · replace h : g52_1 (n + 1) ls = some r := h
    unfold g52_1 at h
    obtain ⟨x0, _, rfl, h1⟩ := gL_ok h; obtain ⟨x1, _, rfl, h2⟩ := gI_ok h1; obtain ⟨x2, _, rfl, h3⟩ := gI_ok h2; obtain ⟨x3, _, rfl, h4⟩ := gI_ok h3; obtain ⟨rfl, h5⟩ := gE_ok h4
    exact (e52_1 n x0 x1 x2 x3).trans h5
theorem sp52 {n : Nat} (a0 : List (Int)) (a1 : Int) {y : Bool} (h : F52 n a0 a1 = some y) : SpecF T Try.prog 52 pa52 [.l [.int .i64] a0, .i a1] sr52 (ofB52 y) :=
  fun_ok (X := X52) tok (sfok_of ⟨ok38, trivial⟩) mixed 52 8 cuts52 rfl toB52_ok ⟨c52_0, c52_1, trivial⟩ ((e52 n a0 a1).trans h)
theorem ok52 {R : Type} : SFone T Try.prog 52 (run52 : SF R) := by
  intro ls K r h
  simp only [run52] at h
  obtain ⟨a0, _, rfl, h1⟩ := gL_ok h; obtain ⟨a1, _, rfl, h2⟩ := gI_ok h1; obtain ⟨rfl, h3⟩ := gE_ok h2
  obtain ⟨y, k1, k2⟩ := Option.bind_eq_some_iff.1 h3
  exact ⟨_, k2, sp52 a0 a1 k1⟩

/-! ### garland/garlandref06.has -/
def pa41 : List VP := [.agg [.i .u8, .i .i64, .i .i64, .i .i64, .i .i64, .b, .b, .i .i64, .i .i64, .sl false [.int .i64], .s, .i .i64, .i .i64, .b, .i .i64]]
def sr41 : RShape := ⟨.b, [], none⟩
def toB41 : List Leaf → Option (Bool) := gB (fun b0 => gE (some b0))
def ofB41 (y : Bool) : List Leaf := [.b y]
theorem toB41_ok : ∀ ls b, toB41 ls = some b → ls = ofB41 b := by
  intro ls b h
  unfold toB41 at h
  obtain ⟨b0, _, rfl, h1⟩ := gB_ok h; obtain ⟨rfl, h2⟩ := gE_ok h1
  cases h2; rfl
def run41 {R : Type} : SF R := ⟨pa41, sr41, fun ls K => (gI (fun a0 => gI (fun a1 => gI (fun a2 => gI (fun a3 => gI (fun a4 => gB (fun a5 => gB (fun a6 => gI (fun a7 => gI (fun a8 => gL [.int .i64] (fun a9 => gS (fun a10 => gI (fun a11 => gI (fun a12 => gB (fun a13 => gI (fun a14 => gE (Option.bind (F41 FUEL a0 a1 a2 a3 a4 a5 a6 a7 a8 a9 a10 a11 a12 a13 a14) fun y => K (ofB41 y)))))))))))))))))) ls⟩
def cuts41 : List (List Nat × Cut (Bool)) := []
noncomputable def X41 : Px (Bool) := ⟨T, Try.prog, lkF [(38, run38), (51, run51), (52, run52)], mkCuts 41 cuts41, altN, altN_ok⟩
theorem e41 (n : Nat) (a0 a1 a2 a3 a4 : Int) (a5 a6 : Bool) (a7 a8 : Int) (a9 : List (Int)) (a10 : ByteArray) (a11 a12 : Int) (a13 : Bool) (a14 : Int) : entF X41 8 41 pa41 (endK sr41 toB41) n [.i a0, .i a1, .i a2, .i a3, .i a4, .b a5, .b a6, .i a7, .i a8, .l [.int .i64] a9, .s a10, .i a11, .i a12, .b a13, .i a14] = F41 n a0 a1 a2 a3 a4 a5 a6 a7 a8 a9 a10 a11 a12 a13 a14 := by kernel_rfl
theorem sp41 {n : Nat} (a0 a1 a2 a3 a4 : Int) (a5 a6 : Bool) (a7 a8 : Int) (a9 : List (Int)) (a10 : ByteArray) (a11 a12 : Int) (a13 : Bool) (a14 : Int) {y : Bool} (h : F41 n a0 a1 a2 a3 a4 a5 a6 a7 a8 a9 a10 a11 a12 a13 a14 = some y) : SpecF T Try.prog 41 pa41 [.i a0, .i a1, .i a2, .i a3, .i a4, .b a5, .b a6, .i a7, .i a8, .l [.int .i64] a9, .s a10, .i a11, .i a12, .b a13, .i a14] sr41 (ofB41 y) :=
  fun_ok (X := X41) tok (sfok_of ⟨ok38, ok51, ok52, trivial⟩) mixed 41 8 cuts41 rfl toB41_ok trivial ((e41 n a0 a1 a2 a3 a4 a5 a6 a7 a8 a9 a10 a11 a12 a13 a14).trans h)
theorem ok41 {R : Type} : SFone T Try.prog 41 (run41 : SF R) := by
  intro ls K r h
  simp only [run41] at h
  obtain ⟨a0, a1, a2, a3, _, rfl, h1⟩ := gI4_ok h; obtain ⟨a4, _, rfl, h2⟩ := gI_ok h1; obtain ⟨a5, _, rfl, h3⟩ := gB_ok h2; obtain ⟨a6, _, rfl, h4⟩ := gB_ok h3; obtain ⟨a7, _, rfl, h5⟩ := gI_ok h4; obtain ⟨a8, _, rfl, h6⟩ := gI_ok h5; obtain ⟨a9, _, rfl, h7⟩ := gL_ok h6; obtain ⟨a10, _, rfl, h8⟩ := gS_ok h7; obtain ⟨a11, _, rfl, h9⟩ := gI_ok h8; obtain ⟨a12, _, rfl, h10⟩ := gI_ok h9; obtain ⟨a13, _, rfl, h11⟩ := gB_ok h10; obtain ⟨a14, _, rfl, h12⟩ := gI_ok h11; obtain ⟨rfl, h13⟩ := gE_ok h12
  obtain ⟨y, k1, k2⟩ := Option.bind_eq_some_iff.1 h13
  exact ⟨_, k2, sp41 a0 a1 a2 a3 a4 a5 a6 a7 a8 a9 a10 a11 a12 a13 a14 k1⟩

/-! ### garland/garlandref06.Right -/
def pa25 : List VP := [.agg [.i .u8, .i .i64, .i .i64, .i .i64, .i .i64, .b, .b, .i .i64, .i .i64, .sl false [.int .i64], .s, .i .i64, .i .i64, .b, .i .i64]]
def sr25 : RShape := ⟨.b, [], none⟩
def toB25 : List Leaf → Option (Bool) := gB (fun b0 => gE (some b0))
def ofB25 (y : Bool) : List Leaf := [.b y]
theorem toB25_ok : ∀ ls b, toB25 ls = some b → ls = ofB25 b := by
  intro ls b h
  unfold toB25 at h
  obtain ⟨b0, _, rfl, h1⟩ := gB_ok h; obtain ⟨rfl, h2⟩ := gE_ok h1
  cases h2; rfl
def run25 {R : Type} : SF R := ⟨pa25, sr25, fun ls K => (gI (fun a0 => gI (fun a1 => gI (fun a2 => gI (fun a3 => gI (fun a4 => gB (fun a5 => gB (fun a6 => gI (fun a7 => gI (fun a8 => gL [.int .i64] (fun a9 => gS (fun a10 => gI (fun a11 => gI (fun a12 => gB (fun a13 => gI (fun a14 => gE (Option.bind (F25 FUEL a0 a1 a2 a3 a4 a5 a6 a7 a8 a9 a10 a11 a12 a13 a14) fun y => K (ofB25 y)))))))))))))))))) ls⟩
def cuts25 : List (List Nat × Cut (Bool)) := []
noncomputable def X25 : Px (Bool) := ⟨T, Try.prog, lkF [(38, run38), (39, run39), (40, run40), (15, run15), (41, run41)], mkCuts 25 cuts25, altN, altN_ok⟩
theorem e25 (n : Nat) (a0 a1 a2 a3 a4 : Int) (a5 a6 : Bool) (a7 a8 : Int) (a9 : List (Int)) (a10 : ByteArray) (a11 a12 : Int) (a13 : Bool) (a14 : Int) : entF X25 8 25 pa25 (endK sr25 toB25) n [.i a0, .i a1, .i a2, .i a3, .i a4, .b a5, .b a6, .i a7, .i a8, .l [.int .i64] a9, .s a10, .i a11, .i a12, .b a13, .i a14] = F25 n a0 a1 a2 a3 a4 a5 a6 a7 a8 a9 a10 a11 a12 a13 a14 := by kernel_rfl
theorem sp25 {n : Nat} (a0 a1 a2 a3 a4 : Int) (a5 a6 : Bool) (a7 a8 : Int) (a9 : List (Int)) (a10 : ByteArray) (a11 a12 : Int) (a13 : Bool) (a14 : Int) {y : Bool} (h : F25 n a0 a1 a2 a3 a4 a5 a6 a7 a8 a9 a10 a11 a12 a13 a14 = some y) : SpecF T Try.prog 25 pa25 [.i a0, .i a1, .i a2, .i a3, .i a4, .b a5, .b a6, .i a7, .i a8, .l [.int .i64] a9, .s a10, .i a11, .i a12, .b a13, .i a14] sr25 (ofB25 y) :=
  fun_ok (X := X25) tok (sfok_of ⟨ok38, ok39, ok40, ok15, ok41, trivial⟩) mixed 25 8 cuts25 rfl toB25_ok trivial ((e25 n a0 a1 a2 a3 a4 a5 a6 a7 a8 a9 a10 a11 a12 a13 a14).trans h)
theorem ok25 {R : Type} : SFone T Try.prog 25 (run25 : SF R) := by
  intro ls K r h
  simp only [run25] at h
  obtain ⟨a0, a1, a2, a3, _, rfl, h1⟩ := gI4_ok h; obtain ⟨a4, _, rfl, h2⟩ := gI_ok h1; obtain ⟨a5, _, rfl, h3⟩ := gB_ok h2; obtain ⟨a6, _, rfl, h4⟩ := gB_ok h3; obtain ⟨a7, _, rfl, h5⟩ := gI_ok h4; obtain ⟨a8, _, rfl, h6⟩ := gI_ok h5; obtain ⟨a9, _, rfl, h7⟩ := gL_ok h6; obtain ⟨a10, _, rfl, h8⟩ := gS_ok h7; obtain ⟨a11, _, rfl, h9⟩ := gI_ok h8; obtain ⟨a12, _, rfl, h10⟩ := gI_ok h9; obtain ⟨a13, _, rfl, h11⟩ := gB_ok h10; obtain ⟨a14, _, rfl, h12⟩ := gI_ok h11; obtain ⟨rfl, h13⟩ := gE_ok h12
  obtain ⟨y, k1, k2⟩ := Option.bind_eq_some_iff.1 h13
  exact ⟨_, k2, sp25 a0 a1 a2 a3 a4 a5 a6 a7 a8 a9 a10 a11 a12 a13 a14 k1⟩

/-! ### garland/garlandref06.Own -/
def pa33 : List VP := [.agg [.i .u8, .i .i64, .i .i64, .i .i64, .i .i64, .b, .b, .i .i64, .i .i64, .sl false [.int .i64], .s, .i .i64, .i .i64, .b, .i .i64]]
def sr33 : RShape := ⟨.agg [.i .u8, .i .i64, .i .i64, .i .i64, .i .i64, .b, .b, .i .i64, .i .i64, .row 0, .s, .i .i64, .i .i64, .b, .i .i64], [.row true [.int .i64]], none⟩
def toB33 : List Leaf → Option (Si5b2i2si2bil) := gI (fun b0 => gI (fun b1 => gI (fun b2 => gI (fun b3 => gI (fun b4 => gB (fun b5 => gB (fun b6 => gI (fun b7 => gI (fun b8 => gS (fun b9 => gI (fun b10 => gI (fun b11 => gB (fun b12 => gI (fun b13 => gL [.int .i64] (fun b14 => gE (some ⟨b0, b1, b2, b3, b4, b5, b6, b7, b8, b9, b10, b11, b12, b13, b14⟩))))))))))))))))
def ofB33 (y : Si5b2i2si2bil) : List Leaf := [.i y.q0, .i y.q1, .i y.q2, .i y.q3, .i y.q4, .b y.q5, .b y.q6, .i y.q7, .i y.q8, .s y.q9, .i y.q10, .i y.q11, .b y.q12, .i y.q13, .l [.int .i64] y.q14]
theorem toB33_ok : ∀ ls b, toB33 ls = some b → ls = ofB33 b := by
  intro ls b h
  unfold toB33 at h
  obtain ⟨b0, b1, b2, b3, _, rfl, h1⟩ := gI4_ok h; obtain ⟨b4, _, rfl, h2⟩ := gI_ok h1; obtain ⟨b5, _, rfl, h3⟩ := gB_ok h2; obtain ⟨b6, _, rfl, h4⟩ := gB_ok h3; obtain ⟨b7, _, rfl, h5⟩ := gI_ok h4; obtain ⟨b8, _, rfl, h6⟩ := gI_ok h5; obtain ⟨b9, _, rfl, h7⟩ := gS_ok h6; obtain ⟨b10, _, rfl, h8⟩ := gI_ok h7; obtain ⟨b11, _, rfl, h9⟩ := gI_ok h8; obtain ⟨b12, _, rfl, h10⟩ := gB_ok h9; obtain ⟨b13, _, rfl, h11⟩ := gI_ok h10; obtain ⟨b14, _, rfl, h12⟩ := gL_ok h11; obtain ⟨rfl, h13⟩ := gE_ok h12
  cases h13; rfl
def run33 {R : Type} : SF R := ⟨pa33, sr33, fun ls K => (gI (fun a0 => gI (fun a1 => gI (fun a2 => gI (fun a3 => gI (fun a4 => gB (fun a5 => gB (fun a6 => gI (fun a7 => gI (fun a8 => gL [.int .i64] (fun a9 => gS (fun a10 => gI (fun a11 => gI (fun a12 => gB (fun a13 => gI (fun a14 => gE (Option.bind (F33 FUEL a0 a1 a2 a3 a4 a5 a6 a7 a8 a9 a10 a11 a12 a13 a14) fun y => K (ofB33 y)))))))))))))))))) ls⟩
def cuts33 : List (List Nat × Cut (Si5b2i2si2bil)) := []
noncomputable def X33 : Px (Si5b2i2si2bil) := ⟨T, Try.prog, lkF [], mkCuts 33 cuts33, altN, altN_ok⟩
theorem e33 (n : Nat) (a0 a1 a2 a3 a4 : Int) (a5 a6 : Bool) (a7 a8 : Int) (a9 : List (Int)) (a10 : ByteArray) (a11 a12 : Int) (a13 : Bool) (a14 : Int) : entF X33 8 33 pa33 (endK sr33 toB33) n [.i a0, .i a1, .i a2, .i a3, .i a4, .b a5, .b a6, .i a7, .i a8, .l [.int .i64] a9, .s a10, .i a11, .i a12, .b a13, .i a14] = F33 n a0 a1 a2 a3 a4 a5 a6 a7 a8 a9 a10 a11 a12 a13 a14 := by kernel_rfl
theorem sp33 {n : Nat} (a0 a1 a2 a3 a4 : Int) (a5 a6 : Bool) (a7 a8 : Int) (a9 : List (Int)) (a10 : ByteArray) (a11 a12 : Int) (a13 : Bool) (a14 : Int) {y : Si5b2i2si2bil} (h : F33 n a0 a1 a2 a3 a4 a5 a6 a7 a8 a9 a10 a11 a12 a13 a14 = some y) : SpecF T Try.prog 33 pa33 [.i a0, .i a1, .i a2, .i a3, .i a4, .b a5, .b a6, .i a7, .i a8, .l [.int .i64] a9, .s a10, .i a11, .i a12, .b a13, .i a14] sr33 (ofB33 y) :=
  fun_ok (X := X33) tok (sfok_of trivial) mixed 33 8 cuts33 rfl toB33_ok trivial ((e33 n a0 a1 a2 a3 a4 a5 a6 a7 a8 a9 a10 a11 a12 a13 a14).trans h)
theorem ok33 {R : Type} : SFone T Try.prog 33 (run33 : SF R) := by
  intro ls K r h
  simp only [run33] at h
  obtain ⟨a0, a1, a2, a3, _, rfl, h1⟩ := gI4_ok h; obtain ⟨a4, _, rfl, h2⟩ := gI_ok h1; obtain ⟨a5, _, rfl, h3⟩ := gB_ok h2; obtain ⟨a6, _, rfl, h4⟩ := gB_ok h3; obtain ⟨a7, _, rfl, h5⟩ := gI_ok h4; obtain ⟨a8, _, rfl, h6⟩ := gI_ok h5; obtain ⟨a9, _, rfl, h7⟩ := gL_ok h6; obtain ⟨a10, _, rfl, h8⟩ := gS_ok h7; obtain ⟨a11, _, rfl, h9⟩ := gI_ok h8; obtain ⟨a12, _, rfl, h10⟩ := gI_ok h9; obtain ⟨a13, _, rfl, h11⟩ := gB_ok h10; obtain ⟨a14, _, rfl, h12⟩ := gI_ok h11; obtain ⟨rfl, h13⟩ := gE_ok h12
  obtain ⟨y, k1, k2⟩ := Option.bind_eq_some_iff.1 h13
  exact ⟨_, k2, sp33 a0 a1 a2 a3 a4 a5 a6 a7 a8 a9 a10 a11 a12 a13 a14 k1⟩

/-! ### garland/garlandref11.Of -/
def pa12 : List VP := [.agg [.i .u8, .i .i64, .i .i64, .i .i64, .i .i64, .b, .b, .i .i64, .i .i64, .sl false [.int .i64], .s, .i .i64, .i .i64, .b, .i .i64]]
def sr12 : RShape := ⟨.tup [.agg [.i .i64, .i .i64, .i .u8, .i .i64, .i .i64, .i .i64, .i .i64, .b, .b, .i .i64, .i .i64, .sl true [.int .i64], .s, .i .i64, .i .i64, .b, .i .i64], .i .i64], [], none⟩
def toB12 : List Leaf → Option (Si7b2i2lsi2bi2) := gI (fun b0 => gI (fun b1 => gI (fun b2 => gI (fun b3 => gI (fun b4 => gI (fun b5 => gI (fun b6 => gB (fun b7 => gB (fun b8 => gI (fun b9 => gI (fun b10 => gL [.int .i64] (fun b11 => gS (fun b12 => gI (fun b13 => gI (fun b14 => gB (fun b15 => gI (fun b16 => gI (fun b17 => gE (some ⟨b0, b1, b2, b3, b4, b5, b6, b7, b8, b9, b10, b11, b12, b13, b14, b15, b16, b17⟩)))))))))))))))))))
def ofB12 (y : Si7b2i2lsi2bi2) : List Leaf := [.i y.q0, .i y.q1, .i y.q2, .i y.q3, .i y.q4, .i y.q5, .i y.q6, .b y.q7, .b y.q8, .i y.q9, .i y.q10, .l [.int .i64] y.q11, .s y.q12, .i y.q13, .i y.q14, .b y.q15, .i y.q16, .i y.q17]
theorem toB12_ok : ∀ ls b, toB12 ls = some b → ls = ofB12 b := by
  intro ls b h
  unfold toB12 at h
  obtain ⟨b0, b1, b2, b3, _, rfl, h1⟩ := gI4_ok h; obtain ⟨b4, _, rfl, h2⟩ := gI_ok h1; obtain ⟨b5, _, rfl, h3⟩ := gI_ok h2; obtain ⟨b6, _, rfl, h4⟩ := gI_ok h3; obtain ⟨b7, _, rfl, h5⟩ := gB_ok h4; obtain ⟨b8, _, rfl, h6⟩ := gB_ok h5; obtain ⟨b9, _, rfl, h7⟩ := gI_ok h6; obtain ⟨b10, _, rfl, h8⟩ := gI_ok h7; obtain ⟨b11, _, rfl, h9⟩ := gL_ok h8; obtain ⟨b12, _, rfl, h10⟩ := gS_ok h9; obtain ⟨b13, _, rfl, h11⟩ := gI_ok h10; obtain ⟨b14, _, rfl, h12⟩ := gI_ok h11; obtain ⟨b15, _, rfl, h13⟩ := gB_ok h12; obtain ⟨b16, _, rfl, h14⟩ := gI_ok h13; obtain ⟨b17, _, rfl, h15⟩ := gI_ok h14; obtain ⟨rfl, h16⟩ := gE_ok h15
  cases h16; rfl
def run12 {R : Type} : SF R := ⟨pa12, sr12, fun ls K => (gI (fun a0 => gI (fun a1 => gI (fun a2 => gI (fun a3 => gI (fun a4 => gB (fun a5 => gB (fun a6 => gI (fun a7 => gI (fun a8 => gL [.int .i64] (fun a9 => gS (fun a10 => gI (fun a11 => gI (fun a12 => gB (fun a13 => gI (fun a14 => gE (Option.bind (F12 FUEL a0 a1 a2 a3 a4 a5 a6 a7 a8 a9 a10 a11 a12 a13 a14) fun y => K (ofB12 y)))))))))))))))))) ls⟩
def cuts12 : List (List Nat × Cut (Si7b2i2lsi2bi2)) := []
noncomputable def X12 : Px (Si7b2i2lsi2bi2) := ⟨T, Try.prog, lkF [(25, run25), (26, run26), (33, run33)], mkCuts 12 cuts12, altN, altN_ok⟩
theorem e12 (n : Nat) (a0 a1 a2 a3 a4 : Int) (a5 a6 : Bool) (a7 a8 : Int) (a9 : List (Int)) (a10 : ByteArray) (a11 a12 : Int) (a13 : Bool) (a14 : Int) : entF X12 8 12 pa12 (endK sr12 toB12) n [.i a0, .i a1, .i a2, .i a3, .i a4, .b a5, .b a6, .i a7, .i a8, .l [.int .i64] a9, .s a10, .i a11, .i a12, .b a13, .i a14] = F12 n a0 a1 a2 a3 a4 a5 a6 a7 a8 a9 a10 a11 a12 a13 a14 := by kernel_rfl
theorem sp12 {n : Nat} (a0 a1 a2 a3 a4 : Int) (a5 a6 : Bool) (a7 a8 : Int) (a9 : List (Int)) (a10 : ByteArray) (a11 a12 : Int) (a13 : Bool) (a14 : Int) {y : Si7b2i2lsi2bi2} (h : F12 n a0 a1 a2 a3 a4 a5 a6 a7 a8 a9 a10 a11 a12 a13 a14 = some y) : SpecF T Try.prog 12 pa12 [.i a0, .i a1, .i a2, .i a3, .i a4, .b a5, .b a6, .i a7, .i a8, .l [.int .i64] a9, .s a10, .i a11, .i a12, .b a13, .i a14] sr12 (ofB12 y) :=
  fun_ok (X := X12) tok (sfok_of ⟨ok25, ok26, ok33, trivial⟩) mixed 12 8 cuts12 rfl toB12_ok trivial ((e12 n a0 a1 a2 a3 a4 a5 a6 a7 a8 a9 a10 a11 a12 a13 a14).trans h)
theorem ok12 {R : Type} : SFone T Try.prog 12 (run12 : SF R) := by
  intro ls K r h
  simp only [run12] at h
  obtain ⟨a0, a1, a2, a3, _, rfl, h1⟩ := gI4_ok h; obtain ⟨a4, _, rfl, h2⟩ := gI_ok h1; obtain ⟨a5, _, rfl, h3⟩ := gB_ok h2; obtain ⟨a6, _, rfl, h4⟩ := gB_ok h3; obtain ⟨a7, _, rfl, h5⟩ := gI_ok h4; obtain ⟨a8, _, rfl, h6⟩ := gI_ok h5; obtain ⟨a9, _, rfl, h7⟩ := gL_ok h6; obtain ⟨a10, _, rfl, h8⟩ := gS_ok h7; obtain ⟨a11, _, rfl, h9⟩ := gI_ok h8; obtain ⟨a12, _, rfl, h10⟩ := gI_ok h9; obtain ⟨a13, _, rfl, h11⟩ := gB_ok h10; obtain ⟨a14, _, rfl, h12⟩ := gI_ok h11; obtain ⟨rfl, h13⟩ := gE_ok h12
  obtain ⟨y, k1, k2⟩ := Option.bind_eq_some_iff.1 h13
  exact ⟨_, k2, sp12 a0 a1 a2 a3 a4 a5 a6 a7 a8 a9 a10 a11 a12 a13 a14 k1⟩

/-! ### garland/garlandref11.Find -/
def pa14 : List VP := [.sl false [.int .i64, .int .i64, .int .u8, .int .i64, .int .i64, .int .i64, .int .i64, .bool, .bool, .int .i64, .int .i64, .sl [.int .i64], .str, .int .i64, .int .i64, .bool, .int .i64], .i .i64, .i .i64]
def sr14 : RShape := ⟨.tup [.agg [.i .u8, .i .i64, .i .i64, .i .i64, .i .i64, .b, .b, .i .i64, .i .i64, .row 0, .s, .i .i64, .i .i64, .b, .i .i64], .b], [.row true [.int .i64]], none⟩
def toB14 : List Leaf → Option (Si5b2i2si2bibl) := gI (fun b0 => gI (fun b1 => gI (fun b2 => gI (fun b3 => gI (fun b4 => gB (fun b5 => gB (fun b6 => gI (fun b7 => gI (fun b8 => gS (fun b9 => gI (fun b10 => gI (fun b11 => gB (fun b12 => gI (fun b13 => gB (fun b14 => gL [.int .i64] (fun b15 => gE (some ⟨b0, b1, b2, b3, b4, b5, b6, b7, b8, b9, b10, b11, b12, b13, b14, b15⟩)))))))))))))))))
def ofB14 (y : Si5b2i2si2bibl) : List Leaf := [.i y.q0, .i y.q1, .i y.q2, .i y.q3, .i y.q4, .b y.q5, .b y.q6, .i y.q7, .i y.q8, .s y.q9, .i y.q10, .i y.q11, .b y.q12, .i y.q13, .b y.q14, .l [.int .i64] y.q15]
theorem toB14_ok : ∀ ls b, toB14 ls = some b → ls = ofB14 b := by
  intro ls b h
  unfold toB14 at h
  obtain ⟨b0, b1, b2, b3, _, rfl, h1⟩ := gI4_ok h; obtain ⟨b4, _, rfl, h2⟩ := gI_ok h1; obtain ⟨b5, _, rfl, h3⟩ := gB_ok h2; obtain ⟨b6, _, rfl, h4⟩ := gB_ok h3; obtain ⟨b7, _, rfl, h5⟩ := gI_ok h4; obtain ⟨b8, _, rfl, h6⟩ := gI_ok h5; obtain ⟨b9, _, rfl, h7⟩ := gS_ok h6; obtain ⟨b10, _, rfl, h8⟩ := gI_ok h7; obtain ⟨b11, _, rfl, h9⟩ := gI_ok h8; obtain ⟨b12, _, rfl, h10⟩ := gB_ok h9; obtain ⟨b13, _, rfl, h11⟩ := gI_ok h10; obtain ⟨b14, _, rfl, h12⟩ := gB_ok h11; obtain ⟨b15, _, rfl, h13⟩ := gL_ok h12; obtain ⟨rfl, h14⟩ := gE_ok h13
  cases h14; rfl
def run14 {R : Type} : SF R := ⟨pa14, sr14, fun ls K => (gL [.int .i64, .int .i64, .int .u8, .int .i64, .int .i64, .int .i64, .int .i64, .bool, .bool, .int .i64, .int .i64, .sl [.int .i64], .str, .int .i64, .int .i64, .bool, .int .i64] (fun a0 => gI (fun a1 => gI (fun a2 => gE (Option.bind (F14 FUEL a0 a1 a2) fun y => K (ofB14 y)))))) ls⟩
def sh14_0 : Shape := ⟨[(38, [(0, .sl false [.int .i64, .int .i64, .int .u8, .int .i64, .int .i64, .int .i64, .int .i64, .bool, .bool, .int .i64, .int .i64, .sl [.int .i64], .str, .int .i64, .int .i64, .bool, .int .i64]), (1, .i .i64), (2, .i .i64), (6, .ref 0 0), (8, .i .i64)])], [.cells [.i .u8, .i .i64, .i .i64, .i .i64, .i .i64, .b, .b, .i .i64, .i .i64, .nil, .s, .i .i64, .i .i64, .b, .i .i64]]⟩
def g14_0 (n : Nat) : List Leaf → Option (Si5b2i2si2bibl) := gL [.int .i64, .int .i64, .int .u8, .int .i64, .int .i64, .int .i64, .int .i64, .bool, .bool, .int .i64, .int .i64, .sl [.int .i64], .str, .int .i64, .int .i64, .bool, .int .i64] (fun x0 => gI (fun x1 => gI (fun x2 => gI (fun x3 => gI (fun x4 => gI (fun x5 => gI (fun x6 => gI (fun x7 => gI (fun x8 => gB (fun x9 => gB (fun x10 => gI (fun x11 => gI (fun x12 => gS (fun x13 => gI (fun x14 => gI (fun x15 => gB (fun x16 => gI (fun x17 => gE (F14_c0 n x0 x1 x2 x3 x4 x5 x6 x7 x8 x9 x10 x11 x12 x13 x14 x15 x16 x17)))))))))))))))))))
def cuts14 : List (List Nat × Cut (Si5b2i2si2bibl)) := [([1, 0, 1, 0], ⟨sh14_0, g14_0⟩)]
noncomputable def X14 : Px (Si5b2i2si2bibl) := ⟨T, Try.prog, lkF [(33, run33)], mkCuts 14 cuts14, altN, altN_ok⟩
theorem e14_0 (n : Nat) (x0 : List (Int × Int × Int × Int × Int × Int × Int × Bool × Bool × Int × Int × (List (Int)) × ByteArray × Int × Int × Bool × Int)) (x1 x2 x3 x4 x5 x6 x7 x8 : Int) (x9 x10 : Bool) (x11 x12 : Int) (x13 : ByteArray) (x14 x15 : Int) (x16 : Bool) (x17 : Int) : stepF X14 8 14 (endK sr14 toB14) [1, 0, 1, 0] sh14_0 n [.l [.int .i64, .int .i64, .int .u8, .int .i64, .int .i64, .int .i64, .int .i64, .bool, .bool, .int .i64, .int .i64, .sl [.int .i64], .str, .int .i64, .int .i64, .bool, .int .i64] x0, .i x1, .i x2, .i x3, .i x4, .i x5, .i x6, .i x7, .i x8, .b x9, .b x10, .i x11, .i x12, .s x13, .i x14, .i x15, .b x16, .i x17] = F14_c0 (n + 1) x0 x1 x2 x3 x4 x5 x6 x7 x8 x9 x10 x11 x12 x13 x14 x15 x16 x17 := by kernel_rfl
theorem e14 (n : Nat) (a0 : List (Int × Int × Int × Int × Int × Int × Int × Bool × Bool × Int × Int × (List (Int)) × ByteArray × Int × Int × Bool × Int)) (a1 a2 : Int) : entF X14 8 14 pa14 (endK sr14 toB14) n [.l [.int .i64, .int .i64, .int .u8, .int .i64, .int .i64, .int .i64, .int .i64, .bool, .bool, .int .i64, .int .i64, .sl [.int .i64], .str, .int .i64, .int .i64, .bool, .int .i64] a0, .i a1, .i a2] = F14 n a0 a1 a2 := by kernel_rfl
theorem c14_0 : CutOK X14 8 14 (endK sr14 toB14) [1, 0, 1, 0] ⟨sh14_0, g14_0⟩ := by
  refine ⟨fun ls => ?_, fun n ls r h => ?_⟩
  · cases h : g14_0 0 ls with
    | none => exact h
    | some r =>
      unfold g14_0 at h; obtain ⟨x0, _, rfl, h1⟩ := gL_ok h; obtain ⟨x1, x2, x3, x4, x5, x6, x7, x8, _, rfl, h2⟩ := gI8_ok h1; obtain ⟨x9, _, rfl, h3⟩ := gB_ok h2; obtain ⟨x10, _, rfl, h4⟩ := gB_ok h3; obtain ⟨x11, _, rfl, h5⟩ := gI_ok h4; obtain ⟨x12, _, rfl, h6⟩ := gI_ok h5; obtain ⟨x13, _, rfl, h7⟩ := gS_ok h6; obtain ⟨x14, _, rfl, h8⟩ := gI_ok h7; obtain ⟨x15, _, rfl, h9⟩ := gI_ok h8; obtain ⟨x16, _, rfl, h10⟩ := gB_ok h9; obtain ⟨x17, _, rfl, h11⟩ := gI_ok h10; obtain ⟨rfl, h12⟩ := gE_ok h11; simp only [F14_c0] at h12; cases h12
  · replace h : g14_0 (n + 1) ls = some r := h
    unfold g14_0 at h
    obtain ⟨x0, _, rfl, h1⟩ := gL_ok h; obtain ⟨x1, x2, x3, x4, x5, x6, x7, x8, _, rfl, h2⟩ := gI8_ok h1; obtain ⟨x9, _, rfl, h3⟩ := gB_ok h2; obtain ⟨x10, _, rfl, h4⟩ := gB_ok h3; obtain ⟨x11, _, rfl, h5⟩ := gI_ok h4; obtain ⟨x12, _, rfl, h6⟩ := gI_ok h5; obtain ⟨x13, _, rfl, h7⟩ := gS_ok h6; obtain ⟨x14, _, rfl, h8⟩ := gI_ok h7; obtain ⟨x15, _, rfl, h9⟩ := gI_ok h8; obtain ⟨x16, _, rfl, h10⟩ := gB_ok h9; obtain ⟨x17, _, rfl, h11⟩ := gI_ok h10; obtain ⟨rfl, h12⟩ := gE_ok h11
    exact (e14_0 n x0 x1 x2 x3 x4 x5 x6 x7 x8 x9 x10 x11 x12 x13 x14 x15 x16 x17).trans h12
theorem sp14 {n : Nat} (a0 : List (Int × Int × Int × Int × Int × Int × Int × Bool × Bool × Int × Int × (List (Int)) × ByteArray × Int × Int × Bool × Int)) (a1 a2 : Int) {y : Si5b2i2si2bibl} (h : F14 n a0 a1 a2 = some y) : SpecF T Try.prog 14 pa14 [.l [.int .i64, .int .i64, .int .u8, .int .i64, .int .i64, .int .i64, .int .i64, .bool, .bool, .int .i64, .int .i64, .sl [.int .i64], .str, .int .i64, .int .i64, .bool, .int .i64] a0, .i a1, .i a2] sr14 (ofB14 y) :=
  fun_ok (X := X14) tok (sfok_of ⟨ok33, trivial⟩) mixed 14 8 cuts14 rfl toB14_ok ⟨c14_0, trivial⟩ ((e14 n a0 a1 a2).trans h)
theorem ok14 {R : Type} : SFone T Try.prog 14 (run14 : SF R) := by
  intro ls K r h
  simp only [run14] at h
  obtain ⟨a0, _, rfl, h1⟩ := gL_ok h; obtain ⟨a1, _, rfl, h2⟩ := gI_ok h1; obtain ⟨a2, _, rfl, h3⟩ := gI_ok h2; obtain ⟨rfl, h4⟩ := gE_ok h3
  obtain ⟨y, k1, k2⟩ := Option.bind_eq_some_iff.1 h4
  exact ⟨_, k2, sp14 a0 a1 a2 k1⟩

/-! ### garland/garlandref11.Right -/
def pa17 : List VP := [.sl false [.int .i64, .int .i64, .int .u8, .int .i64, .int .i64, .int .i64, .int .i64, .bool, .bool, .int .i64, .int .i64, .sl [.int .i64], .str, .int .i64, .int .i64, .bool, .int .i64]]
def sr17 : RShape := ⟨.b, [], none⟩
def toB17 : List Leaf → Option (Bool) := gB (fun b0 => gE (some b0))
def ofB17 (y : Bool) : List Leaf := [.b y]
theorem toB17_ok : ∀ ls b, toB17 ls = some b → ls = ofB17 b := by
  intro ls b h
  unfold toB17 at h
  obtain ⟨b0, _, rfl, h1⟩ := gB_ok h; obtain ⟨rfl, h2⟩ := gE_ok h1
  cases h2; rfl
def run17 {R : Type} : SF R := ⟨pa17, sr17, fun ls K => (gL [.int .i64, .int .i64, .int .u8, .int .i64, .int .i64, .int .i64, .int .i64, .bool, .bool, .int .i64, .int .i64, .sl [.int .i64], .str, .int .i64, .int .i64, .bool, .int .i64] (fun a0 => gE (Option.bind (F17 FUEL a0) fun y => K (ofB17 y)))) ls⟩
def sh17_0 : Shape := ⟨[(60, [(0, .sl false [.int .i64, .int .i64, .int .u8, .int .i64, .int .i64, .int .i64, .int .i64, .bool, .bool, .int .i64, .int .i64, .sl [.int .i64], .str, .int .i64, .int .i64, .bool, .int .i64]), (3, .i .i64)])], []⟩
def g17_0 (n : Nat) : List Leaf → Option (Bool) := gL [.int .i64, .int .i64, .int .u8, .int .i64, .int .i64, .int .i64, .int .i64, .bool, .bool, .int .i64, .int .i64, .sl [.int .i64], .str, .int .i64, .int .i64, .bool, .int .i64] (fun x0 => gI (fun x1 => gE (F17_c0 n x0 x1)))
def cuts17 : List (List Nat × Cut (Bool)) := [([1, 0, 1, 0], ⟨sh17_0, g17_0⟩)]
noncomputable def X17 : Px (Bool) := ⟨T, Try.prog, lkF [(12, run12), (14, run14)], mkCuts 17 cuts17, altN, altN_ok⟩
theorem e17_0 (n : Nat) (x0 : List (Int × Int × Int × Int × Int × Int × Int × Bool × Bool × Int × Int × (List (Int)) × ByteArray × Int × Int × Bool × Int)) (x1 : Int) : stepF X17 8 17 (endK sr17 toB17) [1, 0, 1, 0] sh17_0 n [.l [.int .i64, .int .i64, .int .u8, .int .i64, .int .i64, .int .i64, .int .i64, .bool, .bool, .int .i64, .int .i64, .sl [.int .i64], .str, .int .i64, .int .i64, .bool, .int .i64] x0, .i x1] = F17_c0 (n + 1) x0 x1 := by kernel_rfl
theorem e17 (n : Nat) (a0 : List (Int × Int × Int × Int × Int × Int × Int × Bool × Bool × Int × Int × (List (Int)) × ByteArray × Int × Int × Bool × Int)) : entF X17 8 17 pa17 (endK sr17 toB17) n [.l [.int .i64, .int .i64, .int .u8, .int .i64, .int .i64, .int .i64, .int .i64, .bool, .bool, .int .i64, .int .i64, .sl [.int .i64], .str, .int .i64, .int .i64, .bool, .int .i64] a0] = F17 n a0 := by kernel_rfl
theorem c17_0 : CutOK X17 8 17 (endK sr17 toB17) [1, 0, 1, 0] ⟨sh17_0, g17_0⟩ := by
  refine ⟨fun ls => ?_, fun n ls r h => ?_⟩
  · cases h : g17_0 0 ls with
    | none => exact h
    | some r =>
      unfold g17_0 at h; obtain ⟨x0, _, rfl, h1⟩ := gL_ok h; obtain ⟨x1, _, rfl, h2⟩ := gI_ok h1; obtain ⟨rfl, h3⟩ := gE_ok h2; simp only [F17_c0] at h3; cases h3
  · replace h : g17_0 (n + 1) ls = some r := h
    unfold g17_0 at h
    obtain ⟨x0, _, rfl, h1⟩ := gL_ok h; obtain ⟨x1, _, rfl, h2⟩ := gI_ok h1; obtain ⟨rfl, h3⟩ := gE_ok h2
    exact (e17_0 n x0 x1).trans h3
theorem sp17 {n : Nat} (a0 : List (Int × Int × Int × Int × Int × Int × Int × Bool × Bool × Int × Int × (List (Int)) × ByteArray × Int × Int × Bool × Int)) {y : Bool} (h : F17 n a0 = some y) : SpecF T Try.prog 17 pa17 [.l [.int .i64, .int .i64, .int .u8, .int .i64, .int .i64, .int .i64, .int .i64, .bool, .bool, .int .i64, .int .i64, .sl [.int .i64], .str, .int .i64, .int .i64, .bool, .int .i64] a0] sr17 (ofB17 y) :=
  fun_ok (X := X17) tok (sfok_of ⟨ok12, ok14, trivial⟩) mixed 17 8 cuts17 rfl toB17_ok ⟨c17_0, trivial⟩ ((e17 n a0).trans h)
theorem ok17 {R : Type} : SFone T Try.prog 17 (run17 : SF R) := by
  intro ls K r h
  simp only [run17] at h
  obtain ⟨a0, _, rfl, h1⟩ := gL_ok h; obtain ⟨rfl, h2⟩ := gE_ok h1
  obtain ⟨y, k1, k2⟩ := Option.bind_eq_some_iff.1 h2
  exact ⟨_, k2, sp17 a0 k1⟩

/-! ### garland/garlandref11.Own -/
def pa28 : List VP := [.sl false [.int .i64, .int .i64, .int .u8, .int .i64, .int .i64, .int .i64, .int .i64, .bool, .bool, .int .i64, .int .i64, .sl [.int .i64], .str, .int .i64, .int .i64, .bool, .int .i64]]
def sr28 : RShape := ⟨.row 0, [.row true [.int .i64, .int .i64, .int .u8, .int .i64, .int .i64, .int .i64, .int .i64, .bool, .bool, .int .i64, .int .i64, .sl [.int .i64], .str, .int .i64, .int .i64, .bool, .int .i64]], none⟩
def toB28 : List Leaf → Option ((List (Int × Int × Int × Int × Int × Int × Int × Bool × Bool × Int × Int × (List (Int)) × ByteArray × Int × Int × Bool × Int))) := gL [.int .i64, .int .i64, .int .u8, .int .i64, .int .i64, .int .i64, .int .i64, .bool, .bool, .int .i64, .int .i64, .sl [.int .i64], .str, .int .i64, .int .i64, .bool, .int .i64] (fun b0 => gE (some b0))
def ofB28 (y : (List (Int × Int × Int × Int × Int × Int × Int × Bool × Bool × Int × Int × (List (Int)) × ByteArray × Int × Int × Bool × Int))) : List Leaf := [.l [.int .i64, .int .i64, .int .u8, .int .i64, .int .i64, .int .i64, .int .i64, .bool, .bool, .int .i64, .int .i64, .sl [.int .i64], .str, .int .i64, .int .i64, .bool, .int .i64] y]
theorem toB28_ok : ∀ ls b, toB28 ls = some b → ls = ofB28 b := by
  intro ls b h
  unfold toB28 at h
  obtain ⟨b0, _, rfl, h1⟩ := gL_ok h; obtain ⟨rfl, h2⟩ := gE_ok h1
  cases h2; rfl
def run28 {R : Type} : SF R := ⟨pa28, sr28, fun ls K => (gL [.int .i64, .int .i64, .int .u8, .int .i64, .int .i64, .int .i64, .int .i64, .bool, .bool, .int .i64, .int .i64, .sl [.int .i64], .str, .int .i64, .int .i64, .bool, .int .i64] (fun a0 => gE (Option.bind (F28 FUEL a0) fun y => K (ofB28 y)))) ls⟩
def sh28_0 : Shape := ⟨[(25, [(0, .sl false [.int .i64, .int .i64, .int .u8, .int .i64, .int .i64, .int .i64, .int .i64, .bool, .bool, .int .i64, .int .i64, .sl [.int .i64], .str, .int .i64, .int .i64, .bool, .int .i64]), (3, .row 0), (4, .i .i64)])], [.row true [.int .i64, .int .i64, .int .u8, .int .i64, .int .i64, .int .i64, .int .i64, .bool, .bool, .int .i64, .int .i64, .sl [.int .i64], .str, .int .i64, .int .i64, .bool, .int .i64]]⟩
def g28_0 (n : Nat) : List Leaf → Option ((List (Int × Int × Int × Int × Int × Int × Int × Bool × Bool × Int × Int × (List (Int)) × ByteArray × Int × Int × Bool × Int))) := gL [.int .i64, .int .i64, .int .u8, .int .i64, .int .i64, .int .i64, .int .i64, .bool, .bool, .int .i64, .int .i64, .sl [.int .i64], .str, .int .i64, .int .i64, .bool, .int .i64] (fun x0 => gI (fun x1 => gL [.int .i64, .int .i64, .int .u8, .int .i64, .int .i64, .int .i64, .int .i64, .bool, .bool, .int .i64, .int .i64, .sl [.int .i64], .str, .int .i64, .int .i64, .bool, .int .i64] (fun x2 => gE (F28_c0 n x0 x1 x2))))
def cuts28 : List (List Nat × Cut ((List (Int × Int × Int × Int × Int × Int × Int × Bool × Bool × Int × Int × (List (Int)) × ByteArray × Int × Int × Bool × Int)))) := [([1, 1, 0, 1, 0], ⟨sh28_0, g28_0⟩)]
noncomputable def X28 : Px ((List (Int × Int × Int × Int × Int × Int × Int × Bool × Bool × Int × Int × (List (Int)) × ByteArray × Int × Int × Bool × Int))) := ⟨T, Try.prog, lkF [(33, run33)], mkCuts 28 cuts28, altN, altN_ok⟩
theorem e28_0 (n : Nat) (x0 : List (Int × Int × Int × Int × Int × Int × Int × Bool × Bool × Int × Int × (List (Int)) × ByteArray × Int × Int × Bool × Int)) (x1 : Int) (x2 : List (Int × Int × Int × Int × Int × Int × Int × Bool × Bool × Int × Int × (List (Int)) × ByteArray × Int × Int × Bool × Int)) : stepF X28 8 28 (endK sr28 toB28) [1, 1, 0, 1, 0] sh28_0 n [.l [.int .i64, .int .i64, .int .u8, .int .i64, .int .i64, .int .i64, .int .i64, .bool, .bool, .int .i64, .int .i64, .sl [.int .i64], .str, .int .i64, .int .i64, .bool, .int .i64] x0, .i x1, .l [.int .i64, .int .i64, .int .u8, .int .i64, .int .i64, .int .i64, .int .i64, .bool, .bool, .int .i64, .int .i64, .sl [.int .i64], .str, .int .i64, .int .i64, .bool, .int .i64] x2] = F28_c0 (n + 1) x0 x1 x2 := by kernel_rfl
theorem e28 (n : Nat) (a0 : List (Int × Int × Int × Int × Int × Int × Int × Bool × Bool × Int × Int × (List (Int)) × ByteArray × Int × Int × Bool × Int)) : entF X28 8 28 pa28 (endK sr28 toB28) n [.l [.int .i64, .int .i64, .int .u8, .int .i64, .int .i64, .int .i64, .int .i64, .bool, .bool, .int .i64, .int .i64, .sl [.int .i64], .str, .int .i64, .int .i64, .bool, .int .i64] a0] = F28 n a0 := by kernel_rfl
theorem c28_0 : CutOK X28 8 28 (endK sr28 toB28) [1, 1, 0, 1, 0] ⟨sh28_0, g28_0⟩ := by
  refine ⟨fun ls => ?_, fun n ls r h => ?_⟩
  · cases h : g28_0 0 ls with
    | none => exact h
    | some r =>
      unfold g28_0 at h; obtain ⟨x0, _, rfl, h1⟩ := gL_ok h; obtain ⟨x1, _, rfl, h2⟩ := gI_ok h1; obtain ⟨x2, _, rfl, h3⟩ := gL_ok h2; obtain ⟨rfl, h4⟩ := gE_ok h3; simp only [F28_c0] at h4; cases h4
  · replace h : g28_0 (n + 1) ls = some r := h
    unfold g28_0 at h
    obtain ⟨x0, _, rfl, h1⟩ := gL_ok h; obtain ⟨x1, _, rfl, h2⟩ := gI_ok h1; obtain ⟨x2, _, rfl, h3⟩ := gL_ok h2; obtain ⟨rfl, h4⟩ := gE_ok h3
    exact (e28_0 n x0 x1 x2).trans h4
theorem sp28 {n : Nat} (a0 : List (Int × Int × Int × Int × Int × Int × Int × Bool × Bool × Int × Int × (List (Int)) × ByteArray × Int × Int × Bool × Int)) {y : (List (Int × Int × Int × Int × Int × Int × Int × Bool × Bool × Int × Int × (List (Int)) × ByteArray × Int × Int × Bool × Int))} (h : F28 n a0 = some y) : SpecF T Try.prog 28 pa28 [.l [.int .i64, .int .i64, .int .u8, .int .i64, .int .i64, .int .i64, .int .i64, .bool, .bool, .int .i64, .int .i64, .sl [.int .i64], .str, .int .i64, .int .i64, .bool, .int .i64] a0] sr28 (ofB28 y) :=
  fun_ok (X := X28) tok (sfok_of ⟨ok33, trivial⟩) mixed 28 8 cuts28 rfl toB28_ok ⟨c28_0, trivial⟩ ((e28 n a0).trans h)
theorem ok28 {R : Type} : SFone T Try.prog 28 (run28 : SF R) := by
  intro ls K r h
  simp only [run28] at h
  obtain ⟨a0, _, rfl, h1⟩ := gL_ok h; obtain ⟨rfl, h2⟩ := gE_ok h1
  obtain ⟨y, k1, k2⟩ := Option.bind_eq_some_iff.1 h2
  exact ⟨_, k2, sp28 a0 k1⟩

/-! ### garland/garlandref11.Add -/
def pa20 : List VP := [.sl false [.int .i64, .int .i64, .int .u8, .int .i64, .int .i64, .int .i64, .int .i64, .bool, .bool, .int .i64, .int .i64, .sl [.int .i64], .str, .int .i64, .int .i64, .bool, .int .i64], .sl false [.int .u8, .int .i64, .int .i64, .int .i64, .int .i64, .bool, .bool, .int .i64, .int .i64, .sl [.int .i64], .str, .int .i64, .int .i64, .bool, .int .i64]]
def sr20 : RShape := ⟨.sl true [.int .i64, .int .i64, .int .u8, .int .i64, .int .i64, .int .i64, .int .i64, .bool, .bool, .int .i64, .int .i64, .sl [.int .i64], .str, .int .i64, .int .i64, .bool, .int .i64], [], none⟩
def toB20 : List Leaf → Option ((List (Int × Int × Int × Int × Int × Int × Int × Bool × Bool × Int × Int × (List (Int)) × ByteArray × Int × Int × Bool × Int))) := gL [.int .i64, .int .i64, .int .u8, .int .i64, .int .i64, .int .i64, .int .i64, .bool, .bool, .int .i64, .int .i64, .sl [.int .i64], .str, .int .i64, .int .i64, .bool, .int .i64] (fun b0 => gE (some b0))
def ofB20 (y : (List (Int × Int × Int × Int × Int × Int × Int × Bool × Bool × Int × Int × (List (Int)) × ByteArray × Int × Int × Bool × Int))) : List Leaf := [.l [.int .i64, .int .i64, .int .u8, .int .i64, .int .i64, .int .i64, .int .i64, .bool, .bool, .int .i64, .int .i64, .sl [.int .i64], .str, .int .i64, .int .i64, .bool, .int .i64] y]
theorem toB20_ok : ∀ ls b, toB20 ls = some b → ls = ofB20 b := by
  intro ls b h
  unfold toB20 at h
  obtain ⟨b0, _, rfl, h1⟩ := gL_ok h; obtain ⟨rfl, h2⟩ := gE_ok h1
  cases h2; rfl
def run20 {R : Type} : SF R := ⟨pa20, sr20, fun ls K => (gL [.int .i64, .int .i64, .int .u8, .int .i64, .int .i64, .int .i64, .int .i64, .bool, .bool, .int .i64, .int .i64, .sl [.int .i64], .str, .int .i64, .int .i64, .bool, .int .i64] (fun a0 => gL [.int .u8, .int .i64, .int .i64, .int .i64, .int .i64, .bool, .bool, .int .i64, .int .i64, .sl [.int .i64], .str, .int .i64, .int .i64, .bool, .int .i64] (fun a1 => gE (Option.bind (F20 FUEL a0 a1) fun y => K (ofB20 y))))) ls⟩
def sh20_0 : Shape := ⟨[(51, [(1, .sl false [.int .u8, .int .i64, .int .i64, .int .i64, .int .i64, .bool, .bool, .int .i64, .int .i64, .sl [.int .i64], .str, .int .i64, .int .i64, .bool, .int .i64]), (5, .rsub 0), (6, .i .i64)])], [.row true [.int .i64, .int .i64, .int .u8, .int .i64, .int .i64, .int .i64, .int .i64, .bool, .bool, .int .i64, .int .i64, .sl [.int .i64], .str, .int .i64, .int .i64, .bool, .int .i64]]⟩
def g20_0 (n : Nat) : List Leaf → Option ((List (Int × Int × Int × Int × Int × Int × Int × Bool × Bool × Int × Int × (List (Int)) × ByteArray × Int × Int × Bool × Int))) := gL [.int .u8, .int .i64, .int .i64, .int .i64, .int .i64, .bool, .bool, .int .i64, .int .i64, .sl [.int .i64], .str, .int .i64, .int .i64, .bool, .int .i64] (fun x0 => gN (fun x1 => gN (fun x2 => gI (fun x3 => gL [.int .i64, .int .i64, .int .u8, .int .i64, .int .i64, .int .i64, .int .i64, .bool, .bool, .int .i64, .int .i64, .sl [.int .i64], .str, .int .i64, .int .i64, .bool, .int .i64] (fun x4 => gE (F20_c0 n x0 x1 x2 x3 x4))))))
def sh20_1 : Shape := ⟨[(51, [(1, .sl false [.int .u8, .int .i64, .int .i64, .int .i64, .int .i64, .bool, .bool, .int .i64, .int .i64, .sl [.int .i64], .str, .int .i64, .int .i64, .bool, .int .i64]), (5, .rsub 0), (6, .i .i64)])], [.row true [.int .i64, .int .i64, .int .u8, .int .i64, .int .i64, .int .i64, .int .i64, .bool, .bool, .int .i64, .int .i64, .sl [.int .i64], .str, .int .i64, .int .i64, .bool, .int .i64]]⟩
def g20_1 (n : Nat) : List Leaf → Option ((List (Int × Int × Int × Int × Int × Int × Int × Bool × Bool × Int × Int × (List (Int)) × ByteArray × Int × Int × Bool × Int))) := gL [.int .u8, .int .i64, .int .i64, .int .i64, .int .i64, .bool, .bool, .int .i64, .int .i64, .sl [.int .i64], .str, .int .i64, .int .i64, .bool, .int .i64] (fun x0 => gN (fun x1 => gN (fun x2 => gI (fun x3 => gL [.int .i64, .int .i64, .int .u8, .int .i64, .int .i64, .int .i64, .int .i64, .bool, .bool, .int .i64, .int .i64, .sl [.int .i64], .str, .int .i64, .int .i64, .bool, .int .i64] (fun x4 => gE (F20_c1 n x0 x1 x2 x3 x4))))))
def cuts20 : List (List Nat × Cut ((List (Int × Int × Int × Int × Int × Int × Int × Bool × Bool × Int × Int × (List (Int)) × ByteArray × Int × Int × Bool × Int)))) := [([1, 1, 0, 1, 0], ⟨sh20_0, g20_0⟩), ([1, 1, 0, 1, 0, 0, 1, 0, 0, 1, 1, 1, 1, 0], ⟨sh20_1, g20_1⟩)]
noncomputable def X20 : Px ((List (Int × Int × Int × Int × Int × Int × Int × Bool × Bool × Int × Int × (List (Int)) × ByteArray × Int × Int × Bool × Int))) := ⟨T, Try.prog, lkF [(28, run28), (12, run12), (14, run14)], mkCuts 20 cuts20, altN, altN_ok⟩
theorem e20_0 (n : Nat) (x0 : List (Int × Int × Int × Int × Int × Bool × Bool × Int × Int × (List (Int)) × ByteArray × Int × Int × Bool × Int)) (x1 x2 : Nat) (x3 : Int) (x4 : List (Int × Int × Int × Int × Int × Int × Int × Bool × Bool × Int × Int × (List (Int)) × ByteArray × Int × Int × Bool × Int)) : stepF X20 8 20 (endK sr20 toB20) [1, 1, 0, 1, 0] sh20_0 n [.l [.int .u8, .int .i64, .int .i64, .int .i64, .int .i64, .bool, .bool, .int .i64, .int .i64, .sl [.int .i64], .str, .int .i64, .int .i64, .bool, .int .i64] x0, .n x1, .n x2, .i x3, .l [.int .i64, .int .i64, .int .u8, .int .i64, .int .i64, .int .i64, .int .i64, .bool, .bool, .int .i64, .int .i64, .sl [.int .i64], .str, .int .i64, .int .i64, .bool, .int .i64] x4] = F20_c0 (n + 1) x0 x1 x2 x3 x4 := by kernel_rfl
theorem e20_1 (n : Nat) (x0 : List (Int × Int × Int × Int × Int × Bool × Bool × Int × Int × (List (Int)) × ByteArray × Int × Int × Bool × Int)) (x1 x2 : Nat) (x3 : Int) (x4 : List (Int × Int × Int × Int × Int × Int × Int × Bool × Bool × Int × Int × (List (Int)) × ByteArray × Int × Int × Bool × Int)) : stepF X20 8 20 (endK sr20 toB20) [1, 1, 0, 1, 0, 0, 1, 0, 0, 1, 1, 1, 1, 0] sh20_1 n [.l [.int .u8, .int .i64, .int .i64, .int .i64, .int .i64, .bool, .bool, .int .i64, .int .i64, .sl [.int .i64], .str, .int .i64, .int .i64, .bool, .int .i64] x0, .n x1, .n x2, .i x3, .l [.int .i64, .int .i64, .int .u8, .int .i64, .int .i64, .int .i64, .int .i64, .bool, .bool, .int .i64, .int .i64, .sl [.int .i64], .str, .int .i64, .int .i64, .bool, .int .i64] x4] = F20_c1 (n + 1) x0 x1 x2 x3 x4 := by kernel_rfl
theorem e20 (n : Nat) (a0 : List (Int × Int × Int × Int × Int × Int × Int × Bool × Bool × Int × Int × (List (Int)) × ByteArray × Int × Int × Bool × Int)) (a1 : List (Int × Int × Int × Int × Int × Bool × Bool × Int × Int × (List (Int)) × ByteArray × Int × Int × Bool × Int)) : entF X20 8 20 pa20 (endK sr20 toB20) n [.l [.int .i64, .int .i64, .int .u8, .int .i64, .int .i64, .int .i64, .int .i64, .bool, .bool, .int .i64, .int .i64, .sl [.int .i64], .str, .int .i64, .int .i64, .bool, .int .i64] a0, .l [.int .u8, .int .i64, .int .i64, .int .i64, .int .i64, .bool, .bool, .int .i64, .int .i64, .sl [.int .i64], .str, .int .i64, .int .i64, .bool, .int .i64] a1] = F20 n a0 a1 := by kernel_rfl
theorem c20_0 : CutOK X20 8 20 (endK sr20 toB20) [1, 1, 0, 1, 0] ⟨sh20_0, g20_0⟩ := by
  refine ⟨fun ls => ?_, fun n ls r h => ?_⟩
  · cases h : g20_0 0 ls with
    | none => exact h
    | some r =>
      unfold g20_0 at h; obtain ⟨x0, _, rfl, h1⟩ := gL_ok h; obtain ⟨x1, _, rfl, h2⟩ := gN_ok h1; obtain ⟨x2, _, rfl, h3⟩ := gN_ok h2; obtain ⟨x3, _, rfl, h4⟩ := gI_ok h3; obtain ⟨x4, _, rfl, h5⟩ := gL_ok h4; obtain ⟨rfl, h6⟩ := gE_ok h5; simp only [F20_c0] at h6; cases h6
  · replace h : g20_0 (n + 1) ls = some r := h
    unfold g20_0 at h
    obtain ⟨x0, _, rfl, h1⟩ := gL_ok h; obtain ⟨x1, _, rfl, h2⟩ := gN_ok h1; obtain ⟨x2, _, rfl, h3⟩ := gN_ok h2; obtain ⟨x3, _, rfl, h4⟩ := gI_ok h3; obtain ⟨x4, _, rfl, h5⟩ := gL_ok h4; obtain ⟨rfl, h6⟩ := gE_ok h5
    exact (e20_0 n x0 x1 x2 x3 x4).trans h6
theorem c20_1 : CutOK X20 8 20 (endK sr20 toB20) [1, 1, 0, 1, 0, 0, 1, 0, 0, 1, 1, 1, 1, 0] ⟨sh20_1, g20_1⟩ := by
  refine ⟨fun ls => ?_, fun n ls r h => ?_⟩
  · cases h : g20_1 0 ls with
    | none => exact h
    | some r =>
      unfold g20_1 at h; obtain ⟨x0, _, rfl, h1⟩ := gL_ok h; obtain ⟨x1, _, rfl, h2⟩ := gN_ok h1; obtain ⟨x2, _, rfl, h3⟩ := gN_ok h2; obtain ⟨x3, _, rfl, h4⟩ := gI_ok h3; obtain ⟨x4, _, rfl, h5⟩ := gL_ok h4; obtain ⟨rfl, h6⟩ := gE_ok h5; simp only [F20_c1] at h6; cases h6
  · replace h : g20_1 (n + 1) ls = some r := h
    unfold g20_1 at h
    obtain ⟨x0, _, rfl, h1⟩ := gL_ok h; obtain ⟨x1, _, rfl, h2⟩ := gN_ok h1; obtain ⟨x2, _, rfl, h3⟩ := gN_ok h2; obtain ⟨x3, _, rfl, h4⟩ := gI_ok h3; obtain ⟨x4, _, rfl, h5⟩ := gL_ok h4; obtain ⟨rfl, h6⟩ := gE_ok h5
    exact (e20_1 n x0 x1 x2 x3 x4).trans h6
theorem sp20 {n : Nat} (a0 : List (Int × Int × Int × Int × Int × Int × Int × Bool × Bool × Int × Int × (List (Int)) × ByteArray × Int × Int × Bool × Int)) (a1 : List (Int × Int × Int × Int × Int × Bool × Bool × Int × Int × (List (Int)) × ByteArray × Int × Int × Bool × Int)) {y : (List (Int × Int × Int × Int × Int × Int × Int × Bool × Bool × Int × Int × (List (Int)) × ByteArray × Int × Int × Bool × Int))} (h : F20 n a0 a1 = some y) : SpecF T Try.prog 20 pa20 [.l [.int .i64, .int .i64, .int .u8, .int .i64, .int .i64, .int .i64, .int .i64, .bool, .bool, .int .i64, .int .i64, .sl [.int .i64], .str, .int .i64, .int .i64, .bool, .int .i64] a0, .l [.int .u8, .int .i64, .int .i64, .int .i64, .int .i64, .bool, .bool, .int .i64, .int .i64, .sl [.int .i64], .str, .int .i64, .int .i64, .bool, .int .i64] a1] sr20 (ofB20 y) :=
  fun_ok (X := X20) tok (sfok_of ⟨ok28, ok12, ok14, trivial⟩) mixed 20 8 cuts20 rfl toB20_ok ⟨c20_0, c20_1, trivial⟩ ((e20 n a0 a1).trans h)
theorem ok20 {R : Type} : SFone T Try.prog 20 (run20 : SF R) := by
  intro ls K r h
  simp only [run20] at h
  obtain ⟨a0, _, rfl, h1⟩ := gL_ok h; obtain ⟨a1, _, rfl, h2⟩ := gL_ok h1; obtain ⟨rfl, h3⟩ := gE_ok h2
  obtain ⟨y, k1, k2⟩ := Option.bind_eq_some_iff.1 h3
  exact ⟨_, k2, sp20 a0 a1 k1⟩

/-! ### garland/garlandref11.Same -/
def pa18 : List VP := [.sl false [.int .i64, .int .i64, .int .u8, .int .i64, .int .i64, .int .i64, .int .i64, .bool, .bool, .int .i64, .int .i64, .sl [.int .i64], .str, .int .i64, .int .i64, .bool, .int .i64], .sl false [.int .i64, .int .i64, .int .u8, .int .i64, .int .i64, .int .i64, .int .i64, .bool, .bool, .int .i64, .int .i64, .sl [.int .i64], .str, .int .i64, .int .i64, .bool, .int .i64]]
def sr18 : RShape := ⟨.b, [], none⟩
def toB18 : List Leaf → Option (Bool) := gB (fun b0 => gE (some b0))
def ofB18 (y : Bool) : List Leaf := [.b y]
theorem toB18_ok : ∀ ls b, toB18 ls = some b → ls = ofB18 b := by
  intro ls b h
  unfold toB18 at h
  obtain ⟨b0, _, rfl, h1⟩ := gB_ok h; obtain ⟨rfl, h2⟩ := gE_ok h1
  cases h2; rfl
def run18 {R : Type} : SF R := ⟨pa18, sr18, fun ls K => (gL [.int .i64, .int .i64, .int .u8, .int .i64, .int .i64, .int .i64, .int .i64, .bool, .bool, .int .i64, .int .i64, .sl [.int .i64], .str, .int .i64, .int .i64, .bool, .int .i64] (fun a0 => gL [.int .i64, .int .i64, .int .u8, .int .i64, .int .i64, .int .i64, .int .i64, .bool, .bool, .int .i64, .int .i64, .sl [.int .i64], .str, .int .i64, .int .i64, .bool, .int .i64] (fun a1 => gE (Option.bind (F18 FUEL a0 a1) fun y => K (ofB18 y))))) ls⟩
def sh18_0 : Shape := ⟨[(55, [(0, .sl false [.int .i64, .int .i64, .int .u8, .int .i64, .int .i64, .int .i64, .int .i64, .bool, .bool, .int .i64, .int .i64, .sl [.int .i64], .str, .int .i64, .int .i64, .bool, .int .i64]), (1, .sl false [.int .i64, .int .i64, .int .u8, .int .i64, .int .i64, .int .i64, .int .i64, .bool, .bool, .int .i64, .int .i64, .sl [.int .i64], .str, .int .i64, .int .i64, .bool, .int .i64]), (5, .i .i64)])], []⟩
def g18_0 (n : Nat) : List Leaf → Option (Bool) := gL [.int .i64, .int .i64, .int .u8, .int .i64, .int .i64, .int .i64, .int .i64, .bool, .bool, .int .i64, .int .i64, .sl [.int .i64], .str, .int .i64, .int .i64, .bool, .int .i64] (fun x0 => gL [.int .i64, .int .i64, .int .u8, .int .i64, .int .i64, .int .i64, .int .i64, .bool, .bool, .int .i64, .int .i64, .sl [.int .i64], .str, .int .i64, .int .i64, .bool, .int .i64] (fun x1 => gI (fun x2 => gE (F18_c0 n x0 x1 x2))))
def cuts18 : List (List Nat × Cut (Bool)) := [([1, 1, 0, 1, 0], ⟨sh18_0, g18_0⟩)]
noncomputable def X18 : Px (Bool) := ⟨T, Try.prog, lkF [(15, run15)], mkCuts 18 cuts18, altN, altN_ok⟩
theorem e18_0 (n : Nat) (x0 x1 : List (Int × Int × Int × Int × Int × Int × Int × Bool × Bool × Int × Int × (List (Int)) × ByteArray × Int × Int × Bool × Int)) (x2 : Int) : stepF X18 8 18 (endK sr18 toB18) [1, 1, 0, 1, 0] sh18_0 n [.l [.int .i64, .int .i64, .int .u8, .int .i64, .int .i64, .int .i64, .int .i64, .bool, .bool, .int .i64, .int .i64, .sl [.int .i64], .str, .int .i64, .int .i64, .bool, .int .i64] x0, .l [.int .i64, .int .i64, .int .u8, .int .i64, .int .i64, .int .i64, .int .i64, .bool, .bool, .int .i64, .int .i64, .sl [.int .i64], .str, .int .i64, .int .i64, .bool, .int .i64] x1, .i x2] = F18_c0 (n + 1) x0 x1 x2 := by kernel_rfl
theorem e18 (n : Nat) (a0 a1 : List (Int × Int × Int × Int × Int × Int × Int × Bool × Bool × Int × Int × (List (Int)) × ByteArray × Int × Int × Bool × Int)) : entF X18 8 18 pa18 (endK sr18 toB18) n [.l [.int .i64, .int .i64, .int .u8, .int .i64, .int .i64, .int .i64, .int .i64, .bool, .bool, .int .i64, .int .i64, .sl [.int .i64], .str, .int .i64, .int .i64, .bool, .int .i64] a0, .l [.int .i64, .int .i64, .int .u8, .int .i64, .int .i64, .int .i64, .int .i64, .bool, .bool, .int .i64, .int .i64, .sl [.int .i64], .str, .int .i64, .int .i64, .bool, .int .i64] a1] = F18 n a0 a1 := by kernel_rfl
theorem c18_0 : CutOK X18 8 18 (endK sr18 toB18) [1, 1, 0, 1, 0] ⟨sh18_0, g18_0⟩ := by
  refine ⟨fun ls => ?_, fun n ls r h => ?_⟩
  · cases h : g18_0 0 ls with
    | none => exact h
    | some r =>
      unfold g18_0 at h; obtain ⟨x0, _, rfl, h1⟩ := gL_ok h; obtain ⟨x1, _, rfl, h2⟩ := gL_ok h1; obtain ⟨x2, _, rfl, h3⟩ := gI_ok h2; obtain ⟨rfl, h4⟩ := gE_ok h3; simp only [F18_c0] at h4; cases h4
  · replace h : g18_0 (n + 1) ls = some r := h
    unfold g18_0 at h
    obtain ⟨x0, _, rfl, h1⟩ := gL_ok h; obtain ⟨x1, _, rfl, h2⟩ := gL_ok h1; obtain ⟨x2, _, rfl, h3⟩ := gI_ok h2; obtain ⟨rfl, h4⟩ := gE_ok h3
    exact (e18_0 n x0 x1 x2).trans h4
theorem sp18 {n : Nat} (a0 a1 : List (Int × Int × Int × Int × Int × Int × Int × Bool × Bool × Int × Int × (List (Int)) × ByteArray × Int × Int × Bool × Int)) {y : Bool} (h : F18 n a0 a1 = some y) : SpecF T Try.prog 18 pa18 [.l [.int .i64, .int .i64, .int .u8, .int .i64, .int .i64, .int .i64, .int .i64, .bool, .bool, .int .i64, .int .i64, .sl [.int .i64], .str, .int .i64, .int .i64, .bool, .int .i64] a0, .l [.int .i64, .int .i64, .int .u8, .int .i64, .int .i64, .int .i64, .int .i64, .bool, .bool, .int .i64, .int .i64, .sl [.int .i64], .str, .int .i64, .int .i64, .bool, .int .i64] a1] sr18 (ofB18 y) :=
  fun_ok (X := X18) tok (sfok_of ⟨ok15, trivial⟩) mixed 18 8 cuts18 rfl toB18_ok ⟨c18_0, trivial⟩ ((e18 n a0 a1).trans h)
theorem ok18 {R : Type} : SFone T Try.prog 18 (run18 : SF R) := by
  intro ls K r h
  simp only [run18] at h
  obtain ⟨a0, _, rfl, h1⟩ := gL_ok h; obtain ⟨a1, _, rfl, h2⟩ := gL_ok h1; obtain ⟨rfl, h3⟩ := gE_ok h2
  obtain ⟨y, k1, k2⟩ := Option.bind_eq_some_iff.1 h3
  exact ⟨_, k2, sp18 a0 a1 k1⟩

/-! ### garland/garlandref11.Fresh -/
def pa22 : List VP := [.sl false [.int .i64, .int .i64, .int .u8, .int .i64, .int .i64, .int .i64, .int .i64, .bool, .bool, .int .i64, .int .i64, .sl [.int .i64], .str, .int .i64, .int .i64, .bool, .int .i64], .agg [.i .u8, .i .i64, .i .i64, .i .i64, .i .i64, .b, .b, .i .i64, .i .i64, .sl false [.int .i64], .s, .i .i64, .i .i64, .b, .i .i64]]
def sr22 : RShape := ⟨.b, [], none⟩
def toB22 : List Leaf → Option (Bool) := gB (fun b0 => gE (some b0))
def ofB22 (y : Bool) : List Leaf := [.b y]
theorem toB22_ok : ∀ ls b, toB22 ls = some b → ls = ofB22 b := by
  intro ls b h
  unfold toB22 at h
  obtain ⟨b0, _, rfl, h1⟩ := gB_ok h; obtain ⟨rfl, h2⟩ := gE_ok h1
  cases h2; rfl
def run22 {R : Type} : SF R := ⟨pa22, sr22, fun ls K => (gL [.int .i64, .int .i64, .int .u8, .int .i64, .int .i64, .int .i64, .int .i64, .bool, .bool, .int .i64, .int .i64, .sl [.int .i64], .str, .int .i64, .int .i64, .bool, .int .i64] (fun a0 => gI (fun a1 => gI (fun a2 => gI (fun a3 => gI (fun a4 => gI (fun a5 => gB (fun a6 => gB (fun a7 => gI (fun a8 => gI (fun a9 => gL [.int .i64] (fun a10 => gS (fun a11 => gI (fun a12 => gI (fun a13 => gB (fun a14 => gI (fun a15 => gE (Option.bind (F22 FUEL a0 a1 a2 a3 a4 a5 a6 a7 a8 a9 a10 a11 a12 a13 a14 a15) fun y => K (ofB22 y))))))))))))))))))) ls⟩
def cuts22 : List (List Nat × Cut (Bool)) := []
noncomputable def X22 : Px (Bool) := ⟨T, Try.prog, lkF [(14, run14), (25, run25), (26, run26)], mkCuts 22 cuts22, altN, altN_ok⟩
theorem e22 (n : Nat) (a0 : List (Int × Int × Int × Int × Int × Int × Int × Bool × Bool × Int × Int × (List (Int)) × ByteArray × Int × Int × Bool × Int)) (a1 a2 a3 a4 a5 : Int) (a6 a7 : Bool) (a8 a9 : Int) (a10 : List (Int)) (a11 : ByteArray) (a12 a13 : Int) (a14 : Bool) (a15 : Int) : entF X22 8 22 pa22 (endK sr22 toB22) n [.l [.int .i64, .int .i64, .int .u8, .int .i64, .int .i64, .int .i64, .int .i64, .bool, .bool, .int .i64, .int .i64, .sl [.int .i64], .str, .int .i64, .int .i64, .bool, .int .i64] a0, .i a1, .i a2, .i a3, .i a4, .i a5, .b a6, .b a7, .i a8, .i a9, .l [.int .i64] a10, .s a11, .i a12, .i a13, .b a14, .i a15] = F22 n a0 a1 a2 a3 a4 a5 a6 a7 a8 a9 a10 a11 a12 a13 a14 a15 := by kernel_rfl
theorem sp22 {n : Nat} (a0 : List (Int × Int × Int × Int × Int × Int × Int × Bool × Bool × Int × Int × (List (Int)) × ByteArray × Int × Int × Bool × Int)) (a1 a2 a3 a4 a5 : Int) (a6 a7 : Bool) (a8 a9 : Int) (a10 : List (Int)) (a11 : ByteArray) (a12 a13 : Int) (a14 : Bool) (a15 : Int) {y : Bool} (h : F22 n a0 a1 a2 a3 a4 a5 a6 a7 a8 a9 a10 a11 a12 a13 a14 a15 = some y) : SpecF T Try.prog 22 pa22 [.l [.int .i64, .int .i64, .int .u8, .int .i64, .int .i64, .int .i64, .int .i64, .bool, .bool, .int .i64, .int .i64, .sl [.int .i64], .str, .int .i64, .int .i64, .bool, .int .i64] a0, .i a1, .i a2, .i a3, .i a4, .i a5, .b a6, .b a7, .i a8, .i a9, .l [.int .i64] a10, .s a11, .i a12, .i a13, .b a14, .i a15] sr22 (ofB22 y) :=
  fun_ok (X := X22) tok (sfok_of ⟨ok14, ok25, ok26, trivial⟩) mixed 22 8 cuts22 rfl toB22_ok trivial ((e22 n a0 a1 a2 a3 a4 a5 a6 a7 a8 a9 a10 a11 a12 a13 a14 a15).trans h)
theorem ok22 {R : Type} : SFone T Try.prog 22 (run22 : SF R) := by
  intro ls K r h
  simp only [run22] at h
  obtain ⟨a0, _, rfl, h1⟩ := gL_ok h; obtain ⟨a1, a2, a3, a4, _, rfl, h2⟩ := gI4_ok h1; obtain ⟨a5, _, rfl, h3⟩ := gI_ok h2; obtain ⟨a6, _, rfl, h4⟩ := gB_ok h3; obtain ⟨a7, _, rfl, h5⟩ := gB_ok h4; obtain ⟨a8, _, rfl, h6⟩ := gI_ok h5; obtain ⟨a9, _, rfl, h7⟩ := gI_ok h6; obtain ⟨a10, _, rfl, h8⟩ := gL_ok h7; obtain ⟨a11, _, rfl, h9⟩ := gS_ok h8; obtain ⟨a12, _, rfl, h10⟩ := gI_ok h9; obtain ⟨a13, _, rfl, h11⟩ := gI_ok h10; obtain ⟨a14, _, rfl, h12⟩ := gB_ok h11; obtain ⟨a15, _, rfl, h13⟩ := gI_ok h12; obtain ⟨rfl, h14⟩ := gE_ok h13
  obtain ⟨y, k1, k2⟩ := Option.bind_eq_some_iff.1 h14
  exact ⟨_, k2, sp22 a0 a1 a2 a3 a4 a5 a6 a7 a8 a9 a10 a11 a12 a13 a14 a15 k1⟩

/-! ### garland/garlandlaw11.SeenTells -/
def pa3 : List VP := [.sl false [.int .i64, .int .i64, .int .u8, .int .i64, .int .i64, .int .i64, .int .i64, .bool, .bool, .int .i64, .int .i64, .sl [.int .i64], .str, .int .i64, .int .i64, .bool, .int .i64], .sl false [.int .i64, .int .i64, .int .u8, .int .i64, .int .i64, .int .i64, .int .i64, .bool, .bool, .int .i64, .int .i64, .sl [.int .i64], .str, .int .i64, .int .i64, .bool, .int .i64], .sl false [.int .u8, .int .i64, .int .i64, .int .i64, .int .i64, .bool, .bool, .int .i64, .int .i64, .sl [.int .i64], .str, .int .i64, .int .i64, .bool, .int .i64], .agg [.i .u8, .i .i64, .i .i64, .i .i64, .i .i64, .b, .b, .i .i64, .i .i64, .sl false [.int .i64], .s, .i .i64, .i .i64, .b, .i .i64], .i .i64, .i .i64]
def sr3 : RShape := ⟨.b, [], none⟩
def toB3 : List Leaf → Option (Bool) := gB (fun b0 => gE (some b0))
def ofB3 (y : Bool) : List Leaf := [.b y]
theorem toB3_ok : ∀ ls b, toB3 ls = some b → ls = ofB3 b := by
  intro ls b h
  unfold toB3 at h
  obtain ⟨b0, _, rfl, h1⟩ := gB_ok h; obtain ⟨rfl, h2⟩ := gE_ok h1
  cases h2; rfl
def run3 {R : Type} : SF R := ⟨pa3, sr3, fun ls K => (gL [.int .i64, .int .i64, .int .u8, .int .i64, .int .i64, .int .i64, .int .i64, .bool, .bool, .int .i64, .int .i64, .sl [.int .i64], .str, .int .i64, .int .i64, .bool, .int .i64] (fun a0 => gL [.int .i64, .int .i64, .int .u8, .int .i64, .int .i64, .int .i64, .int .i64, .bool, .bool, .int .i64, .int .i64, .sl [.int .i64], .str, .int .i64, .int .i64, .bool, .int .i64] (fun a1 => gL [.int .u8, .int .i64, .int .i64, .int .i64, .int .i64, .bool, .bool, .int .i64, .int .i64, .sl [.int .i64], .str, .int .i64, .int .i64, .bool, .int .i64] (fun a2 => gI (fun a3 => gI (fun a4 => gI (fun a5 => gI (fun a6 => gI (fun a7 => gB (fun a8 => gB (fun a9 => gI (fun a10 => gI (fun a11 => gL [.int .i64] (fun a12 => gS (fun a13 => gI (fun a14 => gI (fun a15 => gB (fun a16 => gI (fun a17 => gI (fun a18 => gI (fun a19 => gE (Option.bind (F3 FUEL a0 a1 a2 a3 a4 a5 a6 a7 a8 a9 a10 a11 a12 a13 a14 a15 a16 a17 a18 a19) fun y => K (ofB3 y))))))))))))))))))))))) ls⟩
def cuts3 : List (List Nat × Cut (Bool)) := []
noncomputable def X3 : Px (Bool) := ⟨T, Try.prog, lkF [(8, run8), (10, run10), (9, run9), (11, run11), (12, run12), (13, run13), (14, run14), (15, run15), (16, run16), (17, run17), (19, run19), (20, run20), (18, run18), (21, run21), (22, run22), (23, run23), (24, run24)], mkCuts 3 cuts3, altN, altN_ok⟩
theorem e3 (n : Nat) (a0 a1 : List (Int × Int × Int × Int × Int × Int × Int × Bool × Bool × Int × Int × (List (Int)) × ByteArray × Int × Int × Bool × Int)) (a2 : List (Int × Int × Int × Int × Int × Bool × Bool × Int × Int × (List (Int)) × ByteArray × Int × Int × Bool × Int)) (a3 a4 a5 a6 a7 : Int) (a8 a9 : Bool) (a10 a11 : Int) (a12 : List (Int)) (a13 : ByteArray) (a14 a15 : Int) (a16 : Bool) (a17 a18 a19 : Int) : entF X3 8 3 pa3 (endK sr3 toB3) n [.l [.int .i64, .int .i64, .int .u8, .int .i64, .int .i64, .int .i64, .int .i64, .bool, .bool, .int .i64, .int .i64, .sl [.int .i64], .str, .int .i64, .int .i64, .bool, .int .i64] a0, .l [.int .i64, .int .i64, .int .u8, .int .i64, .int .i64, .int .i64, .int .i64, .bool, .bool, .int .i64, .int .i64, .sl [.int .i64], .str, .int .i64, .int .i64, .bool, .int .i64] a1, .l [.int .u8, .int .i64, .int .i64, .int .i64, .int .i64, .bool, .bool, .int .i64, .int .i64, .sl [.int .i64], .str, .int .i64, .int .i64, .bool, .int .i64] a2, .i a3, .i a4, .i a5, .i a6, .i a7, .b a8, .b a9, .i a10, .i a11, .l [.int .i64] a12, .s a13, .i a14, .i a15, .b a16, .i a17, .i a18, .i a19] = F3 n a0 a1 a2 a3 a4 a5 a6 a7 a8 a9 a10 a11 a12 a13 a14 a15 a16 a17 a18 a19 := by kernel_rfl
theorem sp3 {n : Nat} (a0 a1 : List (Int × Int × Int × Int × Int × Int × Int × Bool × Bool × Int × Int × (List (Int)) × ByteArray × Int × Int × Bool × Int)) (a2 : List (Int × Int × Int × Int × Int × Bool × Bool × Int × Int × (List (Int)) × ByteArray × Int × Int × Bool × Int)) (a3 a4 a5 a6 a7 : Int) (a8 a9 : Bool) (a10 a11 : Int) (a12 : List (Int)) (a13 : ByteArray) (a14 a15 : Int) (a16 : Bool) (a17 a18 a19 : Int) {y : Bool} (h : F3 n a0 a1 a2 a3 a4 a5 a6 a7 a8 a9 a10 a11 a12 a13 a14 a15 a16 a17 a18 a19 = some y) : SpecF T Try.prog 3 pa3 [.l [.int .i64, .int .i64, .int .u8, .int .i64, .int .i64, .int .i64, .int .i64, .bool, .bool, .int .i64, .int .i64, .sl [.int .i64], .str, .int .i64, .int .i64, .bool, .int .i64] a0, .l [.int .i64, .int .i64, .int .u8, .int .i64, .int .i64, .int .i64, .int .i64, .bool, .bool, .int .i64, .int .i64, .sl [.int .i64], .str, .int .i64, .int .i64, .bool, .int .i64] a1, .l [.int .u8, .int .i64, .int .i64, .int .i64, .int .i64, .bool, .bool, .int .i64, .int .i64, .sl [.int .i64], .str, .int .i64, .int .i64, .bool, .int .i64] a2, .i a3, .i a4, .i a5, .i a6, .i a7, .b a8, .b a9, .i a10, .i a11, .l [.int .i64] a12, .s a13, .i a14, .i a15, .b a16, .i a17, .i a18, .i a19] sr3 (ofB3 y) :=
  fun_ok (X := X3) tok (sfok_of ⟨ok8, ok10, ok9, ok11, ok12, ok13, ok14, ok15, ok16, ok17, ok19, ok20, ok18, ok21, ok22, ok23, ok24, trivial⟩) mixed 3 8 cuts3 rfl toB3_ok trivial ((e3 n a0 a1 a2 a3 a4 a5 a6 a7 a8 a9 a10 a11 a12 a13 a14 a15 a16 a17 a18 a19).trans h)
theorem ok3 {R : Type} : SFone T Try.prog 3 (run3 : SF R) := by
  intro ls K r h
  simp only [run3] at h
  obtain ⟨a0, _, rfl, h1⟩ := gL_ok h; obtain ⟨a1, _, rfl, h2⟩ := gL_ok h1; obtain ⟨a2, _, rfl, h3⟩ := gL_ok h2; obtain ⟨a3, a4, a5, a6, _, rfl, h4⟩ := gI4_ok h3; obtain ⟨a7, _, rfl, h5⟩ := gI_ok h4; obtain ⟨a8, _, rfl, h6⟩ := gB_ok h5; obtain ⟨a9, _, rfl, h7⟩ := gB_ok h6; obtain ⟨a10, _, rfl, h8⟩ := gI_ok h7; obtain ⟨a11, _, rfl, h9⟩ := gI_ok h8; obtain ⟨a12, _, rfl, h10⟩ := gL_ok h9; obtain ⟨a13, _, rfl, h11⟩ := gS_ok h10; obtain ⟨a14, _, rfl, h12⟩ := gI_ok h11; obtain ⟨a15, _, rfl, h13⟩ := gI_ok h12; obtain ⟨a16, _, rfl, h14⟩ := gB_ok h13; obtain ⟨a17, _, rfl, h15⟩ := gI_ok h14; obtain ⟨a18, _, rfl, h16⟩ := gI_ok h15; obtain ⟨a19, _, rfl, h17⟩ := gI_ok h16; obtain ⟨rfl, h18⟩ := gE_ok h17
  obtain ⟨y, k1, k2⟩ := Option.bind_eq_some_iff.1 h18
  exact ⟨_, k2, sp3 a0 a1 a2 a3 a4 a5 a6 a7 a8 a9 a10 a11 a12 a13 a14 a15 a16 a17 a18 a19 k1⟩

/-! ### garland/garlandlaw11.SeenOnce -/
def pa4 : List VP := [.sl false [.int .i64, .int .i64, .int .u8, .int .i64, .int .i64, .int .i64, .int .i64, .bool, .bool, .int .i64, .int .i64, .sl [.int .i64], .str, .int .i64, .int .i64, .bool, .int .i64], .agg [.i .u8, .i .i64, .i .i64, .i .i64, .i .i64, .b, .b, .i .i64, .i .i64, .sl false [.int .i64], .s, .i .i64, .i .i64, .b, .i .i64], .sl false [.int .u8, .int .i64, .int .i64, .int .i64, .int .i64, .bool, .bool, .int .i64, .int .i64, .sl [.int .i64], .str, .int .i64, .int .i64, .bool, .int .i64]]
def sr4 : RShape := ⟨.b, [], none⟩
def toB4 : List Leaf → Option (Bool) := gB (fun b0 => gE (some b0))
def ofB4 (y : Bool) : List Leaf := [.b y]
theorem toB4_ok : ∀ ls b, toB4 ls = some b → ls = ofB4 b := by
  intro ls b h
  unfold toB4 at h
  obtain ⟨b0, _, rfl, h1⟩ := gB_ok h; obtain ⟨rfl, h2⟩ := gE_ok h1
  cases h2; rfl
def run4 {R : Type} : SF R := ⟨pa4, sr4, fun ls K => (gL [.int .i64, .int .i64, .int .u8, .int .i64, .int .i64, .int .i64, .int .i64, .bool, .bool, .int .i64, .int .i64, .sl [.int .i64], .str, .int .i64, .int .i64, .bool, .int .i64] (fun a0 => gI (fun a1 => gI (fun a2 => gI (fun a3 => gI (fun a4 => gI (fun a5 => gB (fun a6 => gB (fun a7 => gI (fun a8 => gI (fun a9 => gL [.int .i64] (fun a10 => gS (fun a11 => gI (fun a12 => gI (fun a13 => gB (fun a14 => gI (fun a15 => gL [.int .u8, .int .i64, .int .i64, .int .i64, .int .i64, .bool, .bool, .int .i64, .int .i64, .sl [.int .i64], .str, .int .i64, .int .i64, .bool, .int .i64] (fun a16 => gE (Option.bind (F4 FUEL a0 a1 a2 a3 a4 a5 a6 a7 a8 a9 a10 a11 a12 a13 a14 a15 a16) fun y => K (ofB4 y)))))))))))))))))))) ls⟩
def cuts4 : List (List Nat × Cut (Bool)) := []
noncomputable def X4 : Px (Bool) := ⟨T, Try.prog, lkF [(8, run8), (10, run10), (9, run9), (17, run17), (25, run25), (26, run26), (27, run27), (21, run21), (13, run13), (19, run19), (18, run18), (15, run15)], mkCuts 4 cuts4, altN, altN_ok⟩
theorem e4 (n : Nat) (a0 : List (Int × Int × Int × Int × Int × Int × Int × Bool × Bool × Int × Int × (List (Int)) × ByteArray × Int × Int × Bool × Int)) (a1 a2 a3 a4 a5 : Int) (a6 a7 : Bool) (a8 a9 : Int) (a10 : List (Int)) (a11 : ByteArray) (a12 a13 : Int) (a14 : Bool) (a15 : Int) (a16 : List (Int × Int × Int × Int × Int × Bool × Bool × Int × Int × (List (Int)) × ByteArray × Int × Int × Bool × Int)) : entF X4 8 4 pa4 (endK sr4 toB4) n [.l [.int .i64, .int .i64, .int .u8, .int .i64, .int .i64, .int .i64, .int .i64, .bool, .bool, .int .i64, .int .i64, .sl [.int .i64], .str, .int .i64, .int .i64, .bool, .int .i64] a0, .i a1, .i a2, .i a3, .i a4, .i a5, .b a6, .b a7, .i a8, .i a9, .l [.int .i64] a10, .s a11, .i a12, .i a13, .b a14, .i a15, .l [.int .u8, .int .i64, .int .i64, .int .i64, .int .i64, .bool, .bool, .int .i64, .int .i64, .sl [.int .i64], .str, .int .i64, .int .i64, .bool, .int .i64] a16] = F4 n a0 a1 a2 a3 a4 a5 a6 a7 a8 a9 a10 a11 a12 a13 a14 a15 a16 := by kernel_rfl
theorem sp4 {n : Nat} (a0 : List (Int × Int × Int × Int × Int × Int × Int × Bool × Bool × Int × Int × (List (Int)) × ByteArray × Int × Int × Bool × Int)) (a1 a2 a3 a4 a5 : Int) (a6 a7 : Bool) (a8 a9 : Int) (a10 : List (Int)) (a11 : ByteArray) (a12 a13 : Int) (a14 : Bool) (a15 : Int) (a16 : List (Int × Int × Int × Int × Int × Bool × Bool × Int × Int × (List (Int)) × ByteArray × Int × Int × Bool × Int)) {y : Bool} (h : F4 n a0 a1 a2 a3 a4 a5 a6 a7 a8 a9 a10 a11 a12 a13 a14 a15 a16 = some y) : SpecF T Try.prog 4 pa4 [.l [.int .i64, .int .i64, .int .u8, .int .i64, .int .i64, .int .i64, .int .i64, .bool, .bool, .int .i64, .int .i64, .sl [.int .i64], .str, .int .i64, .int .i64, .bool, .int .i64] a0, .i a1, .i a2, .i a3, .i a4, .i a5, .b a6, .b a7, .i a8, .i a9, .l [.int .i64] a10, .s a11, .i a12, .i a13, .b a14, .i a15, .l [.int .u8, .int .i64, .int .i64, .int .i64, .int .i64, .bool, .bool, .int .i64, .int .i64, .sl [.int .i64], .str, .int .i64, .int .i64, .bool, .int .i64] a16] sr4 (ofB4 y) :=
  fun_ok (X := X4) tok (sfok_of ⟨ok8, ok10, ok9, ok17, ok25, ok26, ok27, ok21, ok13, ok19, ok18, ok15, trivial⟩) mixed 4 8 cuts4 rfl toB4_ok trivial ((e4 n a0 a1 a2 a3 a4 a5 a6 a7 a8 a9 a10 a11 a12 a13 a14 a15 a16).trans h)
theorem ok4 {R : Type} : SFone T Try.prog 4 (run4 : SF R) := by
  intro ls K r h
  simp only [run4] at h
  obtain ⟨a0, _, rfl, h1⟩ := gL_ok h; obtain ⟨a1, a2, a3, a4, _, rfl, h2⟩ := gI4_ok h1; obtain ⟨a5, _, rfl, h3⟩ := gI_ok h2; obtain ⟨a6, _, rfl, h4⟩ := gB_ok h3; obtain ⟨a7, _, rfl, h5⟩ := gB_ok h4; obtain ⟨a8, _, rfl, h6⟩ := gI_ok h5; obtain ⟨a9, _, rfl, h7⟩ := gI_ok h6; obtain ⟨a10, _, rfl, h8⟩ := gL_ok h7; obtain ⟨a11, _, rfl, h9⟩ := gS_ok h8; obtain ⟨a12, _, rfl, h10⟩ := gI_ok h9; obtain ⟨a13, _, rfl, h11⟩ := gI_ok h10; obtain ⟨a14, _, rfl, h12⟩ := gB_ok h11; obtain ⟨a15, _, rfl, h13⟩ := gI_ok h12; obtain ⟨a16, _, rfl, h14⟩ := gL_ok h13; obtain ⟨rfl, h15⟩ := gE_ok h14
  obtain ⟨y, k1, k2⟩ := Option.bind_eq_some_iff.1 h15
  exact ⟨_, k2, sp4 a0 a1 a2 a3 a4 a5 a6 a7 a8 a9 a10 a11 a12 a13 a14 a15 a16 k1⟩

/-! ### garland/garlandlaw11.SeenAdds -/
def pa5 : List VP := [.sl false [.int .i64, .int .i64, .int .u8, .int .i64, .int .i64, .int .i64, .int .i64, .bool, .bool, .int .i64, .int .i64, .sl [.int .i64], .str, .int .i64, .int .i64, .bool, .int .i64], .sl false [.int .u8, .int .i64, .int .i64, .int .i64, .int .i64, .bool, .bool, .int .i64, .int .i64, .sl [.int .i64], .str, .int .i64, .int .i64, .bool, .int .i64]]
def sr5 : RShape := ⟨.b, [], none⟩
def toB5 : List Leaf → Option (Bool) := gB (fun b0 => gE (some b0))
def ofB5 (y : Bool) : List Leaf := [.b y]
theorem toB5_ok : ∀ ls b, toB5 ls = some b → ls = ofB5 b := by
  intro ls b h
  unfold toB5 at h
  obtain ⟨b0, _, rfl, h1⟩ := gB_ok h; obtain ⟨rfl, h2⟩ := gE_ok h1
  cases h2; rfl
def run5 {R : Type} : SF R := ⟨pa5, sr5, fun ls K => (gL [.int .i64, .int .i64, .int .u8, .int .i64, .int .i64, .int .i64, .int .i64, .bool, .bool, .int .i64, .int .i64, .sl [.int .i64], .str, .int .i64, .int .i64, .bool, .int .i64] (fun a0 => gL [.int .u8, .int .i64, .int .i64, .int .i64, .int .i64, .bool, .bool, .int .i64, .int .i64, .sl [.int .i64], .str, .int .i64, .int .i64, .bool, .int .i64] (fun a1 => gE (Option.bind (F5 FUEL a0 a1) fun y => K (ofB5 y))))) ls⟩
def sh5_0 : Shape := ⟨[(80, [(0, .sl false [.int .i64, .int .i64, .int .u8, .int .i64, .int .i64, .int .i64, .int .i64, .bool, .bool, .int .i64, .int .i64, .sl [.int .i64], .str, .int .i64, .int .i64, .bool, .int .i64]), (1, .sl false [.int .u8, .int .i64, .int .i64, .int .i64, .int .i64, .bool, .bool, .int .i64, .int .i64, .sl [.int .i64], .str, .int .i64, .int .i64, .bool, .int .i64]), (5, .sl true [.int .i64, .int .i64, .int .u8, .int .i64, .int .i64, .int .i64, .int .i64, .bool, .bool, .int .i64, .int .i64, .sl [.int .i64], .str, .int .i64, .int .i64, .bool, .int .i64]), (6, .sl false [.int .i64, .int .i64, .int .u8, .int .i64, .int .i64, .int .i64, .int .i64, .bool, .bool, .int .i64, .int .i64, .sl [.int .i64], .str, .int .i64, .int .i64, .bool, .int .i64]), (7, .i .i64)])], []⟩
def g5_0 (n : Nat) : List Leaf → Option (Bool) := gL [.int .i64, .int .i64, .int .u8, .int .i64, .int .i64, .int .i64, .int .i64, .bool, .bool, .int .i64, .int .i64, .sl [.int .i64], .str, .int .i64, .int .i64, .bool, .int .i64] (fun x0 => gL [.int .u8, .int .i64, .int .i64, .int .i64, .int .i64, .bool, .bool, .int .i64, .int .i64, .sl [.int .i64], .str, .int .i64, .int .i64, .bool, .int .i64] (fun x1 => gL [.int .i64, .int .i64, .int .u8, .int .i64, .int .i64, .int .i64, .int .i64, .bool, .bool, .int .i64, .int .i64, .sl [.int .i64], .str, .int .i64, .int .i64, .bool, .int .i64] (fun x2 => gL [.int .i64, .int .i64, .int .u8, .int .i64, .int .i64, .int .i64, .int .i64, .bool, .bool, .int .i64, .int .i64, .sl [.int .i64], .str, .int .i64, .int .i64, .bool, .int .i64] (fun x3 => gI (fun x4 => gE (F5_c0 n x0 x1 x2 x3 x4))))))
def cuts5 : List (List Nat × Cut (Bool)) := [([1, 1, 1, 0, 1, 0], ⟨sh5_0, g5_0⟩)]
noncomputable def X5 : Px (Bool) := ⟨T, Try.prog, lkF [(8, run8), (10, run10), (9, run9), (17, run17), (19, run19), (25, run25), (18, run18), (26, run26)], mkCuts 5 cuts5, altN, altN_ok⟩
theorem e5_0 (n : Nat) (x0 : List (Int × Int × Int × Int × Int × Int × Int × Bool × Bool × Int × Int × (List (Int)) × ByteArray × Int × Int × Bool × Int)) (x1 : List (Int × Int × Int × Int × Int × Bool × Bool × Int × Int × (List (Int)) × ByteArray × Int × Int × Bool × Int)) (x2 x3 : List (Int × Int × Int × Int × Int × Int × Int × Bool × Bool × Int × Int × (List (Int)) × ByteArray × Int × Int × Bool × Int)) (x4 : Int) : stepF X5 8 5 (endK sr5 toB5) [1, 1, 1, 0, 1, 0] sh5_0 n [.l [.int .i64, .int .i64, .int .u8, .int .i64, .int .i64, .int .i64, .int .i64, .bool, .bool, .int .i64, .int .i64, .sl [.int .i64], .str, .int .i64, .int .i64, .bool, .int .i64] x0, .l [.int .u8, .int .i64, .int .i64, .int .i64, .int .i64, .bool, .bool, .int .i64, .int .i64, .sl [.int .i64], .str, .int .i64, .int .i64, .bool, .int .i64] x1, .l [.int .i64, .int .i64, .int .u8, .int .i64, .int .i64, .int .i64, .int .i64, .bool, .bool, .int .i64, .int .i64, .sl [.int .i64], .str, .int .i64, .int .i64, .bool, .int .i64] x2, .l [.int .i64, .int .i64, .int .u8, .int .i64, .int .i64, .int .i64, .int .i64, .bool, .bool, .int .i64, .int .i64, .sl [.int .i64], .str, .int .i64, .int .i64, .bool, .int .i64] x3, .i x4] = F5_c0 (n + 1) x0 x1 x2 x3 x4 := by kernel_rfl
theorem e5 (n : Nat) (a0 : List (Int × Int × Int × Int × Int × Int × Int × Bool × Bool × Int × Int × (List (Int)) × ByteArray × Int × Int × Bool × Int)) (a1 : List (Int × Int × Int × Int × Int × Bool × Bool × Int × Int × (List (Int)) × ByteArray × Int × Int × Bool × Int)) : entF X5 8 5 pa5 (endK sr5 toB5) n [.l [.int .i64, .int .i64, .int .u8, .int .i64, .int .i64, .int .i64, .int .i64, .bool, .bool, .int .i64, .int .i64, .sl [.int .i64], .str, .int .i64, .int .i64, .bool, .int .i64] a0, .l [.int .u8, .int .i64, .int .i64, .int .i64, .int .i64, .bool, .bool, .int .i64, .int .i64, .sl [.int .i64], .str, .int .i64, .int .i64, .bool, .int .i64] a1] = F5 n a0 a1 := by kernel_rfl
theorem c5_0 : CutOK X5 8 5 (endK sr5 toB5) [1, 1, 1, 0, 1, 0] ⟨sh5_0, g5_0⟩ := by
  refine ⟨fun ls => ?_, fun n ls r h => ?_⟩
  · cases h : g5_0 0 ls with
    | none => exact h
    | some r =>
      unfold g5_0 at h; obtain ⟨x0, _, rfl, h1⟩ := gL_ok h; obtain ⟨x1, _, rfl, h2⟩ := gL_ok h1; obtain ⟨x2, _, rfl, h3⟩ := gL_ok h2; obtain ⟨x3, _, rfl, h4⟩ := gL_ok h3; obtain ⟨x4, _, rfl, h5⟩ := gI_ok h4; obtain ⟨rfl, h6⟩ := gE_ok h5; simp only [F5_c0] at h6; cases h6
  · replace h : g5_0 (n + 1) ls = some r := h
    unfold g5_0 at h
    obtain ⟨x0, _, rfl, h1⟩ := gL_ok h; obtain ⟨x1, _, rfl, h2⟩ := gL_ok h1; obtain ⟨x2, _, rfl, h3⟩ := gL_ok h2; obtain ⟨x3, _, rfl, h4⟩ := gL_ok h3; obtain ⟨x4, _, rfl, h5⟩ := gI_ok h4; obtain ⟨rfl, h6⟩ := gE_ok h5
    exact (e5_0 n x0 x1 x2 x3 x4).trans h6
theorem sp5 {n : Nat} (a0 : List (Int × Int × Int × Int × Int × Int × Int × Bool × Bool × Int × Int × (List (Int)) × ByteArray × Int × Int × Bool × Int)) (a1 : List (Int × Int × Int × Int × Int × Bool × Bool × Int × Int × (List (Int)) × ByteArray × Int × Int × Bool × Int)) {y : Bool} (h : F5 n a0 a1 = some y) : SpecF T Try.prog 5 pa5 [.l [.int .i64, .int .i64, .int .u8, .int .i64, .int .i64, .int .i64, .int .i64, .bool, .bool, .int .i64, .int .i64, .sl [.int .i64], .str, .int .i64, .int .i64, .bool, .int .i64] a0, .l [.int .u8, .int .i64, .int .i64, .int .i64, .int .i64, .bool, .bool, .int .i64, .int .i64, .sl [.int .i64], .str, .int .i64, .int .i64, .bool, .int .i64] a1] sr5 (ofB5 y) :=
  fun_ok (X := X5) tok (sfok_of ⟨ok8, ok10, ok9, ok17, ok19, ok25, ok18, ok26, trivial⟩) mixed 5 8 cuts5 rfl toB5_ok ⟨c5_0, trivial⟩ ((e5 n a0 a1).trans h)
theorem ok5 {R : Type} : SFone T Try.prog 5 (run5 : SF R) := by
  intro ls K r h
  simp only [run5] at h
  obtain ⟨a0, _, rfl, h1⟩ := gL_ok h; obtain ⟨a1, _, rfl, h2⟩ := gL_ok h1; obtain ⟨rfl, h3⟩ := gE_ok h2
  obtain ⟨y, k1, k2⟩ := Option.bind_eq_some_iff.1 h3
  exact ⟨_, k2, sp5 a0 a1 k1⟩

end Go.Proofs.Ytcbhmedknbiffaa
