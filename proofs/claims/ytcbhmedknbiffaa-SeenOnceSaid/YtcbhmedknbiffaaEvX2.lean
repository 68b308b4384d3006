/-
  The functions of this program, evaluated; each is as it is evaluated.
-/
import Derived.Test.YtcbhmedknbiffaaEvX
namespace Go.Proofs.Ytcbhmedknbiffaa
open Go Go.RowKit
set_option maxRecDepth 100000


/-! ### garland/garlandlaw11.SeenAge -/
def pa6 : List VP := [.sl false [.int .i64, .int .i64, .int .u8, .int .i64, .int .i64, .int .i64, .int .i64, .bool, .bool, .int .i64, .int .i64, .sl [.int .i64], .str, .int .i64, .int .i64, .bool, .int .i64], .sl false [.int .u8, .int .i64, .int .i64, .int .i64, .int .i64, .bool, .bool, .int .i64, .int .i64, .sl [.int .i64], .str, .int .i64, .int .i64, .bool, .int .i64]]
def sr6 : RShape := ⟨.b, [], none⟩
def toB6 : List Leaf → Option (Bool) := gB (fun b0 => gE (some b0))
def ofB6 (y : Bool) : List Leaf := [.b y]
theorem toB6_ok : ∀ ls b, toB6 ls = some b → ls = ofB6 b := by
  intro ls b h
  unfold toB6 at h
  obtain ⟨b0, _, rfl, h1⟩ := gB_ok h; obtain ⟨rfl, h2⟩ := gE_ok h1
  cases h2; rfl
def run6 {R : Type} : SF R := ⟨pa6, sr6, fun ls K => (gL [.int .i64, .int .i64, .int .u8, .int .i64, .int .i64, .int .i64, .int .i64, .bool, .bool, .int .i64, .int .i64, .sl [.int .i64], .str, .int .i64, .int .i64, .bool, .int .i64] (fun a0 => gL [.int .u8, .int .i64, .int .i64, .int .i64, .int .i64, .bool, .bool, .int .i64, .int .i64, .sl [.int .i64], .str, .int .i64, .int .i64, .bool, .int .i64] (fun a1 => gE (Option.bind (F6 FUEL a0 a1) fun y => K (ofB6 y))))) ls⟩
def sh6_0 : Shape := ⟨[(78, [(0, .sl false [.int .i64, .int .i64, .int .u8, .int .i64, .int .i64, .int .i64, .int .i64, .bool, .bool, .int .i64, .int .i64, .sl [.int .i64], .str, .int .i64, .int .i64, .bool, .int .i64]), (1, .sl false [.int .u8, .int .i64, .int .i64, .int .i64, .int .i64, .bool, .bool, .int .i64, .int .i64, .sl [.int .i64], .str, .int .i64, .int .i64, .bool, .int .i64]), (5, .row 0), (6, .i .i64)])], [.row true [.int .i64, .int .i64, .int .u8, .int .i64, .int .i64, .int .i64, .int .i64, .bool, .bool, .int .i64, .int .i64, .sl [.int .i64], .str, .int .i64, .int .i64, .bool, .int .i64]]⟩
def g6_0 (n : Nat) : List Leaf → Option (Bool) := gL [.int .i64, .int .i64, .int .u8, .int .i64, .int .i64, .int .i64, .int .i64, .bool, .bool, .int .i64, .int .i64, .sl [.int .i64], .str, .int .i64, .int .i64, .bool, .int .i64] (fun x0 => gL [.int .u8, .int .i64, .int .i64, .int .i64, .int .i64, .bool, .bool, .int .i64, .int .i64, .sl [.int .i64], .str, .int .i64, .int .i64, .bool, .int .i64] (fun x1 => gI (fun x2 => gL [.int .i64, .int .i64, .int .u8, .int .i64, .int .i64, .int .i64, .int .i64, .bool, .bool, .int .i64, .int .i64, .sl [.int .i64], .str, .int .i64, .int .i64, .bool, .int .i64] (fun x3 => gE (F6_c0 n x0 x1 x2 x3)))))
def cuts6 : List (List Nat × Cut (Bool)) := [([1, 1, 1, 0, 1, 0], ⟨sh6_0, g6_0⟩)]
noncomputable def X6 : Px (Bool) := ⟨T, Try.prog, lkF [(8, run8), (10, run10), (9, run9), (17, run17), (28, run28), (12, run12), (14, run14), (19, run19), (18, run18)], mkCuts 6 cuts6, altN, altN_ok⟩
theorem e6_0 (n : Nat) (x0 : List (Int × Int × Int × Int × Int × Int × Int × Bool × Bool × Int × Int × (List (Int)) × ByteArray × Int × Int × Bool × Int)) (x1 : List (Int × Int × Int × Int × Int × Bool × Bool × Int × Int × (List (Int)) × ByteArray × Int × Int × Bool × Int)) (x2 : Int) (x3 : List (Int × Int × Int × Int × Int × Int × Int × Bool × Bool × Int × Int × (List (Int)) × ByteArray × Int × Int × Bool × Int)) : stepF X6 8 6 (endK sr6 toB6) [1, 1, 1, 0, 1, 0] sh6_0 n [.l [.int .i64, .int .i64, .int .u8, .int .i64, .int .i64, .int .i64, .int .i64, .bool, .bool, .int .i64, .int .i64, .sl [.int .i64], .str, .int .i64, .int .i64, .bool, .int .i64] x0, .l [.int .u8, .int .i64, .int .i64, .int .i64, .int .i64, .bool, .bool, .int .i64, .int .i64, .sl [.int .i64], .str, .int .i64, .int .i64, .bool, .int .i64] x1, .i x2, .l [.int .i64, .int .i64, .int .u8, .int .i64, .int .i64, .int .i64, .int .i64, .bool, .bool, .int .i64, .int .i64, .sl [.int .i64], .str, .int .i64, .int .i64, .bool, .int .i64] x3] = F6_c0 (n + 1) x0 x1 x2 x3 := by kernel_rfl
theorem e6 (n : Nat) (a0 : List (Int × Int × Int × Int × Int × Int × Int × Bool × Bool × Int × Int × (List (Int)) × ByteArray × Int × Int × Bool × Int)) (a1 : List (Int × Int × Int × Int × Int × Bool × Bool × Int × Int × (List (Int)) × ByteArray × Int × Int × Bool × Int)) : entF X6 8 6 pa6 (endK sr6 toB6) n [.l [.int .i64, .int .i64, .int .u8, .int .i64, .int .i64, .int .i64, .int .i64, .bool, .bool, .int .i64, .int .i64, .sl [.int .i64], .str, .int .i64, .int .i64, .bool, .int .i64] a0, .l [.int .u8, .int .i64, .int .i64, .int .i64, .int .i64, .bool, .bool, .int .i64, .int .i64, .sl [.int .i64], .str, .int .i64, .int .i64, .bool, .int .i64] a1] = F6 n a0 a1 := by kernel_rfl
theorem c6_0 : CutOK X6 8 6 (endK sr6 toB6) [1, 1, 1, 0, 1, 0] ⟨sh6_0, g6_0⟩ := by
  refine ⟨fun ls => ?_, fun n ls r h => ?_⟩
  · cases h : g6_0 0 ls with
    | none => exact h
    | some r =>
      unfold g6_0 at h; obtain ⟨x0, _, rfl, h1⟩ := gL_ok h; obtain ⟨x1, _, rfl, h2⟩ := gL_ok h1; obtain ⟨x2, _, rfl, h3⟩ := gI_ok h2; obtain ⟨x3, _, rfl, h4⟩ := gL_ok h3; obtain ⟨rfl, h5⟩ := gE_ok h4; simp only [F6_c0] at h5; cases h5
  · replace h : g6_0 (n + 1) ls = some r := h
    unfold g6_0 at h
    obtain ⟨x0, _, rfl, h1⟩ := gL_ok h; obtain ⟨x1, _, rfl, h2⟩ := gL_ok h1; obtain ⟨x2, _, rfl, h3⟩ := gI_ok h2; obtain ⟨x3, _, rfl, h4⟩ := gL_ok h3; obtain ⟨rfl, h5⟩ := gE_ok h4
    exact (e6_0 n x0 x1 x2 x3).trans h5
theorem sp6 {n : Nat} (a0 : List (Int × Int × Int × Int × Int × Int × Int × Bool × Bool × Int × Int × (List (Int)) × ByteArray × Int × Int × Bool × Int)) (a1 : List (Int × Int × Int × Int × Int × Bool × Bool × Int × Int × (List (Int)) × ByteArray × Int × Int × Bool × Int)) {y : Bool} (h : F6 n a0 a1 = some y) : SpecF T Try.prog 6 pa6 [.l [.int .i64, .int .i64, .int .u8, .int .i64, .int .i64, .int .i64, .int .i64, .bool, .bool, .int .i64, .int .i64, .sl [.int .i64], .str, .int .i64, .int .i64, .bool, .int .i64] a0, .l [.int .u8, .int .i64, .int .i64, .int .i64, .int .i64, .bool, .bool, .int .i64, .int .i64, .sl [.int .i64], .str, .int .i64, .int .i64, .bool, .int .i64] a1] sr6 (ofB6 y) :=
  fun_ok (X := X6) tok (sfok_of ⟨ok8, ok10, ok9, ok17, ok28, ok12, ok14, ok19, ok18, trivial⟩) mixed 6 8 cuts6 rfl toB6_ok ⟨c6_0, trivial⟩ ((e6 n a0 a1).trans h)
theorem ok6 {R : Type} : SFone T Try.prog 6 (run6 : SF R) := by
  intro ls K r h
  simp only [run6] at h
  obtain ⟨a0, _, rfl, h1⟩ := gL_ok h; obtain ⟨a1, _, rfl, h2⟩ := gL_ok h1; obtain ⟨rfl, h3⟩ := gE_ok h2
  obtain ⟨y, k1, k2⟩ := Option.bind_eq_some_iff.1 h3
  exact ⟨_, k2, sp6 a0 a1 k1⟩

end Go.Proofs.Ytcbhmedknbiffaa
