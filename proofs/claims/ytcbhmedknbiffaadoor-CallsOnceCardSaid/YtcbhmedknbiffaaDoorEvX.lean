/-
  The functions of this program, evaluated; each is as it is evaluated.
-/
import Derived.Test.YtcbhmedknbiffaaDoorEvR
import Derived.Test.YtcbhmedknbiffaaDoorEvY
import Derived.Test.YtcbhmedknbiffaaDoorVsT
import Derived.KernelRfl
namespace Go.Proofs.YtcbhmedknbiffaaDoor
open Go Go.RowKit
set_option maxRecDepth 100000

theorem mixed : Tryd.prog.follows .mixedOrders = true := by kernel_rfl


/-! ### garland/calls.New -/
def pa7 : List VP := [.i .i64]
def sr7 : RShape := ⟨.tup [.agg [.i .i64, .i .i64, .nil], .i .i64], [], none⟩
def toB7 : List Leaf → Option (Int × Int × Int) := gI (fun b0 => gI (fun b1 => gI (fun b2 => gE (some (b0, b1, b2)))))
def ofB7 (y : Int × Int × Int) : List Leaf := [.i y.1, .i y.2.1, .i y.2.2]
theorem toB7_ok : ∀ ls b, toB7 ls = some b → ls = ofB7 b := by
  intro ls b h
  unfold toB7 at h
  obtain ⟨b0, _, rfl, h1⟩ := gI_ok h; obtain ⟨b1, _, rfl, h2⟩ := gI_ok h1; obtain ⟨b2, _, rfl, h3⟩ := gI_ok h2; obtain ⟨rfl, h4⟩ := gE_ok h3
  cases h4; rfl
def run7 {R : Type} : SF R := ⟨pa7, sr7, fun ls K => (gI (fun a0 => gE (Option.bind (F7 FUEL a0) fun y => K (ofB7 y)))) ls⟩
def sh7_0 : Shape := ⟨[(13, [(2, .ref 0 0)])], [.cells [.i .i64, .i .i64, .nil]]⟩
def g7_0 (n : Nat) : List Leaf → Option (Int × Int × Int) := gI (fun x0 => gI (fun x1 => gE (F7_c0 n x0 x1)))
def cuts7 : List (List Nat × Cut (Int × Int × Int)) := [([1, 10], ⟨sh7_0, g7_0⟩)]
noncomputable def X7 : Px (Int × Int × Int) := ⟨T, Tryd.prog, lkF [], mkCuts 7 cuts7, altN, altN_ok⟩
theorem e7_0 (n : Nat) (x0 x1 : Int) : stepF X7 8 7 (endK sr7 toB7) [1, 10] sh7_0 n [.i x0, .i x1] = F7_c0 (n + 1) x0 x1 := by kernel_rfl
theorem e7 (n : Nat) (a0 : Int) : entF X7 8 7 pa7 (endK sr7 toB7) n [.i a0] = F7 n a0 := by kernel_rfl
theorem c7_0 : CutOK X7 8 7 (endK sr7 toB7) [1, 10] ⟨sh7_0, g7_0⟩ := by
  refine ⟨fun ls => ?_, fun n ls r h => ?_⟩
  · cases h : g7_0 0 ls with
    | none => exact h
    | some r =>
      unfold g7_0 at h; obtain ⟨x0, _, rfl, h1⟩ := gI_ok h; obtain ⟨x1, _, rfl, h2⟩ := gI_ok h1; obtain ⟨rfl, h3⟩ := gE_ok h2; simp only [F7_c0] at h3; cases h3
  · replace h : g7_0 (n + 1) ls = some r := h
    unfold g7_0 at h
    obtain ⟨x0, _, rfl, h1⟩ := gI_ok h; obtain ⟨x1, _, rfl, h2⟩ := gI_ok h1; obtain ⟨rfl, h3⟩ := gE_ok h2
    exact (e7_0 n x0 x1).trans h3
theorem sp7 {n : Nat} (a0 : Int) {y : Int × Int × Int} (h : F7 n a0 = some y) : SpecF T Tryd.prog 7 pa7 [.i a0] sr7 (ofB7 y) :=
  fun_ok (X := X7) tok (sfok_of trivial) mixed 7 8 cuts7 rfl toB7_ok ⟨c7_0, trivial⟩ ((e7 n a0).trans h)
theorem ok7 {R : Type} : SFone T Tryd.prog 7 (run7 : SF R) := by
  intro ls K r h
  simp only [run7] at h
  obtain ⟨a0, _, rfl, h1⟩ := gI_ok h; obtain ⟨rfl, h2⟩ := gE_ok h1
  obtain ⟨y, k1, k2⟩ := Option.bind_eq_some_iff.1 h2
  exact ⟨_, k2, sp7 a0 k1⟩

/-! ### garland/msg.isPlace -/
def pa52 : List VP := [.i .i64]
def sr52 : RShape := ⟨.b, [], none⟩
def toB52 : List Leaf → Option (Bool) := gB (fun b0 => gE (some b0))
def ofB52 (y : Bool) : List Leaf := [.b y]
theorem toB52_ok : ∀ ls b, toB52 ls = some b → ls = ofB52 b := by
  intro ls b h
  unfold toB52 at h
  obtain ⟨b0, _, rfl, h1⟩ := gB_ok h; obtain ⟨rfl, h2⟩ := gE_ok h1
  cases h2; rfl
def run52 {R : Type} : SF R := ⟨pa52, sr52, fun ls K => (gI (fun a0 => gE (Option.bind (F52 FUEL a0) fun y => K (ofB52 y)))) ls⟩
def cuts52 : List (List Nat × Cut (Bool)) := []
noncomputable def X52 : Px (Bool) := ⟨T, Tryd.prog, lkF [], mkCuts 52 cuts52, altN, altN_ok⟩
theorem e52 (n : Nat) (a0 : Int) : entF X52 8 52 pa52 (endK sr52 toB52) n [.i a0] = F52 n a0 := by kernel_rfl
theorem sp52 {n : Nat} (a0 : Int) {y : Bool} (h : F52 n a0 = some y) : SpecF T Tryd.prog 52 pa52 [.i a0] sr52 (ofB52 y) :=
  fun_ok (X := X52) tok (sfok_of trivial) mixed 52 8 cuts52 rfl toB52_ok trivial ((e52 n a0).trans h)
theorem ok52 {R : Type} : SFone T Tryd.prog 52 (run52 : SF R) := by
  intro ls K r h
  simp only [run52] at h
  obtain ⟨a0, _, rfl, h1⟩ := gI_ok h; obtain ⟨rfl, h2⟩ := gE_ok h1
  obtain ⟨y, k1, k2⟩ := Option.bind_eq_some_iff.1 h2
  exact ⟨_, k2, sp52 a0 k1⟩

/-! ### garland/msg.Call -/
def pa28 : List VP := [.i .i64, .i .i64]
def sr28 : RShape := ⟨.tup [.i .i64, .i .i64], [], none⟩
def toB28 : List Leaf → Option (Int × Int) := gI (fun b0 => gI (fun b1 => gE (some (b0, b1))))
def ofB28 (y : Int × Int) : List Leaf := [.i y.1, .i y.2]
theorem toB28_ok : ∀ ls b, toB28 ls = some b → ls = ofB28 b := by
  intro ls b h
  unfold toB28 at h
  obtain ⟨b0, _, rfl, h1⟩ := gI_ok h; obtain ⟨b1, _, rfl, h2⟩ := gI_ok h1; obtain ⟨rfl, h3⟩ := gE_ok h2
  cases h3; rfl
def run28 {R : Type} : SF R := ⟨pa28, sr28, fun ls K => (gI (fun a0 => gI (fun a1 => gE (Option.bind (F28 FUEL a0 a1) fun y => K (ofB28 y))))) ls⟩
def sh28_0 : Shape := ⟨[(21, [])], []⟩
def g28_0 (n : Nat) : List Leaf → Option (Int × Int) := gE (F28_c0 n )
def cuts28 : List (List Nat × Cut (Int × Int)) := [([1, 10], ⟨sh28_0, g28_0⟩)]
noncomputable def X28 : Px (Int × Int) := ⟨T, Tryd.prog, lkF [(52, run52)], mkCuts 28 cuts28, altN, altN_ok⟩
theorem e28_0 (n : Nat) : stepF X28 8 28 (endK sr28 toB28) [1, 10] sh28_0 n [] = F28_c0 (n + 1)  := by kernel_rfl
theorem e28 (n : Nat) (a0 a1 : Int) : entF X28 8 28 pa28 (endK sr28 toB28) n [.i a0, .i a1] = F28 n a0 a1 := by kernel_rfl
theorem c28_0 : CutOK X28 8 28 (endK sr28 toB28) [1, 10] ⟨sh28_0, g28_0⟩ := by
  refine ⟨fun ls => ?_, fun n ls r h => ?_⟩
  · cases h : g28_0 0 ls with
    | none => exact h
    | some r =>
      unfold g28_0 at h; obtain ⟨rfl, h1⟩ := gE_ok h; simp only [F28_c0] at h1; cases h1
  · replace h : g28_0 (n + 1) ls = some r := h
    unfold g28_0 at h
    obtain ⟨rfl, h1⟩ := gE_ok h
    exact (e28_0 n ).trans h1
theorem sp28 {n : Nat} (a0 a1 : Int) {y : Int × Int} (h : F28 n a0 a1 = some y) : SpecF T Tryd.prog 28 pa28 [.i a0, .i a1] sr28 (ofB28 y) :=
  fun_ok (X := X28) tok (sfok_of ⟨ok52, trivial⟩) mixed 28 8 cuts28 rfl toB28_ok ⟨c28_0, trivial⟩ ((e28 n a0 a1).trans h)
theorem ok28 {R : Type} : SFone T Tryd.prog 28 (run28 : SF R) := by
  intro ls K r h
  simp only [run28] at h
  obtain ⟨a0, _, rfl, h1⟩ := gI_ok h; obtain ⟨a1, _, rfl, h2⟩ := gI_ok h1; obtain ⟨rfl, h3⟩ := gE_ok h2
  obtain ⟨y, k1, k2⟩ := Option.bind_eq_some_iff.1 h3
  exact ⟨_, k2, sp28 a0 a1 k1⟩

/-! ### garland/msg.Asks -/
def pa30 : List VP := [.agg [.i .u8, .i .i64, .i .i64, .i .i64, .i .i64, .b, .b, .i .i64, .i .i64, .sl false [.int .i64], .s, .i .i64, .i .i64, .b, .i .i64]]
def sr30 : RShape := ⟨.b, [], none⟩
def toB30 : List Leaf → Option (Bool) := gB (fun b0 => gE (some b0))
def ofB30 (y : Bool) : List Leaf := [.b y]
theorem toB30_ok : ∀ ls b, toB30 ls = some b → ls = ofB30 b := by
  intro ls b h
  unfold toB30 at h
  obtain ⟨b0, _, rfl, h1⟩ := gB_ok h; obtain ⟨rfl, h2⟩ := gE_ok h1
  cases h2; rfl
def run30 {R : Type} : SF R := ⟨pa30, sr30, fun ls K => (gI (fun a0 => gI (fun a1 => gI (fun a2 => gI (fun a3 => gI (fun a4 => gB (fun a5 => gB (fun a6 => gI (fun a7 => gI (fun a8 => gL [.int .i64] (fun a9 => gS (fun a10 => gI (fun a11 => gI (fun a12 => gB (fun a13 => gI (fun a14 => gE (Option.bind (F30 FUEL a0 a1 a2 a3 a4 a5 a6 a7 a8 a9 a10 a11 a12 a13 a14) fun y => K (ofB30 y)))))))))))))))))) ls⟩
def cuts30 : List (List Nat × Cut (Bool)) := []
noncomputable def X30 : Px (Bool) := ⟨T, Tryd.prog, lkF [], mkCuts 30 cuts30, altN, altN_ok⟩
theorem e30 (n : Nat) (a0 a1 a2 a3 a4 : Int) (a5 a6 : Bool) (a7 a8 : Int) (a9 : List (Int)) (a10 : ByteArray) (a11 a12 : Int) (a13 : Bool) (a14 : Int) : entF X30 8 30 pa30 (endK sr30 toB30) n [.i a0, .i a1, .i a2, .i a3, .i a4, .b a5, .b a6, .i a7, .i a8, .l [.int .i64] a9, .s a10, .i a11, .i a12, .b a13, .i a14] = F30 n a0 a1 a2 a3 a4 a5 a6 a7 a8 a9 a10 a11 a12 a13 a14 := by kernel_rfl
theorem sp30 {n : Nat} (a0 a1 a2 a3 a4 : Int) (a5 a6 : Bool) (a7 a8 : Int) (a9 : List (Int)) (a10 : ByteArray) (a11 a12 : Int) (a13 : Bool) (a14 : Int) {y : Bool} (h : F30 n a0 a1 a2 a3 a4 a5 a6 a7 a8 a9 a10 a11 a12 a13 a14 = some y) : SpecF T Tryd.prog 30 pa30 [.i a0, .i a1, .i a2, .i a3, .i a4, .b a5, .b a6, .i a7, .i a8, .l [.int .i64] a9, .s a10, .i a11, .i a12, .b a13, .i a14] sr30 (ofB30 y) :=
  fun_ok (X := X30) tok (sfok_of trivial) mixed 30 8 cuts30 rfl toB30_ok trivial ((e30 n a0 a1 a2 a3 a4 a5 a6 a7 a8 a9 a10 a11 a12 a13 a14).trans h)
theorem ok30 {R : Type} : SFone T Tryd.prog 30 (run30 : SF R) := by
  intro ls K r h
  simp only [run30] at h
  obtain ⟨a0, a1, a2, a3, _, rfl, h1⟩ := gI4_ok h; obtain ⟨a4, _, rfl, h2⟩ := gI_ok h1; obtain ⟨a5, _, rfl, h3⟩ := gB_ok h2; obtain ⟨a6, _, rfl, h4⟩ := gB_ok h3; obtain ⟨a7, _, rfl, h5⟩ := gI_ok h4; obtain ⟨a8, _, rfl, h6⟩ := gI_ok h5; obtain ⟨a9, _, rfl, h7⟩ := gL_ok h6; obtain ⟨a10, _, rfl, h8⟩ := gS_ok h7; obtain ⟨a11, _, rfl, h9⟩ := gI_ok h8; obtain ⟨a12, _, rfl, h10⟩ := gI_ok h9; obtain ⟨a13, _, rfl, h11⟩ := gB_ok h10; obtain ⟨a14, _, rfl, h12⟩ := gI_ok h11; obtain ⟨rfl, h13⟩ := gE_ok h12
  obtain ⟨y, k1, k2⟩ := Option.bind_eq_some_iff.1 h13
  exact ⟨_, k2, sp30 a0 a1 a2 a3 a4 a5 a6 a7 a8 a9 a10 a11 a12 a13 a14 k1⟩

/-! ### garland/msg.isKey -/
def pa66 : List VP := [.s]
def sr66 : RShape := ⟨.b, [], none⟩
def toB66 : List Leaf → Option (Bool) := gB (fun b0 => gE (some b0))
def ofB66 (y : Bool) : List Leaf := [.b y]
theorem toB66_ok : ∀ ls b, toB66 ls = some b → ls = ofB66 b := by
  intro ls b h
  unfold toB66 at h
  obtain ⟨b0, _, rfl, h1⟩ := gB_ok h; obtain ⟨rfl, h2⟩ := gE_ok h1
  cases h2; rfl
def run66 {R : Type} : SF R := ⟨pa66, sr66, fun ls K => (gS (fun a0 => gE (Option.bind (F66 FUEL a0) fun y => K (ofB66 y)))) ls⟩
def cuts66 : List (List Nat × Cut (Bool)) := []
noncomputable def X66 : Px (Bool) := ⟨T, Tryd.prog, lkF [], mkCuts 66 cuts66, altN, altN_ok⟩
theorem e66 (n : Nat) (a0 : ByteArray) : entF X66 8 66 pa66 (endK sr66 toB66) n [.s a0] = F66 n a0 := by kernel_rfl
theorem sp66 {n : Nat} (a0 : ByteArray) {y : Bool} (h : F66 n a0 = some y) : SpecF T Tryd.prog 66 pa66 [.s a0] sr66 (ofB66 y) :=
  fun_ok (X := X66) tok (sfok_of trivial) mixed 66 8 cuts66 rfl toB66_ok trivial ((e66 n a0).trans h)
theorem ok66 {R : Type} : SFone T Tryd.prog 66 (run66 : SF R) := by
  intro ls K r h
  simp only [run66] at h
  obtain ⟨a0, _, rfl, h1⟩ := gS_ok h; obtain ⟨rfl, h2⟩ := gE_ok h1
  obtain ⟨y, k1, k2⟩ := Option.bind_eq_some_iff.1 h2
  exact ⟨_, k2, sp66 a0 k1⟩

/-! ### garland/msg.isValue -/
def pa72 : List VP := [.i .i64]
def sr72 : RShape := ⟨.b, [], none⟩
def toB72 : List Leaf → Option (Bool) := gB (fun b0 => gE (some b0))
def ofB72 (y : Bool) : List Leaf := [.b y]
theorem toB72_ok : ∀ ls b, toB72 ls = some b → ls = ofB72 b := by
  intro ls b h
  unfold toB72 at h
  obtain ⟨b0, _, rfl, h1⟩ := gB_ok h; obtain ⟨rfl, h2⟩ := gE_ok h1
  cases h2; rfl
def run72 {R : Type} : SF R := ⟨pa72, sr72, fun ls K => (gI (fun a0 => gE (Option.bind (F72 FUEL a0) fun y => K (ofB72 y)))) ls⟩
def cuts72 : List (List Nat × Cut (Bool)) := []
noncomputable def X72 : Px (Bool) := ⟨T, Tryd.prog, lkF [], mkCuts 72 cuts72, altN, altN_ok⟩
theorem e72 (n : Nat) (a0 : Int) : entF X72 8 72 pa72 (endK sr72 toB72) n [.i a0] = F72 n a0 := by kernel_rfl
theorem sp72 {n : Nat} (a0 : Int) {y : Bool} (h : F72 n a0 = some y) : SpecF T Tryd.prog 72 pa72 [.i a0] sr72 (ofB72 y) :=
  fun_ok (X := X72) tok (sfok_of trivial) mixed 72 8 cuts72 rfl toB72_ok trivial ((e72 n a0).trans h)
theorem ok72 {R : Type} : SFone T Tryd.prog 72 (run72 : SF R) := by
  intro ls K r h
  simp only [run72] at h
  obtain ⟨a0, _, rfl, h1⟩ := gI_ok h; obtain ⟨rfl, h2⟩ := gE_ok h1
  obtain ⟨y, k1, k2⟩ := Option.bind_eq_some_iff.1 h2
  exact ⟨_, k2, sp72 a0 k1⟩

/-! ### garland/msg.Pair -/
def pa65 : List VP := [.agg [.s, .i .i64, .i .i64, .b]]
def sr65 : RShape := ⟨.b, [], none⟩
def toB65 : List Leaf → Option (Bool) := gB (fun b0 => gE (some b0))
def ofB65 (y : Bool) : List Leaf := [.b y]
theorem toB65_ok : ∀ ls b, toB65 ls = some b → ls = ofB65 b := by
  intro ls b h
  unfold toB65 at h
  obtain ⟨b0, _, rfl, h1⟩ := gB_ok h; obtain ⟨rfl, h2⟩ := gE_ok h1
  cases h2; rfl
def run65 {R : Type} : SF R := ⟨pa65, sr65, fun ls K => (gS (fun a0 => gI (fun a1 => gI (fun a2 => gB (fun a3 => gE (Option.bind (F65 FUEL a0 a1 a2 a3) fun y => K (ofB65 y))))))) ls⟩
def cuts65 : List (List Nat × Cut (Bool)) := []
noncomputable def X65 : Px (Bool) := ⟨T, Tryd.prog, lkF [(66, run66), (72, run72)], mkCuts 65 cuts65, altN, altN_ok⟩
theorem e65 (n : Nat) (a0 : ByteArray) (a1 a2 : Int) (a3 : Bool) : entF X65 8 65 pa65 (endK sr65 toB65) n [.s a0, .i a1, .i a2, .b a3] = F65 n a0 a1 a2 a3 := by kernel_rfl
theorem sp65 {n : Nat} (a0 : ByteArray) (a1 a2 : Int) (a3 : Bool) {y : Bool} (h : F65 n a0 a1 a2 a3 = some y) : SpecF T Tryd.prog 65 pa65 [.s a0, .i a1, .i a2, .b a3] sr65 (ofB65 y) :=
  fun_ok (X := X65) tok (sfok_of ⟨ok66, ok72, trivial⟩) mixed 65 8 cuts65 rfl toB65_ok trivial ((e65 n a0 a1 a2 a3).trans h)
theorem ok65 {R : Type} : SFone T Tryd.prog 65 (run65 : SF R) := by
  intro ls K r h
  simp only [run65] at h
  obtain ⟨a0, _, rfl, h1⟩ := gS_ok h; obtain ⟨a1, _, rfl, h2⟩ := gI_ok h1; obtain ⟨a2, _, rfl, h3⟩ := gI_ok h2; obtain ⟨a3, _, rfl, h4⟩ := gB_ok h3; obtain ⟨rfl, h5⟩ := gE_ok h4
  obtain ⟨y, k1, k2⟩ := Option.bind_eq_some_iff.1 h5
  exact ⟨_, k2, sp65 a0 a1 a2 a3 k1⟩

/-! ### slices.Index[[]int,int] -/
def pa74 : List VP := [.sl false [.int .i64], .i .i64]
def sr74 : RShape := ⟨.i .i64, [], none⟩
def toB74 : List Leaf → Option (Int) := gI (fun b0 => gE (some b0))
def ofB74 (y : Int) : List Leaf := [.i y]
theorem toB74_ok : ∀ ls b, toB74 ls = some b → ls = ofB74 b := by
  intro ls b h
  unfold toB74 at h
  obtain ⟨b0, _, rfl, h1⟩ := gI_ok h; obtain ⟨rfl, h2⟩ := gE_ok h1
  cases h2; rfl
def run74 {R : Type} : SF R := ⟨pa74, sr74, fun ls K => (gL [.int .i64] (fun a0 => gI (fun a1 => gE (Option.bind (F74 FUEL a0 a1) fun y => K (ofB74 y))))) ls⟩
def sh74_0 : Shape := ⟨[(19, [(0, .sl false [.int .i64]), (1, .i .i64), (7, .i .i64), (8, .i .i64)])], []⟩
def g74_0 (n : Nat) : List Leaf → Option (Int) := gL [.int .i64] (fun x0 => gI (fun x1 => gI (fun x2 => gI (fun x3 => gE (F74_c0 n x0 x1 x2 x3)))))
def cuts74 : List (List Nat × Cut (Int)) := [([1, 0, 1, 0], ⟨sh74_0, g74_0⟩)]
noncomputable def X74 : Px (Int) := ⟨T, Tryd.prog, lkF [], mkCuts 74 cuts74, altN, altN_ok⟩
theorem e74_0 (n : Nat) (x0 : List (Int)) (x1 x2 x3 : Int) : stepF X74 8 74 (endK sr74 toB74) [1, 0, 1, 0] sh74_0 n [.l [.int .i64] x0, .i x1, .i x2, .i x3] = F74_c0 (n + 1) x0 x1 x2 x3 := by kernel_rfl
theorem e74 (n : Nat) (a0 : List (Int)) (a1 : Int) : entF X74 8 74 pa74 (endK sr74 toB74) n [.l [.int .i64] a0, .i a1] = F74 n a0 a1 := by kernel_rfl
theorem c74_0 : CutOK X74 8 74 (endK sr74 toB74) [1, 0, 1, 0] ⟨sh74_0, g74_0⟩ := by
  refine ⟨fun ls => ?_, fun n ls r h => ?_⟩
  · cases h : g74_0 0 ls with
    | none => exact h
    | some r =>
      unfold g74_0 at h; obtain ⟨x0, _, rfl, h1⟩ := gL_ok h; obtain ⟨x1, _, rfl, h2⟩ := gI_ok h1; obtain ⟨x2, _, rfl, h3⟩ := gI_ok h2; obtain ⟨x3, _, rfl, h4⟩ := gI_ok h3; obtain ⟨rfl, h5⟩ := gE_ok h4; simp only [F74_c0] at h5; cases h5
  · replace h : g74_0 (n + 1) ls = some r := h
    unfold g74_0 at h
    obtain ⟨x0, _, rfl, h1⟩ := gL_ok h; obtain ⟨x1, _, rfl, h2⟩ := gI_ok h1; obtain ⟨x2, _, rfl, h3⟩ := gI_ok h2; obtain ⟨x3, _, rfl, h4⟩ := gI_ok h3; obtain ⟨rfl, h5⟩ := gE_ok h4
    exact (e74_0 n x0 x1 x2 x3).trans h5
theorem sp74 {n : Nat} (a0 : List (Int)) (a1 : Int) {y : Int} (h : F74 n a0 a1 = some y) : SpecF T Tryd.prog 74 pa74 [.l [.int .i64] a0, .i a1] sr74 (ofB74 y) :=
  fun_ok (X := X74) tok (sfok_of trivial) mixed 74 8 cuts74 rfl toB74_ok ⟨c74_0, trivial⟩ ((e74 n a0 a1).trans h)
theorem ok74 {R : Type} : SFone T Tryd.prog 74 (run74 : SF R) := by
  intro ls K r h
  simp only [run74] at h
  obtain ⟨a0, _, rfl, h1⟩ := gL_ok h; obtain ⟨a1, _, rfl, h2⟩ := gI_ok h1; obtain ⟨rfl, h3⟩ := gE_ok h2
  obtain ⟨y, k1, k2⟩ := Option.bind_eq_some_iff.1 h3
  exact ⟨_, k2, sp74 a0 a1 k1⟩

/-! ### slices.Contains[[]int,int] -/
def pa73 : List VP := [.sl false [.int .i64], .i .i64]
def sr73 : RShape := ⟨.b, [], none⟩
def toB73 : List Leaf → Option (Bool) := gB (fun b0 => gE (some b0))
def ofB73 (y : Bool) : List Leaf := [.b y]
theorem toB73_ok : ∀ ls b, toB73 ls = some b → ls = ofB73 b := by
  intro ls b h
  unfold toB73 at h
  obtain ⟨b0, _, rfl, h1⟩ := gB_ok h; obtain ⟨rfl, h2⟩ := gE_ok h1
  cases h2; rfl
def run73 {R : Type} : SF R := ⟨pa73, sr73, fun ls K => (gL [.int .i64] (fun a0 => gI (fun a1 => gE (Option.bind (F73 FUEL a0 a1) fun y => K (ofB73 y))))) ls⟩
def cuts73 : List (List Nat × Cut (Bool)) := []
noncomputable def X73 : Px (Bool) := ⟨T, Tryd.prog, lkF [(74, run74)], mkCuts 73 cuts73, altN, altN_ok⟩
theorem e73 (n : Nat) (a0 : List (Int)) (a1 : Int) : entF X73 8 73 pa73 (endK sr73 toB73) n [.l [.int .i64] a0, .i a1] = F73 n a0 a1 := by kernel_rfl
theorem sp73 {n : Nat} (a0 : List (Int)) (a1 : Int) {y : Bool} (h : F73 n a0 a1 = some y) : SpecF T Tryd.prog 73 pa73 [.l [.int .i64] a0, .i a1] sr73 (ofB73 y) :=
  fun_ok (X := X73) tok (sfok_of ⟨ok74, trivial⟩) mixed 73 8 cuts73 rfl toB73_ok trivial ((e73 n a0 a1).trans h)
theorem ok73 {R : Type} : SFone T Tryd.prog 73 (run73 : SF R) := by
  intro ls K r h
  simp only [run73] at h
  obtain ⟨a0, _, rfl, h1⟩ := gL_ok h; obtain ⟨a1, _, rfl, h2⟩ := gI_ok h1; obtain ⟨rfl, h3⟩ := gE_ok h2
  obtain ⟨y, k1, k2⟩ := Option.bind_eq_some_iff.1 h3
  exact ⟨_, k2, sp73 a0 a1 k1⟩

/-! ### garland/msg.apart -/
def pa67 : List VP := [.i .i64, .sl false [.int .i64]]
def sr67 : RShape := ⟨.b, [], none⟩
def toB67 : List Leaf → Option (Bool) := gB (fun b0 => gE (some b0))
def ofB67 (y : Bool) : List Leaf := [.b y]
theorem toB67_ok : ∀ ls b, toB67 ls = some b → ls = ofB67 b := by
  intro ls b h
  unfold toB67 at h
  obtain ⟨b0, _, rfl, h1⟩ := gB_ok h; obtain ⟨rfl, h2⟩ := gE_ok h1
  cases h2; rfl
def run67 {R : Type} : SF R := ⟨pa67, sr67, fun ls K => (gI (fun a0 => gL [.int .i64] (fun a1 => gE (Option.bind (F67 FUEL a0 a1) fun y => K (ofB67 y))))) ls⟩
def sh67_0 : Shape := ⟨[(25, [(0, .i .i64), (1, .sl false [.int .i64]), (7, .sl false [.int .i64]), (8, .i .i64), (9, .i .i64)])], []⟩
def g67_0 (n : Nat) : List Leaf → Option (Bool) := gI (fun x0 => gL [.int .i64] (fun x1 => gL [.int .i64] (fun x2 => gI (fun x3 => gI (fun x4 => gE (F67_c0 n x0 x1 x2 x3 x4))))))
def cuts67 : List (List Nat × Cut (Bool)) := [([1, 0, 1, 0], ⟨sh67_0, g67_0⟩)]
noncomputable def X67 : Px (Bool) := ⟨T, Tryd.prog, lkF [(73, run73)], mkCuts 67 cuts67, altN, altN_ok⟩
theorem e67_0 (n : Nat) (x0 : Int) (x1 x2 : List (Int)) (x3 x4 : Int) : stepF X67 8 67 (endK sr67 toB67) [1, 0, 1, 0] sh67_0 n [.i x0, .l [.int .i64] x1, .l [.int .i64] x2, .i x3, .i x4] = F67_c0 (n + 1) x0 x1 x2 x3 x4 := by kernel_rfl
theorem e67 (n : Nat) (a0 : Int) (a1 : List (Int)) : entF X67 8 67 pa67 (endK sr67 toB67) n [.i a0, .l [.int .i64] a1] = F67 n a0 a1 := by kernel_rfl
theorem c67_0 : CutOK X67 8 67 (endK sr67 toB67) [1, 0, 1, 0] ⟨sh67_0, g67_0⟩ := by
  refine ⟨fun ls => ?_, fun n ls r h => ?_⟩
  · cases h : g67_0 0 ls with
    | none => exact h
    | some r =>
      unfold g67_0 at h; obtain ⟨x0, _, rfl, h1⟩ := gI_ok h; obtain ⟨x1, _, rfl, h2⟩ := gL_ok h1; obtain ⟨x2, _, rfl, h3⟩ := gL_ok h2; obtain ⟨x3, _, rfl, h4⟩ := gI_ok h3; obtain ⟨x4, _, rfl, h5⟩ := gI_ok h4; obtain ⟨rfl, h6⟩ := gE_ok h5; simp only [F67_c0] at h6; cases h6
  · replace h : g67_0 (n + 1) ls = some r := h
    unfold g67_0 at h
    obtain ⟨x0, _, rfl, h1⟩ := gI_ok h; obtain ⟨x1, _, rfl, h2⟩ := gL_ok h1; obtain ⟨x2, _, rfl, h3⟩ := gL_ok h2; obtain ⟨x3, _, rfl, h4⟩ := gI_ok h3; obtain ⟨x4, _, rfl, h5⟩ := gI_ok h4; obtain ⟨rfl, h6⟩ := gE_ok h5
    exact (e67_0 n x0 x1 x2 x3 x4).trans h6
theorem sp67 {n : Nat} (a0 : Int) (a1 : List (Int)) {y : Bool} (h : F67 n a0 a1 = some y) : SpecF T Tryd.prog 67 pa67 [.i a0, .l [.int .i64] a1] sr67 (ofB67 y) :=
  fun_ok (X := X67) tok (sfok_of ⟨ok73, trivial⟩) mixed 67 8 cuts67 rfl toB67_ok ⟨c67_0, trivial⟩ ((e67 n a0 a1).trans h)
theorem ok67 {R : Type} : SFone T Tryd.prog 67 (run67 : SF R) := by
  intro ls K r h
  simp only [run67] at h
  obtain ⟨a0, _, rfl, h1⟩ := gI_ok h; obtain ⟨a1, _, rfl, h2⟩ := gL_ok h1; obtain ⟨rfl, h3⟩ := gE_ok h2
  obtain ⟨y, k1, k2⟩ := Option.bind_eq_some_iff.1 h3
  exact ⟨_, k2, sp67 a0 a1 k1⟩

/-! ### garland/msg.holds -/
def pa53 : List VP := [.agg [.i .u8, .i .i64, .i .i64, .i .i64, .i .i64, .b, .b, .i .i64, .i .i64, .sl false [.int .i64], .s, .i .i64, .i .i64, .b, .i .i64]]
def sr53 : RShape := ⟨.b, [], none⟩
def toB53 : List Leaf → Option (Bool) := gB (fun b0 => gE (some b0))
def ofB53 (y : Bool) : List Leaf := [.b y]
theorem toB53_ok : ∀ ls b, toB53 ls = some b → ls = ofB53 b := by
  intro ls b h
  unfold toB53 at h
  obtain ⟨b0, _, rfl, h1⟩ := gB_ok h; obtain ⟨rfl, h2⟩ := gE_ok h1
  cases h2; rfl
def run53 {R : Type} : SF R := ⟨pa53, sr53, fun ls K => (gI (fun a0 => gI (fun a1 => gI (fun a2 => gI (fun a3 => gI (fun a4 => gB (fun a5 => gB (fun a6 => gI (fun a7 => gI (fun a8 => gL [.int .i64] (fun a9 => gS (fun a10 => gI (fun a11 => gI (fun a12 => gB (fun a13 => gI (fun a14 => gE (Option.bind (F53 FUEL a0 a1 a2 a3 a4 a5 a6 a7 a8 a9 a10 a11 a12 a13 a14) fun y => K (ofB53 y)))))))))))))))))) ls⟩
def cuts53 : List (List Nat × Cut (Bool)) := []
noncomputable def X53 : Px (Bool) := ⟨T, Tryd.prog, lkF [(65, run65), (66, run66), (67, run67)], mkCuts 53 cuts53, altN, altN_ok⟩
theorem e53 (n : Nat) (a0 a1 a2 a3 a4 : Int) (a5 a6 : Bool) (a7 a8 : Int) (a9 : List (Int)) (a10 : ByteArray) (a11 a12 : Int) (a13 : Bool) (a14 : Int) : entF X53 8 53 pa53 (endK sr53 toB53) n [.i a0, .i a1, .i a2, .i a3, .i a4, .b a5, .b a6, .i a7, .i a8, .l [.int .i64] a9, .s a10, .i a11, .i a12, .b a13, .i a14] = F53 n a0 a1 a2 a3 a4 a5 a6 a7 a8 a9 a10 a11 a12 a13 a14 := by kernel_rfl
theorem sp53 {n : Nat} (a0 a1 a2 a3 a4 : Int) (a5 a6 : Bool) (a7 a8 : Int) (a9 : List (Int)) (a10 : ByteArray) (a11 a12 : Int) (a13 : Bool) (a14 : Int) {y : Bool} (h : F53 n a0 a1 a2 a3 a4 a5 a6 a7 a8 a9 a10 a11 a12 a13 a14 = some y) : SpecF T Tryd.prog 53 pa53 [.i a0, .i a1, .i a2, .i a3, .i a4, .b a5, .b a6, .i a7, .i a8, .l [.int .i64] a9, .s a10, .i a11, .i a12, .b a13, .i a14] sr53 (ofB53 y) :=
  fun_ok (X := X53) tok (sfok_of ⟨ok65, ok66, ok67, trivial⟩) mixed 53 8 cuts53 rfl toB53_ok trivial ((e53 n a0 a1 a2 a3 a4 a5 a6 a7 a8 a9 a10 a11 a12 a13 a14).trans h)
theorem ok53 {R : Type} : SFone T Tryd.prog 53 (run53 : SF R) := by
  intro ls K r h
  simp only [run53] at h
  obtain ⟨a0, a1, a2, a3, _, rfl, h1⟩ := gI4_ok h; obtain ⟨a4, _, rfl, h2⟩ := gI_ok h1; obtain ⟨a5, _, rfl, h3⟩ := gB_ok h2; obtain ⟨a6, _, rfl, h4⟩ := gB_ok h3; obtain ⟨a7, _, rfl, h5⟩ := gI_ok h4; obtain ⟨a8, _, rfl, h6⟩ := gI_ok h5; obtain ⟨a9, _, rfl, h7⟩ := gL_ok h6; obtain ⟨a10, _, rfl, h8⟩ := gS_ok h7; obtain ⟨a11, _, rfl, h9⟩ := gI_ok h8; obtain ⟨a12, _, rfl, h10⟩ := gI_ok h9; obtain ⟨a13, _, rfl, h11⟩ := gB_ok h10; obtain ⟨a14, _, rfl, h12⟩ := gI_ok h11; obtain ⟨rfl, h13⟩ := gE_ok h12
  obtain ⟨y, k1, k2⟩ := Option.bind_eq_some_iff.1 h13
  exact ⟨_, k2, sp53 a0 a1 a2 a3 a4 a5 a6 a7 a8 a9 a10 a11 a12 a13 a14 k1⟩

/-! ### garland/msg.Asker -/
def pa56 : List VP := [.agg [.i .u8, .i .i64, .i .i64, .i .i64, .i .i64, .b, .b, .i .i64, .i .i64, .sl false [.int .i64], .s, .i .i64, .i .i64, .b, .i .i64]]
def sr56 : RShape := ⟨.i .i64, [], none⟩
def toB56 : List Leaf → Option (Int) := gI (fun b0 => gE (some b0))
def ofB56 (y : Int) : List Leaf := [.i y]
theorem toB56_ok : ∀ ls b, toB56 ls = some b → ls = ofB56 b := by
  intro ls b h
  unfold toB56 at h
  obtain ⟨b0, _, rfl, h1⟩ := gI_ok h; obtain ⟨rfl, h2⟩ := gE_ok h1
  cases h2; rfl
def run56 {R : Type} : SF R := ⟨pa56, sr56, fun ls K => (gI (fun a0 => gI (fun a1 => gI (fun a2 => gI (fun a3 => gI (fun a4 => gB (fun a5 => gB (fun a6 => gI (fun a7 => gI (fun a8 => gL [.int .i64] (fun a9 => gS (fun a10 => gI (fun a11 => gI (fun a12 => gB (fun a13 => gI (fun a14 => gE (Option.bind (F56 FUEL a0 a1 a2 a3 a4 a5 a6 a7 a8 a9 a10 a11 a12 a13 a14) fun y => K (ofB56 y)))))))))))))))))) ls⟩
def cuts56 : List (List Nat × Cut (Int)) := []
noncomputable def X56 : Px (Int) := ⟨T, Tryd.prog, lkF [(30, run30)], mkCuts 56 cuts56, altN, altN_ok⟩
theorem e56 (n : Nat) (a0 a1 a2 a3 a4 : Int) (a5 a6 : Bool) (a7 a8 : Int) (a9 : List (Int)) (a10 : ByteArray) (a11 a12 : Int) (a13 : Bool) (a14 : Int) : entF X56 8 56 pa56 (endK sr56 toB56) n [.i a0, .i a1, .i a2, .i a3, .i a4, .b a5, .b a6, .i a7, .i a8, .l [.int .i64] a9, .s a10, .i a11, .i a12, .b a13, .i a14] = F56 n a0 a1 a2 a3 a4 a5 a6 a7 a8 a9 a10 a11 a12 a13 a14 := by kernel_rfl
theorem sp56 {n : Nat} (a0 a1 a2 a3 a4 : Int) (a5 a6 : Bool) (a7 a8 : Int) (a9 : List (Int)) (a10 : ByteArray) (a11 a12 : Int) (a13 : Bool) (a14 : Int) {y : Int} (h : F56 n a0 a1 a2 a3 a4 a5 a6 a7 a8 a9 a10 a11 a12 a13 a14 = some y) : SpecF T Tryd.prog 56 pa56 [.i a0, .i a1, .i a2, .i a3, .i a4, .b a5, .b a6, .i a7, .i a8, .l [.int .i64] a9, .s a10, .i a11, .i a12, .b a13, .i a14] sr56 (ofB56 y) :=
  fun_ok (X := X56) tok (sfok_of ⟨ok30, trivial⟩) mixed 56 8 cuts56 rfl toB56_ok trivial ((e56 n a0 a1 a2 a3 a4 a5 a6 a7 a8 a9 a10 a11 a12 a13 a14).trans h)
theorem ok56 {R : Type} : SFone T Tryd.prog 56 (run56 : SF R) := by
  intro ls K r h
  simp only [run56] at h
  obtain ⟨a0, a1, a2, a3, _, rfl, h1⟩ := gI4_ok h; obtain ⟨a4, _, rfl, h2⟩ := gI_ok h1; obtain ⟨a5, _, rfl, h3⟩ := gB_ok h2; obtain ⟨a6, _, rfl, h4⟩ := gB_ok h3; obtain ⟨a7, _, rfl, h5⟩ := gI_ok h4; obtain ⟨a8, _, rfl, h6⟩ := gI_ok h5; obtain ⟨a9, _, rfl, h7⟩ := gL_ok h6; obtain ⟨a10, _, rfl, h8⟩ := gS_ok h7; obtain ⟨a11, _, rfl, h9⟩ := gI_ok h8; obtain ⟨a12, _, rfl, h10⟩ := gI_ok h9; obtain ⟨a13, _, rfl, h11⟩ := gB_ok h10; obtain ⟨a14, _, rfl, h12⟩ := gI_ok h11; obtain ⟨rfl, h13⟩ := gE_ok h12
  obtain ⟨y, k1, k2⟩ := Option.bind_eq_some_iff.1 h13
  exact ⟨_, k2, sp56 a0 a1 a2 a3 a4 a5 a6 a7 a8 a9 a10 a11 a12 a13 a14 k1⟩

/-! ### garland/msg.isCall -/
def pa55 : List VP := [.i .i64, .i .i64]
def sr55 : RShape := ⟨.b, [], none⟩
def toB55 : List Leaf → Option (Bool) := gB (fun b0 => gE (some b0))
def ofB55 (y : Bool) : List Leaf := [.b y]
theorem toB55_ok : ∀ ls b, toB55 ls = some b → ls = ofB55 b := by
  intro ls b h
  unfold toB55 at h
  obtain ⟨b0, _, rfl, h1⟩ := gB_ok h; obtain ⟨rfl, h2⟩ := gE_ok h1
  cases h2; rfl
def run55 {R : Type} : SF R := ⟨pa55, sr55, fun ls K => (gI (fun a0 => gI (fun a1 => gE (Option.bind (F55 FUEL a0 a1) fun y => K (ofB55 y))))) ls⟩
def cuts55 : List (List Nat × Cut (Bool)) := []
noncomputable def X55 : Px (Bool) := ⟨T, Tryd.prog, lkF [], mkCuts 55 cuts55, altN, altN_ok⟩
theorem e55 (n : Nat) (a0 a1 : Int) : entF X55 8 55 pa55 (endK sr55 toB55) n [.i a0, .i a1] = F55 n a0 a1 := by kernel_rfl
theorem sp55 {n : Nat} (a0 a1 : Int) {y : Bool} (h : F55 n a0 a1 = some y) : SpecF T Tryd.prog 55 pa55 [.i a0, .i a1] sr55 (ofB55 y) :=
  fun_ok (X := X55) tok (sfok_of trivial) mixed 55 8 cuts55 rfl toB55_ok trivial ((e55 n a0 a1).trans h)
theorem ok55 {R : Type} : SFone T Tryd.prog 55 (run55 : SF R) := by
  intro ls K r h
  simp only [run55] at h
  obtain ⟨a0, _, rfl, h1⟩ := gI_ok h; obtain ⟨a1, _, rfl, h2⟩ := gI_ok h1; obtain ⟨rfl, h3⟩ := gE_ok h2
  obtain ⟨y, k1, k2⟩ := Option.bind_eq_some_iff.1 h3
  exact ⟨_, k2, sp55 a0 a1 k1⟩

/-! ### garland/msg.beside -/
def pa58 : List VP := [.agg [.i .u8, .i .i64, .i .i64, .i .i64, .i .i64, .b, .b, .i .i64, .i .i64, .opq 0, .s, .i .i64, .i .i64, .b, .i .i64]]
def sr58 : RShape := ⟨.agg [.i .u8, .i .i64, .i .i64, .i .i64, .i .i64, .b, .b, .i .i64, .i .i64, .opq 0, .s, .i .i64, .i .i64, .b, .i .i64], [], some (.agg [.i .u8, .i .i64, .i .i64, .i .i64, .i .i64, .b, .b, .i .i64, .i .i64, .nil, .s, .i .i64, .i .i64, .b, .i .i64])⟩
def toB58 : List Leaf → Option (Sbi5b2i2si2bi) := gB (fun b0 => gI (fun b1 => gI (fun b2 => gI (fun b3 => gI (fun b4 => gI (fun b5 => gB (fun b6 => gB (fun b7 => gI (fun b8 => gI (fun b9 => gS (fun b10 => gI (fun b11 => gI (fun b12 => gB (fun b13 => gI (fun b14 => gE (some ⟨b0, b1, b2, b3, b4, b5, b6, b7, b8, b9, b10, b11, b12, b13, b14⟩))))))))))))))))
def ofB58 (y : Sbi5b2i2si2bi) : List Leaf := [.b y.q0, .i y.q1, .i y.q2, .i y.q3, .i y.q4, .i y.q5, .b y.q6, .b y.q7, .i y.q8, .i y.q9, .s y.q10, .i y.q11, .i y.q12, .b y.q13, .i y.q14]
theorem toB58_ok : ∀ ls b, toB58 ls = some b → ls = ofB58 b := by
  intro ls b h
  unfold toB58 at h
  obtain ⟨b0, _, rfl, h1⟩ := gB_ok h; obtain ⟨b1, b2, b3, b4, _, rfl, h2⟩ := gI4_ok h1; obtain ⟨b5, _, rfl, h3⟩ := gI_ok h2; obtain ⟨b6, _, rfl, h4⟩ := gB_ok h3; obtain ⟨b7, _, rfl, h5⟩ := gB_ok h4; obtain ⟨b8, _, rfl, h6⟩ := gI_ok h5; obtain ⟨b9, _, rfl, h7⟩ := gI_ok h6; obtain ⟨b10, _, rfl, h8⟩ := gS_ok h7; obtain ⟨b11, _, rfl, h9⟩ := gI_ok h8; obtain ⟨b12, _, rfl, h10⟩ := gI_ok h9; obtain ⟨b13, _, rfl, h11⟩ := gB_ok h10; obtain ⟨b14, _, rfl, h12⟩ := gI_ok h11; obtain ⟨rfl, h13⟩ := gE_ok h12
  cases h13; rfl
def run58 {R : Type} : SF R := ⟨pa58, sr58, fun ls K => (gI (fun a0 => gI (fun a1 => gI (fun a2 => gI (fun a3 => gI (fun a4 => gB (fun a5 => gB (fun a6 => gI (fun a7 => gI (fun a8 => gS (fun a9 => gI (fun a10 => gI (fun a11 => gB (fun a12 => gI (fun a13 => gE (Option.bind (F58 FUEL a0 a1 a2 a3 a4 a5 a6 a7 a8 a9 a10 a11 a12 a13) fun y => K (ofB58 y))))))))))))))))) ls⟩
def cuts58 : List (List Nat × Cut (Sbi5b2i2si2bi)) := []
noncomputable def X58 : Px (Sbi5b2i2si2bi) := ⟨T, Tryd.prog, lkF [], mkCuts 58 cuts58, altN, altN_ok⟩
theorem e58 (n : Nat) (a0 a1 a2 a3 a4 : Int) (a5 a6 : Bool) (a7 a8 : Int) (a9 : ByteArray) (a10 a11 : Int) (a12 : Bool) (a13 : Int) : entF X58 8 58 pa58 (endK sr58 toB58) n [.i a0, .i a1, .i a2, .i a3, .i a4, .b a5, .b a6, .i a7, .i a8, .s a9, .i a10, .i a11, .b a12, .i a13] = F58 n a0 a1 a2 a3 a4 a5 a6 a7 a8 a9 a10 a11 a12 a13 := by kernel_rfl
theorem sp58 {n : Nat} (a0 a1 a2 a3 a4 : Int) (a5 a6 : Bool) (a7 a8 : Int) (a9 : ByteArray) (a10 a11 : Int) (a12 : Bool) (a13 : Int) {y : Sbi5b2i2si2bi} (h : F58 n a0 a1 a2 a3 a4 a5 a6 a7 a8 a9 a10 a11 a12 a13 = some y) : SpecF T Tryd.prog 58 pa58 [.i a0, .i a1, .i a2, .i a3, .i a4, .b a5, .b a6, .i a7, .i a8, .s a9, .i a10, .i a11, .b a12, .i a13] sr58 (ofB58 y) :=
  fun_ok (X := X58) tok (sfok_of trivial) mixed 58 8 cuts58 rfl toB58_ok trivial ((e58 n a0 a1 a2 a3 a4 a5 a6 a7 a8 a9 a10 a11 a12 a13).trans h)
theorem ok58 {R : Type} : SFone T Tryd.prog 58 (run58 : SF R) := by
  intro ls K r h
  simp only [run58] at h
  obtain ⟨a0, a1, a2, a3, _, rfl, h1⟩ := gI4_ok h; obtain ⟨a4, _, rfl, h2⟩ := gI_ok h1; obtain ⟨a5, _, rfl, h3⟩ := gB_ok h2; obtain ⟨a6, _, rfl, h4⟩ := gB_ok h3; obtain ⟨a7, _, rfl, h5⟩ := gI_ok h4; obtain ⟨a8, _, rfl, h6⟩ := gI_ok h5; obtain ⟨a9, _, rfl, h7⟩ := gS_ok h6; obtain ⟨a10, _, rfl, h8⟩ := gI_ok h7; obtain ⟨a11, _, rfl, h9⟩ := gI_ok h8; obtain ⟨a12, _, rfl, h10⟩ := gB_ok h9; obtain ⟨a13, _, rfl, h11⟩ := gI_ok h10; obtain ⟨rfl, h12⟩ := gE_ok h11
  obtain ⟨y, k1, k2⟩ := Option.bind_eq_some_iff.1 h12
  exact ⟨_, k2, sp58 a0 a1 a2 a3 a4 a5 a6 a7 a8 a9 a10 a11 a12 a13 k1⟩

/-! ### slices.Equal[[]int,int] -/
def pa69 : List VP := [.sl false [.int .i64], .sl false [.int .i64]]
def sr69 : RShape := ⟨.b, [], none⟩
def toB69 : List Leaf → Option (Bool) := gB (fun b0 => gE (some b0))
def ofB69 (y : Bool) : List Leaf := [.b y]
theorem toB69_ok : ∀ ls b, toB69 ls = some b → ls = ofB69 b := by
  intro ls b h
  unfold toB69 at h
  obtain ⟨b0, _, rfl, h1⟩ := gB_ok h; obtain ⟨rfl, h2⟩ := gE_ok h1
  cases h2; rfl
def run69 {R : Type} : SF R := ⟨pa69, sr69, fun ls K => (gL [.int .i64] (fun a0 => gL [.int .i64] (fun a1 => gE (Option.bind (F69 FUEL a0 a1) fun y => K (ofB69 y))))) ls⟩
def sh69_0 : Shape := ⟨[(26, [(0, .sl false [.int .i64]), (1, .sl false [.int .i64]), (12, .i .i64), (13, .i .i64)])], []⟩
def g69_0 (n : Nat) : List Leaf → Option (Bool) := gL [.int .i64] (fun x0 => gL [.int .i64] (fun x1 => gI (fun x2 => gI (fun x3 => gE (F69_c0 n x0 x1 x2 x3)))))
def cuts69 : List (List Nat × Cut (Bool)) := [([1, 1, 0, 1, 0], ⟨sh69_0, g69_0⟩)]
noncomputable def X69 : Px (Bool) := ⟨T, Tryd.prog, lkF [], mkCuts 69 cuts69, altN, altN_ok⟩
theorem e69_0 (n : Nat) (x0 x1 : List (Int)) (x2 x3 : Int) : stepF X69 8 69 (endK sr69 toB69) [1, 1, 0, 1, 0] sh69_0 n [.l [.int .i64] x0, .l [.int .i64] x1, .i x2, .i x3] = F69_c0 (n + 1) x0 x1 x2 x3 := by kernel_rfl
theorem e69 (n : Nat) (a0 a1 : List (Int)) : entF X69 8 69 pa69 (endK sr69 toB69) n [.l [.int .i64] a0, .l [.int .i64] a1] = F69 n a0 a1 := by kernel_rfl
theorem c69_0 : CutOK X69 8 69 (endK sr69 toB69) [1, 1, 0, 1, 0] ⟨sh69_0, g69_0⟩ := by
  refine ⟨fun ls => ?_, fun n ls r h => ?_⟩
  · cases h : g69_0 0 ls with
    | none => exact h
    | some r =>
      unfold g69_0 at h; obtain ⟨x0, _, rfl, h1⟩ := gL_ok h; obtain ⟨x1, _, rfl, h2⟩ := gL_ok h1; obtain ⟨x2, _, rfl, h3⟩ := gI_ok h2; obtain ⟨x3, _, rfl, h4⟩ := gI_ok h3; obtain ⟨rfl, h5⟩ := gE_ok h4; simp only [F69_c0] at h5; cases h5
  · replace h : g69_0 (n + 1) ls = some r := h
    unfold g69_0 at h
    obtain ⟨x0, _, rfl, h1⟩ := gL_ok h; obtain ⟨x1, _, rfl, h2⟩ := gL_ok h1; obtain ⟨x2, _, rfl, h3⟩ := gI_ok h2; obtain ⟨x3, _, rfl, h4⟩ := gI_ok h3; obtain ⟨rfl, h5⟩ := gE_ok h4
    exact (e69_0 n x0 x1 x2 x3).trans h5
theorem sp69 {n : Nat} (a0 a1 : List (Int)) {y : Bool} (h : F69 n a0 a1 = some y) : SpecF T Tryd.prog 69 pa69 [.l [.int .i64] a0, .l [.int .i64] a1] sr69 (ofB69 y) :=
  fun_ok (X := X69) tok (sfok_of trivial) mixed 69 8 cuts69 rfl toB69_ok ⟨c69_0, trivial⟩ ((e69 n a0 a1).trans h)
theorem ok69 {R : Type} : SFone T Tryd.prog 69 (run69 : SF R) := by
  intro ls K r h
  simp only [run69] at h
  obtain ⟨a0, _, rfl, h1⟩ := gL_ok h; obtain ⟨a1, _, rfl, h2⟩ := gL_ok h1; obtain ⟨rfl, h3⟩ := gE_ok h2
  obtain ⟨y, k1, k2⟩ := Option.bind_eq_some_iff.1 h3
  exact ⟨_, k2, sp69 a0 a1 k1⟩

/-! ### garland/msg.Same -/
def pa57 : List VP := [.agg [.i .u8, .i .i64, .i .i64, .i .i64, .i .i64, .b, .b, .i .i64, .i .i64, .sl false [.int .i64], .s, .i .i64, .i .i64, .b, .i .i64], .agg [.i .u8, .i .i64, .i .i64, .i .i64, .i .i64, .b, .b, .i .i64, .i .i64, .sl false [.int .i64], .s, .i .i64, .i .i64, .b, .i .i64]]
def sr57 : RShape := ⟨.b, [], none⟩
def toB57 : List Leaf → Option (Bool) := gB (fun b0 => gE (some b0))
def ofB57 (y : Bool) : List Leaf := [.b y]
theorem toB57_ok : ∀ ls b, toB57 ls = some b → ls = ofB57 b := by
  intro ls b h
  unfold toB57 at h
  obtain ⟨b0, _, rfl, h1⟩ := gB_ok h; obtain ⟨rfl, h2⟩ := gE_ok h1
  cases h2; rfl
def run57 {R : Type} : SF R := ⟨pa57, sr57, fun ls K => (gI (fun a0 => gI (fun a1 => gI (fun a2 => gI (fun a3 => gI (fun a4 => gB (fun a5 => gB (fun a6 => gI (fun a7 => gI (fun a8 => gL [.int .i64] (fun a9 => gS (fun a10 => gI (fun a11 => gI (fun a12 => gB (fun a13 => gI (fun a14 => gI (fun a15 => gI (fun a16 => gI (fun a17 => gI (fun a18 => gI (fun a19 => gB (fun a20 => gB (fun a21 => gI (fun a22 => gI (fun a23 => gL [.int .i64] (fun a24 => gS (fun a25 => gI (fun a26 => gI (fun a27 => gB (fun a28 => gI (fun a29 => gE (Option.bind (F57 FUEL a0 a1 a2 a3 a4 a5 a6 a7 a8 a9 a10 a11 a12 a13 a14 a15 a16 a17 a18 a19 a20 a21 a22 a23 a24 a25 a26 a27 a28 a29) fun y => K (ofB57 y))))))))))))))))))))))))))))))))) ls⟩
def cuts57 : List (List Nat × Cut (Bool)) := []
noncomputable def X57 : Px (Bool) := ⟨T, Tryd.prog, lkF [(69, run69)], mkCuts 57 cuts57, altN, altN_ok⟩
theorem e57 (n : Nat) (a0 a1 a2 a3 a4 : Int) (a5 a6 : Bool) (a7 a8 : Int) (a9 : List (Int)) (a10 : ByteArray) (a11 a12 : Int) (a13 : Bool) (a14 a15 a16 a17 a18 a19 : Int) (a20 a21 : Bool) (a22 a23 : Int) (a24 : List (Int)) (a25 : ByteArray) (a26 a27 : Int) (a28 : Bool) (a29 : Int) : entF X57 8 57 pa57 (endK sr57 toB57) n [.i a0, .i a1, .i a2, .i a3, .i a4, .b a5, .b a6, .i a7, .i a8, .l [.int .i64] a9, .s a10, .i a11, .i a12, .b a13, .i a14, .i a15, .i a16, .i a17, .i a18, .i a19, .b a20, .b a21, .i a22, .i a23, .l [.int .i64] a24, .s a25, .i a26, .i a27, .b a28, .i a29] = F57 n a0 a1 a2 a3 a4 a5 a6 a7 a8 a9 a10 a11 a12 a13 a14 a15 a16 a17 a18 a19 a20 a21 a22 a23 a24 a25 a26 a27 a28 a29 := by kernel_rfl
theorem sp57 {n : Nat} (a0 a1 a2 a3 a4 : Int) (a5 a6 : Bool) (a7 a8 : Int) (a9 : List (Int)) (a10 : ByteArray) (a11 a12 : Int) (a13 : Bool) (a14 a15 a16 a17 a18 a19 : Int) (a20 a21 : Bool) (a22 a23 : Int) (a24 : List (Int)) (a25 : ByteArray) (a26 a27 : Int) (a28 : Bool) (a29 : Int) {y : Bool} (h : F57 n a0 a1 a2 a3 a4 a5 a6 a7 a8 a9 a10 a11 a12 a13 a14 a15 a16 a17 a18 a19 a20 a21 a22 a23 a24 a25 a26 a27 a28 a29 = some y) : SpecF T Tryd.prog 57 pa57 [.i a0, .i a1, .i a2, .i a3, .i a4, .b a5, .b a6, .i a7, .i a8, .l [.int .i64] a9, .s a10, .i a11, .i a12, .b a13, .i a14, .i a15, .i a16, .i a17, .i a18, .i a19, .b a20, .b a21, .i a22, .i a23, .l [.int .i64] a24, .s a25, .i a26, .i a27, .b a28, .i a29] sr57 (ofB57 y) :=
  fun_ok (X := X57) tok (sfok_of ⟨ok69, trivial⟩) mixed 57 8 cuts57 rfl toB57_ok trivial ((e57 n a0 a1 a2 a3 a4 a5 a6 a7 a8 a9 a10 a11 a12 a13 a14 a15 a16 a17 a18 a19 a20 a21 a22 a23 a24 a25 a26 a27 a28 a29).trans h)
theorem ok57 {R : Type} : SFone T Tryd.prog 57 (run57 : SF R) := by
  intro ls K r h
  simp only [run57] at h
  obtain ⟨a0, a1, a2, a3, _, rfl, h1⟩ := gI4_ok h; obtain ⟨a4, _, rfl, h2⟩ := gI_ok h1; obtain ⟨a5, _, rfl, h3⟩ := gB_ok h2; obtain ⟨a6, _, rfl, h4⟩ := gB_ok h3; obtain ⟨a7, _, rfl, h5⟩ := gI_ok h4; obtain ⟨a8, _, rfl, h6⟩ := gI_ok h5; obtain ⟨a9, _, rfl, h7⟩ := gL_ok h6; obtain ⟨a10, _, rfl, h8⟩ := gS_ok h7; obtain ⟨a11, _, rfl, h9⟩ := gI_ok h8; obtain ⟨a12, _, rfl, h10⟩ := gI_ok h9; obtain ⟨a13, _, rfl, h11⟩ := gB_ok h10; obtain ⟨a14, a15, a16, a17, _, rfl, h12⟩ := gI4_ok h11; obtain ⟨a18, _, rfl, h13⟩ := gI_ok h12; obtain ⟨a19, _, rfl, h14⟩ := gI_ok h13; obtain ⟨a20, _, rfl, h15⟩ := gB_ok h14; obtain ⟨a21, _, rfl, h16⟩ := gB_ok h15; obtain ⟨a22, _, rfl, h17⟩ := gI_ok h16; obtain ⟨a23, _, rfl, h18⟩ := gI_ok h17; obtain ⟨a24, _, rfl, h19⟩ := gL_ok h18; obtain ⟨a25, _, rfl, h20⟩ := gS_ok h19; obtain ⟨a26, _, rfl, h21⟩ := gI_ok h20; obtain ⟨a27, _, rfl, h22⟩ := gI_ok h21; obtain ⟨a28, _, rfl, h23⟩ := gB_ok h22; obtain ⟨a29, _, rfl, h24⟩ := gI_ok h23; obtain ⟨rfl, h25⟩ := gE_ok h24
  obtain ⟨y, k1, k2⟩ := Option.bind_eq_some_iff.1 h25
  exact ⟨_, k2, sp57 a0 a1 a2 a3 a4 a5 a6 a7 a8 a9 a10 a11 a12 a13 a14 a15 a16 a17 a18 a19 a20 a21 a22 a23 a24 a25 a26 a27 a28 a29 k1⟩

/-! ### garland/msg.Right -/
def pa31 : List VP := [.agg [.i .u8, .i .i64, .i .i64, .i .i64, .i .i64, .b, .b, .i .i64, .i .i64, .sl false [.int .i64], .s, .i .i64, .i .i64, .b, .i .i64]]
def sr31 : RShape := ⟨.b, [], none⟩
def toB31 : List Leaf → Option (Bool) := gB (fun b0 => gE (some b0))
def ofB31 (y : Bool) : List Leaf := [.b y]
theorem toB31_ok : ∀ ls b, toB31 ls = some b → ls = ofB31 b := by
  intro ls b h
  unfold toB31 at h
  obtain ⟨b0, _, rfl, h1⟩ := gB_ok h; obtain ⟨rfl, h2⟩ := gE_ok h1
  cases h2; rfl
def run31 {R : Type} : SF R := ⟨pa31, sr31, fun ls K => (gI (fun a0 => gI (fun a1 => gI (fun a2 => gI (fun a3 => gI (fun a4 => gB (fun a5 => gB (fun a6 => gI (fun a7 => gI (fun a8 => gL [.int .i64] (fun a9 => gS (fun a10 => gI (fun a11 => gI (fun a12 => gB (fun a13 => gI (fun a14 => gE (Option.bind (F31 FUEL a0 a1 a2 a3 a4 a5 a6 a7 a8 a9 a10 a11 a12 a13 a14) fun y => K (ofB31 y)))))))))))))))))) ls⟩
def sh31_0 : Shape := ⟨[(40, [])], []⟩
def g31_0 (n : Nat) : List Leaf → Option (Bool) := gE (F31_c0 n )
def sh31_1 : Shape := ⟨[(55, [(0, .yield 7), (44, .sl false [.int .i64]), (45, .i .i64), (46, .i .i64)]), (40, [(1, .ref 0 0)])], [.cells [.i .u8, .i .i64, .i .i64, .i .i64, .i .i64, .b, .b, .i .i64, .i .i64, .sl false [.int .i64], .s, .i .i64, .i .i64, .b, .i .i64]]⟩
def g31_1 (n : Nat) : List Leaf → Option (Bool) := gL [.int .i64] (fun x0 => gI (fun x1 => gI (fun x2 => gI (fun x3 => gI (fun x4 => gI (fun x5 => gI (fun x6 => gI (fun x7 => gB (fun x8 => gB (fun x9 => gI (fun x10 => gI (fun x11 => gL [.int .i64] (fun x12 => gS (fun x13 => gI (fun x14 => gI (fun x15 => gB (fun x16 => gI (fun x17 => gE (F31_c1 n x0 x1 x2 x3 x4 x5 x6 x7 x8 x9 x10 x11 x12 x13 x14 x15 x16 x17)))))))))))))))))))
def cuts31 : List (List Nat × Cut (Bool)) := [([1, 10], ⟨sh31_0, g31_0⟩), ([1, 0, 1, 0, 1, 0, 136, 1, 1, 0, 1, 1, 1, 1, 1, 0, 1, 1, 0], ⟨sh31_1, g31_1⟩)]
noncomputable def X31 : Px (Bool) := ⟨T, Tryd.prog, lkF [(53, run53), (52, run52), (56, run56), (55, run55), (58, run58), (57, run57)], mkCuts 31 cuts31, altN, altN_ok⟩
theorem e31_0 (n : Nat) : stepF X31 8 31 (endK sr31 toB31) [1, 10] sh31_0 n [] = F31_c0 (n + 1)  := by kernel_rfl
theorem e31_1 (n : Nat) (x0 : List (Int)) (x1 x2 x3 x4 x5 x6 x7 : Int) (x8 x9 : Bool) (x10 x11 : Int) (x12 : List (Int)) (x13 : ByteArray) (x14 x15 : Int) (x16 : Bool) (x17 : Int) : stepF X31 8 31 (endK sr31 toB31) [1, 0, 1, 0, 1, 0, 136, 1, 1, 0, 1, 1, 1, 1, 1, 0, 1, 1, 0] sh31_1 n [.l [.int .i64] x0, .i x1, .i x2, .i x3, .i x4, .i x5, .i x6, .i x7, .b x8, .b x9, .i x10, .i x11, .l [.int .i64] x12, .s x13, .i x14, .i x15, .b x16, .i x17] = F31_c1 (n + 1) x0 x1 x2 x3 x4 x5 x6 x7 x8 x9 x10 x11 x12 x13 x14 x15 x16 x17 := by kernel_rfl
theorem e31 (n : Nat) (a0 a1 a2 a3 a4 : Int) (a5 a6 : Bool) (a7 a8 : Int) (a9 : List (Int)) (a10 : ByteArray) (a11 a12 : Int) (a13 : Bool) (a14 : Int) : entF X31 8 31 pa31 (endK sr31 toB31) n [.i a0, .i a1, .i a2, .i a3, .i a4, .b a5, .b a6, .i a7, .i a8, .l [.int .i64] a9, .s a10, .i a11, .i a12, .b a13, .i a14] = F31 n a0 a1 a2 a3 a4 a5 a6 a7 a8 a9 a10 a11 a12 a13 a14 := by kernel_rfl
theorem c31_0 : CutOK X31 8 31 (endK sr31 toB31) [1, 10] ⟨sh31_0, g31_0⟩ := by
  refine ⟨fun ls => ?_, fun n ls r h => ?_⟩
  · cases h : g31_0 0 ls with
    | none => exact h
    | some r =>
      unfold g31_0 at h; obtain ⟨rfl, h1⟩ := gE_ok h; simp only [F31_c0] at h1; cases h1
  · replace h : g31_0 (n + 1) ls = some r := h
    unfold g31_0 at h
    obtain ⟨rfl, h1⟩ := gE_ok h
    exact (e31_0 n ).trans h1
theorem c31_1 : CutOK X31 8 31 (endK sr31 toB31) [1, 0, 1, 0, 1, 0, 136, 1, 1, 0, 1, 1, 1, 1, 1, 0, 1, 1, 0] ⟨sh31_1, g31_1⟩ := by
  refine ⟨fun ls => ?_, fun n ls r h => ?_⟩
  · cases h : g31_1 0 ls with
    | none => exact h
    | some r =>
      unfold g31_1 at h; obtain ⟨x0, _, rfl, h1⟩ := gL_ok h; obtain ⟨x1, x2, x3, x4, _, rfl, h2⟩ := gI4_ok h1; obtain ⟨x5, _, rfl, h3⟩ := gI_ok h2; obtain ⟨x6, _, rfl, h4⟩ := gI_ok h3; obtain ⟨x7, _, rfl, h5⟩ := gI_ok h4; obtain ⟨x8, _, rfl, h6⟩ := gB_ok h5; obtain ⟨x9, _, rfl, h7⟩ := gB_ok h6; obtain ⟨x10, _, rfl, h8⟩ := gI_ok h7; obtain ⟨x11, _, rfl, h9⟩ := gI_ok h8; obtain ⟨x12, _, rfl, h10⟩ := gL_ok h9; obtain ⟨x13, _, rfl, h11⟩ := gS_ok h10; obtain ⟨x14, _, rfl, h12⟩ := gI_ok h11; obtain ⟨x15, _, rfl, h13⟩ := gI_ok h12; obtain ⟨x16, _, rfl, h14⟩ := gB_ok h13; obtain ⟨x17, _, rfl, h15⟩ := gI_ok h14; obtain ⟨rfl, h16⟩ := gE_ok h15; simp only [F31_c1] at h16; cases h16
  · replace h : g31_1 (n + 1) ls = some r := h
    unfold g31_1 at h
    obtain ⟨x0, _, rfl, h1⟩ := gL_ok h; obtain ⟨x1, x2, x3, x4, _, rfl, h2⟩ := gI4_ok h1; obtain ⟨x5, _, rfl, h3⟩ := gI_ok h2; obtain ⟨x6, _, rfl, h4⟩ := gI_ok h3; obtain ⟨x7, _, rfl, h5⟩ := gI_ok h4; obtain ⟨x8, _, rfl, h6⟩ := gB_ok h5; obtain ⟨x9, _, rfl, h7⟩ := gB_ok h6; obtain ⟨x10, _, rfl, h8⟩ := gI_ok h7; obtain ⟨x11, _, rfl, h9⟩ := gI_ok h8; obtain ⟨x12, _, rfl, h10⟩ := gL_ok h9; obtain ⟨x13, _, rfl, h11⟩ := gS_ok h10; obtain ⟨x14, _, rfl, h12⟩ := gI_ok h11; obtain ⟨x15, _, rfl, h13⟩ := gI_ok h12; obtain ⟨x16, _, rfl, h14⟩ := gB_ok h13; obtain ⟨x17, _, rfl, h15⟩ := gI_ok h14; obtain ⟨rfl, h16⟩ := gE_ok h15
    exact (e31_1 n x0 x1 x2 x3 x4 x5 x6 x7 x8 x9 x10 x11 x12 x13 x14 x15 x16 x17).trans h16
theorem sp31 {n : Nat} (a0 a1 a2 a3 a4 : Int) (a5 a6 : Bool) (a7 a8 : Int) (a9 : List (Int)) (a10 : ByteArray) (a11 a12 : Int) (a13 : Bool) (a14 : Int) {y : Bool} (h : F31 n a0 a1 a2 a3 a4 a5 a6 a7 a8 a9 a10 a11 a12 a13 a14 = some y) : SpecF T Tryd.prog 31 pa31 [.i a0, .i a1, .i a2, .i a3, .i a4, .b a5, .b a6, .i a7, .i a8, .l [.int .i64] a9, .s a10, .i a11, .i a12, .b a13, .i a14] sr31 (ofB31 y) :=
  fun_ok (X := X31) tok (sfok_of ⟨ok53, ok52, ok56, ok55, ok58, ok57, trivial⟩) mixed 31 8 cuts31 rfl toB31_ok ⟨c31_0, c31_1, trivial⟩ ((e31 n a0 a1 a2 a3 a4 a5 a6 a7 a8 a9 a10 a11 a12 a13 a14).trans h)
theorem ok31 {R : Type} : SFone T Tryd.prog 31 (run31 : SF R) := by
  intro ls K r h
  simp only [run31] at h
  obtain ⟨a0, a1, a2, a3, _, rfl, h1⟩ := gI4_ok h; obtain ⟨a4, _, rfl, h2⟩ := gI_ok h1; obtain ⟨a5, _, rfl, h3⟩ := gB_ok h2; obtain ⟨a6, _, rfl, h4⟩ := gB_ok h3; obtain ⟨a7, _, rfl, h5⟩ := gI_ok h4; obtain ⟨a8, _, rfl, h6⟩ := gI_ok h5; obtain ⟨a9, _, rfl, h7⟩ := gL_ok h6; obtain ⟨a10, _, rfl, h8⟩ := gS_ok h7; obtain ⟨a11, _, rfl, h9⟩ := gI_ok h8; obtain ⟨a12, _, rfl, h10⟩ := gI_ok h9; obtain ⟨a13, _, rfl, h11⟩ := gB_ok h10; obtain ⟨a14, _, rfl, h12⟩ := gI_ok h11; obtain ⟨rfl, h13⟩ := gE_ok h12
  obtain ⟨y, k1, k2⟩ := Option.bind_eq_some_iff.1 h13
  exact ⟨_, k2, sp31 a0 a1 a2 a3 a4 a5 a6 a7 a8 a9 a10 a11 a12 a13 a14 k1⟩

/-! ### garland/calls.isTime -/
def pa29 : List VP := [.i .i64]
def sr29 : RShape := ⟨.b, [], none⟩
def toB29 : List Leaf → Option (Bool) := gB (fun b0 => gE (some b0))
def ofB29 (y : Bool) : List Leaf := [.b y]
theorem toB29_ok : ∀ ls b, toB29 ls = some b → ls = ofB29 b := by
  intro ls b h
  unfold toB29 at h
  obtain ⟨b0, _, rfl, h1⟩ := gB_ok h; obtain ⟨rfl, h2⟩ := gE_ok h1
  cases h2; rfl
def run29 {R : Type} : SF R := ⟨pa29, sr29, fun ls K => (gI (fun a0 => gE (Option.bind (F29 FUEL a0) fun y => K (ofB29 y)))) ls⟩
def cuts29 : List (List Nat × Cut (Bool)) := []
noncomputable def X29 : Px (Bool) := ⟨T, Tryd.prog, lkF [], mkCuts 29 cuts29, altN, altN_ok⟩
theorem e29 (n : Nat) (a0 : Int) : entF X29 8 29 pa29 (endK sr29 toB29) n [.i a0] = F29 n a0 := by kernel_rfl
theorem sp29 {n : Nat} (a0 : Int) {y : Bool} (h : F29 n a0 = some y) : SpecF T Tryd.prog 29 pa29 [.i a0] sr29 (ofB29 y) :=
  fun_ok (X := X29) tok (sfok_of trivial) mixed 29 8 cuts29 rfl toB29_ok trivial ((e29 n a0).trans h)
theorem ok29 {R : Type} : SFone T Tryd.prog 29 (run29 : SF R) := by
  intro ls K r h
  simp only [run29] at h
  obtain ⟨a0, _, rfl, h1⟩ := gI_ok h; obtain ⟨rfl, h2⟩ := gE_ok h1
  obtain ⟨y, k1, k2⟩ := Option.bind_eq_some_iff.1 h2
  exact ⟨_, k2, sp29 a0 k1⟩

/-! ### garland/calls.isCall -/
def pa44 : List VP := [.agg [.i .i64, .i .i64, .sl false [.int .i64, .int .u8, .int .i64, .int .i64, .int .i64, .int .i64, .bool, .bool, .int .i64, .int .i64, .sl [.int .i64], .str, .int .i64, .int .i64, .bool, .int .i64, .int .u8, .int .i64, .int .i64, .int .i64]], .agg [.i .i64, .i .u8, .i .i64, .i .i64, .i .i64, .i .i64, .b, .b, .i .i64, .i .i64, .sl false [.int .i64], .s, .i .i64, .i .i64, .b, .i .i64, .i .u8, .i .i64, .i .i64, .i .i64]]
def sr44 : RShape := ⟨.b, [], none⟩
def toB44 : List Leaf → Option (Bool) := gB (fun b0 => gE (some b0))
def ofB44 (y : Bool) : List Leaf := [.b y]
theorem toB44_ok : ∀ ls b, toB44 ls = some b → ls = ofB44 b := by
  intro ls b h
  unfold toB44 at h
  obtain ⟨b0, _, rfl, h1⟩ := gB_ok h; obtain ⟨rfl, h2⟩ := gE_ok h1
  cases h2; rfl
def run44 {R : Type} : SF R := ⟨pa44, sr44, fun ls K => (gI (fun a0 => gI (fun a1 => gL [.int .i64, .int .u8, .int .i64, .int .i64, .int .i64, .int .i64, .bool, .bool, .int .i64, .int .i64, .sl [.int .i64], .str, .int .i64, .int .i64, .bool, .int .i64, .int .u8, .int .i64, .int .i64, .int .i64] (fun a2 => gI (fun a3 => gI (fun a4 => gI (fun a5 => gI (fun a6 => gI (fun a7 => gI (fun a8 => gB (fun a9 => gB (fun a10 => gI (fun a11 => gI (fun a12 => gL [.int .i64] (fun a13 => gS (fun a14 => gI (fun a15 => gI (fun a16 => gB (fun a17 => gI (fun a18 => gI (fun a19 => gI (fun a20 => gI (fun a21 => gI (fun a22 => gE (Option.bind (F44 FUEL a0 a1 a2 a3 a4 a5 a6 a7 a8 a9 a10 a11 a12 a13 a14 a15 a16 a17 a18 a19 a20 a21 a22) fun y => K (ofB44 y)))))))))))))))))))))))))) ls⟩
def cuts44 : List (List Nat × Cut (Bool)) := []
noncomputable def X44 : Px (Bool) := ⟨T, Tryd.prog, lkF [(28, run28), (30, run30), (31, run31), (29, run29)], mkCuts 44 cuts44, altN, altN_ok⟩
theorem e44 (n : Nat) (a0 a1 : Int) (a2 : List (Int × Int × Int × Int × Int × Int × Bool × Bool × Int × Int × (List (Int)) × ByteArray × Int × Int × Bool × Int × Int × Int × Int × Int)) (a3 a4 a5 a6 a7 a8 : Int) (a9 a10 : Bool) (a11 a12 : Int) (a13 : List (Int)) (a14 : ByteArray) (a15 a16 : Int) (a17 : Bool) (a18 a19 a20 a21 a22 : Int) : entF X44 8 44 pa44 (endK sr44 toB44) n [.i a0, .i a1, .l [.int .i64, .int .u8, .int .i64, .int .i64, .int .i64, .int .i64, .bool, .bool, .int .i64, .int .i64, .sl [.int .i64], .str, .int .i64, .int .i64, .bool, .int .i64, .int .u8, .int .i64, .int .i64, .int .i64] a2, .i a3, .i a4, .i a5, .i a6, .i a7, .i a8, .b a9, .b a10, .i a11, .i a12, .l [.int .i64] a13, .s a14, .i a15, .i a16, .b a17, .i a18, .i a19, .i a20, .i a21, .i a22] = F44 n a0 a1 a2 a3 a4 a5 a6 a7 a8 a9 a10 a11 a12 a13 a14 a15 a16 a17 a18 a19 a20 a21 a22 := by kernel_rfl
theorem sp44 {n : Nat} (a0 a1 : Int) (a2 : List (Int × Int × Int × Int × Int × Int × Bool × Bool × Int × Int × (List (Int)) × ByteArray × Int × Int × Bool × Int × Int × Int × Int × Int)) (a3 a4 a5 a6 a7 a8 : Int) (a9 a10 : Bool) (a11 a12 : Int) (a13 : List (Int)) (a14 : ByteArray) (a15 a16 : Int) (a17 : Bool) (a18 a19 a20 a21 a22 : Int) {y : Bool} (h : F44 n a0 a1 a2 a3 a4 a5 a6 a7 a8 a9 a10 a11 a12 a13 a14 a15 a16 a17 a18 a19 a20 a21 a22 = some y) : SpecF T Tryd.prog 44 pa44 [.i a0, .i a1, .l [.int .i64, .int .u8, .int .i64, .int .i64, .int .i64, .int .i64, .bool, .bool, .int .i64, .int .i64, .sl [.int .i64], .str, .int .i64, .int .i64, .bool, .int .i64, .int .u8, .int .i64, .int .i64, .int .i64] a2, .i a3, .i a4, .i a5, .i a6, .i a7, .i a8, .b a9, .b a10, .i a11, .i a12, .l [.int .i64] a13, .s a14, .i a15, .i a16, .b a17, .i a18, .i a19, .i a20, .i a21, .i a22] sr44 (ofB44 y) :=
  fun_ok (X := X44) tok (sfok_of ⟨ok28, ok30, ok31, ok29, trivial⟩) mixed 44 8 cuts44 rfl toB44_ok trivial ((e44 n a0 a1 a2 a3 a4 a5 a6 a7 a8 a9 a10 a11 a12 a13 a14 a15 a16 a17 a18 a19 a20 a21 a22).trans h)
theorem ok44 {R : Type} : SFone T Tryd.prog 44 (run44 : SF R) := by
  intro ls K r h
  simp only [run44] at h
  obtain ⟨a0, _, rfl, h1⟩ := gI_ok h; obtain ⟨a1, _, rfl, h2⟩ := gI_ok h1; obtain ⟨a2, _, rfl, h3⟩ := gL_ok h2; obtain ⟨a3, a4, a5, a6, _, rfl, h4⟩ := gI4_ok h3; obtain ⟨a7, _, rfl, h5⟩ := gI_ok h4; obtain ⟨a8, _, rfl, h6⟩ := gI_ok h5; obtain ⟨a9, _, rfl, h7⟩ := gB_ok h6; obtain ⟨a10, _, rfl, h8⟩ := gB_ok h7; obtain ⟨a11, _, rfl, h9⟩ := gI_ok h8; obtain ⟨a12, _, rfl, h10⟩ := gI_ok h9; obtain ⟨a13, _, rfl, h11⟩ := gL_ok h10; obtain ⟨a14, _, rfl, h12⟩ := gS_ok h11; obtain ⟨a15, _, rfl, h13⟩ := gI_ok h12; obtain ⟨a16, _, rfl, h14⟩ := gI_ok h13; obtain ⟨a17, _, rfl, h15⟩ := gB_ok h14; obtain ⟨a18, a19, a20, a21, _, rfl, h16⟩ := gI4_ok h15; obtain ⟨a22, _, rfl, h17⟩ := gI_ok h16; obtain ⟨rfl, h18⟩ := gE_ok h17
  obtain ⟨y, k1, k2⟩ := Option.bind_eq_some_iff.1 h18
  exact ⟨_, k2, sp44 a0 a1 a2 a3 a4 a5 a6 a7 a8 a9 a10 a11 a12 a13 a14 a15 a16 a17 a18 a19 a20 a21 a22 k1⟩

/-! ### garland/calls.Right -/
def pa17 : List VP := [.agg [.i .i64, .i .i64, .sl false [.int .i64, .int .u8, .int .i64, .int .i64, .int .i64, .int .i64, .bool, .bool, .int .i64, .int .i64, .sl [.int .i64], .str, .int .i64, .int .i64, .bool, .int .i64, .int .u8, .int .i64, .int .i64, .int .i64]]]
def sr17 : RShape := ⟨.b, [], none⟩
def toB17 : List Leaf → Option (Bool) := gB (fun b0 => gE (some b0))
def ofB17 (y : Bool) : List Leaf := [.b y]
theorem toB17_ok : ∀ ls b, toB17 ls = some b → ls = ofB17 b := by
  intro ls b h
  unfold toB17 at h
  obtain ⟨b0, _, rfl, h1⟩ := gB_ok h; obtain ⟨rfl, h2⟩ := gE_ok h1
  cases h2; rfl
def run17 {R : Type} : SF R := ⟨pa17, sr17, fun ls K => (gI (fun a0 => gI (fun a1 => gL [.int .i64, .int .u8, .int .i64, .int .i64, .int .i64, .int .i64, .bool, .bool, .int .i64, .int .i64, .sl [.int .i64], .str, .int .i64, .int .i64, .bool, .int .i64, .int .u8, .int .i64, .int .i64, .int .i64] (fun a2 => gE (Option.bind (F17 FUEL a0 a1 a2) fun y => K (ofB17 y)))))) ls⟩
def sh17_0 : Shape := ⟨[(50, [])], []⟩
def g17_0 (n : Nat) : List Leaf → Option (Bool) := gE (F17_c0 n )
def sh17_1 : Shape := ⟨[(50, [(1, .ref 0 0), (3, .i .i64), (31, .sl false [.int .i64, .int .u8, .int .i64, .int .i64, .int .i64, .int .i64, .bool, .bool, .int .i64, .int .i64, .sl [.int .i64], .str, .int .i64, .int .i64, .bool, .int .i64, .int .u8, .int .i64, .int .i64, .int .i64]), (32, .i .i64), (33, .i .i64)])], [.cells [.i .i64, .i .i64, .sl false [.int .i64, .int .u8, .int .i64, .int .i64, .int .i64, .int .i64, .bool, .bool, .int .i64, .int .i64, .sl [.int .i64], .str, .int .i64, .int .i64, .bool, .int .i64, .int .u8, .int .i64, .int .i64, .int .i64]]]⟩
def g17_1 (n : Nat) : List Leaf → Option (Bool) := gI (fun x0 => gL [.int .i64, .int .u8, .int .i64, .int .i64, .int .i64, .int .i64, .bool, .bool, .int .i64, .int .i64, .sl [.int .i64], .str, .int .i64, .int .i64, .bool, .int .i64, .int .u8, .int .i64, .int .i64, .int .i64] (fun x1 => gI (fun x2 => gI (fun x3 => gI (fun x4 => gI (fun x5 => gL [.int .i64, .int .u8, .int .i64, .int .i64, .int .i64, .int .i64, .bool, .bool, .int .i64, .int .i64, .sl [.int .i64], .str, .int .i64, .int .i64, .bool, .int .i64, .int .u8, .int .i64, .int .i64, .int .i64] (fun x6 => gE (F17_c1 n x0 x1 x2 x3 x4 x5 x6))))))))
def cuts17 : List (List Nat × Cut (Bool)) := [([1, 10], ⟨sh17_0, g17_0⟩), ([1, 0, 1, 1, 0, 1, 0], ⟨sh17_1, g17_1⟩)]
noncomputable def X17 : Px (Bool) := ⟨T, Tryd.prog, lkF [(44, run44)], mkCuts 17 cuts17, altN, altN_ok⟩
theorem e17_0 (n : Nat) : stepF X17 8 17 (endK sr17 toB17) [1, 10] sh17_0 n [] = F17_c0 (n + 1)  := by kernel_rfl
theorem e17_1 (n : Nat) (x0 : Int) (x1 : List (Int × Int × Int × Int × Int × Int × Bool × Bool × Int × Int × (List (Int)) × ByteArray × Int × Int × Bool × Int × Int × Int × Int × Int)) (x2 x3 x4 x5 : Int) (x6 : List (Int × Int × Int × Int × Int × Int × Bool × Bool × Int × Int × (List (Int)) × ByteArray × Int × Int × Bool × Int × Int × Int × Int × Int)) : stepF X17 8 17 (endK sr17 toB17) [1, 0, 1, 1, 0, 1, 0] sh17_1 n [.i x0, .l [.int .i64, .int .u8, .int .i64, .int .i64, .int .i64, .int .i64, .bool, .bool, .int .i64, .int .i64, .sl [.int .i64], .str, .int .i64, .int .i64, .bool, .int .i64, .int .u8, .int .i64, .int .i64, .int .i64] x1, .i x2, .i x3, .i x4, .i x5, .l [.int .i64, .int .u8, .int .i64, .int .i64, .int .i64, .int .i64, .bool, .bool, .int .i64, .int .i64, .sl [.int .i64], .str, .int .i64, .int .i64, .bool, .int .i64, .int .u8, .int .i64, .int .i64, .int .i64] x6] = F17_c1 (n + 1) x0 x1 x2 x3 x4 x5 x6 := by kernel_rfl
theorem e17 (n : Nat) (a0 a1 : Int) (a2 : List (Int × Int × Int × Int × Int × Int × Bool × Bool × Int × Int × (List (Int)) × ByteArray × Int × Int × Bool × Int × Int × Int × Int × Int)) : entF X17 8 17 pa17 (endK sr17 toB17) n [.i a0, .i a1, .l [.int .i64, .int .u8, .int .i64, .int .i64, .int .i64, .int .i64, .bool, .bool, .int .i64, .int .i64, .sl [.int .i64], .str, .int .i64, .int .i64, .bool, .int .i64, .int .u8, .int .i64, .int .i64, .int .i64] a2] = F17 n a0 a1 a2 := by kernel_rfl
theorem c17_0 : CutOK X17 8 17 (endK sr17 toB17) [1, 10] ⟨sh17_0, g17_0⟩ := by
  refine ⟨fun ls => ?_, fun n ls r h => ?_⟩
  · cases h : g17_0 0 ls with
    | none => exact h
    | some r =>
      unfold g17_0 at h; obtain ⟨rfl, h1⟩ := gE_ok h; simp only [F17_c0] at h1; cases h1
  · replace h : g17_0 (n + 1) ls = some r := h
    unfold g17_0 at h
    obtain ⟨rfl, h1⟩ := gE_ok h
    exact (e17_0 n ).trans h1
theorem c17_1 : CutOK X17 8 17 (endK sr17 toB17) [1, 0, 1, 1, 0, 1, 0] ⟨sh17_1, g17_1⟩ := by
  refine ⟨fun ls => ?_, fun n ls r h => ?_⟩
  · cases h : g17_1 0 ls with
    | none => exact h
    | some r =>
      unfold g17_1 at h; obtain ⟨x0, _, rfl, h1⟩ := gI_ok h; obtain ⟨x1, _, rfl, h2⟩ := gL_ok h1; obtain ⟨x2, x3, x4, x5, _, rfl, h3⟩ := gI4_ok h2; obtain ⟨x6, _, rfl, h4⟩ := gL_ok h3; obtain ⟨rfl, h5⟩ := gE_ok h4; simp only [F17_c1] at h5; cases h5
  · replace h : g17_1 (n + 1) ls = some r := h
    unfold g17_1 at h
    obtain ⟨x0, _, rfl, h1⟩ := gI_ok h; obtain ⟨x1, _, rfl, h2⟩ := gL_ok h1; obtain ⟨x2, x3, x4, x5, _, rfl, h3⟩ := gI4_ok h2; obtain ⟨x6, _, rfl, h4⟩ := gL_ok h3; obtain ⟨rfl, h5⟩ := gE_ok h4
    exact (e17_1 n x0 x1 x2 x3 x4 x5 x6).trans h5
theorem sp17 {n : Nat} (a0 a1 : Int) (a2 : List (Int × Int × Int × Int × Int × Int × Bool × Bool × Int × Int × (List (Int)) × ByteArray × Int × Int × Bool × Int × Int × Int × Int × Int)) {y : Bool} (h : F17 n a0 a1 a2 = some y) : SpecF T Tryd.prog 17 pa17 [.i a0, .i a1, .l [.int .i64, .int .u8, .int .i64, .int .i64, .int .i64, .int .i64, .bool, .bool, .int .i64, .int .i64, .sl [.int .i64], .str, .int .i64, .int .i64, .bool, .int .i64, .int .u8, .int .i64, .int .i64, .int .i64] a2] sr17 (ofB17 y) :=
  fun_ok (X := X17) tok (sfok_of ⟨ok44, trivial⟩) mixed 17 8 cuts17 rfl toB17_ok ⟨c17_0, c17_1, trivial⟩ ((e17 n a0 a1 a2).trans h)
theorem ok17 {R : Type} : SFone T Tryd.prog 17 (run17 : SF R) := by
  intro ls K r h
  simp only [run17] at h
  obtain ⟨a0, _, rfl, h1⟩ := gI_ok h; obtain ⟨a1, _, rfl, h2⟩ := gI_ok h1; obtain ⟨a2, _, rfl, h3⟩ := gL_ok h2; obtain ⟨rfl, h4⟩ := gE_ok h3
  obtain ⟨y, k1, k2⟩ := Option.bind_eq_some_iff.1 h4
  exact ⟨_, k2, sp17 a0 a1 a2 k1⟩

/-! ### garland/msg.Own -/
def pa32 : List VP := [.agg [.i .u8, .i .i64, .i .i64, .i .i64, .i .i64, .b, .b, .i .i64, .i .i64, .sl false [.int .i64], .s, .i .i64, .i .i64, .b, .i .i64]]
def sr32 : RShape := ⟨.agg [.i .u8, .i .i64, .i .i64, .i .i64, .i .i64, .b, .b, .i .i64, .i .i64, .sl true [.int .i64], .s, .i .i64, .i .i64, .b, .i .i64], [], none⟩
def toB32 : List Leaf → Option (Si5b2i2lsi2bi) := gI (fun b0 => gI (fun b1 => gI (fun b2 => gI (fun b3 => gI (fun b4 => gB (fun b5 => gB (fun b6 => gI (fun b7 => gI (fun b8 => gL [.int .i64] (fun b9 => gS (fun b10 => gI (fun b11 => gI (fun b12 => gB (fun b13 => gI (fun b14 => gE (some ⟨b0, b1, b2, b3, b4, b5, b6, b7, b8, b9, b10, b11, b12, b13, b14⟩))))))))))))))))
def ofB32 (y : Si5b2i2lsi2bi) : List Leaf := [.i y.q0, .i y.q1, .i y.q2, .i y.q3, .i y.q4, .b y.q5, .b y.q6, .i y.q7, .i y.q8, .l [.int .i64] y.q9, .s y.q10, .i y.q11, .i y.q12, .b y.q13, .i y.q14]
theorem toB32_ok : ∀ ls b, toB32 ls = some b → ls = ofB32 b := by
  intro ls b h
  unfold toB32 at h
  obtain ⟨b0, b1, b2, b3, _, rfl, h1⟩ := gI4_ok h; obtain ⟨b4, _, rfl, h2⟩ := gI_ok h1; obtain ⟨b5, _, rfl, h3⟩ := gB_ok h2; obtain ⟨b6, _, rfl, h4⟩ := gB_ok h3; obtain ⟨b7, _, rfl, h5⟩ := gI_ok h4; obtain ⟨b8, _, rfl, h6⟩ := gI_ok h5; obtain ⟨b9, _, rfl, h7⟩ := gL_ok h6; obtain ⟨b10, _, rfl, h8⟩ := gS_ok h7; obtain ⟨b11, _, rfl, h9⟩ := gI_ok h8; obtain ⟨b12, _, rfl, h10⟩ := gI_ok h9; obtain ⟨b13, _, rfl, h11⟩ := gB_ok h10; obtain ⟨b14, _, rfl, h12⟩ := gI_ok h11; obtain ⟨rfl, h13⟩ := gE_ok h12
  cases h13; rfl
def run32 {R : Type} : SF R := ⟨pa32, sr32, fun ls K => (gI (fun a0 => gI (fun a1 => gI (fun a2 => gI (fun a3 => gI (fun a4 => gB (fun a5 => gB (fun a6 => gI (fun a7 => gI (fun a8 => gL [.int .i64] (fun a9 => gS (fun a10 => gI (fun a11 => gI (fun a12 => gB (fun a13 => gI (fun a14 => gE (Option.bind (F32 FUEL a0 a1 a2 a3 a4 a5 a6 a7 a8 a9 a10 a11 a12 a13 a14) fun y => K (ofB32 y)))))))))))))))))) ls⟩
def cuts32 : List (List Nat × Cut (Si5b2i2lsi2bi)) := []
noncomputable def X32 : Px (Si5b2i2lsi2bi) := ⟨T, Tryd.prog, lkF [], mkCuts 32 cuts32, altN, altN_ok⟩
theorem e32 (n : Nat) (a0 a1 a2 a3 a4 : Int) (a5 a6 : Bool) (a7 a8 : Int) (a9 : List (Int)) (a10 : ByteArray) (a11 a12 : Int) (a13 : Bool) (a14 : Int) : entF X32 8 32 pa32 (endK sr32 toB32) n [.i a0, .i a1, .i a2, .i a3, .i a4, .b a5, .b a6, .i a7, .i a8, .l [.int .i64] a9, .s a10, .i a11, .i a12, .b a13, .i a14] = F32 n a0 a1 a2 a3 a4 a5 a6 a7 a8 a9 a10 a11 a12 a13 a14 := by kernel_rfl
theorem sp32 {n : Nat} (a0 a1 a2 a3 a4 : Int) (a5 a6 : Bool) (a7 a8 : Int) (a9 : List (Int)) (a10 : ByteArray) (a11 a12 : Int) (a13 : Bool) (a14 : Int) {y : Si5b2i2lsi2bi} (h : F32 n a0 a1 a2 a3 a4 a5 a6 a7 a8 a9 a10 a11 a12 a13 a14 = some y) : SpecF T Tryd.prog 32 pa32 [.i a0, .i a1, .i a2, .i a3, .i a4, .b a5, .b a6, .i a7, .i a8, .l [.int .i64] a9, .s a10, .i a11, .i a12, .b a13, .i a14] sr32 (ofB32 y) :=
  fun_ok (X := X32) tok (sfok_of trivial) mixed 32 8 cuts32 rfl toB32_ok trivial ((e32 n a0 a1 a2 a3 a4 a5 a6 a7 a8 a9 a10 a11 a12 a13 a14).trans h)
theorem ok32 {R : Type} : SFone T Tryd.prog 32 (run32 : SF R) := by
  intro ls K r h
  simp only [run32] at h
  obtain ⟨a0, a1, a2, a3, _, rfl, h1⟩ := gI4_ok h; obtain ⟨a4, _, rfl, h2⟩ := gI_ok h1; obtain ⟨a5, _, rfl, h3⟩ := gB_ok h2; obtain ⟨a6, _, rfl, h4⟩ := gB_ok h3; obtain ⟨a7, _, rfl, h5⟩ := gI_ok h4; obtain ⟨a8, _, rfl, h6⟩ := gI_ok h5; obtain ⟨a9, _, rfl, h7⟩ := gL_ok h6; obtain ⟨a10, _, rfl, h8⟩ := gS_ok h7; obtain ⟨a11, _, rfl, h9⟩ := gI_ok h8; obtain ⟨a12, _, rfl, h10⟩ := gI_ok h9; obtain ⟨a13, _, rfl, h11⟩ := gB_ok h10; obtain ⟨a14, _, rfl, h12⟩ := gI_ok h11; obtain ⟨rfl, h13⟩ := gE_ok h12
  obtain ⟨y, k1, k2⟩ := Option.bind_eq_some_iff.1 h13
  exact ⟨_, k2, sp32 a0 a1 a2 a3 a4 a5 a6 a7 a8 a9 a10 a11 a12 a13 a14 k1⟩

/-! ### garland/calls.ownCall -/
def pa64 : List VP := [.agg [.i .i64, .i .u8, .i .i64, .i .i64, .i .i64, .i .i64, .b, .b, .i .i64, .i .i64, .sl false [.int .i64], .s, .i .i64, .i .i64, .b, .i .i64, .i .u8, .i .i64, .i .i64, .i .i64]]
def sr64 : RShape := ⟨.agg [.i .i64, .i .u8, .i .i64, .i .i64, .i .i64, .i .i64, .b, .b, .i .i64, .i .i64, .sl true [.int .i64], .s, .i .i64, .i .i64, .b, .i .i64, .i .u8, .i .i64, .i .i64, .i .i64], [], none⟩
def toB64 : List Leaf → Option (Si6b2i2lsi2bi5) := gI (fun b0 => gI (fun b1 => gI (fun b2 => gI (fun b3 => gI (fun b4 => gI (fun b5 => gB (fun b6 => gB (fun b7 => gI (fun b8 => gI (fun b9 => gL [.int .i64] (fun b10 => gS (fun b11 => gI (fun b12 => gI (fun b13 => gB (fun b14 => gI (fun b15 => gI (fun b16 => gI (fun b17 => gI (fun b18 => gI (fun b19 => gE (some ⟨b0, b1, b2, b3, b4, b5, b6, b7, b8, b9, b10, b11, b12, b13, b14, b15, b16, b17, b18, b19⟩)))))))))))))))))))))
def ofB64 (y : Si6b2i2lsi2bi5) : List Leaf := [.i y.q0, .i y.q1, .i y.q2, .i y.q3, .i y.q4, .i y.q5, .b y.q6, .b y.q7, .i y.q8, .i y.q9, .l [.int .i64] y.q10, .s y.q11, .i y.q12, .i y.q13, .b y.q14, .i y.q15, .i y.q16, .i y.q17, .i y.q18, .i y.q19]
theorem toB64_ok : ∀ ls b, toB64 ls = some b → ls = ofB64 b := by
  intro ls b h
  unfold toB64 at h
  obtain ⟨b0, b1, b2, b3, _, rfl, h1⟩ := gI4_ok h; obtain ⟨b4, _, rfl, h2⟩ := gI_ok h1; obtain ⟨b5, _, rfl, h3⟩ := gI_ok h2; obtain ⟨b6, _, rfl, h4⟩ := gB_ok h3; obtain ⟨b7, _, rfl, h5⟩ := gB_ok h4; obtain ⟨b8, _, rfl, h6⟩ := gI_ok h5; obtain ⟨b9, _, rfl, h7⟩ := gI_ok h6; obtain ⟨b10, _, rfl, h8⟩ := gL_ok h7; obtain ⟨b11, _, rfl, h9⟩ := gS_ok h8; obtain ⟨b12, _, rfl, h10⟩ := gI_ok h9; obtain ⟨b13, _, rfl, h11⟩ := gI_ok h10; obtain ⟨b14, _, rfl, h12⟩ := gB_ok h11; obtain ⟨b15, b16, b17, b18, _, rfl, h13⟩ := gI4_ok h12; obtain ⟨b19, _, rfl, h14⟩ := gI_ok h13; obtain ⟨rfl, h15⟩ := gE_ok h14
  cases h15; rfl
def run64 {R : Type} : SF R := ⟨pa64, sr64, fun ls K => (gI (fun a0 => gI (fun a1 => gI (fun a2 => gI (fun a3 => gI (fun a4 => gI (fun a5 => gB (fun a6 => gB (fun a7 => gI (fun a8 => gI (fun a9 => gL [.int .i64] (fun a10 => gS (fun a11 => gI (fun a12 => gI (fun a13 => gB (fun a14 => gI (fun a15 => gI (fun a16 => gI (fun a17 => gI (fun a18 => gI (fun a19 => gE (Option.bind (F64 FUEL a0 a1 a2 a3 a4 a5 a6 a7 a8 a9 a10 a11 a12 a13 a14 a15 a16 a17 a18 a19) fun y => K (ofB64 y))))))))))))))))))))))) ls⟩
def cuts64 : List (List Nat × Cut (Si6b2i2lsi2bi5)) := []
noncomputable def X64 : Px (Si6b2i2lsi2bi5) := ⟨T, Tryd.prog, lkF [(32, run32)], mkCuts 64 cuts64, altN, altN_ok⟩
theorem e64 (n : Nat) (a0 a1 a2 a3 a4 a5 : Int) (a6 a7 : Bool) (a8 a9 : Int) (a10 : List (Int)) (a11 : ByteArray) (a12 a13 : Int) (a14 : Bool) (a15 a16 a17 a18 a19 : Int) : entF X64 8 64 pa64 (endK sr64 toB64) n [.i a0, .i a1, .i a2, .i a3, .i a4, .i a5, .b a6, .b a7, .i a8, .i a9, .l [.int .i64] a10, .s a11, .i a12, .i a13, .b a14, .i a15, .i a16, .i a17, .i a18, .i a19] = F64 n a0 a1 a2 a3 a4 a5 a6 a7 a8 a9 a10 a11 a12 a13 a14 a15 a16 a17 a18 a19 := by kernel_rfl
theorem sp64 {n : Nat} (a0 a1 a2 a3 a4 a5 : Int) (a6 a7 : Bool) (a8 a9 : Int) (a10 : List (Int)) (a11 : ByteArray) (a12 a13 : Int) (a14 : Bool) (a15 a16 a17 a18 a19 : Int) {y : Si6b2i2lsi2bi5} (h : F64 n a0 a1 a2 a3 a4 a5 a6 a7 a8 a9 a10 a11 a12 a13 a14 a15 a16 a17 a18 a19 = some y) : SpecF T Tryd.prog 64 pa64 [.i a0, .i a1, .i a2, .i a3, .i a4, .i a5, .b a6, .b a7, .i a8, .i a9, .l [.int .i64] a10, .s a11, .i a12, .i a13, .b a14, .i a15, .i a16, .i a17, .i a18, .i a19] sr64 (ofB64 y) :=
  fun_ok (X := X64) tok (sfok_of ⟨ok32, trivial⟩) mixed 64 8 cuts64 rfl toB64_ok trivial ((e64 n a0 a1 a2 a3 a4 a5 a6 a7 a8 a9 a10 a11 a12 a13 a14 a15 a16 a17 a18 a19).trans h)
theorem ok64 {R : Type} : SFone T Tryd.prog 64 (run64 : SF R) := by
  intro ls K r h
  simp only [run64] at h
  obtain ⟨a0, a1, a2, a3, _, rfl, h1⟩ := gI4_ok h; obtain ⟨a4, _, rfl, h2⟩ := gI_ok h1; obtain ⟨a5, _, rfl, h3⟩ := gI_ok h2; obtain ⟨a6, _, rfl, h4⟩ := gB_ok h3; obtain ⟨a7, _, rfl, h5⟩ := gB_ok h4; obtain ⟨a8, _, rfl, h6⟩ := gI_ok h5; obtain ⟨a9, _, rfl, h7⟩ := gI_ok h6; obtain ⟨a10, _, rfl, h8⟩ := gL_ok h7; obtain ⟨a11, _, rfl, h9⟩ := gS_ok h8; obtain ⟨a12, _, rfl, h10⟩ := gI_ok h9; obtain ⟨a13, _, rfl, h11⟩ := gI_ok h10; obtain ⟨a14, _, rfl, h12⟩ := gB_ok h11; obtain ⟨a15, a16, a17, a18, _, rfl, h13⟩ := gI4_ok h12; obtain ⟨a19, _, rfl, h14⟩ := gI_ok h13; obtain ⟨rfl, h15⟩ := gE_ok h14
  obtain ⟨y, k1, k2⟩ := Option.bind_eq_some_iff.1 h15
  exact ⟨_, k2, sp64 a0 a1 a2 a3 a4 a5 a6 a7 a8 a9 a10 a11 a12 a13 a14 a15 a16 a17 a18 a19 k1⟩

/-! ### garland/calls.Own -/
def pa27 : List VP := [.agg [.i .i64, .i .i64, .sl false [.int .i64, .int .u8, .int .i64, .int .i64, .int .i64, .int .i64, .bool, .bool, .int .i64, .int .i64, .sl [.int .i64], .str, .int .i64, .int .i64, .bool, .int .i64, .int .u8, .int .i64, .int .i64, .int .i64]]]
def sr27 : RShape := ⟨.agg [.i .i64, .i .i64, .row 0], [.row true [.int .i64, .int .u8, .int .i64, .int .i64, .int .i64, .int .i64, .bool, .bool, .int .i64, .int .i64, .sl [.int .i64], .str, .int .i64, .int .i64, .bool, .int .i64, .int .u8, .int .i64, .int .i64, .int .i64]], none⟩
def toB27 : List Leaf → Option (Int × Int × (List (Int × Int × Int × Int × Int × Int × Bool × Bool × Int × Int × (List (Int)) × ByteArray × Int × Int × Bool × Int × Int × Int × Int × Int))) := gI (fun b0 => gI (fun b1 => gL [.int .i64, .int .u8, .int .i64, .int .i64, .int .i64, .int .i64, .bool, .bool, .int .i64, .int .i64, .sl [.int .i64], .str, .int .i64, .int .i64, .bool, .int .i64, .int .u8, .int .i64, .int .i64, .int .i64] (fun b2 => gE (some (b0, b1, b2)))))
def ofB27 (y : Int × Int × (List (Int × Int × Int × Int × Int × Int × Bool × Bool × Int × Int × (List (Int)) × ByteArray × Int × Int × Bool × Int × Int × Int × Int × Int))) : List Leaf := [.i y.1, .i y.2.1, .l [.int .i64, .int .u8, .int .i64, .int .i64, .int .i64, .int .i64, .bool, .bool, .int .i64, .int .i64, .sl [.int .i64], .str, .int .i64, .int .i64, .bool, .int .i64, .int .u8, .int .i64, .int .i64, .int .i64] y.2.2]
theorem toB27_ok : ∀ ls b, toB27 ls = some b → ls = ofB27 b := by
  intro ls b h
  unfold toB27 at h
  obtain ⟨b0, _, rfl, h1⟩ := gI_ok h; obtain ⟨b1, _, rfl, h2⟩ := gI_ok h1; obtain ⟨b2, _, rfl, h3⟩ := gL_ok h2; obtain ⟨rfl, h4⟩ := gE_ok h3
  cases h4; rfl
def run27 {R : Type} : SF R := ⟨pa27, sr27, fun ls K => (gI (fun a0 => gI (fun a1 => gL [.int .i64, .int .u8, .int .i64, .int .i64, .int .i64, .int .i64, .bool, .bool, .int .i64, .int .i64, .sl [.int .i64], .str, .int .i64, .int .i64, .bool, .int .i64, .int .u8, .int .i64, .int .i64, .int .i64] (fun a2 => gE (Option.bind (F27 FUEL a0 a1 a2) fun y => K (ofB27 y)))))) ls⟩
def sh27_0 : Shape := ⟨[(18, [(0, .yield 10), (6, .sl false [.int .i64, .int .u8, .int .i64, .int .i64, .int .i64, .int .i64, .bool, .bool, .int .i64, .int .i64, .sl [.int .i64], .str, .int .i64, .int .i64, .bool, .int .i64, .int .u8, .int .i64, .int .i64, .int .i64]), (7, .i .i64), (8, .i .i64)]), (28, [(3, .ref 0 0), (4, .ref 1 0), (5, .ref 2 0)]), (5, [(2, .ref 3 0)])], [.cells [.clos 51 []], .cells [.i .i64, .i .i64, .nil], .cells [.i .i64, .i .i64, .row 4], .cells [.i .i64, .i .i64, .nil], .row true [.int .i64, .int .u8, .int .i64, .int .i64, .int .i64, .int .i64, .bool, .bool, .int .i64, .int .i64, .sl [.int .i64], .str, .int .i64, .int .i64, .bool, .int .i64, .int .u8, .int .i64, .int .i64, .int .i64]]⟩
def g27_0 (n : Nat) : List Leaf → Option (Int × Int × (List (Int × Int × Int × Int × Int × Int × Bool × Bool × Int × Int × (List (Int)) × ByteArray × Int × Int × Bool × Int × Int × Int × Int × Int))) := gL [.int .i64, .int .u8, .int .i64, .int .i64, .int .i64, .int .i64, .bool, .bool, .int .i64, .int .i64, .sl [.int .i64], .str, .int .i64, .int .i64, .bool, .int .i64, .int .u8, .int .i64, .int .i64, .int .i64] (fun x0 => gI (fun x1 => gI (fun x2 => gI (fun x3 => gI (fun x4 => gI (fun x5 => gI (fun x6 => gI (fun x7 => gI (fun x8 => gL [.int .i64, .int .u8, .int .i64, .int .i64, .int .i64, .int .i64, .bool, .bool, .int .i64, .int .i64, .sl [.int .i64], .str, .int .i64, .int .i64, .bool, .int .i64, .int .u8, .int .i64, .int .i64, .int .i64] (fun x9 => gE (F27_c0 n x0 x1 x2 x3 x4 x5 x6 x7 x8 x9)))))))))))
def cuts27 : List (List Nat × Cut (Int × Int × (List (Int × Int × Int × Int × Int × Int × Bool × Bool × Int × Int × (List (Int)) × ByteArray × Int × Int × Bool × Int × Int × Int × Int × Int)))) := [([1, 0, 1, 76, 1, 1, 0, 1, 0, 126, 1, 0], ⟨sh27_0, g27_0⟩)]
noncomputable def X27 : Px (Int × Int × (List (Int × Int × Int × Int × Int × Int × Bool × Bool × Int × Int × (List (Int)) × ByteArray × Int × Int × Bool × Int × Int × Int × Int × Int))) := ⟨T, Tryd.prog, lkF [(64, run64)], mkCuts 27 cuts27, altN, altN_ok⟩
theorem e27_0 (n : Nat) (x0 : List (Int × Int × Int × Int × Int × Int × Bool × Bool × Int × Int × (List (Int)) × ByteArray × Int × Int × Bool × Int × Int × Int × Int × Int)) (x1 x2 x3 x4 x5 x6 x7 x8 : Int) (x9 : List (Int × Int × Int × Int × Int × Int × Bool × Bool × Int × Int × (List (Int)) × ByteArray × Int × Int × Bool × Int × Int × Int × Int × Int)) : stepF X27 8 27 (endK sr27 toB27) [1, 0, 1, 76, 1, 1, 0, 1, 0, 126, 1, 0] sh27_0 n [.l [.int .i64, .int .u8, .int .i64, .int .i64, .int .i64, .int .i64, .bool, .bool, .int .i64, .int .i64, .sl [.int .i64], .str, .int .i64, .int .i64, .bool, .int .i64, .int .u8, .int .i64, .int .i64, .int .i64] x0, .i x1, .i x2, .i x3, .i x4, .i x5, .i x6, .i x7, .i x8, .l [.int .i64, .int .u8, .int .i64, .int .i64, .int .i64, .int .i64, .bool, .bool, .int .i64, .int .i64, .sl [.int .i64], .str, .int .i64, .int .i64, .bool, .int .i64, .int .u8, .int .i64, .int .i64, .int .i64] x9] = F27_c0 (n + 1) x0 x1 x2 x3 x4 x5 x6 x7 x8 x9 := by kernel_rfl
theorem e27 (n : Nat) (a0 a1 : Int) (a2 : List (Int × Int × Int × Int × Int × Int × Bool × Bool × Int × Int × (List (Int)) × ByteArray × Int × Int × Bool × Int × Int × Int × Int × Int)) : entF X27 8 27 pa27 (endK sr27 toB27) n [.i a0, .i a1, .l [.int .i64, .int .u8, .int .i64, .int .i64, .int .i64, .int .i64, .bool, .bool, .int .i64, .int .i64, .sl [.int .i64], .str, .int .i64, .int .i64, .bool, .int .i64, .int .u8, .int .i64, .int .i64, .int .i64] a2] = F27 n a0 a1 a2 := by kernel_rfl
theorem c27_0 : CutOK X27 8 27 (endK sr27 toB27) [1, 0, 1, 76, 1, 1, 0, 1, 0, 126, 1, 0] ⟨sh27_0, g27_0⟩ := by
  refine ⟨fun ls => ?_, fun n ls r h => ?_⟩
  · cases h : g27_0 0 ls with
    | none => exact h
    | some r =>
      unfold g27_0 at h; obtain ⟨x0, _, rfl, h1⟩ := gL_ok h; obtain ⟨x1, x2, x3, x4, x5, x6, x7, x8, _, rfl, h2⟩ := gI8_ok h1; obtain ⟨x9, _, rfl, h3⟩ := gL_ok h2; obtain ⟨rfl, h4⟩ := gE_ok h3; simp only [F27_c0] at h4; cases h4
  · replace h : g27_0 (n + 1) ls = some r := h
    unfold g27_0 at h
    obtain ⟨x0, _, rfl, h1⟩ := gL_ok h; obtain ⟨x1, x2, x3, x4, x5, x6, x7, x8, _, rfl, h2⟩ := gI8_ok h1; obtain ⟨x9, _, rfl, h3⟩ := gL_ok h2; obtain ⟨rfl, h4⟩ := gE_ok h3
    exact (e27_0 n x0 x1 x2 x3 x4 x5 x6 x7 x8 x9).trans h4
theorem sp27 {n : Nat} (a0 a1 : Int) (a2 : List (Int × Int × Int × Int × Int × Int × Bool × Bool × Int × Int × (List (Int)) × ByteArray × Int × Int × Bool × Int × Int × Int × Int × Int)) {y : Int × Int × (List (Int × Int × Int × Int × Int × Int × Bool × Bool × Int × Int × (List (Int)) × ByteArray × Int × Int × Bool × Int × Int × Int × Int × Int))} (h : F27 n a0 a1 a2 = some y) : SpecF T Tryd.prog 27 pa27 [.i a0, .i a1, .l [.int .i64, .int .u8, .int .i64, .int .i64, .int .i64, .int .i64, .bool, .bool, .int .i64, .int .i64, .sl [.int .i64], .str, .int .i64, .int .i64, .bool, .int .i64, .int .u8, .int .i64, .int .i64, .int .i64] a2] sr27 (ofB27 y) :=
  fun_ok (X := X27) tok (sfok_of ⟨ok64, trivial⟩) mixed 27 8 cuts27 rfl toB27_ok ⟨c27_0, trivial⟩ ((e27 n a0 a1 a2).trans h)
theorem ok27 {R : Type} : SFone T Tryd.prog 27 (run27 : SF R) := by
  intro ls K r h
  simp only [run27] at h
  obtain ⟨a0, _, rfl, h1⟩ := gI_ok h; obtain ⟨a1, _, rfl, h2⟩ := gI_ok h1; obtain ⟨a2, _, rfl, h3⟩ := gL_ok h2; obtain ⟨rfl, h4⟩ := gE_ok h3
  obtain ⟨y, k1, k2⟩ := Option.bind_eq_some_iff.1 h4
  exact ⟨_, k2, sp27 a0 a1 a2 k1⟩

/-! ### garland/calls.Open -/
def pa10 : List VP := [.agg [.i .i64, .i .i64, .sl false [.int .i64, .int .u8, .int .i64, .int .i64, .int .i64, .int .i64, .bool, .bool, .int .i64, .int .i64, .sl [.int .i64], .str, .int .i64, .int .i64, .bool, .int .i64, .int .u8, .int .i64, .int .i64, .int .i64]], .agg [.i .u8, .i .i64, .i .i64, .i .i64, .i .i64, .b, .b, .i .i64, .i .i64, .sl false [.int .i64], .s, .i .i64, .i .i64, .b, .i .i64], .i .u8, .i .i64, .i .i64]
def sr10 : RShape := ⟨.tup [.agg [.i .i64, .i .i64, .row 0], .agg [.i .u8, .i .i64, .i .i64, .i .i64, .i .i64, .b, .b, .i .i64, .i .i64, .sl true [.int .i64], .s, .i .i64, .i .i64, .b, .i .i64], .i .i64], [.row true [.int .i64, .int .u8, .int .i64, .int .i64, .int .i64, .int .i64, .bool, .bool, .int .i64, .int .i64, .sl [.int .i64], .str, .int .i64, .int .i64, .bool, .int .i64, .int .u8, .int .i64, .int .i64, .int .i64]], none⟩
def toB10 : List Leaf → Option (Si7b2i2lsi2bi2l_i6b2i2lsi2bi5_) := gI (fun b0 => gI (fun b1 => gI (fun b2 => gI (fun b3 => gI (fun b4 => gI (fun b5 => gI (fun b6 => gB (fun b7 => gB (fun b8 => gI (fun b9 => gI (fun b10 => gL [.int .i64] (fun b11 => gS (fun b12 => gI (fun b13 => gI (fun b14 => gB (fun b15 => gI (fun b16 => gI (fun b17 => gL [.int .i64, .int .u8, .int .i64, .int .i64, .int .i64, .int .i64, .bool, .bool, .int .i64, .int .i64, .sl [.int .i64], .str, .int .i64, .int .i64, .bool, .int .i64, .int .u8, .int .i64, .int .i64, .int .i64] (fun b18 => gE (some ⟨b0, b1, b2, b3, b4, b5, b6, b7, b8, b9, b10, b11, b12, b13, b14, b15, b16, b17, b18⟩))))))))))))))))))))
def ofB10 (y : Si7b2i2lsi2bi2l_i6b2i2lsi2bi5_) : List Leaf := [.i y.q0, .i y.q1, .i y.q2, .i y.q3, .i y.q4, .i y.q5, .i y.q6, .b y.q7, .b y.q8, .i y.q9, .i y.q10, .l [.int .i64] y.q11, .s y.q12, .i y.q13, .i y.q14, .b y.q15, .i y.q16, .i y.q17, .l [.int .i64, .int .u8, .int .i64, .int .i64, .int .i64, .int .i64, .bool, .bool, .int .i64, .int .i64, .sl [.int .i64], .str, .int .i64, .int .i64, .bool, .int .i64, .int .u8, .int .i64, .int .i64, .int .i64] y.q18]
theorem toB10_ok : ∀ ls b, toB10 ls = some b → ls = ofB10 b := by
  intro ls b h
  unfold toB10 at h
  obtain ⟨b0, b1, b2, b3, _, rfl, h1⟩ := gI4_ok h; obtain ⟨b4, _, rfl, h2⟩ := gI_ok h1; obtain ⟨b5, _, rfl, h3⟩ := gI_ok h2; obtain ⟨b6, _, rfl, h4⟩ := gI_ok h3; obtain ⟨b7, _, rfl, h5⟩ := gB_ok h4; obtain ⟨b8, _, rfl, h6⟩ := gB_ok h5; obtain ⟨b9, _, rfl, h7⟩ := gI_ok h6; obtain ⟨b10, _, rfl, h8⟩ := gI_ok h7; obtain ⟨b11, _, rfl, h9⟩ := gL_ok h8; obtain ⟨b12, _, rfl, h10⟩ := gS_ok h9; obtain ⟨b13, _, rfl, h11⟩ := gI_ok h10; obtain ⟨b14, _, rfl, h12⟩ := gI_ok h11; obtain ⟨b15, _, rfl, h13⟩ := gB_ok h12; obtain ⟨b16, _, rfl, h14⟩ := gI_ok h13; obtain ⟨b17, _, rfl, h15⟩ := gI_ok h14; obtain ⟨b18, _, rfl, h16⟩ := gL_ok h15; obtain ⟨rfl, h17⟩ := gE_ok h16
  cases h17; rfl
def run10 {R : Type} : SF R := ⟨pa10, sr10, fun ls K => (gI (fun a0 => gI (fun a1 => gL [.int .i64, .int .u8, .int .i64, .int .i64, .int .i64, .int .i64, .bool, .bool, .int .i64, .int .i64, .sl [.int .i64], .str, .int .i64, .int .i64, .bool, .int .i64, .int .u8, .int .i64, .int .i64, .int .i64] (fun a2 => gI (fun a3 => gI (fun a4 => gI (fun a5 => gI (fun a6 => gI (fun a7 => gB (fun a8 => gB (fun a9 => gI (fun a10 => gI (fun a11 => gL [.int .i64] (fun a12 => gS (fun a13 => gI (fun a14 => gI (fun a15 => gB (fun a16 => gI (fun a17 => gI (fun a18 => gI (fun a19 => gI (fun a20 => gE (Option.bind (F10 FUEL a0 a1 a2 a3 a4 a5 a6 a7 a8 a9 a10 a11 a12 a13 a14 a15 a16 a17 a18 a19 a20) fun y => K (ofB10 y)))))))))))))))))))))))) ls⟩
def sh10_0 : Shape := ⟨[(79, [(5, .ref 0 0), (10, .ref 1 0), (11, .ref 2 0), (13, .i .i64)])], [.cells [.i .i64, .i .i64, .sl false [.int .i64, .int .u8, .int .i64, .int .i64, .int .i64, .int .i64, .bool, .bool, .int .i64, .int .i64, .sl [.int .i64], .str, .int .i64, .int .i64, .bool, .int .i64, .int .u8, .int .i64, .int .i64, .int .i64]], .cells [.i .i64, .i .i64, .nil], .cells [.i .u8, .i .i64, .i .i64, .i .i64, .i .i64, .b, .b, .i .i64, .i .i64, .nil, .s, .i .i64, .i .i64, .b, .i .i64]]⟩
def g10_0 (n : Nat) : List Leaf → Option (Si7b2i2lsi2bi2l_i6b2i2lsi2bi5_) := gI (fun x0 => gI (fun x1 => gI (fun x2 => gL [.int .i64, .int .u8, .int .i64, .int .i64, .int .i64, .int .i64, .bool, .bool, .int .i64, .int .i64, .sl [.int .i64], .str, .int .i64, .int .i64, .bool, .int .i64, .int .u8, .int .i64, .int .i64, .int .i64] (fun x3 => gI (fun x4 => gI (fun x5 => gI (fun x6 => gI (fun x7 => gI (fun x8 => gI (fun x9 => gI (fun x10 => gB (fun x11 => gB (fun x12 => gI (fun x13 => gI (fun x14 => gS (fun x15 => gI (fun x16 => gI (fun x17 => gB (fun x18 => gI (fun x19 => gE (F10_c0 n x0 x1 x2 x3 x4 x5 x6 x7 x8 x9 x10 x11 x12 x13 x14 x15 x16 x17 x18 x19)))))))))))))))))))))
def cuts10 : List (List Nat × Cut (Si7b2i2lsi2bi2l_i6b2i2lsi2bi5_)) := [([1, 10], ⟨sh10_0, g10_0⟩)]
noncomputable def X10 : Px (Si7b2i2lsi2bi2l_i6b2i2lsi2bi5_) := ⟨T, Tryd.prog, lkF [(17, run17), (28, run28), (29, run29), (30, run30), (31, run31), (27, run27), (32, run32)], mkCuts 10 cuts10, altN, altN_ok⟩
theorem e10_0 (n : Nat) (x0 x1 x2 : Int) (x3 : List (Int × Int × Int × Int × Int × Int × Bool × Bool × Int × Int × (List (Int)) × ByteArray × Int × Int × Bool × Int × Int × Int × Int × Int)) (x4 x5 x6 x7 x8 x9 x10 : Int) (x11 x12 : Bool) (x13 x14 : Int) (x15 : ByteArray) (x16 x17 : Int) (x18 : Bool) (x19 : Int) : stepF X10 8 10 (endK sr10 toB10) [1, 10] sh10_0 n [.i x0, .i x1, .i x2, .l [.int .i64, .int .u8, .int .i64, .int .i64, .int .i64, .int .i64, .bool, .bool, .int .i64, .int .i64, .sl [.int .i64], .str, .int .i64, .int .i64, .bool, .int .i64, .int .u8, .int .i64, .int .i64, .int .i64] x3, .i x4, .i x5, .i x6, .i x7, .i x8, .i x9, .i x10, .b x11, .b x12, .i x13, .i x14, .s x15, .i x16, .i x17, .b x18, .i x19] = F10_c0 (n + 1) x0 x1 x2 x3 x4 x5 x6 x7 x8 x9 x10 x11 x12 x13 x14 x15 x16 x17 x18 x19 := by kernel_rfl
theorem e10 (n : Nat) (a0 a1 : Int) (a2 : List (Int × Int × Int × Int × Int × Int × Bool × Bool × Int × Int × (List (Int)) × ByteArray × Int × Int × Bool × Int × Int × Int × Int × Int)) (a3 a4 a5 a6 a7 : Int) (a8 a9 : Bool) (a10 a11 : Int) (a12 : List (Int)) (a13 : ByteArray) (a14 a15 : Int) (a16 : Bool) (a17 a18 a19 a20 : Int) : entF X10 8 10 pa10 (endK sr10 toB10) n [.i a0, .i a1, .l [.int .i64, .int .u8, .int .i64, .int .i64, .int .i64, .int .i64, .bool, .bool, .int .i64, .int .i64, .sl [.int .i64], .str, .int .i64, .int .i64, .bool, .int .i64, .int .u8, .int .i64, .int .i64, .int .i64] a2, .i a3, .i a4, .i a5, .i a6, .i a7, .b a8, .b a9, .i a10, .i a11, .l [.int .i64] a12, .s a13, .i a14, .i a15, .b a16, .i a17, .i a18, .i a19, .i a20] = F10 n a0 a1 a2 a3 a4 a5 a6 a7 a8 a9 a10 a11 a12 a13 a14 a15 a16 a17 a18 a19 a20 := by kernel_rfl
theorem c10_0 : CutOK X10 8 10 (endK sr10 toB10) [1, 10] ⟨sh10_0, g10_0⟩ := by
  refine ⟨fun ls => ?_, fun n ls r h => ?_⟩
  · cases h : g10_0 0 ls with
    | none => exact h
    | some r =>
      unfold g10_0 at h; obtain ⟨x0, _, rfl, h1⟩ := gI_ok h; obtain ⟨x1, _, rfl, h2⟩ := gI_ok h1; obtain ⟨x2, _, rfl, h3⟩ := gI_ok h2; obtain ⟨x3, _, rfl, h4⟩ := gL_ok h3; obtain ⟨x4, x5, x6, x7, _, rfl, h5⟩ := gI4_ok h4; obtain ⟨x8, _, rfl, h6⟩ := gI_ok h5; obtain ⟨x9, _, rfl, h7⟩ := gI_ok h6; obtain ⟨x10, _, rfl, h8⟩ := gI_ok h7; obtain ⟨x11, _, rfl, h9⟩ := gB_ok h8; obtain ⟨x12, _, rfl, h10⟩ := gB_ok h9; obtain ⟨x13, _, rfl, h11⟩ := gI_ok h10; obtain ⟨x14, _, rfl, h12⟩ := gI_ok h11; obtain ⟨x15, _, rfl, h13⟩ := gS_ok h12; obtain ⟨x16, _, rfl, h14⟩ := gI_ok h13; obtain ⟨x17, _, rfl, h15⟩ := gI_ok h14; obtain ⟨x18, _, rfl, h16⟩ := gB_ok h15; obtain ⟨x19, _, rfl, h17⟩ := gI_ok h16; obtain ⟨rfl, h18⟩ := gE_ok h17; simp only [F10_c0] at h18; cases h18
  · replace h : g10_0 (n + 1) ls = some r := h
    unfold g10_0 at h
    obtain ⟨x0, _, rfl, h1⟩ := gI_ok h; obtain ⟨x1, _, rfl, h2⟩ := gI_ok h1; obtain ⟨x2, _, rfl, h3⟩ := gI_ok h2; obtain ⟨x3, _, rfl, h4⟩ := gL_ok h3; obtain ⟨x4, x5, x6, x7, _, rfl, h5⟩ := gI4_ok h4; obtain ⟨x8, _, rfl, h6⟩ := gI_ok h5; obtain ⟨x9, _, rfl, h7⟩ := gI_ok h6; obtain ⟨x10, _, rfl, h8⟩ := gI_ok h7; obtain ⟨x11, _, rfl, h9⟩ := gB_ok h8; obtain ⟨x12, _, rfl, h10⟩ := gB_ok h9; obtain ⟨x13, _, rfl, h11⟩ := gI_ok h10; obtain ⟨x14, _, rfl, h12⟩ := gI_ok h11; obtain ⟨x15, _, rfl, h13⟩ := gS_ok h12; obtain ⟨x16, _, rfl, h14⟩ := gI_ok h13; obtain ⟨x17, _, rfl, h15⟩ := gI_ok h14; obtain ⟨x18, _, rfl, h16⟩ := gB_ok h15; obtain ⟨x19, _, rfl, h17⟩ := gI_ok h16; obtain ⟨rfl, h18⟩ := gE_ok h17
    exact (e10_0 n x0 x1 x2 x3 x4 x5 x6 x7 x8 x9 x10 x11 x12 x13 x14 x15 x16 x17 x18 x19).trans h18
theorem sp10 {n : Nat} (a0 a1 : Int) (a2 : List (Int × Int × Int × Int × Int × Int × Bool × Bool × Int × Int × (List (Int)) × ByteArray × Int × Int × Bool × Int × Int × Int × Int × Int)) (a3 a4 a5 a6 a7 : Int) (a8 a9 : Bool) (a10 a11 : Int) (a12 : List (Int)) (a13 : ByteArray) (a14 a15 : Int) (a16 : Bool) (a17 a18 a19 a20 : Int) {y : Si7b2i2lsi2bi2l_i6b2i2lsi2bi5_} (h : F10 n a0 a1 a2 a3 a4 a5 a6 a7 a8 a9 a10 a11 a12 a13 a14 a15 a16 a17 a18 a19 a20 = some y) : SpecF T Tryd.prog 10 pa10 [.i a0, .i a1, .l [.int .i64, .int .u8, .int .i64, .int .i64, .int .i64, .int .i64, .bool, .bool, .int .i64, .int .i64, .sl [.int .i64], .str, .int .i64, .int .i64, .bool, .int .i64, .int .u8, .int .i64, .int .i64, .int .i64] a2, .i a3, .i a4, .i a5, .i a6, .i a7, .b a8, .b a9, .i a10, .i a11, .l [.int .i64] a12, .s a13, .i a14, .i a15, .b a16, .i a17, .i a18, .i a19, .i a20] sr10 (ofB10 y) :=
  fun_ok (X := X10) tok (sfok_of ⟨ok17, ok28, ok29, ok30, ok31, ok27, ok32, trivial⟩) mixed 10 8 cuts10 rfl toB10_ok ⟨c10_0, trivial⟩ ((e10 n a0 a1 a2 a3 a4 a5 a6 a7 a8 a9 a10 a11 a12 a13 a14 a15 a16 a17 a18 a19 a20).trans h)
theorem ok10 {R : Type} : SFone T Tryd.prog 10 (run10 : SF R) := by
  intro ls K r h
  simp only [run10] at h
  obtain ⟨a0, _, rfl, h1⟩ := gI_ok h; obtain ⟨a1, _, rfl, h2⟩ := gI_ok h1; obtain ⟨a2, _, rfl, h3⟩ := gL_ok h2; obtain ⟨a3, a4, a5, a6, _, rfl, h4⟩ := gI4_ok h3; obtain ⟨a7, _, rfl, h5⟩ := gI_ok h4; obtain ⟨a8, _, rfl, h6⟩ := gB_ok h5; obtain ⟨a9, _, rfl, h7⟩ := gB_ok h6; obtain ⟨a10, _, rfl, h8⟩ := gI_ok h7; obtain ⟨a11, _, rfl, h9⟩ := gI_ok h8; obtain ⟨a12, _, rfl, h10⟩ := gL_ok h9; obtain ⟨a13, _, rfl, h11⟩ := gS_ok h10; obtain ⟨a14, _, rfl, h12⟩ := gI_ok h11; obtain ⟨a15, _, rfl, h13⟩ := gI_ok h12; obtain ⟨a16, _, rfl, h14⟩ := gB_ok h13; obtain ⟨a17, a18, a19, a20, _, rfl, h15⟩ := gI4_ok h14; obtain ⟨rfl, h16⟩ := gE_ok h15
  obtain ⟨y, k1, k2⟩ := Option.bind_eq_some_iff.1 h16
  exact ⟨_, k2, sp10 a0 a1 a2 a3 a4 a5 a6 a7 a8 a9 a10 a11 a12 a13 a14 a15 a16 a17 a18 a19 a20 k1⟩

/-! ### garland/garlandref06.Asks -/
def pa37 : List VP := [.agg [.i .u8, .i .i64, .i .i64, .i .i64, .i .i64, .b, .b, .i .i64, .i .i64, .sl false [.int .i64], .s, .i .i64, .i .i64, .b, .i .i64]]
def sr37 : RShape := ⟨.b, [], none⟩
def toB37 : List Leaf → Option (Bool) := gB (fun b0 => gE (some b0))
def ofB37 (y : Bool) : List Leaf := [.b y]
theorem toB37_ok : ∀ ls b, toB37 ls = some b → ls = ofB37 b := by
  intro ls b h
  unfold toB37 at h
  obtain ⟨b0, _, rfl, h1⟩ := gB_ok h; obtain ⟨rfl, h2⟩ := gE_ok h1
  cases h2; rfl
def run37 {R : Type} : SF R := ⟨pa37, sr37, fun ls K => (gI (fun a0 => gI (fun a1 => gI (fun a2 => gI (fun a3 => gI (fun a4 => gB (fun a5 => gB (fun a6 => gI (fun a7 => gI (fun a8 => gL [.int .i64] (fun a9 => gS (fun a10 => gI (fun a11 => gI (fun a12 => gB (fun a13 => gI (fun a14 => gE (Option.bind (F37 FUEL a0 a1 a2 a3 a4 a5 a6 a7 a8 a9 a10 a11 a12 a13 a14) fun y => K (ofB37 y)))))))))))))))))) ls⟩
def cuts37 : List (List Nat × Cut (Bool)) := []
noncomputable def X37 : Px (Bool) := ⟨T, Tryd.prog, lkF [], mkCuts 37 cuts37, altN, altN_ok⟩
theorem e37 (n : Nat) (a0 a1 a2 a3 a4 : Int) (a5 a6 : Bool) (a7 a8 : Int) (a9 : List (Int)) (a10 : ByteArray) (a11 a12 : Int) (a13 : Bool) (a14 : Int) : entF X37 8 37 pa37 (endK sr37 toB37) n [.i a0, .i a1, .i a2, .i a3, .i a4, .b a5, .b a6, .i a7, .i a8, .l [.int .i64] a9, .s a10, .i a11, .i a12, .b a13, .i a14] = F37 n a0 a1 a2 a3 a4 a5 a6 a7 a8 a9 a10 a11 a12 a13 a14 := by kernel_rfl
theorem sp37 {n : Nat} (a0 a1 a2 a3 a4 : Int) (a5 a6 : Bool) (a7 a8 : Int) (a9 : List (Int)) (a10 : ByteArray) (a11 a12 : Int) (a13 : Bool) (a14 : Int) {y : Bool} (h : F37 n a0 a1 a2 a3 a4 a5 a6 a7 a8 a9 a10 a11 a12 a13 a14 = some y) : SpecF T Tryd.prog 37 pa37 [.i a0, .i a1, .i a2, .i a3, .i a4, .b a5, .b a6, .i a7, .i a8, .l [.int .i64] a9, .s a10, .i a11, .i a12, .b a13, .i a14] sr37 (ofB37 y) :=
  fun_ok (X := X37) tok (sfok_of trivial) mixed 37 8 cuts37 rfl toB37_ok trivial ((e37 n a0 a1 a2 a3 a4 a5 a6 a7 a8 a9 a10 a11 a12 a13 a14).trans h)
theorem ok37 {R : Type} : SFone T Tryd.prog 37 (run37 : SF R) := by
  intro ls K r h
  simp only [run37] at h
  obtain ⟨a0, a1, a2, a3, _, rfl, h1⟩ := gI4_ok h; obtain ⟨a4, _, rfl, h2⟩ := gI_ok h1; obtain ⟨a5, _, rfl, h3⟩ := gB_ok h2; obtain ⟨a6, _, rfl, h4⟩ := gB_ok h3; obtain ⟨a7, _, rfl, h5⟩ := gI_ok h4; obtain ⟨a8, _, rfl, h6⟩ := gI_ok h5; obtain ⟨a9, _, rfl, h7⟩ := gL_ok h6; obtain ⟨a10, _, rfl, h8⟩ := gS_ok h7; obtain ⟨a11, _, rfl, h9⟩ := gI_ok h8; obtain ⟨a12, _, rfl, h10⟩ := gI_ok h9; obtain ⟨a13, _, rfl, h11⟩ := gB_ok h10; obtain ⟨a14, _, rfl, h12⟩ := gI_ok h11; obtain ⟨rfl, h13⟩ := gE_ok h12
  obtain ⟨y, k1, k2⟩ := Option.bind_eq_some_iff.1 h13
  exact ⟨_, k2, sp37 a0 a1 a2 a3 a4 a5 a6 a7 a8 a9 a10 a11 a12 a13 a14 k1⟩

/-! ### garland/garlandref06.Tell -/
def pa13 : List VP := [.agg [.i .u8, .i .i64, .i .i64, .i .i64, .i .i64, .b, .b, .i .i64, .i .i64, .sl false [.int .i64], .s, .i .i64, .i .i64, .b, .i .i64]]
def sr13 : RShape := ⟨.agg [.i .u8, .i .i64, .i .i64, .i .i64, .i .i64, .b, .b, .i .i64, .i .i64, .nil, .s, .i .i64, .i .i64, .b, .i .i64], [], none⟩
def toB13 : List Leaf → Option (Si5b2i2si2bi) := gI (fun b0 => gI (fun b1 => gI (fun b2 => gI (fun b3 => gI (fun b4 => gB (fun b5 => gB (fun b6 => gI (fun b7 => gI (fun b8 => gS (fun b9 => gI (fun b10 => gI (fun b11 => gB (fun b12 => gI (fun b13 => gE (some ⟨b0, b1, b2, b3, b4, b5, b6, b7, b8, b9, b10, b11, b12, b13⟩)))))))))))))))
def ofB13 (y : Si5b2i2si2bi) : List Leaf := [.i y.q0, .i y.q1, .i y.q2, .i y.q3, .i y.q4, .b y.q5, .b y.q6, .i y.q7, .i y.q8, .s y.q9, .i y.q10, .i y.q11, .b y.q12, .i y.q13]
theorem toB13_ok : ∀ ls b, toB13 ls = some b → ls = ofB13 b := by
  intro ls b h
  unfold toB13 at h
  obtain ⟨b0, b1, b2, b3, _, rfl, h1⟩ := gI4_ok h; obtain ⟨b4, _, rfl, h2⟩ := gI_ok h1; obtain ⟨b5, _, rfl, h3⟩ := gB_ok h2; obtain ⟨b6, _, rfl, h4⟩ := gB_ok h3; obtain ⟨b7, _, rfl, h5⟩ := gI_ok h4; obtain ⟨b8, _, rfl, h6⟩ := gI_ok h5; obtain ⟨b9, _, rfl, h7⟩ := gS_ok h6; obtain ⟨b10, _, rfl, h8⟩ := gI_ok h7; obtain ⟨b11, _, rfl, h9⟩ := gI_ok h8; obtain ⟨b12, _, rfl, h10⟩ := gB_ok h9; obtain ⟨b13, _, rfl, h11⟩ := gI_ok h10; obtain ⟨rfl, h12⟩ := gE_ok h11
  cases h12; rfl
def run13 {R : Type} : SF R := ⟨pa13, sr13, fun ls K => (gI (fun a0 => gI (fun a1 => gI (fun a2 => gI (fun a3 => gI (fun a4 => gB (fun a5 => gB (fun a6 => gI (fun a7 => gI (fun a8 => gL [.int .i64] (fun a9 => gS (fun a10 => gI (fun a11 => gI (fun a12 => gB (fun a13 => gI (fun a14 => gE (Option.bind (F13 FUEL a0 a1 a2 a3 a4 a5 a6 a7 a8 a9 a10 a11 a12 a13 a14) fun y => K (ofB13 y)))))))))))))))))) ls⟩
def cuts13 : List (List Nat × Cut (Si5b2i2si2bi)) := []
noncomputable def X13 : Px (Si5b2i2si2bi) := ⟨T, Tryd.prog, lkF [(37, run37)], mkCuts 13 cuts13, altN, altN_ok⟩
theorem e13 (n : Nat) (a0 a1 a2 a3 a4 : Int) (a5 a6 : Bool) (a7 a8 : Int) (a9 : List (Int)) (a10 : ByteArray) (a11 a12 : Int) (a13 : Bool) (a14 : Int) : entF X13 8 13 pa13 (endK sr13 toB13) n [.i a0, .i a1, .i a2, .i a3, .i a4, .b a5, .b a6, .i a7, .i a8, .l [.int .i64] a9, .s a10, .i a11, .i a12, .b a13, .i a14] = F13 n a0 a1 a2 a3 a4 a5 a6 a7 a8 a9 a10 a11 a12 a13 a14 := by kernel_rfl
theorem sp13 {n : Nat} (a0 a1 a2 a3 a4 : Int) (a5 a6 : Bool) (a7 a8 : Int) (a9 : List (Int)) (a10 : ByteArray) (a11 a12 : Int) (a13 : Bool) (a14 : Int) {y : Si5b2i2si2bi} (h : F13 n a0 a1 a2 a3 a4 a5 a6 a7 a8 a9 a10 a11 a12 a13 a14 = some y) : SpecF T Tryd.prog 13 pa13 [.i a0, .i a1, .i a2, .i a3, .i a4, .b a5, .b a6, .i a7, .i a8, .l [.int .i64] a9, .s a10, .i a11, .i a12, .b a13, .i a14] sr13 (ofB13 y) :=
  fun_ok (X := X13) tok (sfok_of ⟨ok37, trivial⟩) mixed 13 8 cuts13 rfl toB13_ok trivial ((e13 n a0 a1 a2 a3 a4 a5 a6 a7 a8 a9 a10 a11 a12 a13 a14).trans h)
theorem ok13 {R : Type} : SFone T Tryd.prog 13 (run13 : SF R) := by
  intro ls K r h
  simp only [run13] at h
  obtain ⟨a0, a1, a2, a3, _, rfl, h1⟩ := gI4_ok h; obtain ⟨a4, _, rfl, h2⟩ := gI_ok h1; obtain ⟨a5, _, rfl, h3⟩ := gB_ok h2; obtain ⟨a6, _, rfl, h4⟩ := gB_ok h3; obtain ⟨a7, _, rfl, h5⟩ := gI_ok h4; obtain ⟨a8, _, rfl, h6⟩ := gI_ok h5; obtain ⟨a9, _, rfl, h7⟩ := gL_ok h6; obtain ⟨a10, _, rfl, h8⟩ := gS_ok h7; obtain ⟨a11, _, rfl, h9⟩ := gI_ok h8; obtain ⟨a12, _, rfl, h10⟩ := gI_ok h9; obtain ⟨a13, _, rfl, h11⟩ := gB_ok h10; obtain ⟨a14, _, rfl, h12⟩ := gI_ok h11; obtain ⟨rfl, h13⟩ := gE_ok h12
  obtain ⟨y, k1, k2⟩ := Option.bind_eq_some_iff.1 h13
  exact ⟨_, k2, sp13 a0 a1 a2 a3 a4 a5 a6 a7 a8 a9 a10 a11 a12 a13 a14 k1⟩

/-! ### garland/calls.isOf -/
def pa40 : List VP := [.agg [.i .i64, .i .i64, .sl false [.int .i64, .int .u8, .int .i64, .int .i64, .int .i64, .int .i64, .bool, .bool, .int .i64, .int .i64, .sl [.int .i64], .str, .int .i64, .int .i64, .bool, .int .i64, .int .u8, .int .i64, .int .i64, .int .i64]], .agg [.i .i64, .i .u8, .i .i64, .i .i64, .i .i64, .i .i64, .b, .b, .i .i64, .i .i64, .sl false [.int .i64], .s, .i .i64, .i .i64, .b, .i .i64, .i .u8, .i .i64, .i .i64, .i .i64], .agg [.i .u8, .i .i64, .i .i64, .i .i64, .i .i64, .b, .b, .i .i64, .i .i64, .sl false [.int .i64], .s, .i .i64, .i .i64, .b, .i .i64]]
def sr40 : RShape := ⟨.b, [], none⟩
def toB40 : List Leaf → Option (Bool) := gB (fun b0 => gE (some b0))
def ofB40 (y : Bool) : List Leaf := [.b y]
theorem toB40_ok : ∀ ls b, toB40 ls = some b → ls = ofB40 b := by
  intro ls b h
  unfold toB40 at h
  obtain ⟨b0, _, rfl, h1⟩ := gB_ok h; obtain ⟨rfl, h2⟩ := gE_ok h1
  cases h2; rfl
def run40 {R : Type} : SF R := ⟨pa40, sr40, fun ls K => (gI (fun a0 => gI (fun a1 => gL [.int .i64, .int .u8, .int .i64, .int .i64, .int .i64, .int .i64, .bool, .bool, .int .i64, .int .i64, .sl [.int .i64], .str, .int .i64, .int .i64, .bool, .int .i64, .int .u8, .int .i64, .int .i64, .int .i64] (fun a2 => gI (fun a3 => gI (fun a4 => gI (fun a5 => gI (fun a6 => gI (fun a7 => gI (fun a8 => gB (fun a9 => gB (fun a10 => gI (fun a11 => gI (fun a12 => gL [.int .i64] (fun a13 => gS (fun a14 => gI (fun a15 => gI (fun a16 => gB (fun a17 => gI (fun a18 => gI (fun a19 => gI (fun a20 => gI (fun a21 => gI (fun a22 => gI (fun a23 => gI (fun a24 => gI (fun a25 => gI (fun a26 => gI (fun a27 => gB (fun a28 => gB (fun a29 => gI (fun a30 => gI (fun a31 => gL [.int .i64] (fun a32 => gS (fun a33 => gI (fun a34 => gI (fun a35 => gB (fun a36 => gI (fun a37 => gE (Option.bind (F40 FUEL a0 a1 a2 a3 a4 a5 a6 a7 a8 a9 a10 a11 a12 a13 a14 a15 a16 a17 a18 a19 a20 a21 a22 a23 a24 a25 a26 a27 a28 a29 a30 a31 a32 a33 a34 a35 a36 a37) fun y => K (ofB40 y))))))))))))))))))))))))))))))))))))))))) ls⟩
def cuts40 : List (List Nat × Cut (Bool)) := []
noncomputable def X40 : Px (Bool) := ⟨T, Tryd.prog, lkF [], mkCuts 40 cuts40, altN, altN_ok⟩
theorem e40 (n : Nat) (a0 a1 : Int) (a2 : List (Int × Int × Int × Int × Int × Int × Bool × Bool × Int × Int × (List (Int)) × ByteArray × Int × Int × Bool × Int × Int × Int × Int × Int)) (a3 a4 a5 a6 a7 a8 : Int) (a9 a10 : Bool) (a11 a12 : Int) (a13 : List (Int)) (a14 : ByteArray) (a15 a16 : Int) (a17 : Bool) (a18 a19 a20 a21 a22 a23 a24 a25 a26 a27 : Int) (a28 a29 : Bool) (a30 a31 : Int) (a32 : List (Int)) (a33 : ByteArray) (a34 a35 : Int) (a36 : Bool) (a37 : Int) : entF X40 8 40 pa40 (endK sr40 toB40) n [.i a0, .i a1, .l [.int .i64, .int .u8, .int .i64, .int .i64, .int .i64, .int .i64, .bool, .bool, .int .i64, .int .i64, .sl [.int .i64], .str, .int .i64, .int .i64, .bool, .int .i64, .int .u8, .int .i64, .int .i64, .int .i64] a2, .i a3, .i a4, .i a5, .i a6, .i a7, .i a8, .b a9, .b a10, .i a11, .i a12, .l [.int .i64] a13, .s a14, .i a15, .i a16, .b a17, .i a18, .i a19, .i a20, .i a21, .i a22, .i a23, .i a24, .i a25, .i a26, .i a27, .b a28, .b a29, .i a30, .i a31, .l [.int .i64] a32, .s a33, .i a34, .i a35, .b a36, .i a37] = F40 n a0 a1 a2 a3 a4 a5 a6 a7 a8 a9 a10 a11 a12 a13 a14 a15 a16 a17 a18 a19 a20 a21 a22 a23 a24 a25 a26 a27 a28 a29 a30 a31 a32 a33 a34 a35 a36 a37 := by kernel_rfl
theorem sp40 {n : Nat} (a0 a1 : Int) (a2 : List (Int × Int × Int × Int × Int × Int × Bool × Bool × Int × Int × (List (Int)) × ByteArray × Int × Int × Bool × Int × Int × Int × Int × Int)) (a3 a4 a5 a6 a7 a8 : Int) (a9 a10 : Bool) (a11 a12 : Int) (a13 : List (Int)) (a14 : ByteArray) (a15 a16 : Int) (a17 : Bool) (a18 a19 a20 a21 a22 a23 a24 a25 a26 a27 : Int) (a28 a29 : Bool) (a30 a31 : Int) (a32 : List (Int)) (a33 : ByteArray) (a34 a35 : Int) (a36 : Bool) (a37 : Int) {y : Bool} (h : F40 n a0 a1 a2 a3 a4 a5 a6 a7 a8 a9 a10 a11 a12 a13 a14 a15 a16 a17 a18 a19 a20 a21 a22 a23 a24 a25 a26 a27 a28 a29 a30 a31 a32 a33 a34 a35 a36 a37 = some y) : SpecF T Tryd.prog 40 pa40 [.i a0, .i a1, .l [.int .i64, .int .u8, .int .i64, .int .i64, .int .i64, .int .i64, .bool, .bool, .int .i64, .int .i64, .sl [.int .i64], .str, .int .i64, .int .i64, .bool, .int .i64, .int .u8, .int .i64, .int .i64, .int .i64] a2, .i a3, .i a4, .i a5, .i a6, .i a7, .i a8, .b a9, .b a10, .i a11, .i a12, .l [.int .i64] a13, .s a14, .i a15, .i a16, .b a17, .i a18, .i a19, .i a20, .i a21, .i a22, .i a23, .i a24, .i a25, .i a26, .i a27, .b a28, .b a29, .i a30, .i a31, .l [.int .i64] a32, .s a33, .i a34, .i a35, .b a36, .i a37] sr40 (ofB40 y) :=
  fun_ok (X := X40) tok (sfok_of trivial) mixed 40 8 cuts40 rfl toB40_ok trivial ((e40 n a0 a1 a2 a3 a4 a5 a6 a7 a8 a9 a10 a11 a12 a13 a14 a15 a16 a17 a18 a19 a20 a21 a22 a23 a24 a25 a26 a27 a28 a29 a30 a31 a32 a33 a34 a35 a36 a37).trans h)
theorem ok40 {R : Type} : SFone T Tryd.prog 40 (run40 : SF R) := by
  intro ls K r h
  simp only [run40] at h
  obtain ⟨a0, _, rfl, h1⟩ := gI_ok h; obtain ⟨a1, _, rfl, h2⟩ := gI_ok h1; obtain ⟨a2, _, rfl, h3⟩ := gL_ok h2; obtain ⟨a3, a4, a5, a6, _, rfl, h4⟩ := gI4_ok h3; obtain ⟨a7, _, rfl, h5⟩ := gI_ok h4; obtain ⟨a8, _, rfl, h6⟩ := gI_ok h5; obtain ⟨a9, _, rfl, h7⟩ := gB_ok h6; obtain ⟨a10, _, rfl, h8⟩ := gB_ok h7; obtain ⟨a11, _, rfl, h9⟩ := gI_ok h8; obtain ⟨a12, _, rfl, h10⟩ := gI_ok h9; obtain ⟨a13, _, rfl, h11⟩ := gL_ok h10; obtain ⟨a14, _, rfl, h12⟩ := gS_ok h11; obtain ⟨a15, _, rfl, h13⟩ := gI_ok h12; obtain ⟨a16, _, rfl, h14⟩ := gI_ok h13; obtain ⟨a17, _, rfl, h15⟩ := gB_ok h14; obtain ⟨a18, a19, a20, a21, a22, a23, a24, a25, _, rfl, h16⟩ := gI8_ok h15; obtain ⟨a26, _, rfl, h17⟩ := gI_ok h16; obtain ⟨a27, _, rfl, h18⟩ := gI_ok h17; obtain ⟨a28, _, rfl, h19⟩ := gB_ok h18; obtain ⟨a29, _, rfl, h20⟩ := gB_ok h19; obtain ⟨a30, _, rfl, h21⟩ := gI_ok h20; obtain ⟨a31, _, rfl, h22⟩ := gI_ok h21; obtain ⟨a32, _, rfl, h23⟩ := gL_ok h22; obtain ⟨a33, _, rfl, h24⟩ := gS_ok h23; obtain ⟨a34, _, rfl, h25⟩ := gI_ok h24; obtain ⟨a35, _, rfl, h26⟩ := gI_ok h25; obtain ⟨a36, _, rfl, h27⟩ := gB_ok h26; obtain ⟨a37, _, rfl, h28⟩ := gI_ok h27; obtain ⟨rfl, h29⟩ := gE_ok h28
  obtain ⟨y, k1, k2⟩ := Option.bind_eq_some_iff.1 h29
  exact ⟨_, k2, sp40 a0 a1 a2 a3 a4 a5 a6 a7 a8 a9 a10 a11 a12 a13 a14 a15 a16 a17 a18 a19 a20 a21 a22 a23 a24 a25 a26 a27 a28 a29 a30 a31 a32 a33 a34 a35 a36 a37 k1⟩

/-! ### garland/calls.Close -/
def pa14 : List VP := [.agg [.i .i64, .i .i64, .sl false [.int .i64, .int .u8, .int .i64, .int .i64, .int .i64, .int .i64, .bool, .bool, .int .i64, .int .i64, .sl [.int .i64], .str, .int .i64, .int .i64, .bool, .int .i64, .int .u8, .int .i64, .int .i64, .int .i64]], .agg [.i .u8, .i .i64, .i .i64, .i .i64, .i .i64, .b, .b, .i .i64, .i .i64, .sl false [.int .i64], .s, .i .i64, .i .i64, .b, .i .i64]]
def sr14 : RShape := ⟨.tup [.agg [.i .i64, .i .i64, .row 0], .agg [.i .i64, .i .u8, .i .i64, .i .i64, .i .i64, .i .i64, .b, .b, .i .i64, .i .i64, .sl true [.int .i64], .s, .i .i64, .i .i64, .b, .i .i64, .i .u8, .i .i64, .i .i64, .i .i64], .b], [.row true [.int .i64, .int .u8, .int .i64, .int .i64, .int .i64, .int .i64, .bool, .bool, .int .i64, .int .i64, .sl [.int .i64], .str, .int .i64, .int .i64, .bool, .int .i64, .int .u8, .int .i64, .int .i64, .int .i64]], none⟩
def toB14 : List Leaf → Option (Si8b2i2lsi2bi5bl_i6b2i2lsi2bi5_) := gI (fun b0 => gI (fun b1 => gI (fun b2 => gI (fun b3 => gI (fun b4 => gI (fun b5 => gI (fun b6 => gI (fun b7 => gB (fun b8 => gB (fun b9 => gI (fun b10 => gI (fun b11 => gL [.int .i64] (fun b12 => gS (fun b13 => gI (fun b14 => gI (fun b15 => gB (fun b16 => gI (fun b17 => gI (fun b18 => gI (fun b19 => gI (fun b20 => gI (fun b21 => gB (fun b22 => gL [.int .i64, .int .u8, .int .i64, .int .i64, .int .i64, .int .i64, .bool, .bool, .int .i64, .int .i64, .sl [.int .i64], .str, .int .i64, .int .i64, .bool, .int .i64, .int .u8, .int .i64, .int .i64, .int .i64] (fun b23 => gE (some ⟨b0, b1, b2, b3, b4, b5, b6, b7, b8, b9, b10, b11, b12, b13, b14, b15, b16, b17, b18, b19, b20, b21, b22, b23⟩)))))))))))))))))))))))))
def ofB14 (y : Si8b2i2lsi2bi5bl_i6b2i2lsi2bi5_) : List Leaf := [.i y.q0, .i y.q1, .i y.q2, .i y.q3, .i y.q4, .i y.q5, .i y.q6, .i y.q7, .b y.q8, .b y.q9, .i y.q10, .i y.q11, .l [.int .i64] y.q12, .s y.q13, .i y.q14, .i y.q15, .b y.q16, .i y.q17, .i y.q18, .i y.q19, .i y.q20, .i y.q21, .b y.q22, .l [.int .i64, .int .u8, .int .i64, .int .i64, .int .i64, .int .i64, .bool, .bool, .int .i64, .int .i64, .sl [.int .i64], .str, .int .i64, .int .i64, .bool, .int .i64, .int .u8, .int .i64, .int .i64, .int .i64] y.q23]
theorem toB14_ok : ∀ ls b, toB14 ls = some b → ls = ofB14 b := by
  intro ls b h
  unfold toB14 at h
  obtain ⟨b0, b1, b2, b3, b4, b5, b6, b7, _, rfl, h1⟩ := gI8_ok h; obtain ⟨b8, _, rfl, h2⟩ := gB_ok h1; obtain ⟨b9, _, rfl, h3⟩ := gB_ok h2; obtain ⟨b10, _, rfl, h4⟩ := gI_ok h3; obtain ⟨b11, _, rfl, h5⟩ := gI_ok h4; obtain ⟨b12, _, rfl, h6⟩ := gL_ok h5; obtain ⟨b13, _, rfl, h7⟩ := gS_ok h6; obtain ⟨b14, _, rfl, h8⟩ := gI_ok h7; obtain ⟨b15, _, rfl, h9⟩ := gI_ok h8; obtain ⟨b16, _, rfl, h10⟩ := gB_ok h9; obtain ⟨b17, b18, b19, b20, _, rfl, h11⟩ := gI4_ok h10; obtain ⟨b21, _, rfl, h12⟩ := gI_ok h11; obtain ⟨b22, _, rfl, h13⟩ := gB_ok h12; obtain ⟨b23, _, rfl, h14⟩ := gL_ok h13; obtain ⟨rfl, h15⟩ := gE_ok h14
  cases h15; rfl
def run14 {R : Type} : SF R := ⟨pa14, sr14, fun ls K => (gI (fun a0 => gI (fun a1 => gL [.int .i64, .int .u8, .int .i64, .int .i64, .int .i64, .int .i64, .bool, .bool, .int .i64, .int .i64, .sl [.int .i64], .str, .int .i64, .int .i64, .bool, .int .i64, .int .u8, .int .i64, .int .i64, .int .i64] (fun a2 => gI (fun a3 => gI (fun a4 => gI (fun a5 => gI (fun a6 => gI (fun a7 => gB (fun a8 => gB (fun a9 => gI (fun a10 => gI (fun a11 => gL [.int .i64] (fun a12 => gS (fun a13 => gI (fun a14 => gI (fun a15 => gB (fun a16 => gI (fun a17 => gE (Option.bind (F14 FUEL a0 a1 a2 a3 a4 a5 a6 a7 a8 a9 a10 a11 a12 a13 a14 a15 a16 a17) fun y => K (ofB14 y))))))))))))))))))))) ls⟩
def sh14_0 : Shape := ⟨[(26, [(2, .ref 0 0), (4, .ref 1 0), (5, .ref 2 0)])], [.cells [.i .i64, .i .i64, .sl false [.int .i64, .int .u8, .int .i64, .int .i64, .int .i64, .int .i64, .bool, .bool, .int .i64, .int .i64, .sl [.int .i64], .str, .int .i64, .int .i64, .bool, .int .i64, .int .u8, .int .i64, .int .i64, .int .i64]], .cells [.i .i64, .i .i64, .nil], .cells [.i .i64, .i .u8, .i .i64, .i .i64, .i .i64, .i .i64, .b, .b, .i .i64, .i .i64, .nil, .s, .i .i64, .i .i64, .b, .i .i64, .i .u8, .i .i64, .i .i64, .i .i64]]⟩
def g14_0 (n : Nat) : List Leaf → Option (Si8b2i2lsi2bi5bl_i6b2i2lsi2bi5_) := gI (fun x0 => gI (fun x1 => gL [.int .i64, .int .u8, .int .i64, .int .i64, .int .i64, .int .i64, .bool, .bool, .int .i64, .int .i64, .sl [.int .i64], .str, .int .i64, .int .i64, .bool, .int .i64, .int .u8, .int .i64, .int .i64, .int .i64] (fun x2 => gI (fun x3 => gI (fun x4 => gI (fun x5 => gI (fun x6 => gI (fun x7 => gI (fun x8 => gI (fun x9 => gI (fun x10 => gB (fun x11 => gB (fun x12 => gI (fun x13 => gI (fun x14 => gS (fun x15 => gI (fun x16 => gI (fun x17 => gB (fun x18 => gI (fun x19 => gI (fun x20 => gI (fun x21 => gI (fun x22 => gI (fun x23 => gE (F14_c0 n x0 x1 x2 x3 x4 x5 x6 x7 x8 x9 x10 x11 x12 x13 x14 x15 x16 x17 x18 x19 x20 x21 x22 x23)))))))))))))))))))))))))
def sh14_1 : Shape := ⟨[(18, [(0, .yield 14), (6, .sl false [.int .i64, .int .u8, .int .i64, .int .i64, .int .i64, .int .i64, .bool, .bool, .int .i64, .int .i64, .sl [.int .i64], .str, .int .i64, .int .i64, .bool, .int .i64, .int .u8, .int .i64, .int .i64, .int .i64]), (7, .i .i64), (8, .i .i64)]), (28, [(3, .ref 0 0), (4, .ref 1 0), (5, .ref 2 0)]), (26, [(2, .ref 3 0), (4, .ref 4 0), (5, .ref 5 0), (7, .ref 6 0), (8, .ref 7 0)])], [.cells [.clos 39 [.ref 3 0, .ref 8 0, .ref 6 0, .ref 7 0]], .cells [.i .i64, .i .i64, .nil], .cells [.i .i64, .i .i64, .row 9], .cells [.i .i64, .i .i64, .sl false [.int .i64, .int .u8, .int .i64, .int .i64, .int .i64, .int .i64, .bool, .bool, .int .i64, .int .i64, .sl [.int .i64], .str, .int .i64, .int .i64, .bool, .int .i64, .int .u8, .int .i64, .int .i64, .int .i64]], .cells [.i .i64, .i .i64, .nil], .cells [.i .i64, .i .u8, .i .i64, .i .i64, .i .i64, .i .i64, .b, .b, .i .i64, .i .i64, .nil, .s, .i .i64, .i .i64, .b, .i .i64, .i .u8, .i .i64, .i .i64, .i .i64], .cells [.i .i64, .i .u8, .i .i64, .i .i64, .i .i64, .i .i64, .b, .b, .i .i64, .i .i64, .sl true [.int .i64], .s, .i .i64, .i .i64, .b, .i .i64, .i .u8, .i .i64, .i .i64, .i .i64], .cells [.b], .cells [.i .u8, .i .i64, .i .i64, .i .i64, .i .i64, .b, .b, .i .i64, .i .i64, .sl false [.int .i64], .s, .i .i64, .i .i64, .b, .i .i64], .row true [.int .i64, .int .u8, .int .i64, .int .i64, .int .i64, .int .i64, .bool, .bool, .int .i64, .int .i64, .sl [.int .i64], .str, .int .i64, .int .i64, .bool, .int .i64, .int .u8, .int .i64, .int .i64, .int .i64]]⟩
def g14_1 (n : Nat) : List Leaf → Option (Si8b2i2lsi2bi5bl_i6b2i2lsi2bi5_) := gL [.int .i64, .int .u8, .int .i64, .int .i64, .int .i64, .int .i64, .bool, .bool, .int .i64, .int .i64, .sl [.int .i64], .str, .int .i64, .int .i64, .bool, .int .i64, .int .u8, .int .i64, .int .i64, .int .i64] (fun x0 => gI (fun x1 => gI (fun x2 => gI (fun x3 => gI (fun x4 => gI (fun x5 => gI (fun x6 => gI (fun x7 => gI (fun x8 => gL [.int .i64, .int .u8, .int .i64, .int .i64, .int .i64, .int .i64, .bool, .bool, .int .i64, .int .i64, .sl [.int .i64], .str, .int .i64, .int .i64, .bool, .int .i64, .int .u8, .int .i64, .int .i64, .int .i64] (fun x9 => gI (fun x10 => gI (fun x11 => gI (fun x12 => gI (fun x13 => gI (fun x14 => gI (fun x15 => gI (fun x16 => gI (fun x17 => gB (fun x18 => gB (fun x19 => gI (fun x20 => gI (fun x21 => gS (fun x22 => gI (fun x23 => gI (fun x24 => gB (fun x25 => gI (fun x26 => gI (fun x27 => gI (fun x28 => gI (fun x29 => gI (fun x30 => gI (fun x31 => gI (fun x32 => gI (fun x33 => gI (fun x34 => gI (fun x35 => gI (fun x36 => gB (fun x37 => gB (fun x38 => gI (fun x39 => gI (fun x40 => gL [.int .i64] (fun x41 => gS (fun x42 => gI (fun x43 => gI (fun x44 => gB (fun x45 => gI (fun x46 => gI (fun x47 => gI (fun x48 => gI (fun x49 => gI (fun x50 => gB (fun x51 => gI (fun x52 => gI (fun x53 => gI (fun x54 => gI (fun x55 => gI (fun x56 => gB (fun x57 => gB (fun x58 => gI (fun x59 => gI (fun x60 => gL [.int .i64] (fun x61 => gS (fun x62 => gI (fun x63 => gI (fun x64 => gB (fun x65 => gI (fun x66 => gL [.int .i64, .int .u8, .int .i64, .int .i64, .int .i64, .int .i64, .bool, .bool, .int .i64, .int .i64, .sl [.int .i64], .str, .int .i64, .int .i64, .bool, .int .i64, .int .u8, .int .i64, .int .i64, .int .i64] (fun x67 => gE (F14_c1 n x0 x1 x2 x3 x4 x5 x6 x7 x8 x9 x10 x11 x12 x13 x14 x15 x16 x17 x18 x19 x20 x21 x22 x23 x24 x25 x26 x27 x28 x29 x30 x31 x32 x33 x34 x35 x36 x37 x38 x39 x40 x41 x42 x43 x44 x45 x46 x47 x48 x49 x50 x51 x52 x53 x54 x55 x56 x57 x58 x59 x60 x61 x62 x63 x64 x65 x66 x67)))))))))))))))))))))))))))))))))))))))))))))))))))))))))))))))))))))
def cuts14 : List (List Nat × Cut (Si8b2i2lsi2bi5bl_i6b2i2lsi2bi5_)) := [([1, 10], ⟨sh14_0, g14_0⟩), ([1, 0, 1, 1, 1, 0, 2, 76, 1, 1, 0, 1, 0, 126, 1, 0], ⟨sh14_1, g14_1⟩)]
noncomputable def X14 : Px (Si8b2i2lsi2bi5bl_i6b2i2lsi2bi5_) := ⟨T, Tryd.prog, lkF [(17, run17), (31, run31), (27, run27), (64, run64), (40, run40)], mkCuts 14 cuts14, altN, altN_ok⟩
theorem e14_0 (n : Nat) (x0 x1 : Int) (x2 : List (Int × Int × Int × Int × Int × Int × Bool × Bool × Int × Int × (List (Int)) × ByteArray × Int × Int × Bool × Int × Int × Int × Int × Int)) (x3 x4 x5 x6 x7 x8 x9 x10 : Int) (x11 x12 : Bool) (x13 x14 : Int) (x15 : ByteArray) (x16 x17 : Int) (x18 : Bool) (x19 x20 x21 x22 x23 : Int) : stepF X14 8 14 (endK sr14 toB14) [1, 10] sh14_0 n [.i x0, .i x1, .l [.int .i64, .int .u8, .int .i64, .int .i64, .int .i64, .int .i64, .bool, .bool, .int .i64, .int .i64, .sl [.int .i64], .str, .int .i64, .int .i64, .bool, .int .i64, .int .u8, .int .i64, .int .i64, .int .i64] x2, .i x3, .i x4, .i x5, .i x6, .i x7, .i x8, .i x9, .i x10, .b x11, .b x12, .i x13, .i x14, .s x15, .i x16, .i x17, .b x18, .i x19, .i x20, .i x21, .i x22, .i x23] = F14_c0 (n + 1) x0 x1 x2 x3 x4 x5 x6 x7 x8 x9 x10 x11 x12 x13 x14 x15 x16 x17 x18 x19 x20 x21 x22 x23 := by kernel_rfl
theorem e14_1 (n : Nat) (x0 : List (Int × Int × Int × Int × Int × Int × Bool × Bool × Int × Int × (List (Int)) × ByteArray × Int × Int × Bool × Int × Int × Int × Int × Int)) (x1 x2 x3 x4 x5 x6 x7 x8 : Int) (x9 : List (Int × Int × Int × Int × Int × Int × Bool × Bool × Int × Int × (List (Int)) × ByteArray × Int × Int × Bool × Int × Int × Int × Int × Int)) (x10 x11 x12 x13 x14 x15 x16 x17 : Int) (x18 x19 : Bool) (x20 x21 : Int) (x22 : ByteArray) (x23 x24 : Int) (x25 : Bool) (x26 x27 x28 x29 x30 x31 x32 x33 x34 x35 x36 : Int) (x37 x38 : Bool) (x39 x40 : Int) (x41 : List (Int)) (x42 : ByteArray) (x43 x44 : Int) (x45 : Bool) (x46 x47 x48 x49 x50 : Int) (x51 : Bool) (x52 x53 x54 x55 x56 : Int) (x57 x58 : Bool) (x59 x60 : Int) (x61 : List (Int)) (x62 : ByteArray) (x63 x64 : Int) (x65 : Bool) (x66 : Int) (x67 : List (Int × Int × Int × Int × Int × Int × Bool × Bool × Int × Int × (List (Int)) × ByteArray × Int × Int × Bool × Int × Int × Int × Int × Int)) : stepF X14 8 14 (endK sr14 toB14) [1, 0, 1, 1, 1, 0, 2, 76, 1, 1, 0, 1, 0, 126, 1, 0] sh14_1 n [.l [.int .i64, .int .u8, .int .i64, .int .i64, .int .i64, .int .i64, .bool, .bool, .int .i64, .int .i64, .sl [.int .i64], .str, .int .i64, .int .i64, .bool, .int .i64, .int .u8, .int .i64, .int .i64, .int .i64] x0, .i x1, .i x2, .i x3, .i x4, .i x5, .i x6, .i x7, .i x8, .l [.int .i64, .int .u8, .int .i64, .int .i64, .int .i64, .int .i64, .bool, .bool, .int .i64, .int .i64, .sl [.int .i64], .str, .int .i64, .int .i64, .bool, .int .i64, .int .u8, .int .i64, .int .i64, .int .i64] x9, .i x10, .i x11, .i x12, .i x13, .i x14, .i x15, .i x16, .i x17, .b x18, .b x19, .i x20, .i x21, .s x22, .i x23, .i x24, .b x25, .i x26, .i x27, .i x28, .i x29, .i x30, .i x31, .i x32, .i x33, .i x34, .i x35, .i x36, .b x37, .b x38, .i x39, .i x40, .l [.int .i64] x41, .s x42, .i x43, .i x44, .b x45, .i x46, .i x47, .i x48, .i x49, .i x50, .b x51, .i x52, .i x53, .i x54, .i x55, .i x56, .b x57, .b x58, .i x59, .i x60, .l [.int .i64] x61, .s x62, .i x63, .i x64, .b x65, .i x66, .l [.int .i64, .int .u8, .int .i64, .int .i64, .int .i64, .int .i64, .bool, .bool, .int .i64, .int .i64, .sl [.int .i64], .str, .int .i64, .int .i64, .bool, .int .i64, .int .u8, .int .i64, .int .i64, .int .i64] x67] = F14_c1 (n + 1) x0 x1 x2 x3 x4 x5 x6 x7 x8 x9 x10 x11 x12 x13 x14 x15 x16 x17 x18 x19 x20 x21 x22 x23 x24 x25 x26 x27 x28 x29 x30 x31 x32 x33 x34 x35 x36 x37 x38 x39 x40 x41 x42 x43 x44 x45 x46 x47 x48 x49 x50 x51 x52 x53 x54 x55 x56 x57 x58 x59 x60 x61 x62 x63 x64 x65 x66 x67 := by kernel_rfl
theorem e14 (n : Nat) (a0 a1 : Int) (a2 : List (Int × Int × Int × Int × Int × Int × Bool × Bool × Int × Int × (List (Int)) × ByteArray × Int × Int × Bool × Int × Int × Int × Int × Int)) (a3 a4 a5 a6 a7 : Int) (a8 a9 : Bool) (a10 a11 : Int) (a12 : List (Int)) (a13 : ByteArray) (a14 a15 : Int) (a16 : Bool) (a17 : Int) : entF X14 8 14 pa14 (endK sr14 toB14) n [.i a0, .i a1, .l [.int .i64, .int .u8, .int .i64, .int .i64, .int .i64, .int .i64, .bool, .bool, .int .i64, .int .i64, .sl [.int .i64], .str, .int .i64, .int .i64, .bool, .int .i64, .int .u8, .int .i64, .int .i64, .int .i64] a2, .i a3, .i a4, .i a5, .i a6, .i a7, .b a8, .b a9, .i a10, .i a11, .l [.int .i64] a12, .s a13, .i a14, .i a15, .b a16, .i a17] = F14 n a0 a1 a2 a3 a4 a5 a6 a7 a8 a9 a10 a11 a12 a13 a14 a15 a16 a17 := by kernel_rfl
theorem c14_0 : CutOK X14 8 14 (endK sr14 toB14) [1, 10] ⟨sh14_0, g14_0⟩ := by
  refine ⟨fun ls => ?_, fun n ls r h => ?_⟩
  · cases h : g14_0 0 ls with
    | none => exact h
    | some r =>
      unfold g14_0 at h; obtain ⟨x0, _, rfl, h1⟩ := gI_ok h; obtain ⟨x1, _, rfl, h2⟩ := gI_ok h1; obtain ⟨x2, _, rfl, h3⟩ := gL_ok h2; obtain ⟨x3, x4, x5, x6, x7, x8, x9, x10, _, rfl, h4⟩ := gI8_ok h3; obtain ⟨x11, _, rfl, h5⟩ := gB_ok h4; obtain ⟨x12, _, rfl, h6⟩ := gB_ok h5; obtain ⟨x13, _, rfl, h7⟩ := gI_ok h6; obtain ⟨x14, _, rfl, h8⟩ := gI_ok h7; obtain ⟨x15, _, rfl, h9⟩ := gS_ok h8; obtain ⟨x16, _, rfl, h10⟩ := gI_ok h9; obtain ⟨x17, _, rfl, h11⟩ := gI_ok h10; obtain ⟨x18, _, rfl, h12⟩ := gB_ok h11; obtain ⟨x19, x20, x21, x22, _, rfl, h13⟩ := gI4_ok h12; obtain ⟨x23, _, rfl, h14⟩ := gI_ok h13; obtain ⟨rfl, h15⟩ := gE_ok h14; simp only [F14_c0] at h15; cases h15
  · replace h : g14_0 (n + 1) ls = some r := h
    unfold g14_0 at h
    obtain ⟨x0, _, rfl, h1⟩ := gI_ok h; obtain ⟨x1, _, rfl, h2⟩ := gI_ok h1; obtain ⟨x2, _, rfl, h3⟩ := gL_ok h2; obtain ⟨x3, x4, x5, x6, x7, x8, x9, x10, _, rfl, h4⟩ := gI8_ok h3; obtain ⟨x11, _, rfl, h5⟩ := gB_ok h4; obtain ⟨x12, _, rfl, h6⟩ := gB_ok h5; obtain ⟨x13, _, rfl, h7⟩ := gI_ok h6; obtain ⟨x14, _, rfl, h8⟩ := gI_ok h7; obtain ⟨x15, _, rfl, h9⟩ := gS_ok h8; obtain ⟨x16, _, rfl, h10⟩ := gI_ok h9; obtain ⟨x17, _, rfl, h11⟩ := gI_ok h10; obtain ⟨x18, _, rfl, h12⟩ := gB_ok h11; obtain ⟨x19, x20, x21, x22, _, rfl, h13⟩ := gI4_ok h12; obtain ⟨x23, _, rfl, h14⟩ := gI_ok h13; obtain ⟨rfl, h15⟩ := gE_ok h14
    exact (e14_0 n x0 x1 x2 x3 x4 x5 x6 x7 x8 x9 x10 x11 x12 x13 x14 x15 x16 x17 x18 x19 x20 x21 x22 x23).trans h15
theorem c14_1 : CutOK X14 8 14 (endK sr14 toB14) [1, 0, 1, 1, 1, 0, 2, 76, 1, 1, 0, 1, 0, 126, 1, 0] ⟨sh14_1, g14_1⟩ := by
  refine ⟨fun ls => ?_, fun n ls r h => ?_⟩
  · cases h : g14_1 0 ls with
    | none => exact h
    | some r =>
      unfold g14_1 at h; obtain ⟨x0, _, rfl, h1⟩ := gL_ok h; obtain ⟨x1, x2, x3, x4, x5, x6, x7, x8, _, rfl, h2⟩ := gI8_ok h1; obtain ⟨x9, _, rfl, h3⟩ := gL_ok h2; obtain ⟨x10, x11, x12, x13, x14, x15, x16, x17, _, rfl, h4⟩ := gI8_ok h3; obtain ⟨x18, _, rfl, h5⟩ := gB_ok h4; obtain ⟨x19, _, rfl, h6⟩ := gB_ok h5; obtain ⟨x20, _, rfl, h7⟩ := gI_ok h6; obtain ⟨x21, _, rfl, h8⟩ := gI_ok h7; obtain ⟨x22, _, rfl, h9⟩ := gS_ok h8; obtain ⟨x23, _, rfl, h10⟩ := gI_ok h9; obtain ⟨x24, _, rfl, h11⟩ := gI_ok h10; obtain ⟨x25, _, rfl, h12⟩ := gB_ok h11; obtain ⟨x26, x27, x28, x29, x30, x31, x32, x33, _, rfl, h13⟩ := gI8_ok h12; obtain ⟨x34, _, rfl, h14⟩ := gI_ok h13; obtain ⟨x35, _, rfl, h15⟩ := gI_ok h14; obtain ⟨x36, _, rfl, h16⟩ := gI_ok h15; obtain ⟨x37, _, rfl, h17⟩ := gB_ok h16; obtain ⟨x38, _, rfl, h18⟩ := gB_ok h17; obtain ⟨x39, _, rfl, h19⟩ := gI_ok h18; obtain ⟨x40, _, rfl, h20⟩ := gI_ok h19; obtain ⟨x41, _, rfl, h21⟩ := gL_ok h20; obtain ⟨x42, _, rfl, h22⟩ := gS_ok h21; obtain ⟨x43, _, rfl, h23⟩ := gI_ok h22; obtain ⟨x44, _, rfl, h24⟩ := gI_ok h23; obtain ⟨x45, _, rfl, h25⟩ := gB_ok h24; obtain ⟨x46, x47, x48, x49, _, rfl, h26⟩ := gI4_ok h25; obtain ⟨x50, _, rfl, h27⟩ := gI_ok h26; obtain ⟨x51, _, rfl, h28⟩ := gB_ok h27; obtain ⟨x52, x53, x54, x55, _, rfl, h29⟩ := gI4_ok h28; obtain ⟨x56, _, rfl, h30⟩ := gI_ok h29; obtain ⟨x57, _, rfl, h31⟩ := gB_ok h30; obtain ⟨x58, _, rfl, h32⟩ := gB_ok h31; obtain ⟨x59, _, rfl, h33⟩ := gI_ok h32; obtain ⟨x60, _, rfl, h34⟩ := gI_ok h33; obtain ⟨x61, _, rfl, h35⟩ := gL_ok h34; obtain ⟨x62, _, rfl, h36⟩ := gS_ok h35; obtain ⟨x63, _, rfl, h37⟩ := gI_ok h36; obtain ⟨x64, _, rfl, h38⟩ := gI_ok h37; obtain ⟨x65, _, rfl, h39⟩ := gB_ok h38; obtain ⟨x66, _, rfl, h40⟩ := gI_ok h39; obtain ⟨x67, _, rfl, h41⟩ := gL_ok h40; obtain ⟨rfl, h42⟩ := gE_ok h41; simp only [F14_c1] at h42; cases h42
  · replace h : g14_1 (n + 1) ls = some r := h
    unfold g14_1 at h
    obtain ⟨x0, _, rfl, h1⟩ := gL_ok h; obtain ⟨x1, x2, x3, x4, x5, x6, x7, x8, _, rfl, h2⟩ := gI8_ok h1; obtain ⟨x9, _, rfl, h3⟩ := gL_ok h2; obtain ⟨x10, x11, x12, x13, x14, x15, x16, x17, _, rfl, h4⟩ := gI8_ok h3; obtain ⟨x18, _, rfl, h5⟩ := gB_ok h4; obtain ⟨x19, _, rfl, h6⟩ := gB_ok h5; obtain ⟨x20, _, rfl, h7⟩ := gI_ok h6; obtain ⟨x21, _, rfl, h8⟩ := gI_ok h7; obtain ⟨x22, _, rfl, h9⟩ := gS_ok h8; obtain ⟨x23, _, rfl, h10⟩ := gI_ok h9; obtain ⟨x24, _, rfl, h11⟩ := gI_ok h10; obtain ⟨x25, _, rfl, h12⟩ := gB_ok h11; obtain ⟨x26, x27, x28, x29, x30, x31, x32, x33, _, rfl, h13⟩ := gI8_ok h12; obtain ⟨x34, _, rfl, h14⟩ := gI_ok h13; obtain ⟨x35, _, rfl, h15⟩ := gI_ok h14; obtain ⟨x36, _, rfl, h16⟩ := gI_ok h15; obtain ⟨x37, _, rfl, h17⟩ := gB_ok h16; obtain ⟨x38, _, rfl, h18⟩ := gB_ok h17; obtain ⟨x39, _, rfl, h19⟩ := gI_ok h18; obtain ⟨x40, _, rfl, h20⟩ := gI_ok h19; obtain ⟨x41, _, rfl, h21⟩ := gL_ok h20; obtain ⟨x42, _, rfl, h22⟩ := gS_ok h21; obtain ⟨x43, _, rfl, h23⟩ := gI_ok h22; obtain ⟨x44, _, rfl, h24⟩ := gI_ok h23; obtain ⟨x45, _, rfl, h25⟩ := gB_ok h24; obtain ⟨x46, x47, x48, x49, _, rfl, h26⟩ := gI4_ok h25; obtain ⟨x50, _, rfl, h27⟩ := gI_ok h26; obtain ⟨x51, _, rfl, h28⟩ := gB_ok h27; obtain ⟨x52, x53, x54, x55, _, rfl, h29⟩ := gI4_ok h28; obtain ⟨x56, _, rfl, h30⟩ := gI_ok h29; obtain ⟨x57, _, rfl, h31⟩ := gB_ok h30; obtain ⟨x58, _, rfl, h32⟩ := gB_ok h31; obtain ⟨x59, _, rfl, h33⟩ := gI_ok h32; obtain ⟨x60, _, rfl, h34⟩ := gI_ok h33; obtain ⟨x61, _, rfl, h35⟩ := gL_ok h34; obtain ⟨x62, _, rfl, h36⟩ := gS_ok h35; obtain ⟨x63, _, rfl, h37⟩ := gI_ok h36; obtain ⟨x64, _, rfl, h38⟩ := gI_ok h37; obtain ⟨x65, _, rfl, h39⟩ := gB_ok h38; obtain ⟨x66, _, rfl, h40⟩ := gI_ok h39; obtain ⟨x67, _, rfl, h41⟩ := gL_ok h40; obtain ⟨rfl, h42⟩ := gE_ok h41
    exact (e14_1 n x0 x1 x2 x3 x4 x5 x6 x7 x8 x9 x10 x11 x12 x13 x14 x15 x16 x17 x18 x19 x20 x21 x22 x23 x24 x25 x26 x27 x28 x29 x30 x31 x32 x33 x34 x35 x36 x37 x38 x39 x40 x41 x42 x43 x44 x45 x46 x47 x48 x49 x50 x51 x52 x53 x54 x55 x56 x57 x58 x59 x60 x61 x62 x63 x64 x65 x66 x67).trans h42
theorem sp14 {n : Nat} (a0 a1 : Int) (a2 : List (Int × Int × Int × Int × Int × Int × Bool × Bool × Int × Int × (List (Int)) × ByteArray × Int × Int × Bool × Int × Int × Int × Int × Int)) (a3 a4 a5 a6 a7 : Int) (a8 a9 : Bool) (a10 a11 : Int) (a12 : List (Int)) (a13 : ByteArray) (a14 a15 : Int) (a16 : Bool) (a17 : Int) {y : Si8b2i2lsi2bi5bl_i6b2i2lsi2bi5_} (h : F14 n a0 a1 a2 a3 a4 a5 a6 a7 a8 a9 a10 a11 a12 a13 a14 a15 a16 a17 = some y) : SpecF T Tryd.prog 14 pa14 [.i a0, .i a1, .l [.int .i64, .int .u8, .int .i64, .int .i64, .int .i64, .int .i64, .bool, .bool, .int .i64, .int .i64, .sl [.int .i64], .str, .int .i64, .int .i64, .bool, .int .i64, .int .u8, .int .i64, .int .i64, .int .i64] a2, .i a3, .i a4, .i a5, .i a6, .i a7, .b a8, .b a9, .i a10, .i a11, .l [.int .i64] a12, .s a13, .i a14, .i a15, .b a16, .i a17] sr14 (ofB14 y) :=
  fun_ok (X := X14) tok (sfok_of ⟨ok17, ok31, ok27, ok64, ok40, trivial⟩) mixed 14 8 cuts14 rfl toB14_ok ⟨c14_0, c14_1, trivial⟩ ((e14 n a0 a1 a2 a3 a4 a5 a6 a7 a8 a9 a10 a11 a12 a13 a14 a15 a16 a17).trans h)
theorem ok14 {R : Type} : SFone T Tryd.prog 14 (run14 : SF R) := by
  intro ls K r h
  simp only [run14] at h
  obtain ⟨a0, _, rfl, h1⟩ := gI_ok h; obtain ⟨a1, _, rfl, h2⟩ := gI_ok h1; obtain ⟨a2, _, rfl, h3⟩ := gL_ok h2; obtain ⟨a3, a4, a5, a6, _, rfl, h4⟩ := gI4_ok h3; obtain ⟨a7, _, rfl, h5⟩ := gI_ok h4; obtain ⟨a8, _, rfl, h6⟩ := gB_ok h5; obtain ⟨a9, _, rfl, h7⟩ := gB_ok h6; obtain ⟨a10, _, rfl, h8⟩ := gI_ok h7; obtain ⟨a11, _, rfl, h9⟩ := gI_ok h8; obtain ⟨a12, _, rfl, h10⟩ := gL_ok h9; obtain ⟨a13, _, rfl, h11⟩ := gS_ok h10; obtain ⟨a14, _, rfl, h12⟩ := gI_ok h11; obtain ⟨a15, _, rfl, h13⟩ := gI_ok h12; obtain ⟨a16, _, rfl, h14⟩ := gB_ok h13; obtain ⟨a17, _, rfl, h15⟩ := gI_ok h14; obtain ⟨rfl, h16⟩ := gE_ok h15
  obtain ⟨y, k1, k2⟩ := Option.bind_eq_some_iff.1 h16
  exact ⟨_, k2, sp14 a0 a1 a2 a3 a4 a5 a6 a7 a8 a9 a10 a11 a12 a13 a14 a15 a16 a17 k1⟩

/-! ### garland/wait.more -/
def pa70 : List VP := [.i .i64, .i .i64]
def sr70 : RShape := ⟨.i .i64, [], none⟩
def toB70 : List Leaf → Option (Int) := gI (fun b0 => gE (some b0))
def ofB70 (y : Int) : List Leaf := [.i y]
theorem toB70_ok : ∀ ls b, toB70 ls = some b → ls = ofB70 b := by
  intro ls b h
  unfold toB70 at h
  obtain ⟨b0, _, rfl, h1⟩ := gI_ok h; obtain ⟨rfl, h2⟩ := gE_ok h1
  cases h2; rfl
def run70 {R : Type} : SF R := ⟨pa70, sr70, fun ls K => (gI (fun a0 => gI (fun a1 => gE (Option.bind (F70 FUEL a0 a1) fun y => K (ofB70 y))))) ls⟩
def cuts70 : List (List Nat × Cut (Int)) := []
noncomputable def X70 : Px (Int) := ⟨T, Tryd.prog, lkF [], mkCuts 70 cuts70, altN, altN_ok⟩
theorem e70 (n : Nat) (a0 a1 : Int) : entF X70 8 70 pa70 (endK sr70 toB70) n [.i a0, .i a1] = F70 n a0 a1 := by kernel_rfl
theorem sp70 {n : Nat} (a0 a1 : Int) {y : Int} (h : F70 n a0 a1 = some y) : SpecF T Tryd.prog 70 pa70 [.i a0, .i a1] sr70 (ofB70 y) :=
  fun_ok (X := X70) tok (sfok_of trivial) mixed 70 8 cuts70 rfl toB70_ok trivial ((e70 n a0 a1).trans h)
theorem ok70 {R : Type} : SFone T Tryd.prog 70 (run70 : SF R) := by
  intro ls K r h
  simp only [run70] at h
  obtain ⟨a0, _, rfl, h1⟩ := gI_ok h; obtain ⟨a1, _, rfl, h2⟩ := gI_ok h1; obtain ⟨rfl, h3⟩ := gE_ok h2
  obtain ⟨y, k1, k2⟩ := Option.bind_eq_some_iff.1 h3
  exact ⟨_, k2, sp70 a0 a1 k1⟩

/-! ### garland/wait.Wait -/
def pa62 : List VP := [.i .i64]
def sr62 : RShape := ⟨.i .i64, [], none⟩
def toB62 : List Leaf → Option (Int) := gI (fun b0 => gE (some b0))
def ofB62 (y : Int) : List Leaf := [.i y]
theorem toB62_ok : ∀ ls b, toB62 ls = some b → ls = ofB62 b := by
  intro ls b h
  unfold toB62 at h
  obtain ⟨b0, _, rfl, h1⟩ := gI_ok h; obtain ⟨rfl, h2⟩ := gE_ok h1
  cases h2; rfl
def run62 {R : Type} : SF R := ⟨pa62, sr62, fun ls K => (gI (fun a0 => gE (Option.bind (F62 FUEL a0) fun y => K (ofB62 y)))) ls⟩
def cuts62 : List (List Nat × Cut (Int)) := []
noncomputable def X62 : Px (Int) := ⟨T, Tryd.prog, lkF [], mkCuts 62 cuts62, altN, altN_ok⟩
theorem e62 (n : Nat) (a0 : Int) : entF X62 8 62 pa62 (endK sr62 toB62) n [.i a0] = F62 n a0 := by kernel_rfl
theorem sp62 {n : Nat} (a0 : Int) {y : Int} (h : F62 n a0 = some y) : SpecF T Tryd.prog 62 pa62 [.i a0] sr62 (ofB62 y) :=
  fun_ok (X := X62) tok (sfok_of trivial) mixed 62 8 cuts62 rfl toB62_ok trivial ((e62 n a0).trans h)
theorem ok62 {R : Type} : SFone T Tryd.prog 62 (run62 : SF R) := by
  intro ls K r h
  simp only [run62] at h
  obtain ⟨a0, _, rfl, h1⟩ := gI_ok h; obtain ⟨rfl, h2⟩ := gE_ok h1
  obtain ⟨y, k1, k2⟩ := Option.bind_eq_some_iff.1 h2
  exact ⟨_, k2, sp62 a0 k1⟩

/-! ### garland/wait.Over -/
def pa42 : List VP := [.i .i64, .i .i64, .i .i64]
def sr42 : RShape := ⟨.b, [], none⟩
def toB42 : List Leaf → Option (Bool) := gB (fun b0 => gE (some b0))
def ofB42 (y : Bool) : List Leaf := [.b y]
theorem toB42_ok : ∀ ls b, toB42 ls = some b → ls = ofB42 b := by
  intro ls b h
  unfold toB42 at h
  obtain ⟨b0, _, rfl, h1⟩ := gB_ok h; obtain ⟨rfl, h2⟩ := gE_ok h1
  cases h2; rfl
def run42 {R : Type} : SF R := ⟨pa42, sr42, fun ls K => (gI (fun a0 => gI (fun a1 => gI (fun a2 => gE (Option.bind (F42 FUEL a0 a1 a2) fun y => K (ofB42 y)))))) ls⟩
def cuts42 : List (List Nat × Cut (Bool)) := []
noncomputable def X42 : Px (Bool) := ⟨T, Tryd.prog, lkF [(70, run70), (62, run62)], mkCuts 42 cuts42, altN, altN_ok⟩
theorem e42 (n : Nat) (a0 a1 a2 : Int) : entF X42 8 42 pa42 (endK sr42 toB42) n [.i a0, .i a1, .i a2] = F42 n a0 a1 a2 := by kernel_rfl
theorem sp42 {n : Nat} (a0 a1 a2 : Int) {y : Bool} (h : F42 n a0 a1 a2 = some y) : SpecF T Tryd.prog 42 pa42 [.i a0, .i a1, .i a2] sr42 (ofB42 y) :=
  fun_ok (X := X42) tok (sfok_of ⟨ok70, ok62, trivial⟩) mixed 42 8 cuts42 rfl toB42_ok trivial ((e42 n a0 a1 a2).trans h)
theorem ok42 {R : Type} : SFone T Tryd.prog 42 (run42 : SF R) := by
  intro ls K r h
  simp only [run42] at h
  obtain ⟨a0, _, rfl, h1⟩ := gI_ok h; obtain ⟨a1, _, rfl, h2⟩ := gI_ok h1; obtain ⟨a2, _, rfl, h3⟩ := gI_ok h2; obtain ⟨rfl, h4⟩ := gE_ok h3
  obtain ⟨y, k1, k2⟩ := Option.bind_eq_some_iff.1 h4
  exact ⟨_, k2, sp42 a0 a1 a2 k1⟩

/-! ### garland/wait.Due -/
def pa43 : List VP := [.i .i64, .i .i64, .i .i64]
def sr43 : RShape := ⟨.b, [], none⟩
def toB43 : List Leaf → Option (Bool) := gB (fun b0 => gE (some b0))
def ofB43 (y : Bool) : List Leaf := [.b y]
theorem toB43_ok : ∀ ls b, toB43 ls = some b → ls = ofB43 b := by
  intro ls b h
  unfold toB43 at h
  obtain ⟨b0, _, rfl, h1⟩ := gB_ok h; obtain ⟨rfl, h2⟩ := gE_ok h1
  cases h2; rfl
def run43 {R : Type} : SF R := ⟨pa43, sr43, fun ls K => (gI (fun a0 => gI (fun a1 => gI (fun a2 => gE (Option.bind (F43 FUEL a0 a1 a2) fun y => K (ofB43 y)))))) ls⟩
def cuts43 : List (List Nat × Cut (Bool)) := []
noncomputable def X43 : Px (Bool) := ⟨T, Tryd.prog, lkF [(70, run70), (62, run62)], mkCuts 43 cuts43, altN, altN_ok⟩
theorem e43 (n : Nat) (a0 a1 a2 : Int) : entF X43 8 43 pa43 (endK sr43 toB43) n [.i a0, .i a1, .i a2] = F43 n a0 a1 a2 := by kernel_rfl
theorem sp43 {n : Nat} (a0 a1 a2 : Int) {y : Bool} (h : F43 n a0 a1 a2 = some y) : SpecF T Tryd.prog 43 pa43 [.i a0, .i a1, .i a2] sr43 (ofB43 y) :=
  fun_ok (X := X43) tok (sfok_of ⟨ok70, ok62, trivial⟩) mixed 43 8 cuts43 rfl toB43_ok trivial ((e43 n a0 a1 a2).trans h)
theorem ok43 {R : Type} : SFone T Tryd.prog 43 (run43 : SF R) := by
  intro ls K r h
  simp only [run43] at h
  obtain ⟨a0, _, rfl, h1⟩ := gI_ok h; obtain ⟨a1, _, rfl, h2⟩ := gI_ok h1; obtain ⟨a2, _, rfl, h3⟩ := gI_ok h2; obtain ⟨rfl, h4⟩ := gE_ok h3
  obtain ⟨y, k1, k2⟩ := Option.bind_eq_some_iff.1 h4
  exact ⟨_, k2, sp43 a0 a1 a2 k1⟩

/-! ### garland/calls.Late -/
def pa16 : List VP := [.agg [.i .i64, .i .i64, .sl false [.int .i64, .int .u8, .int .i64, .int .i64, .int .i64, .int .i64, .bool, .bool, .int .i64, .int .i64, .sl [.int .i64], .str, .int .i64, .int .i64, .bool, .int .i64, .int .u8, .int .i64, .int .i64, .int .i64]], .i .i64]
def sr16 : RShape := ⟨.tup [.agg [.i .i64, .i .i64, .row 0], .row 1, .row 2], [.row true [.int .i64, .int .u8, .int .i64, .int .i64, .int .i64, .int .i64, .bool, .bool, .int .i64, .int .i64, .sl [.int .i64], .str, .int .i64, .int .i64, .bool, .int .i64, .int .u8, .int .i64, .int .i64, .int .i64], .row true [.int .u8, .int .i64, .int .i64, .int .i64, .int .i64, .bool, .bool, .int .i64, .int .i64, .sl [.int .i64], .str, .int .i64, .int .i64, .bool, .int .i64], .row true [.int .i64, .int .u8, .int .i64, .int .i64, .int .i64, .int .i64, .bool, .bool, .int .i64, .int .i64, .sl [.int .i64], .str, .int .i64, .int .i64, .bool, .int .i64, .int .u8, .int .i64, .int .i64, .int .i64]], none⟩
def toB16 : List Leaf → Option (Si2l_i6b2i2lsi2bi5_l_i5b2i2lsi2bi_l_i6b2i2lsi2bi5_) := gI (fun b0 => gI (fun b1 => gL [.int .i64, .int .u8, .int .i64, .int .i64, .int .i64, .int .i64, .bool, .bool, .int .i64, .int .i64, .sl [.int .i64], .str, .int .i64, .int .i64, .bool, .int .i64, .int .u8, .int .i64, .int .i64, .int .i64] (fun b2 => gL [.int .u8, .int .i64, .int .i64, .int .i64, .int .i64, .bool, .bool, .int .i64, .int .i64, .sl [.int .i64], .str, .int .i64, .int .i64, .bool, .int .i64] (fun b3 => gL [.int .i64, .int .u8, .int .i64, .int .i64, .int .i64, .int .i64, .bool, .bool, .int .i64, .int .i64, .sl [.int .i64], .str, .int .i64, .int .i64, .bool, .int .i64, .int .u8, .int .i64, .int .i64, .int .i64] (fun b4 => gE (some ⟨b0, b1, b2, b3, b4⟩))))))
def ofB16 (y : Si2l_i6b2i2lsi2bi5_l_i5b2i2lsi2bi_l_i6b2i2lsi2bi5_) : List Leaf := [.i y.q0, .i y.q1, .l [.int .i64, .int .u8, .int .i64, .int .i64, .int .i64, .int .i64, .bool, .bool, .int .i64, .int .i64, .sl [.int .i64], .str, .int .i64, .int .i64, .bool, .int .i64, .int .u8, .int .i64, .int .i64, .int .i64] y.q2, .l [.int .u8, .int .i64, .int .i64, .int .i64, .int .i64, .bool, .bool, .int .i64, .int .i64, .sl [.int .i64], .str, .int .i64, .int .i64, .bool, .int .i64] y.q3, .l [.int .i64, .int .u8, .int .i64, .int .i64, .int .i64, .int .i64, .bool, .bool, .int .i64, .int .i64, .sl [.int .i64], .str, .int .i64, .int .i64, .bool, .int .i64, .int .u8, .int .i64, .int .i64, .int .i64] y.q4]
theorem toB16_ok : ∀ ls b, toB16 ls = some b → ls = ofB16 b := by
  intro ls b h
  unfold toB16 at h
  obtain ⟨b0, _, rfl, h1⟩ := gI_ok h; obtain ⟨b1, _, rfl, h2⟩ := gI_ok h1; obtain ⟨b2, _, rfl, h3⟩ := gL_ok h2; obtain ⟨b3, _, rfl, h4⟩ := gL_ok h3; obtain ⟨b4, _, rfl, h5⟩ := gL_ok h4; obtain ⟨rfl, h6⟩ := gE_ok h5
  cases h6; rfl
def run16 {R : Type} : SF R := ⟨pa16, sr16, fun ls K => (gI (fun a0 => gI (fun a1 => gL [.int .i64, .int .u8, .int .i64, .int .i64, .int .i64, .int .i64, .bool, .bool, .int .i64, .int .i64, .sl [.int .i64], .str, .int .i64, .int .i64, .bool, .int .i64, .int .u8, .int .i64, .int .i64, .int .i64] (fun a2 => gI (fun a3 => gE (Option.bind (F16 FUEL a0 a1 a2 a3) fun y => K (ofB16 y))))))) ls⟩
def sh16_0 : Shape := ⟨[(23, [(2, .ref 0 0), (4, .ref 1 0), (5, .ref 2 0), (6, .ref 3 0)])], [.cells [.i .i64, .i .i64, .sl false [.int .i64, .int .u8, .int .i64, .int .i64, .int .i64, .int .i64, .bool, .bool, .int .i64, .int .i64, .sl [.int .i64], .str, .int .i64, .int .i64, .bool, .int .i64, .int .u8, .int .i64, .int .i64, .int .i64]], .cells [.i .i64, .i .i64, .nil], .cells [.nil], .cells [.nil]]⟩
def g16_0 (n : Nat) : List Leaf → Option (Si2l_i6b2i2lsi2bi5_l_i5b2i2lsi2bi_l_i6b2i2lsi2bi5_) := gI (fun x0 => gI (fun x1 => gL [.int .i64, .int .u8, .int .i64, .int .i64, .int .i64, .int .i64, .bool, .bool, .int .i64, .int .i64, .sl [.int .i64], .str, .int .i64, .int .i64, .bool, .int .i64, .int .u8, .int .i64, .int .i64, .int .i64] (fun x2 => gI (fun x3 => gI (fun x4 => gE (F16_c0 n x0 x1 x2 x3 x4))))))
def sh16_1 : Shape := ⟨[(18, [(0, .yield 12), (6, .sl false [.int .i64, .int .u8, .int .i64, .int .i64, .int .i64, .int .i64, .bool, .bool, .int .i64, .int .i64, .sl [.int .i64], .str, .int .i64, .int .i64, .bool, .int .i64, .int .u8, .int .i64, .int .i64, .int .i64]), (7, .i .i64), (8, .i .i64)]), (28, [(3, .ref 0 0), (4, .ref 1 0), (5, .ref 2 0)]), (23, [(4, .ref 3 0), (5, .ref 4 0), (6, .ref 5 0)])], [.cells [.clos 41 [.ref 6 0, .ref 5 0, .ref 4 0]], .cells [.i .i64, .i .i64, .nil], .cells [.i .i64, .i .i64, .row 7], .cells [.i .i64, .i .i64, .nil], .cells [.row 9], .cells [.row 8], .cells [.i .i64], .row true [.int .i64, .int .u8, .int .i64, .int .i64, .int .i64, .int .i64, .bool, .bool, .int .i64, .int .i64, .sl [.int .i64], .str, .int .i64, .int .i64, .bool, .int .i64, .int .u8, .int .i64, .int .i64, .int .i64], .row true [.int .i64, .int .u8, .int .i64, .int .i64, .int .i64, .int .i64, .bool, .bool, .int .i64, .int .i64, .sl [.int .i64], .str, .int .i64, .int .i64, .bool, .int .i64, .int .u8, .int .i64, .int .i64, .int .i64], .row true [.int .u8, .int .i64, .int .i64, .int .i64, .int .i64, .bool, .bool, .int .i64, .int .i64, .sl [.int .i64], .str, .int .i64, .int .i64, .bool, .int .i64]]⟩
def g16_1 (n : Nat) : List Leaf → Option (Si2l_i6b2i2lsi2bi5_l_i5b2i2lsi2bi_l_i6b2i2lsi2bi5_) := gL [.int .i64, .int .u8, .int .i64, .int .i64, .int .i64, .int .i64, .bool, .bool, .int .i64, .int .i64, .sl [.int .i64], .str, .int .i64, .int .i64, .bool, .int .i64, .int .u8, .int .i64, .int .i64, .int .i64] (fun x0 => gI (fun x1 => gI (fun x2 => gI (fun x3 => gI (fun x4 => gI (fun x5 => gI (fun x6 => gI (fun x7 => gI (fun x8 => gI (fun x9 => gL [.int .i64, .int .u8, .int .i64, .int .i64, .int .i64, .int .i64, .bool, .bool, .int .i64, .int .i64, .sl [.int .i64], .str, .int .i64, .int .i64, .bool, .int .i64, .int .u8, .int .i64, .int .i64, .int .i64] (fun x10 => gL [.int .i64, .int .u8, .int .i64, .int .i64, .int .i64, .int .i64, .bool, .bool, .int .i64, .int .i64, .sl [.int .i64], .str, .int .i64, .int .i64, .bool, .int .i64, .int .u8, .int .i64, .int .i64, .int .i64] (fun x11 => gL [.int .u8, .int .i64, .int .i64, .int .i64, .int .i64, .bool, .bool, .int .i64, .int .i64, .sl [.int .i64], .str, .int .i64, .int .i64, .bool, .int .i64] (fun x12 => gE (F16_c1 n x0 x1 x2 x3 x4 x5 x6 x7 x8 x9 x10 x11 x12))))))))))))))
def cuts16 : List (List Nat × Cut (Si2l_i6b2i2lsi2bi5_l_i5b2i2lsi2bi_l_i6b2i2lsi2bi5_)) := [([1, 10], ⟨sh16_0, g16_0⟩), ([1, 0, 1, 0, 2, 76, 1, 1, 0, 1, 0, 126, 1, 0], ⟨sh16_1, g16_1⟩)]
noncomputable def X16 : Px (Si2l_i6b2i2lsi2bi5_l_i5b2i2lsi2bi_l_i6b2i2lsi2bi5_) := ⟨T, Tryd.prog, lkF [(17, run17), (29, run29), (27, run27), (64, run64), (42, run42), (43, run43), (32, run32)], mkCuts 16 cuts16, altN, altN_ok⟩
theorem e16_0 (n : Nat) (x0 x1 : Int) (x2 : List (Int × Int × Int × Int × Int × Int × Bool × Bool × Int × Int × (List (Int)) × ByteArray × Int × Int × Bool × Int × Int × Int × Int × Int)) (x3 x4 : Int) : stepF X16 8 16 (endK sr16 toB16) [1, 10] sh16_0 n [.i x0, .i x1, .l [.int .i64, .int .u8, .int .i64, .int .i64, .int .i64, .int .i64, .bool, .bool, .int .i64, .int .i64, .sl [.int .i64], .str, .int .i64, .int .i64, .bool, .int .i64, .int .u8, .int .i64, .int .i64, .int .i64] x2, .i x3, .i x4] = F16_c0 (n + 1) x0 x1 x2 x3 x4 := by kernel_rfl
theorem e16_1 (n : Nat) (x0 : List (Int × Int × Int × Int × Int × Int × Bool × Bool × Int × Int × (List (Int)) × ByteArray × Int × Int × Bool × Int × Int × Int × Int × Int)) (x1 x2 x3 x4 x5 x6 x7 x8 x9 : Int) (x10 x11 : List (Int × Int × Int × Int × Int × Int × Bool × Bool × Int × Int × (List (Int)) × ByteArray × Int × Int × Bool × Int × Int × Int × Int × Int)) (x12 : List (Int × Int × Int × Int × Int × Bool × Bool × Int × Int × (List (Int)) × ByteArray × Int × Int × Bool × Int)) : stepF X16 8 16 (endK sr16 toB16) [1, 0, 1, 0, 2, 76, 1, 1, 0, 1, 0, 126, 1, 0] sh16_1 n [.l [.int .i64, .int .u8, .int .i64, .int .i64, .int .i64, .int .i64, .bool, .bool, .int .i64, .int .i64, .sl [.int .i64], .str, .int .i64, .int .i64, .bool, .int .i64, .int .u8, .int .i64, .int .i64, .int .i64] x0, .i x1, .i x2, .i x3, .i x4, .i x5, .i x6, .i x7, .i x8, .i x9, .l [.int .i64, .int .u8, .int .i64, .int .i64, .int .i64, .int .i64, .bool, .bool, .int .i64, .int .i64, .sl [.int .i64], .str, .int .i64, .int .i64, .bool, .int .i64, .int .u8, .int .i64, .int .i64, .int .i64] x10, .l [.int .i64, .int .u8, .int .i64, .int .i64, .int .i64, .int .i64, .bool, .bool, .int .i64, .int .i64, .sl [.int .i64], .str, .int .i64, .int .i64, .bool, .int .i64, .int .u8, .int .i64, .int .i64, .int .i64] x11, .l [.int .u8, .int .i64, .int .i64, .int .i64, .int .i64, .bool, .bool, .int .i64, .int .i64, .sl [.int .i64], .str, .int .i64, .int .i64, .bool, .int .i64] x12] = F16_c1 (n + 1) x0 x1 x2 x3 x4 x5 x6 x7 x8 x9 x10 x11 x12 := by kernel_rfl
theorem e16 (n : Nat) (a0 a1 : Int) (a2 : List (Int × Int × Int × Int × Int × Int × Bool × Bool × Int × Int × (List (Int)) × ByteArray × Int × Int × Bool × Int × Int × Int × Int × Int)) (a3 : Int) : entF X16 8 16 pa16 (endK sr16 toB16) n [.i a0, .i a1, .l [.int .i64, .int .u8, .int .i64, .int .i64, .int .i64, .int .i64, .bool, .bool, .int .i64, .int .i64, .sl [.int .i64], .str, .int .i64, .int .i64, .bool, .int .i64, .int .u8, .int .i64, .int .i64, .int .i64] a2, .i a3] = F16 n a0 a1 a2 a3 := by kernel_rfl
theorem c16_0 : CutOK X16 8 16 (endK sr16 toB16) [1, 10] ⟨sh16_0, g16_0⟩ := by
  refine ⟨fun ls => ?_, fun n ls r h => ?_⟩
  · cases h : g16_0 0 ls with
    | none => exact h
    | some r =>
      unfold g16_0 at h; obtain ⟨x0, _, rfl, h1⟩ := gI_ok h; obtain ⟨x1, _, rfl, h2⟩ := gI_ok h1; obtain ⟨x2, _, rfl, h3⟩ := gL_ok h2; obtain ⟨x3, _, rfl, h4⟩ := gI_ok h3; obtain ⟨x4, _, rfl, h5⟩ := gI_ok h4; obtain ⟨rfl, h6⟩ := gE_ok h5; simp only [F16_c0] at h6; cases h6
  · replace h : g16_0 (n + 1) ls = some r := h
    unfold g16_0 at h
    obtain ⟨x0, _, rfl, h1⟩ := gI_ok h; obtain ⟨x1, _, rfl, h2⟩ := gI_ok h1; obtain ⟨x2, _, rfl, h3⟩ := gL_ok h2; obtain ⟨x3, _, rfl, h4⟩ := gI_ok h3; obtain ⟨x4, _, rfl, h5⟩ := gI_ok h4; obtain ⟨rfl, h6⟩ := gE_ok h5
    exact (e16_0 n x0 x1 x2 x3 x4).trans h6
theorem c16_1 : CutOK X16 8 16 (endK sr16 toB16) [1, 0, 1, 0, 2, 76, 1, 1, 0, 1, 0, 126, 1, 0] ⟨sh16_1, g16_1⟩ := by
  refine ⟨fun ls => ?_, fun n ls r h => ?_⟩
  · cases h : g16_1 0 ls with
    | none => exact h
    | some r =>
      unfold g16_1 at h; obtain ⟨x0, _, rfl, h1⟩ := gL_ok h; obtain ⟨x1, x2, x3, x4, x5, x6, x7, x8, _, rfl, h2⟩ := gI8_ok h1; obtain ⟨x9, _, rfl, h3⟩ := gI_ok h2; obtain ⟨x10, _, rfl, h4⟩ := gL_ok h3; obtain ⟨x11, _, rfl, h5⟩ := gL_ok h4; obtain ⟨x12, _, rfl, h6⟩ := gL_ok h5; obtain ⟨rfl, h7⟩ := gE_ok h6; simp only [F16_c1] at h7; cases h7
  · replace h : g16_1 (n + 1) ls = some r := h
    unfold g16_1 at h
    obtain ⟨x0, _, rfl, h1⟩ := gL_ok h; obtain ⟨x1, x2, x3, x4, x5, x6, x7, x8, _, rfl, h2⟩ := gI8_ok h1; obtain ⟨x9, _, rfl, h3⟩ := gI_ok h2; obtain ⟨x10, _, rfl, h4⟩ := gL_ok h3; obtain ⟨x11, _, rfl, h5⟩ := gL_ok h4; obtain ⟨x12, _, rfl, h6⟩ := gL_ok h5; obtain ⟨rfl, h7⟩ := gE_ok h6
    exact (e16_1 n x0 x1 x2 x3 x4 x5 x6 x7 x8 x9 x10 x11 x12).trans h7
theorem sp16 {n : Nat} (a0 a1 : Int) (a2 : List (Int × Int × Int × Int × Int × Int × Bool × Bool × Int × Int × (List (Int)) × ByteArray × Int × Int × Bool × Int × Int × Int × Int × Int)) (a3 : Int) {y : Si2l_i6b2i2lsi2bi5_l_i5b2i2lsi2bi_l_i6b2i2lsi2bi5_} (h : F16 n a0 a1 a2 a3 = some y) : SpecF T Tryd.prog 16 pa16 [.i a0, .i a1, .l [.int .i64, .int .u8, .int .i64, .int .i64, .int .i64, .int .i64, .bool, .bool, .int .i64, .int .i64, .sl [.int .i64], .str, .int .i64, .int .i64, .bool, .int .i64, .int .u8, .int .i64, .int .i64, .int .i64] a2, .i a3] sr16 (ofB16 y) :=
  fun_ok (X := X16) tok (sfok_of ⟨ok17, ok29, ok27, ok64, ok42, ok43, ok32, trivial⟩) mixed 16 8 cuts16 rfl toB16_ok ⟨c16_0, c16_1, trivial⟩ ((e16 n a0 a1 a2 a3).trans h)
theorem ok16 {R : Type} : SFone T Tryd.prog 16 (run16 : SF R) := by
  intro ls K r h
  simp only [run16] at h
  obtain ⟨a0, _, rfl, h1⟩ := gI_ok h; obtain ⟨a1, _, rfl, h2⟩ := gI_ok h1; obtain ⟨a2, _, rfl, h3⟩ := gL_ok h2; obtain ⟨a3, _, rfl, h4⟩ := gI_ok h3; obtain ⟨rfl, h5⟩ := gE_ok h4
  obtain ⟨y, k1, k2⟩ := Option.bind_eq_some_iff.1 h5
  exact ⟨_, k2, sp16 a0 a1 a2 a3 k1⟩

/-! ### garland/calls.Find -/
def pa24 : List VP := [.agg [.i .i64, .i .i64, .sl false [.int .i64, .int .u8, .int .i64, .int .i64, .int .i64, .int .i64, .bool, .bool, .int .i64, .int .i64, .sl [.int .i64], .str, .int .i64, .int .i64, .bool, .int .i64, .int .u8, .int .i64, .int .i64, .int .i64]], .i .u8]
def sr24 : RShape := ⟨.tup [.agg [.i .i64, .i .u8, .i .i64, .i .i64, .i .i64, .i .i64, .b, .b, .i .i64, .i .i64, .sl true [.int .i64], .s, .i .i64, .i .i64, .b, .i .i64, .i .u8, .i .i64, .i .i64, .i .i64], .b], [], none⟩
def toB24 : List Leaf → Option (Si6b2i2lsi2bi5b) := gI (fun b0 => gI (fun b1 => gI (fun b2 => gI (fun b3 => gI (fun b4 => gI (fun b5 => gB (fun b6 => gB (fun b7 => gI (fun b8 => gI (fun b9 => gL [.int .i64] (fun b10 => gS (fun b11 => gI (fun b12 => gI (fun b13 => gB (fun b14 => gI (fun b15 => gI (fun b16 => gI (fun b17 => gI (fun b18 => gI (fun b19 => gB (fun b20 => gE (some ⟨b0, b1, b2, b3, b4, b5, b6, b7, b8, b9, b10, b11, b12, b13, b14, b15, b16, b17, b18, b19, b20⟩))))))))))))))))))))))
def ofB24 (y : Si6b2i2lsi2bi5b) : List Leaf := [.i y.q0, .i y.q1, .i y.q2, .i y.q3, .i y.q4, .i y.q5, .b y.q6, .b y.q7, .i y.q8, .i y.q9, .l [.int .i64] y.q10, .s y.q11, .i y.q12, .i y.q13, .b y.q14, .i y.q15, .i y.q16, .i y.q17, .i y.q18, .i y.q19, .b y.q20]
theorem toB24_ok : ∀ ls b, toB24 ls = some b → ls = ofB24 b := by
  intro ls b h
  unfold toB24 at h
  obtain ⟨b0, b1, b2, b3, _, rfl, h1⟩ := gI4_ok h; obtain ⟨b4, _, rfl, h2⟩ := gI_ok h1; obtain ⟨b5, _, rfl, h3⟩ := gI_ok h2; obtain ⟨b6, _, rfl, h4⟩ := gB_ok h3; obtain ⟨b7, _, rfl, h5⟩ := gB_ok h4; obtain ⟨b8, _, rfl, h6⟩ := gI_ok h5; obtain ⟨b9, _, rfl, h7⟩ := gI_ok h6; obtain ⟨b10, _, rfl, h8⟩ := gL_ok h7; obtain ⟨b11, _, rfl, h9⟩ := gS_ok h8; obtain ⟨b12, _, rfl, h10⟩ := gI_ok h9; obtain ⟨b13, _, rfl, h11⟩ := gI_ok h10; obtain ⟨b14, _, rfl, h12⟩ := gB_ok h11; obtain ⟨b15, b16, b17, b18, _, rfl, h13⟩ := gI4_ok h12; obtain ⟨b19, _, rfl, h14⟩ := gI_ok h13; obtain ⟨b20, _, rfl, h15⟩ := gB_ok h14; obtain ⟨rfl, h16⟩ := gE_ok h15
  cases h16; rfl
def run24 {R : Type} : SF R := ⟨pa24, sr24, fun ls K => (gI (fun a0 => gI (fun a1 => gL [.int .i64, .int .u8, .int .i64, .int .i64, .int .i64, .int .i64, .bool, .bool, .int .i64, .int .i64, .sl [.int .i64], .str, .int .i64, .int .i64, .bool, .int .i64, .int .u8, .int .i64, .int .i64, .int .i64] (fun a2 => gI (fun a3 => gE (Option.bind (F24 FUEL a0 a1 a2 a3) fun y => K (ofB24 y))))))) ls⟩
def sh24_0 : Shape := ⟨[(19, [(4, .ref 0 0), (5, .ref 1 0)])], [.cells [.i .i64, .i .u8, .i .i64, .i .i64, .i .i64, .i .i64, .b, .b, .i .i64, .i .i64, .nil, .s, .i .i64, .i .i64, .b, .i .i64, .i .u8, .i .i64, .i .i64, .i .i64], .cells [.b]]⟩
def g24_0 (n : Nat) : List Leaf → Option (Si6b2i2lsi2bi5b) := gI (fun x0 => gI (fun x1 => gI (fun x2 => gI (fun x3 => gI (fun x4 => gI (fun x5 => gB (fun x6 => gB (fun x7 => gI (fun x8 => gI (fun x9 => gS (fun x10 => gI (fun x11 => gI (fun x12 => gB (fun x13 => gI (fun x14 => gI (fun x15 => gI (fun x16 => gI (fun x17 => gI (fun x18 => gB (fun x19 => gE (F24_c0 n x0 x1 x2 x3 x4 x5 x6 x7 x8 x9 x10 x11 x12 x13 x14 x15 x16 x17 x18 x19)))))))))))))))))))))
def sh24_1 : Shape := ⟨[(18, [(0, .yield 7), (6, .sl false [.int .i64, .int .u8, .int .i64, .int .i64, .int .i64, .int .i64, .bool, .bool, .int .i64, .int .i64, .sl [.int .i64], .str, .int .i64, .int .i64, .bool, .int .i64, .int .u8, .int .i64, .int .i64, .int .i64]), (7, .i .i64), (8, .i .i64)]), (19, [(3, .ref 0 0), (4, .ref 1 0), (5, .ref 2 0)])], [.cells [.i .u8], .cells [.i .i64, .i .u8, .i .i64, .i .i64, .i .i64, .i .i64, .b, .b, .i .i64, .i .i64, .nil, .s, .i .i64, .i .i64, .b, .i .i64, .i .u8, .i .i64, .i .i64, .i .i64], .cells [.b]]⟩
def g24_1 (n : Nat) : List Leaf → Option (Si6b2i2lsi2bi5b) := gL [.int .i64, .int .u8, .int .i64, .int .i64, .int .i64, .int .i64, .bool, .bool, .int .i64, .int .i64, .sl [.int .i64], .str, .int .i64, .int .i64, .bool, .int .i64, .int .u8, .int .i64, .int .i64, .int .i64] (fun x0 => gI (fun x1 => gI (fun x2 => gI (fun x3 => gI (fun x4 => gI (fun x5 => gI (fun x6 => gI (fun x7 => gI (fun x8 => gI (fun x9 => gB (fun x10 => gB (fun x11 => gI (fun x12 => gI (fun x13 => gS (fun x14 => gI (fun x15 => gI (fun x16 => gB (fun x17 => gI (fun x18 => gI (fun x19 => gI (fun x20 => gI (fun x21 => gI (fun x22 => gB (fun x23 => gE (F24_c1 n x0 x1 x2 x3 x4 x5 x6 x7 x8 x9 x10 x11 x12 x13 x14 x15 x16 x17 x18 x19 x20 x21 x22 x23)))))))))))))))))))))))))
def cuts24 : List (List Nat × Cut (Si6b2i2lsi2bi5b)) := [([1, 10], ⟨sh24_0, g24_0⟩), ([1, 0, 1, 0, 1, 0, 126, 1, 0], ⟨sh24_1, g24_1⟩)]
noncomputable def X24 : Px (Si6b2i2lsi2bi5b) := ⟨T, Tryd.prog, lkF [(17, run17), (64, run64)], mkCuts 24 cuts24, altN, altN_ok⟩
theorem e24_0 (n : Nat) (x0 x1 x2 x3 x4 x5 : Int) (x6 x7 : Bool) (x8 x9 : Int) (x10 : ByteArray) (x11 x12 : Int) (x13 : Bool) (x14 x15 x16 x17 x18 : Int) (x19 : Bool) : stepF X24 8 24 (endK sr24 toB24) [1, 10] sh24_0 n [.i x0, .i x1, .i x2, .i x3, .i x4, .i x5, .b x6, .b x7, .i x8, .i x9, .s x10, .i x11, .i x12, .b x13, .i x14, .i x15, .i x16, .i x17, .i x18, .b x19] = F24_c0 (n + 1) x0 x1 x2 x3 x4 x5 x6 x7 x8 x9 x10 x11 x12 x13 x14 x15 x16 x17 x18 x19 := by kernel_rfl
theorem e24_1 (n : Nat) (x0 : List (Int × Int × Int × Int × Int × Int × Bool × Bool × Int × Int × (List (Int)) × ByteArray × Int × Int × Bool × Int × Int × Int × Int × Int)) (x1 x2 x3 x4 x5 x6 x7 x8 x9 : Int) (x10 x11 : Bool) (x12 x13 : Int) (x14 : ByteArray) (x15 x16 : Int) (x17 : Bool) (x18 x19 x20 x21 x22 : Int) (x23 : Bool) : stepF X24 8 24 (endK sr24 toB24) [1, 0, 1, 0, 1, 0, 126, 1, 0] sh24_1 n [.l [.int .i64, .int .u8, .int .i64, .int .i64, .int .i64, .int .i64, .bool, .bool, .int .i64, .int .i64, .sl [.int .i64], .str, .int .i64, .int .i64, .bool, .int .i64, .int .u8, .int .i64, .int .i64, .int .i64] x0, .i x1, .i x2, .i x3, .i x4, .i x5, .i x6, .i x7, .i x8, .i x9, .b x10, .b x11, .i x12, .i x13, .s x14, .i x15, .i x16, .b x17, .i x18, .i x19, .i x20, .i x21, .i x22, .b x23] = F24_c1 (n + 1) x0 x1 x2 x3 x4 x5 x6 x7 x8 x9 x10 x11 x12 x13 x14 x15 x16 x17 x18 x19 x20 x21 x22 x23 := by kernel_rfl
theorem e24 (n : Nat) (a0 a1 : Int) (a2 : List (Int × Int × Int × Int × Int × Int × Bool × Bool × Int × Int × (List (Int)) × ByteArray × Int × Int × Bool × Int × Int × Int × Int × Int)) (a3 : Int) : entF X24 8 24 pa24 (endK sr24 toB24) n [.i a0, .i a1, .l [.int .i64, .int .u8, .int .i64, .int .i64, .int .i64, .int .i64, .bool, .bool, .int .i64, .int .i64, .sl [.int .i64], .str, .int .i64, .int .i64, .bool, .int .i64, .int .u8, .int .i64, .int .i64, .int .i64] a2, .i a3] = F24 n a0 a1 a2 a3 := by kernel_rfl
theorem c24_0 : CutOK X24 8 24 (endK sr24 toB24) [1, 10] ⟨sh24_0, g24_0⟩ := by
  refine ⟨fun ls => ?_, fun n ls r h => ?_⟩
  · cases h : g24_0 0 ls with
    | none => exact h
    | some r =>
      unfold g24_0 at h; obtain ⟨x0, x1, x2, x3, _, rfl, h1⟩ := gI4_ok h; obtain ⟨x4, _, rfl, h2⟩ := gI_ok h1; obtain ⟨x5, _, rfl, h3⟩ := gI_ok h2; obtain ⟨x6, _, rfl, h4⟩ := gB_ok h3; obtain ⟨x7, _, rfl, h5⟩ := gB_ok h4; obtain ⟨x8, _, rfl, h6⟩ := gI_ok h5; obtain ⟨x9, _, rfl, h7⟩ := gI_ok h6; obtain ⟨x10, _, rfl, h8⟩ := gS_ok h7; obtain ⟨x11, _, rfl, h9⟩ := gI_ok h8; obtain ⟨x12, _, rfl, h10⟩ := gI_ok h9; obtain ⟨x13, _, rfl, h11⟩ := gB_ok h10; obtain ⟨x14, x15, x16, x17, _, rfl, h12⟩ := gI4_ok h11; obtain ⟨x18, _, rfl, h13⟩ := gI_ok h12; obtain ⟨x19, _, rfl, h14⟩ := gB_ok h13; obtain ⟨rfl, h15⟩ := gE_ok h14; simp only [F24_c0] at h15; cases h15
  · replace h : g24_0 (n + 1) ls = some r := h
    unfold g24_0 at h
    obtain ⟨x0, x1, x2, x3, _, rfl, h1⟩ := gI4_ok h; obtain ⟨x4, _, rfl, h2⟩ := gI_ok h1; obtain ⟨x5, _, rfl, h3⟩ := gI_ok h2; obtain ⟨x6, _, rfl, h4⟩ := gB_ok h3; obtain ⟨x7, _, rfl, h5⟩ := gB_ok h4; obtain ⟨x8, _, rfl, h6⟩ := gI_ok h5; obtain ⟨x9, _, rfl, h7⟩ := gI_ok h6; obtain ⟨x10, _, rfl, h8⟩ := gS_ok h7; obtain ⟨x11, _, rfl, h9⟩ := gI_ok h8; obtain ⟨x12, _, rfl, h10⟩ := gI_ok h9; obtain ⟨x13, _, rfl, h11⟩ := gB_ok h10; obtain ⟨x14, x15, x16, x17, _, rfl, h12⟩ := gI4_ok h11; obtain ⟨x18, _, rfl, h13⟩ := gI_ok h12; obtain ⟨x19, _, rfl, h14⟩ := gB_ok h13; obtain ⟨rfl, h15⟩ := gE_ok h14
    exact (e24_0 n x0 x1 x2 x3 x4 x5 x6 x7 x8 x9 x10 x11 x12 x13 x14 x15 x16 x17 x18 x19).trans h15
theorem c24_1 : CutOK X24 8 24 (endK sr24 toB24) [1, 0, 1, 0, 1, 0, 126, 1, 0] ⟨sh24_1, g24_1⟩ := by
  refine ⟨fun ls => ?_, fun n ls r h => ?_⟩
  · cases h : g24_1 0 ls with
    | none => exact h
    | some r =>
      unfold g24_1 at h; obtain ⟨x0, _, rfl, h1⟩ := gL_ok h; obtain ⟨x1, x2, x3, x4, x5, x6, x7, x8, _, rfl, h2⟩ := gI8_ok h1; obtain ⟨x9, _, rfl, h3⟩ := gI_ok h2; obtain ⟨x10, _, rfl, h4⟩ := gB_ok h3; obtain ⟨x11, _, rfl, h5⟩ := gB_ok h4; obtain ⟨x12, _, rfl, h6⟩ := gI_ok h5; obtain ⟨x13, _, rfl, h7⟩ := gI_ok h6; obtain ⟨x14, _, rfl, h8⟩ := gS_ok h7; obtain ⟨x15, _, rfl, h9⟩ := gI_ok h8; obtain ⟨x16, _, rfl, h10⟩ := gI_ok h9; obtain ⟨x17, _, rfl, h11⟩ := gB_ok h10; obtain ⟨x18, x19, x20, x21, _, rfl, h12⟩ := gI4_ok h11; obtain ⟨x22, _, rfl, h13⟩ := gI_ok h12; obtain ⟨x23, _, rfl, h14⟩ := gB_ok h13; obtain ⟨rfl, h15⟩ := gE_ok h14; simp only [F24_c1] at h15; cases h15
  · replace h : g24_1 (n + 1) ls = some r := h
    unfold g24_1 at h
    obtain ⟨x0, _, rfl, h1⟩ := gL_ok h; obtain ⟨x1, x2, x3, x4, x5, x6, x7, x8, _, rfl, h2⟩ := gI8_ok h1; obtain ⟨x9, _, rfl, h3⟩ := gI_ok h2; obtain ⟨x10, _, rfl, h4⟩ := gB_ok h3; obtain ⟨x11, _, rfl, h5⟩ := gB_ok h4; obtain ⟨x12, _, rfl, h6⟩ := gI_ok h5; obtain ⟨x13, _, rfl, h7⟩ := gI_ok h6; obtain ⟨x14, _, rfl, h8⟩ := gS_ok h7; obtain ⟨x15, _, rfl, h9⟩ := gI_ok h8; obtain ⟨x16, _, rfl, h10⟩ := gI_ok h9; obtain ⟨x17, _, rfl, h11⟩ := gB_ok h10; obtain ⟨x18, x19, x20, x21, _, rfl, h12⟩ := gI4_ok h11; obtain ⟨x22, _, rfl, h13⟩ := gI_ok h12; obtain ⟨x23, _, rfl, h14⟩ := gB_ok h13; obtain ⟨rfl, h15⟩ := gE_ok h14
    exact (e24_1 n x0 x1 x2 x3 x4 x5 x6 x7 x8 x9 x10 x11 x12 x13 x14 x15 x16 x17 x18 x19 x20 x21 x22 x23).trans h15
theorem sp24 {n : Nat} (a0 a1 : Int) (a2 : List (Int × Int × Int × Int × Int × Int × Bool × Bool × Int × Int × (List (Int)) × ByteArray × Int × Int × Bool × Int × Int × Int × Int × Int)) (a3 : Int) {y : Si6b2i2lsi2bi5b} (h : F24 n a0 a1 a2 a3 = some y) : SpecF T Tryd.prog 24 pa24 [.i a0, .i a1, .l [.int .i64, .int .u8, .int .i64, .int .i64, .int .i64, .int .i64, .bool, .bool, .int .i64, .int .i64, .sl [.int .i64], .str, .int .i64, .int .i64, .bool, .int .i64, .int .u8, .int .i64, .int .i64, .int .i64] a2, .i a3] sr24 (ofB24 y) :=
  fun_ok (X := X24) tok (sfok_of ⟨ok17, ok64, trivial⟩) mixed 24 8 cuts24 rfl toB24_ok ⟨c24_0, c24_1, trivial⟩ ((e24 n a0 a1 a2 a3).trans h)
theorem ok24 {R : Type} : SFone T Tryd.prog 24 (run24 : SF R) := by
  intro ls K r h
  simp only [run24] at h
  obtain ⟨a0, _, rfl, h1⟩ := gI_ok h; obtain ⟨a1, _, rfl, h2⟩ := gI_ok h1; obtain ⟨a2, _, rfl, h3⟩ := gL_ok h2; obtain ⟨a3, _, rfl, h4⟩ := gI_ok h3; obtain ⟨rfl, h5⟩ := gE_ok h4
  obtain ⟨y, k1, k2⟩ := Option.bind_eq_some_iff.1 h5
  exact ⟨_, k2, sp24 a0 a1 a2 a3 k1⟩

/-! ### garland/calls.Drop -/
def pa25 : List VP := [.agg [.i .i64, .i .i64, .sl false [.int .i64, .int .u8, .int .i64, .int .i64, .int .i64, .int .i64, .bool, .bool, .int .i64, .int .i64, .sl [.int .i64], .str, .int .i64, .int .i64, .bool, .int .i64, .int .u8, .int .i64, .int .i64, .int .i64]], .i .u8]
def sr25 : RShape := ⟨.agg [.i .i64, .i .i64, .row 0], [.row true [.int .i64, .int .u8, .int .i64, .int .i64, .int .i64, .int .i64, .bool, .bool, .int .i64, .int .i64, .sl [.int .i64], .str, .int .i64, .int .i64, .bool, .int .i64, .int .u8, .int .i64, .int .i64, .int .i64]], none⟩
def toB25 : List Leaf → Option (Int × Int × (List (Int × Int × Int × Int × Int × Int × Bool × Bool × Int × Int × (List (Int)) × ByteArray × Int × Int × Bool × Int × Int × Int × Int × Int))) := gI (fun b0 => gI (fun b1 => gL [.int .i64, .int .u8, .int .i64, .int .i64, .int .i64, .int .i64, .bool, .bool, .int .i64, .int .i64, .sl [.int .i64], .str, .int .i64, .int .i64, .bool, .int .i64, .int .u8, .int .i64, .int .i64, .int .i64] (fun b2 => gE (some (b0, b1, b2)))))
def ofB25 (y : Int × Int × (List (Int × Int × Int × Int × Int × Int × Bool × Bool × Int × Int × (List (Int)) × ByteArray × Int × Int × Bool × Int × Int × Int × Int × Int))) : List Leaf := [.i y.1, .i y.2.1, .l [.int .i64, .int .u8, .int .i64, .int .i64, .int .i64, .int .i64, .bool, .bool, .int .i64, .int .i64, .sl [.int .i64], .str, .int .i64, .int .i64, .bool, .int .i64, .int .u8, .int .i64, .int .i64, .int .i64] y.2.2]
theorem toB25_ok : ∀ ls b, toB25 ls = some b → ls = ofB25 b := by
  intro ls b h
  unfold toB25 at h
  obtain ⟨b0, _, rfl, h1⟩ := gI_ok h; obtain ⟨b1, _, rfl, h2⟩ := gI_ok h1; obtain ⟨b2, _, rfl, h3⟩ := gL_ok h2; obtain ⟨rfl, h4⟩ := gE_ok h3
  cases h4; rfl
def run25 {R : Type} : SF R := ⟨pa25, sr25, fun ls K => (gI (fun a0 => gI (fun a1 => gL [.int .i64, .int .u8, .int .i64, .int .i64, .int .i64, .int .i64, .bool, .bool, .int .i64, .int .i64, .sl [.int .i64], .str, .int .i64, .int .i64, .bool, .int .i64, .int .u8, .int .i64, .int .i64, .int .i64] (fun a2 => gI (fun a3 => gE (Option.bind (F25 FUEL a0 a1 a2 a3) fun y => K (ofB25 y))))))) ls⟩
def sh25_0 : Shape := ⟨[(13, [(2, .ref 0 0), (4, .ref 1 0)])], [.cells [.i .i64, .i .i64, .sl false [.int .i64, .int .u8, .int .i64, .int .i64, .int .i64, .int .i64, .bool, .bool, .int .i64, .int .i64, .sl [.int .i64], .str, .int .i64, .int .i64, .bool, .int .i64, .int .u8, .int .i64, .int .i64, .int .i64]], .cells [.i .i64, .i .i64, .nil]]⟩
def g25_0 (n : Nat) : List Leaf → Option (Int × Int × (List (Int × Int × Int × Int × Int × Int × Bool × Bool × Int × Int × (List (Int)) × ByteArray × Int × Int × Bool × Int × Int × Int × Int × Int))) := gI (fun x0 => gI (fun x1 => gL [.int .i64, .int .u8, .int .i64, .int .i64, .int .i64, .int .i64, .bool, .bool, .int .i64, .int .i64, .sl [.int .i64], .str, .int .i64, .int .i64, .bool, .int .i64, .int .u8, .int .i64, .int .i64, .int .i64] (fun x2 => gI (fun x3 => gI (fun x4 => gE (F25_c0 n x0 x1 x2 x3 x4))))))
def sh25_1 : Shape := ⟨[(18, [(0, .yield 13), (6, .sl false [.int .i64, .int .u8, .int .i64, .int .i64, .int .i64, .int .i64, .bool, .bool, .int .i64, .int .i64, .sl [.int .i64], .str, .int .i64, .int .i64, .bool, .int .i64, .int .u8, .int .i64, .int .i64, .int .i64]), (7, .i .i64), (8, .i .i64)]), (28, [(3, .ref 0 0), (4, .ref 1 0), (5, .ref 2 0)]), (13, [(4, .ref 3 0)])], [.cells [.clos 48 [.ref 4 0]], .cells [.i .i64, .i .i64, .nil], .cells [.i .i64, .i .i64, .row 5], .cells [.i .i64, .i .i64, .nil], .cells [.i .u8], .row true [.int .i64, .int .u8, .int .i64, .int .i64, .int .i64, .int .i64, .bool, .bool, .int .i64, .int .i64, .sl [.int .i64], .str, .int .i64, .int .i64, .bool, .int .i64, .int .u8, .int .i64, .int .i64, .int .i64]]⟩
def g25_1 (n : Nat) : List Leaf → Option (Int × Int × (List (Int × Int × Int × Int × Int × Int × Bool × Bool × Int × Int × (List (Int)) × ByteArray × Int × Int × Bool × Int × Int × Int × Int × Int))) := gL [.int .i64, .int .u8, .int .i64, .int .i64, .int .i64, .int .i64, .bool, .bool, .int .i64, .int .i64, .sl [.int .i64], .str, .int .i64, .int .i64, .bool, .int .i64, .int .u8, .int .i64, .int .i64, .int .i64] (fun x0 => gI (fun x1 => gI (fun x2 => gI (fun x3 => gI (fun x4 => gI (fun x5 => gI (fun x6 => gI (fun x7 => gI (fun x8 => gI (fun x9 => gL [.int .i64, .int .u8, .int .i64, .int .i64, .int .i64, .int .i64, .bool, .bool, .int .i64, .int .i64, .sl [.int .i64], .str, .int .i64, .int .i64, .bool, .int .i64, .int .u8, .int .i64, .int .i64, .int .i64] (fun x10 => gE (F25_c1 n x0 x1 x2 x3 x4 x5 x6 x7 x8 x9 x10))))))))))))
def cuts25 : List (List Nat × Cut (Int × Int × (List (Int × Int × Int × Int × Int × Int × Bool × Bool × Int × Int × (List (Int)) × ByteArray × Int × Int × Bool × Int × Int × Int × Int × Int)))) := [([1, 10], ⟨sh25_0, g25_0⟩), ([1, 0, 1, 0, 0, 2, 76, 1, 1, 0, 1, 0, 126, 1, 0], ⟨sh25_1, g25_1⟩)]
noncomputable def X25 : Px (Int × Int × (List (Int × Int × Int × Int × Int × Int × Bool × Bool × Int × Int × (List (Int)) × ByteArray × Int × Int × Bool × Int × Int × Int × Int × Int))) := ⟨T, Tryd.prog, lkF [(17, run17), (27, run27), (64, run64)], mkCuts 25 cuts25, altN, altN_ok⟩
theorem e25_0 (n : Nat) (x0 x1 : Int) (x2 : List (Int × Int × Int × Int × Int × Int × Bool × Bool × Int × Int × (List (Int)) × ByteArray × Int × Int × Bool × Int × Int × Int × Int × Int)) (x3 x4 : Int) : stepF X25 8 25 (endK sr25 toB25) [1, 10] sh25_0 n [.i x0, .i x1, .l [.int .i64, .int .u8, .int .i64, .int .i64, .int .i64, .int .i64, .bool, .bool, .int .i64, .int .i64, .sl [.int .i64], .str, .int .i64, .int .i64, .bool, .int .i64, .int .u8, .int .i64, .int .i64, .int .i64] x2, .i x3, .i x4] = F25_c0 (n + 1) x0 x1 x2 x3 x4 := by kernel_rfl
theorem e25_1 (n : Nat) (x0 : List (Int × Int × Int × Int × Int × Int × Bool × Bool × Int × Int × (List (Int)) × ByteArray × Int × Int × Bool × Int × Int × Int × Int × Int)) (x1 x2 x3 x4 x5 x6 x7 x8 x9 : Int) (x10 : List (Int × Int × Int × Int × Int × Int × Bool × Bool × Int × Int × (List (Int)) × ByteArray × Int × Int × Bool × Int × Int × Int × Int × Int)) : stepF X25 8 25 (endK sr25 toB25) [1, 0, 1, 0, 0, 2, 76, 1, 1, 0, 1, 0, 126, 1, 0] sh25_1 n [.l [.int .i64, .int .u8, .int .i64, .int .i64, .int .i64, .int .i64, .bool, .bool, .int .i64, .int .i64, .sl [.int .i64], .str, .int .i64, .int .i64, .bool, .int .i64, .int .u8, .int .i64, .int .i64, .int .i64] x0, .i x1, .i x2, .i x3, .i x4, .i x5, .i x6, .i x7, .i x8, .i x9, .l [.int .i64, .int .u8, .int .i64, .int .i64, .int .i64, .int .i64, .bool, .bool, .int .i64, .int .i64, .sl [.int .i64], .str, .int .i64, .int .i64, .bool, .int .i64, .int .u8, .int .i64, .int .i64, .int .i64] x10] = F25_c1 (n + 1) x0 x1 x2 x3 x4 x5 x6 x7 x8 x9 x10 := by kernel_rfl
theorem e25 (n : Nat) (a0 a1 : Int) (a2 : List (Int × Int × Int × Int × Int × Int × Bool × Bool × Int × Int × (List (Int)) × ByteArray × Int × Int × Bool × Int × Int × Int × Int × Int)) (a3 : Int) : entF X25 8 25 pa25 (endK sr25 toB25) n [.i a0, .i a1, .l [.int .i64, .int .u8, .int .i64, .int .i64, .int .i64, .int .i64, .bool, .bool, .int .i64, .int .i64, .sl [.int .i64], .str, .int .i64, .int .i64, .bool, .int .i64, .int .u8, .int .i64, .int .i64, .int .i64] a2, .i a3] = F25 n a0 a1 a2 a3 := by kernel_rfl
theorem c25_0 : CutOK X25 8 25 (endK sr25 toB25) [1, 10] ⟨sh25_0, g25_0⟩ := by
  refine ⟨fun ls => ?_, fun n ls r h => ?_⟩
  · cases h : g25_0 0 ls with
    | none => exact h
    | some r =>
      unfold g25_0 at h; obtain ⟨x0, _, rfl, h1⟩ := gI_ok h; obtain ⟨x1, _, rfl, h2⟩ := gI_ok h1; obtain ⟨x2, _, rfl, h3⟩ := gL_ok h2; obtain ⟨x3, _, rfl, h4⟩ := gI_ok h3; obtain ⟨x4, _, rfl, h5⟩ := gI_ok h4; obtain ⟨rfl, h6⟩ := gE_ok h5; simp only [F25_c0] at h6; cases h6
  · replace h : g25_0 (n + 1) ls = some r := h
    unfold g25_0 at h
    obtain ⟨x0, _, rfl, h1⟩ := gI_ok h; obtain ⟨x1, _, rfl, h2⟩ := gI_ok h1; obtain ⟨x2, _, rfl, h3⟩ := gL_ok h2; obtain ⟨x3, _, rfl, h4⟩ := gI_ok h3; obtain ⟨x4, _, rfl, h5⟩ := gI_ok h4; obtain ⟨rfl, h6⟩ := gE_ok h5
    exact (e25_0 n x0 x1 x2 x3 x4).trans h6
theorem c25_1 : CutOK X25 8 25 (endK sr25 toB25) [1, 0, 1, 0, 0, 2, 76, 1, 1, 0, 1, 0, 126, 1, 0] ⟨sh25_1, g25_1⟩ := by
  refine ⟨fun ls => ?_, fun n ls r h => ?_⟩
  · cases h : g25_1 0 ls with
    | none => exact h
    | some r =>
      unfold g25_1 at h; obtain ⟨x0, _, rfl, h1⟩ := gL_ok h; obtain ⟨x1, x2, x3, x4, x5, x6, x7, x8, _, rfl, h2⟩ := gI8_ok h1; obtain ⟨x9, _, rfl, h3⟩ := gI_ok h2; obtain ⟨x10, _, rfl, h4⟩ := gL_ok h3; obtain ⟨rfl, h5⟩ := gE_ok h4; simp only [F25_c1] at h5; cases h5
  · replace h : g25_1 (n + 1) ls = some r := h
    unfold g25_1 at h
    obtain ⟨x0, _, rfl, h1⟩ := gL_ok h; obtain ⟨x1, x2, x3, x4, x5, x6, x7, x8, _, rfl, h2⟩ := gI8_ok h1; obtain ⟨x9, _, rfl, h3⟩ := gI_ok h2; obtain ⟨x10, _, rfl, h4⟩ := gL_ok h3; obtain ⟨rfl, h5⟩ := gE_ok h4
    exact (e25_1 n x0 x1 x2 x3 x4 x5 x6 x7 x8 x9 x10).trans h5
theorem sp25 {n : Nat} (a0 a1 : Int) (a2 : List (Int × Int × Int × Int × Int × Int × Bool × Bool × Int × Int × (List (Int)) × ByteArray × Int × Int × Bool × Int × Int × Int × Int × Int)) (a3 : Int) {y : Int × Int × (List (Int × Int × Int × Int × Int × Int × Bool × Bool × Int × Int × (List (Int)) × ByteArray × Int × Int × Bool × Int × Int × Int × Int × Int))} (h : F25 n a0 a1 a2 a3 = some y) : SpecF T Tryd.prog 25 pa25 [.i a0, .i a1, .l [.int .i64, .int .u8, .int .i64, .int .i64, .int .i64, .int .i64, .bool, .bool, .int .i64, .int .i64, .sl [.int .i64], .str, .int .i64, .int .i64, .bool, .int .i64, .int .u8, .int .i64, .int .i64, .int .i64] a2, .i a3] sr25 (ofB25 y) :=
  fun_ok (X := X25) tok (sfok_of ⟨ok17, ok27, ok64, trivial⟩) mixed 25 8 cuts25 rfl toB25_ok ⟨c25_0, c25_1, trivial⟩ ((e25 n a0 a1 a2 a3).trans h)
theorem ok25 {R : Type} : SFone T Tryd.prog 25 (run25 : SF R) := by
  intro ls K r h
  simp only [run25] at h
  obtain ⟨a0, _, rfl, h1⟩ := gI_ok h; obtain ⟨a1, _, rfl, h2⟩ := gI_ok h1; obtain ⟨a2, _, rfl, h3⟩ := gL_ok h2; obtain ⟨a3, _, rfl, h4⟩ := gI_ok h3; obtain ⟨rfl, h5⟩ := gE_ok h4
  obtain ⟨y, k1, k2⟩ := Option.bind_eq_some_iff.1 h5
  exact ⟨_, k2, sp25 a0 a1 a2 a3 k1⟩

/-! ### garland/calls.sameCall -/
def pa50 : List VP := [.agg [.i .i64, .i .u8, .i .i64, .i .i64, .i .i64, .i .i64, .b, .b, .i .i64, .i .i64, .sl false [.int .i64], .s, .i .i64, .i .i64, .b, .i .i64, .i .u8, .i .i64, .i .i64, .i .i64], .agg [.i .i64, .i .u8, .i .i64, .i .i64, .i .i64, .i .i64, .b, .b, .i .i64, .i .i64, .sl false [.int .i64], .s, .i .i64, .i .i64, .b, .i .i64, .i .u8, .i .i64, .i .i64, .i .i64]]
def sr50 : RShape := ⟨.b, [], none⟩
def toB50 : List Leaf → Option (Bool) := gB (fun b0 => gE (some b0))
def ofB50 (y : Bool) : List Leaf := [.b y]
theorem toB50_ok : ∀ ls b, toB50 ls = some b → ls = ofB50 b := by
  intro ls b h
  unfold toB50 at h
  obtain ⟨b0, _, rfl, h1⟩ := gB_ok h; obtain ⟨rfl, h2⟩ := gE_ok h1
  cases h2; rfl
def run50 {R : Type} : SF R := ⟨pa50, sr50, fun ls K => (gI (fun a0 => gI (fun a1 => gI (fun a2 => gI (fun a3 => gI (fun a4 => gI (fun a5 => gB (fun a6 => gB (fun a7 => gI (fun a8 => gI (fun a9 => gL [.int .i64] (fun a10 => gS (fun a11 => gI (fun a12 => gI (fun a13 => gB (fun a14 => gI (fun a15 => gI (fun a16 => gI (fun a17 => gI (fun a18 => gI (fun a19 => gI (fun a20 => gI (fun a21 => gI (fun a22 => gI (fun a23 => gI (fun a24 => gI (fun a25 => gB (fun a26 => gB (fun a27 => gI (fun a28 => gI (fun a29 => gL [.int .i64] (fun a30 => gS (fun a31 => gI (fun a32 => gI (fun a33 => gB (fun a34 => gI (fun a35 => gI (fun a36 => gI (fun a37 => gI (fun a38 => gI (fun a39 => gE (Option.bind (F50 FUEL a0 a1 a2 a3 a4 a5 a6 a7 a8 a9 a10 a11 a12 a13 a14 a15 a16 a17 a18 a19 a20 a21 a22 a23 a24 a25 a26 a27 a28 a29 a30 a31 a32 a33 a34 a35 a36 a37 a38 a39) fun y => K (ofB50 y))))))))))))))))))))))))))))))))))))))))))) ls⟩
def cuts50 : List (List Nat × Cut (Bool)) := []
noncomputable def X50 : Px (Bool) := ⟨T, Tryd.prog, lkF [(57, run57)], mkCuts 50 cuts50, altN, altN_ok⟩
theorem e50 (n : Nat) (a0 a1 a2 a3 a4 a5 : Int) (a6 a7 : Bool) (a8 a9 : Int) (a10 : List (Int)) (a11 : ByteArray) (a12 a13 : Int) (a14 : Bool) (a15 a16 a17 a18 a19 a20 a21 a22 a23 a24 a25 : Int) (a26 a27 : Bool) (a28 a29 : Int) (a30 : List (Int)) (a31 : ByteArray) (a32 a33 : Int) (a34 : Bool) (a35 a36 a37 a38 a39 : Int) : entF X50 8 50 pa50 (endK sr50 toB50) n [.i a0, .i a1, .i a2, .i a3, .i a4, .i a5, .b a6, .b a7, .i a8, .i a9, .l [.int .i64] a10, .s a11, .i a12, .i a13, .b a14, .i a15, .i a16, .i a17, .i a18, .i a19, .i a20, .i a21, .i a22, .i a23, .i a24, .i a25, .b a26, .b a27, .i a28, .i a29, .l [.int .i64] a30, .s a31, .i a32, .i a33, .b a34, .i a35, .i a36, .i a37, .i a38, .i a39] = F50 n a0 a1 a2 a3 a4 a5 a6 a7 a8 a9 a10 a11 a12 a13 a14 a15 a16 a17 a18 a19 a20 a21 a22 a23 a24 a25 a26 a27 a28 a29 a30 a31 a32 a33 a34 a35 a36 a37 a38 a39 := by kernel_rfl
theorem sp50 {n : Nat} (a0 a1 a2 a3 a4 a5 : Int) (a6 a7 : Bool) (a8 a9 : Int) (a10 : List (Int)) (a11 : ByteArray) (a12 a13 : Int) (a14 : Bool) (a15 a16 a17 a18 a19 a20 a21 a22 a23 a24 a25 : Int) (a26 a27 : Bool) (a28 a29 : Int) (a30 : List (Int)) (a31 : ByteArray) (a32 a33 : Int) (a34 : Bool) (a35 a36 a37 a38 a39 : Int) {y : Bool} (h : F50 n a0 a1 a2 a3 a4 a5 a6 a7 a8 a9 a10 a11 a12 a13 a14 a15 a16 a17 a18 a19 a20 a21 a22 a23 a24 a25 a26 a27 a28 a29 a30 a31 a32 a33 a34 a35 a36 a37 a38 a39 = some y) : SpecF T Tryd.prog 50 pa50 [.i a0, .i a1, .i a2, .i a3, .i a4, .i a5, .b a6, .b a7, .i a8, .i a9, .l [.int .i64] a10, .s a11, .i a12, .i a13, .b a14, .i a15, .i a16, .i a17, .i a18, .i a19, .i a20, .i a21, .i a22, .i a23, .i a24, .i a25, .b a26, .b a27, .i a28, .i a29, .l [.int .i64] a30, .s a31, .i a32, .i a33, .b a34, .i a35, .i a36, .i a37, .i a38, .i a39] sr50 (ofB50 y) :=
  fun_ok (X := X50) tok (sfok_of ⟨ok57, trivial⟩) mixed 50 8 cuts50 rfl toB50_ok trivial ((e50 n a0 a1 a2 a3 a4 a5 a6 a7 a8 a9 a10 a11 a12 a13 a14 a15 a16 a17 a18 a19 a20 a21 a22 a23 a24 a25 a26 a27 a28 a29 a30 a31 a32 a33 a34 a35 a36 a37 a38 a39).trans h)
theorem ok50 {R : Type} : SFone T Tryd.prog 50 (run50 : SF R) := by
  intro ls K r h
  simp only [run50] at h
  obtain ⟨a0, a1, a2, a3, _, rfl, h1⟩ := gI4_ok h; obtain ⟨a4, _, rfl, h2⟩ := gI_ok h1; obtain ⟨a5, _, rfl, h3⟩ := gI_ok h2; obtain ⟨a6, _, rfl, h4⟩ := gB_ok h3; obtain ⟨a7, _, rfl, h5⟩ := gB_ok h4; obtain ⟨a8, _, rfl, h6⟩ := gI_ok h5; obtain ⟨a9, _, rfl, h7⟩ := gI_ok h6; obtain ⟨a10, _, rfl, h8⟩ := gL_ok h7; obtain ⟨a11, _, rfl, h9⟩ := gS_ok h8; obtain ⟨a12, _, rfl, h10⟩ := gI_ok h9; obtain ⟨a13, _, rfl, h11⟩ := gI_ok h10; obtain ⟨a14, _, rfl, h12⟩ := gB_ok h11; obtain ⟨a15, a16, a17, a18, a19, a20, a21, a22, _, rfl, h13⟩ := gI8_ok h12; obtain ⟨a23, _, rfl, h14⟩ := gI_ok h13; obtain ⟨a24, _, rfl, h15⟩ := gI_ok h14; obtain ⟨a25, _, rfl, h16⟩ := gI_ok h15; obtain ⟨a26, _, rfl, h17⟩ := gB_ok h16; obtain ⟨a27, _, rfl, h18⟩ := gB_ok h17; obtain ⟨a28, _, rfl, h19⟩ := gI_ok h18; obtain ⟨a29, _, rfl, h20⟩ := gI_ok h19; obtain ⟨a30, _, rfl, h21⟩ := gL_ok h20; obtain ⟨a31, _, rfl, h22⟩ := gS_ok h21; obtain ⟨a32, _, rfl, h23⟩ := gI_ok h22; obtain ⟨a33, _, rfl, h24⟩ := gI_ok h23; obtain ⟨a34, _, rfl, h25⟩ := gB_ok h24; obtain ⟨a35, a36, a37, a38, _, rfl, h26⟩ := gI4_ok h25; obtain ⟨a39, _, rfl, h27⟩ := gI_ok h26; obtain ⟨rfl, h28⟩ := gE_ok h27
  obtain ⟨y, k1, k2⟩ := Option.bind_eq_some_iff.1 h28
  exact ⟨_, k2, sp50 a0 a1 a2 a3 a4 a5 a6 a7 a8 a9 a10 a11 a12 a13 a14 a15 a16 a17 a18 a19 a20 a21 a22 a23 a24 a25 a26 a27 a28 a29 a30 a31 a32 a33 a34 a35 a36 a37 a38 a39 k1⟩

/-! ### garland/calls.Same -/
def pa26 : List VP := [.agg [.i .i64, .i .i64, .sl false [.int .i64, .int .u8, .int .i64, .int .i64, .int .i64, .int .i64, .bool, .bool, .int .i64, .int .i64, .sl [.int .i64], .str, .int .i64, .int .i64, .bool, .int .i64, .int .u8, .int .i64, .int .i64, .int .i64]], .agg [.i .i64, .i .i64, .sl false [.int .i64, .int .u8, .int .i64, .int .i64, .int .i64, .int .i64, .bool, .bool, .int .i64, .int .i64, .sl [.int .i64], .str, .int .i64, .int .i64, .bool, .int .i64, .int .u8, .int .i64, .int .i64, .int .i64]]]
def sr26 : RShape := ⟨.b, [], none⟩
def toB26 : List Leaf → Option (Bool) := gB (fun b0 => gE (some b0))
def ofB26 (y : Bool) : List Leaf := [.b y]
theorem toB26_ok : ∀ ls b, toB26 ls = some b → ls = ofB26 b := by
  intro ls b h
  unfold toB26 at h
  obtain ⟨b0, _, rfl, h1⟩ := gB_ok h; obtain ⟨rfl, h2⟩ := gE_ok h1
  cases h2; rfl
def run26 {R : Type} : SF R := ⟨pa26, sr26, fun ls K => (gI (fun a0 => gI (fun a1 => gL [.int .i64, .int .u8, .int .i64, .int .i64, .int .i64, .int .i64, .bool, .bool, .int .i64, .int .i64, .sl [.int .i64], .str, .int .i64, .int .i64, .bool, .int .i64, .int .u8, .int .i64, .int .i64, .int .i64] (fun a2 => gI (fun a3 => gI (fun a4 => gL [.int .i64, .int .u8, .int .i64, .int .i64, .int .i64, .int .i64, .bool, .bool, .int .i64, .int .i64, .sl [.int .i64], .str, .int .i64, .int .i64, .bool, .int .i64, .int .u8, .int .i64, .int .i64, .int .i64] (fun a5 => gE (Option.bind (F26 FUEL a0 a1 a2 a3 a4 a5) fun y => K (ofB26 y))))))))) ls⟩
def sh26_0 : Shape := ⟨[(32, [(1, .sl false [.int .i64, .int .u8, .int .i64, .int .i64, .int .i64, .int .i64, .bool, .bool, .int .i64, .int .i64, .sl [.int .i64], .str, .int .i64, .int .i64, .bool, .int .i64, .int .u8, .int .i64, .int .i64, .int .i64]), (2, .clos 50 []), (15, .sl false [.int .i64, .int .u8, .int .i64, .int .i64, .int .i64, .int .i64, .bool, .bool, .int .i64, .int .i64, .sl [.int .i64], .str, .int .i64, .int .i64, .bool, .int .i64, .int .u8, .int .i64, .int .i64, .int .i64]), (16, .i .i64), (17, .i .i64)]), (24, [(17, .b)])], []⟩
def g26_0 (n : Nat) : List Leaf → Option (Bool) := gL [.int .i64, .int .u8, .int .i64, .int .i64, .int .i64, .int .i64, .bool, .bool, .int .i64, .int .i64, .sl [.int .i64], .str, .int .i64, .int .i64, .bool, .int .i64, .int .u8, .int .i64, .int .i64, .int .i64] (fun x0 => gL [.int .i64, .int .u8, .int .i64, .int .i64, .int .i64, .int .i64, .bool, .bool, .int .i64, .int .i64, .sl [.int .i64], .str, .int .i64, .int .i64, .bool, .int .i64, .int .u8, .int .i64, .int .i64, .int .i64] (fun x1 => gI (fun x2 => gI (fun x3 => gB (fun x4 => gE (F26_c0 n x0 x1 x2 x3 x4))))))
def cuts26 : List (List Nat × Cut (Bool)) := [([1, 0, 17, 98, 1, 1, 0, 1, 0], ⟨sh26_0, g26_0⟩)]
noncomputable def X26 : Px (Bool) := ⟨T, Tryd.prog, lkF [(50, run50)], mkCuts 26 cuts26, altN, altN_ok⟩
theorem e26_0 (n : Nat) (x0 x1 : List (Int × Int × Int × Int × Int × Int × Bool × Bool × Int × Int × (List (Int)) × ByteArray × Int × Int × Bool × Int × Int × Int × Int × Int)) (x2 x3 : Int) (x4 : Bool) : stepF X26 8 26 (endK sr26 toB26) [1, 0, 17, 98, 1, 1, 0, 1, 0] sh26_0 n [.l [.int .i64, .int .u8, .int .i64, .int .i64, .int .i64, .int .i64, .bool, .bool, .int .i64, .int .i64, .sl [.int .i64], .str, .int .i64, .int .i64, .bool, .int .i64, .int .u8, .int .i64, .int .i64, .int .i64] x0, .l [.int .i64, .int .u8, .int .i64, .int .i64, .int .i64, .int .i64, .bool, .bool, .int .i64, .int .i64, .sl [.int .i64], .str, .int .i64, .int .i64, .bool, .int .i64, .int .u8, .int .i64, .int .i64, .int .i64] x1, .i x2, .i x3, .b x4] = F26_c0 (n + 1) x0 x1 x2 x3 x4 := by kernel_rfl
theorem e26 (n : Nat) (a0 a1 : Int) (a2 : List (Int × Int × Int × Int × Int × Int × Bool × Bool × Int × Int × (List (Int)) × ByteArray × Int × Int × Bool × Int × Int × Int × Int × Int)) (a3 a4 : Int) (a5 : List (Int × Int × Int × Int × Int × Int × Bool × Bool × Int × Int × (List (Int)) × ByteArray × Int × Int × Bool × Int × Int × Int × Int × Int)) : entF X26 8 26 pa26 (endK sr26 toB26) n [.i a0, .i a1, .l [.int .i64, .int .u8, .int .i64, .int .i64, .int .i64, .int .i64, .bool, .bool, .int .i64, .int .i64, .sl [.int .i64], .str, .int .i64, .int .i64, .bool, .int .i64, .int .u8, .int .i64, .int .i64, .int .i64] a2, .i a3, .i a4, .l [.int .i64, .int .u8, .int .i64, .int .i64, .int .i64, .int .i64, .bool, .bool, .int .i64, .int .i64, .sl [.int .i64], .str, .int .i64, .int .i64, .bool, .int .i64, .int .u8, .int .i64, .int .i64, .int .i64] a5] = F26 n a0 a1 a2 a3 a4 a5 := by kernel_rfl
theorem c26_0 : CutOK X26 8 26 (endK sr26 toB26) [1, 0, 17, 98, 1, 1, 0, 1, 0] ⟨sh26_0, g26_0⟩ := by
  refine ⟨fun ls => ?_, fun n ls r h => ?_⟩
  · cases h : g26_0 0 ls with
    | none => exact h
    | some r =>
      unfold g26_0 at h; obtain ⟨x0, _, rfl, h1⟩ := gL_ok h; obtain ⟨x1, _, rfl, h2⟩ := gL_ok h1; obtain ⟨x2, _, rfl, h3⟩ := gI_ok h2; obtain ⟨x3, _, rfl, h4⟩ := gI_ok h3; obtain ⟨x4, _, rfl, h5⟩ := gB_ok h4; obtain ⟨rfl, h6⟩ := gE_ok h5; simp only [F26_c0] at h6; cases h6
  · replace h : g26_0 (n + 1) ls = some r := h
    unfold g26_0 at h
    obtain ⟨x0, _, rfl, h1⟩ := gL_ok h; obtain ⟨x1, _, rfl, h2⟩ := gL_ok h1; obtain ⟨x2, _, rfl, h3⟩ := gI_ok h2; obtain ⟨x3, _, rfl, h4⟩ := gI_ok h3; obtain ⟨x4, _, rfl, h5⟩ := gB_ok h4; obtain ⟨rfl, h6⟩ := gE_ok h5
    exact (e26_0 n x0 x1 x2 x3 x4).trans h6
theorem sp26 {n : Nat} (a0 a1 : Int) (a2 : List (Int × Int × Int × Int × Int × Int × Bool × Bool × Int × Int × (List (Int)) × ByteArray × Int × Int × Bool × Int × Int × Int × Int × Int)) (a3 a4 : Int) (a5 : List (Int × Int × Int × Int × Int × Int × Bool × Bool × Int × Int × (List (Int)) × ByteArray × Int × Int × Bool × Int × Int × Int × Int × Int)) {y : Bool} (h : F26 n a0 a1 a2 a3 a4 a5 = some y) : SpecF T Tryd.prog 26 pa26 [.i a0, .i a1, .l [.int .i64, .int .u8, .int .i64, .int .i64, .int .i64, .int .i64, .bool, .bool, .int .i64, .int .i64, .sl [.int .i64], .str, .int .i64, .int .i64, .bool, .int .i64, .int .u8, .int .i64, .int .i64, .int .i64] a2, .i a3, .i a4, .l [.int .i64, .int .u8, .int .i64, .int .i64, .int .i64, .int .i64, .bool, .bool, .int .i64, .int .i64, .sl [.int .i64], .str, .int .i64, .int .i64, .bool, .int .i64, .int .u8, .int .i64, .int .i64, .int .i64] a5] sr26 (ofB26 y) :=
  fun_ok (X := X26) tok (sfok_of ⟨ok50, trivial⟩) mixed 26 8 cuts26 rfl toB26_ok ⟨c26_0, trivial⟩ ((e26 n a0 a1 a2 a3 a4 a5).trans h)
theorem ok26 {R : Type} : SFone T Tryd.prog 26 (run26 : SF R) := by
  intro ls K r h
  simp only [run26] at h
  obtain ⟨a0, _, rfl, h1⟩ := gI_ok h; obtain ⟨a1, _, rfl, h2⟩ := gI_ok h1; obtain ⟨a2, _, rfl, h3⟩ := gL_ok h2; obtain ⟨a3, _, rfl, h4⟩ := gI_ok h3; obtain ⟨a4, _, rfl, h5⟩ := gI_ok h4; obtain ⟨a5, _, rfl, h6⟩ := gL_ok h5; obtain ⟨rfl, h7⟩ := gE_ok h6
  obtain ⟨y, k1, k2⟩ := Option.bind_eq_some_iff.1 h7
  exact ⟨_, k2, sp26 a0 a1 a2 a3 a4 a5 k1⟩

/-! ### garland/garlandlaw10.wakes -/
def pa8 : List VP := []
def sr8 : RShape := ⟨.b, [], none⟩
def toB8 : List Leaf → Option (Bool) := gB (fun b0 => gE (some b0))
def ofB8 (y : Bool) : List Leaf := [.b y]
theorem toB8_ok : ∀ ls b, toB8 ls = some b → ls = ofB8 b := by
  intro ls b h
  unfold toB8 at h
  obtain ⟨b0, _, rfl, h1⟩ := gB_ok h; obtain ⟨rfl, h2⟩ := gE_ok h1
  cases h2; rfl
def run8 {R : Type} : SF R := ⟨pa8, sr8, fun ls K => (gE (Option.bind (F8 FUEL ) fun y => K (ofB8 y))) ls⟩
def cuts8 : List (List Nat × Cut (Bool)) := []
noncomputable def X8 : Px (Bool) := ⟨T, Tryd.prog, lkF [(7, run7), (10, run10), (13, run13), (14, run14), (16, run16), (24, run24), (25, run25), (17, run17), (27, run27), (26, run26)], mkCuts 8 cuts8, altN, altN_ok⟩
theorem e8 (n : Nat) : entF X8 8 8 pa8 (endK sr8 toB8) n [] = F8 n  := by kernel_rfl
theorem sp8 {n : Nat} {y : Bool} (h : F8 n  = some y) : SpecF T Tryd.prog 8 pa8 [] sr8 (ofB8 y) :=
  fun_ok (X := X8) tok (sfok_of ⟨ok7, ok10, ok13, ok14, ok16, ok24, ok25, ok17, ok27, ok26, trivial⟩) mixed 8 8 cuts8 rfl toB8_ok trivial ((e8 n ).trans h)
theorem ok8 {R : Type} : SFone T Tryd.prog 8 (run8 : SF R) := by
  intro ls K r h
  simp only [run8] at h
  obtain ⟨rfl, h1⟩ := gE_ok h
  obtain ⟨y, k1, k2⟩ := Option.bind_eq_some_iff.1 h1
  exact ⟨_, k2, sp8  k1⟩

/-! ### garland/garlandlaw10.great -/
def pa9 : List VP := [.agg [.i .u8, .i .i64, .i .i64, .i .i64, .i .i64, .b, .b, .i .i64, .i .i64, .sl false [.int .i64], .s, .i .i64, .i .i64, .b, .i .i64]]
def sr9 : RShape := ⟨.b, [], none⟩
def toB9 : List Leaf → Option (Bool) := gB (fun b0 => gE (some b0))
def ofB9 (y : Bool) : List Leaf := [.b y]
theorem toB9_ok : ∀ ls b, toB9 ls = some b → ls = ofB9 b := by
  intro ls b h
  unfold toB9 at h
  obtain ⟨b0, _, rfl, h1⟩ := gB_ok h; obtain ⟨rfl, h2⟩ := gE_ok h1
  cases h2; rfl
def run9 {R : Type} : SF R := ⟨pa9, sr9, fun ls K => (gI (fun a0 => gI (fun a1 => gI (fun a2 => gI (fun a3 => gI (fun a4 => gB (fun a5 => gB (fun a6 => gI (fun a7 => gI (fun a8 => gL [.int .i64] (fun a9 => gS (fun a10 => gI (fun a11 => gI (fun a12 => gB (fun a13 => gI (fun a14 => gE (Option.bind (F9 FUEL a0 a1 a2 a3 a4 a5 a6 a7 a8 a9 a10 a11 a12 a13 a14) fun y => K (ofB9 y)))))))))))))))))) ls⟩
def cuts9 : List (List Nat × Cut (Bool)) := []
noncomputable def X9 : Px (Bool) := ⟨T, Tryd.prog, lkF [], mkCuts 9 cuts9, altN, altN_ok⟩
theorem e9 (n : Nat) (a0 a1 a2 a3 a4 : Int) (a5 a6 : Bool) (a7 a8 : Int) (a9 : List (Int)) (a10 : ByteArray) (a11 a12 : Int) (a13 : Bool) (a14 : Int) : entF X9 8 9 pa9 (endK sr9 toB9) n [.i a0, .i a1, .i a2, .i a3, .i a4, .b a5, .b a6, .i a7, .i a8, .l [.int .i64] a9, .s a10, .i a11, .i a12, .b a13, .i a14] = F9 n a0 a1 a2 a3 a4 a5 a6 a7 a8 a9 a10 a11 a12 a13 a14 := by kernel_rfl
theorem sp9 {n : Nat} (a0 a1 a2 a3 a4 : Int) (a5 a6 : Bool) (a7 a8 : Int) (a9 : List (Int)) (a10 : ByteArray) (a11 a12 : Int) (a13 : Bool) (a14 : Int) {y : Bool} (h : F9 n a0 a1 a2 a3 a4 a5 a6 a7 a8 a9 a10 a11 a12 a13 a14 = some y) : SpecF T Tryd.prog 9 pa9 [.i a0, .i a1, .i a2, .i a3, .i a4, .b a5, .b a6, .i a7, .i a8, .l [.int .i64] a9, .s a10, .i a11, .i a12, .b a13, .i a14] sr9 (ofB9 y) :=
  fun_ok (X := X9) tok (sfok_of trivial) mixed 9 8 cuts9 rfl toB9_ok trivial ((e9 n a0 a1 a2 a3 a4 a5 a6 a7 a8 a9 a10 a11 a12 a13 a14).trans h)
theorem ok9 {R : Type} : SFone T Tryd.prog 9 (run9 : SF R) := by
  intro ls K r h
  simp only [run9] at h
  obtain ⟨a0, a1, a2, a3, _, rfl, h1⟩ := gI4_ok h; obtain ⟨a4, _, rfl, h2⟩ := gI_ok h1; obtain ⟨a5, _, rfl, h3⟩ := gB_ok h2; obtain ⟨a6, _, rfl, h4⟩ := gB_ok h3; obtain ⟨a7, _, rfl, h5⟩ := gI_ok h4; obtain ⟨a8, _, rfl, h6⟩ := gI_ok h5; obtain ⟨a9, _, rfl, h7⟩ := gL_ok h6; obtain ⟨a10, _, rfl, h8⟩ := gS_ok h7; obtain ⟨a11, _, rfl, h9⟩ := gI_ok h8; obtain ⟨a12, _, rfl, h10⟩ := gI_ok h9; obtain ⟨a13, _, rfl, h11⟩ := gB_ok h10; obtain ⟨a14, _, rfl, h12⟩ := gI_ok h11; obtain ⟨rfl, h13⟩ := gE_ok h12
  obtain ⟨y, k1, k2⟩ := Option.bind_eq_some_iff.1 h13
  exact ⟨_, k2, sp9 a0 a1 a2 a3 a4 a5 a6 a7 a8 a9 a10 a11 a12 a13 a14 k1⟩

/-! ### garland/garlandref06.place -/
def pa33 : List VP := [.i .i64]
def sr33 : RShape := ⟨.b, [], none⟩
def toB33 : List Leaf → Option (Bool) := gB (fun b0 => gE (some b0))
def ofB33 (y : Bool) : List Leaf := [.b y]
theorem toB33_ok : ∀ ls b, toB33 ls = some b → ls = ofB33 b := by
  intro ls b h
  unfold toB33 at h
  obtain ⟨b0, _, rfl, h1⟩ := gB_ok h; obtain ⟨rfl, h2⟩ := gE_ok h1
  cases h2; rfl
def run33 {R : Type} : SF R := ⟨pa33, sr33, fun ls K => (gI (fun a0 => gE (Option.bind (F33 FUEL a0) fun y => K (ofB33 y)))) ls⟩
def cuts33 : List (List Nat × Cut (Bool)) := []
noncomputable def X33 : Px (Bool) := ⟨T, Tryd.prog, lkF [], mkCuts 33 cuts33, altN, altN_ok⟩
theorem e33 (n : Nat) (a0 : Int) : entF X33 8 33 pa33 (endK sr33 toB33) n [.i a0] = F33 n a0 := by kernel_rfl
theorem sp33 {n : Nat} (a0 : Int) {y : Bool} (h : F33 n a0 = some y) : SpecF T Tryd.prog 33 pa33 [.i a0] sr33 (ofB33 y) :=
  fun_ok (X := X33) tok (sfok_of trivial) mixed 33 8 cuts33 rfl toB33_ok trivial ((e33 n a0).trans h)
theorem ok33 {R : Type} : SFone T Tryd.prog 33 (run33 : SF R) := by
  intro ls K r h
  simp only [run33] at h
  obtain ⟨a0, _, rfl, h1⟩ := gI_ok h; obtain ⟨rfl, h2⟩ := gE_ok h1
  obtain ⟨y, k1, k2⟩ := Option.bind_eq_some_iff.1 h2
  exact ⟨_, k2, sp33 a0 k1⟩

/-! ### garland/garlandref06.Asker -/
def pa34 : List VP := [.agg [.i .u8, .i .i64, .i .i64, .i .i64, .i .i64, .b, .b, .i .i64, .i .i64, .sl false [.int .i64], .s, .i .i64, .i .i64, .b, .i .i64]]
def sr34 : RShape := ⟨.i .i64, [], none⟩
def toB34 : List Leaf → Option (Int) := gI (fun b0 => gE (some b0))
def ofB34 (y : Int) : List Leaf := [.i y]
theorem toB34_ok : ∀ ls b, toB34 ls = some b → ls = ofB34 b := by
  intro ls b h
  unfold toB34 at h
  obtain ⟨b0, _, rfl, h1⟩ := gI_ok h; obtain ⟨rfl, h2⟩ := gE_ok h1
  cases h2; rfl
def run34 {R : Type} : SF R := ⟨pa34, sr34, fun ls K => (gI (fun a0 => gI (fun a1 => gI (fun a2 => gI (fun a3 => gI (fun a4 => gB (fun a5 => gB (fun a6 => gI (fun a7 => gI (fun a8 => gL [.int .i64] (fun a9 => gS (fun a10 => gI (fun a11 => gI (fun a12 => gB (fun a13 => gI (fun a14 => gE (Option.bind (F34 FUEL a0 a1 a2 a3 a4 a5 a6 a7 a8 a9 a10 a11 a12 a13 a14) fun y => K (ofB34 y)))))))))))))))))) ls⟩
def cuts34 : List (List Nat × Cut (Int)) := []
noncomputable def X34 : Px (Int) := ⟨T, Tryd.prog, lkF [(37, run37)], mkCuts 34 cuts34, altN, altN_ok⟩
theorem e34 (n : Nat) (a0 a1 a2 a3 a4 : Int) (a5 a6 : Bool) (a7 a8 : Int) (a9 : List (Int)) (a10 : ByteArray) (a11 a12 : Int) (a13 : Bool) (a14 : Int) : entF X34 8 34 pa34 (endK sr34 toB34) n [.i a0, .i a1, .i a2, .i a3, .i a4, .b a5, .b a6, .i a7, .i a8, .l [.int .i64] a9, .s a10, .i a11, .i a12, .b a13, .i a14] = F34 n a0 a1 a2 a3 a4 a5 a6 a7 a8 a9 a10 a11 a12 a13 a14 := by kernel_rfl
theorem sp34 {n : Nat} (a0 a1 a2 a3 a4 : Int) (a5 a6 : Bool) (a7 a8 : Int) (a9 : List (Int)) (a10 : ByteArray) (a11 a12 : Int) (a13 : Bool) (a14 : Int) {y : Int} (h : F34 n a0 a1 a2 a3 a4 a5 a6 a7 a8 a9 a10 a11 a12 a13 a14 = some y) : SpecF T Tryd.prog 34 pa34 [.i a0, .i a1, .i a2, .i a3, .i a4, .b a5, .b a6, .i a7, .i a8, .l [.int .i64] a9, .s a10, .i a11, .i a12, .b a13, .i a14] sr34 (ofB34 y) :=
  fun_ok (X := X34) tok (sfok_of ⟨ok37, trivial⟩) mixed 34 8 cuts34 rfl toB34_ok trivial ((e34 n a0 a1 a2 a3 a4 a5 a6 a7 a8 a9 a10 a11 a12 a13 a14).trans h)
theorem ok34 {R : Type} : SFone T Tryd.prog 34 (run34 : SF R) := by
  intro ls K r h
  simp only [run34] at h
  obtain ⟨a0, a1, a2, a3, _, rfl, h1⟩ := gI4_ok h; obtain ⟨a4, _, rfl, h2⟩ := gI_ok h1; obtain ⟨a5, _, rfl, h3⟩ := gB_ok h2; obtain ⟨a6, _, rfl, h4⟩ := gB_ok h3; obtain ⟨a7, _, rfl, h5⟩ := gI_ok h4; obtain ⟨a8, _, rfl, h6⟩ := gI_ok h5; obtain ⟨a9, _, rfl, h7⟩ := gL_ok h6; obtain ⟨a10, _, rfl, h8⟩ := gS_ok h7; obtain ⟨a11, _, rfl, h9⟩ := gI_ok h8; obtain ⟨a12, _, rfl, h10⟩ := gI_ok h9; obtain ⟨a13, _, rfl, h11⟩ := gB_ok h10; obtain ⟨a14, _, rfl, h12⟩ := gI_ok h11; obtain ⟨rfl, h13⟩ := gE_ok h12
  obtain ⟨y, k1, k2⟩ := Option.bind_eq_some_iff.1 h13
  exact ⟨_, k2, sp34 a0 a1 a2 a3 a4 a5 a6 a7 a8 a9 a10 a11 a12 a13 a14 k1⟩

/-! ### garland/garlandref06.bare -/
def pa35 : List VP := [.agg [.i .u8, .i .i64, .i .i64, .i .i64, .i .i64, .b, .b, .i .i64, .i .i64, .opq 0, .s, .i .i64, .i .i64, .b, .i .i64]]
def sr35 : RShape := ⟨.agg [.i .u8, .i .i64, .i .i64, .i .i64, .i .i64, .b, .b, .i .i64, .i .i64, .opq 0, .s, .i .i64, .i .i64, .b, .i .i64], [], some (.agg [.i .u8, .i .i64, .i .i64, .i .i64, .i .i64, .b, .b, .i .i64, .i .i64, .nil, .s, .i .i64, .i .i64, .b, .i .i64])⟩
def toB35 : List Leaf → Option (Sbi5b2i2si2bi) := gB (fun b0 => gI (fun b1 => gI (fun b2 => gI (fun b3 => gI (fun b4 => gI (fun b5 => gB (fun b6 => gB (fun b7 => gI (fun b8 => gI (fun b9 => gS (fun b10 => gI (fun b11 => gI (fun b12 => gB (fun b13 => gI (fun b14 => gE (some ⟨b0, b1, b2, b3, b4, b5, b6, b7, b8, b9, b10, b11, b12, b13, b14⟩))))))))))))))))
def ofB35 (y : Sbi5b2i2si2bi) : List Leaf := [.b y.q0, .i y.q1, .i y.q2, .i y.q3, .i y.q4, .i y.q5, .b y.q6, .b y.q7, .i y.q8, .i y.q9, .s y.q10, .i y.q11, .i y.q12, .b y.q13, .i y.q14]
theorem toB35_ok : ∀ ls b, toB35 ls = some b → ls = ofB35 b := by
  intro ls b h
  unfold toB35 at h
  obtain ⟨b0, _, rfl, h1⟩ := gB_ok h; obtain ⟨b1, b2, b3, b4, _, rfl, h2⟩ := gI4_ok h1; obtain ⟨b5, _, rfl, h3⟩ := gI_ok h2; obtain ⟨b6, _, rfl, h4⟩ := gB_ok h3; obtain ⟨b7, _, rfl, h5⟩ := gB_ok h4; obtain ⟨b8, _, rfl, h6⟩ := gI_ok h5; obtain ⟨b9, _, rfl, h7⟩ := gI_ok h6; obtain ⟨b10, _, rfl, h8⟩ := gS_ok h7; obtain ⟨b11, _, rfl, h9⟩ := gI_ok h8; obtain ⟨b12, _, rfl, h10⟩ := gI_ok h9; obtain ⟨b13, _, rfl, h11⟩ := gB_ok h10; obtain ⟨b14, _, rfl, h12⟩ := gI_ok h11; obtain ⟨rfl, h13⟩ := gE_ok h12
  cases h13; rfl
def run35 {R : Type} : SF R := ⟨pa35, sr35, fun ls K => (gI (fun a0 => gI (fun a1 => gI (fun a2 => gI (fun a3 => gI (fun a4 => gB (fun a5 => gB (fun a6 => gI (fun a7 => gI (fun a8 => gS (fun a9 => gI (fun a10 => gI (fun a11 => gB (fun a12 => gI (fun a13 => gE (Option.bind (F35 FUEL a0 a1 a2 a3 a4 a5 a6 a7 a8 a9 a10 a11 a12 a13) fun y => K (ofB35 y))))))))))))))))) ls⟩
def cuts35 : List (List Nat × Cut (Sbi5b2i2si2bi)) := []
noncomputable def X35 : Px (Sbi5b2i2si2bi) := ⟨T, Tryd.prog, lkF [], mkCuts 35 cuts35, altN, altN_ok⟩
theorem e35 (n : Nat) (a0 a1 a2 a3 a4 : Int) (a5 a6 : Bool) (a7 a8 : Int) (a9 : ByteArray) (a10 a11 : Int) (a12 : Bool) (a13 : Int) : entF X35 8 35 pa35 (endK sr35 toB35) n [.i a0, .i a1, .i a2, .i a3, .i a4, .b a5, .b a6, .i a7, .i a8, .s a9, .i a10, .i a11, .b a12, .i a13] = F35 n a0 a1 a2 a3 a4 a5 a6 a7 a8 a9 a10 a11 a12 a13 := by kernel_rfl
theorem sp35 {n : Nat} (a0 a1 a2 a3 a4 : Int) (a5 a6 : Bool) (a7 a8 : Int) (a9 : ByteArray) (a10 a11 : Int) (a12 : Bool) (a13 : Int) {y : Sbi5b2i2si2bi} (h : F35 n a0 a1 a2 a3 a4 a5 a6 a7 a8 a9 a10 a11 a12 a13 = some y) : SpecF T Tryd.prog 35 pa35 [.i a0, .i a1, .i a2, .i a3, .i a4, .b a5, .b a6, .i a7, .i a8, .s a9, .i a10, .i a11, .b a12, .i a13] sr35 (ofB35 y) :=
  fun_ok (X := X35) tok (sfok_of trivial) mixed 35 8 cuts35 rfl toB35_ok trivial ((e35 n a0 a1 a2 a3 a4 a5 a6 a7 a8 a9 a10 a11 a12 a13).trans h)
theorem ok35 {R : Type} : SFone T Tryd.prog 35 (run35 : SF R) := by
  intro ls K r h
  simp only [run35] at h
  obtain ⟨a0, a1, a2, a3, _, rfl, h1⟩ := gI4_ok h; obtain ⟨a4, _, rfl, h2⟩ := gI_ok h1; obtain ⟨a5, _, rfl, h3⟩ := gB_ok h2; obtain ⟨a6, _, rfl, h4⟩ := gB_ok h3; obtain ⟨a7, _, rfl, h5⟩ := gI_ok h4; obtain ⟨a8, _, rfl, h6⟩ := gI_ok h5; obtain ⟨a9, _, rfl, h7⟩ := gS_ok h6; obtain ⟨a10, _, rfl, h8⟩ := gI_ok h7; obtain ⟨a11, _, rfl, h9⟩ := gI_ok h8; obtain ⟨a12, _, rfl, h10⟩ := gB_ok h9; obtain ⟨a13, _, rfl, h11⟩ := gI_ok h10; obtain ⟨rfl, h12⟩ := gE_ok h11
  obtain ⟨y, k1, k2⟩ := Option.bind_eq_some_iff.1 h12
  exact ⟨_, k2, sp35 a0 a1 a2 a3 a4 a5 a6 a7 a8 a9 a10 a11 a12 a13 k1⟩

/-! ### garland/garlandref06.Same -/
def pa22 : List VP := [.agg [.i .u8, .i .i64, .i .i64, .i .i64, .i .i64, .b, .b, .i .i64, .i .i64, .sl false [.int .i64], .s, .i .i64, .i .i64, .b, .i .i64], .agg [.i .u8, .i .i64, .i .i64, .i .i64, .i .i64, .b, .b, .i .i64, .i .i64, .sl false [.int .i64], .s, .i .i64, .i .i64, .b, .i .i64]]
def sr22 : RShape := ⟨.b, [], none⟩
def toB22 : List Leaf → Option (Bool) := gB (fun b0 => gE (some b0))
def ofB22 (y : Bool) : List Leaf := [.b y]
theorem toB22_ok : ∀ ls b, toB22 ls = some b → ls = ofB22 b := by
  intro ls b h
  unfold toB22 at h
  obtain ⟨b0, _, rfl, h1⟩ := gB_ok h; obtain ⟨rfl, h2⟩ := gE_ok h1
  cases h2; rfl
def run22 {R : Type} : SF R := ⟨pa22, sr22, fun ls K => (gI (fun a0 => gI (fun a1 => gI (fun a2 => gI (fun a3 => gI (fun a4 => gB (fun a5 => gB (fun a6 => gI (fun a7 => gI (fun a8 => gL [.int .i64] (fun a9 => gS (fun a10 => gI (fun a11 => gI (fun a12 => gB (fun a13 => gI (fun a14 => gI (fun a15 => gI (fun a16 => gI (fun a17 => gI (fun a18 => gI (fun a19 => gB (fun a20 => gB (fun a21 => gI (fun a22 => gI (fun a23 => gL [.int .i64] (fun a24 => gS (fun a25 => gI (fun a26 => gI (fun a27 => gB (fun a28 => gI (fun a29 => gE (Option.bind (F22 FUEL a0 a1 a2 a3 a4 a5 a6 a7 a8 a9 a10 a11 a12 a13 a14 a15 a16 a17 a18 a19 a20 a21 a22 a23 a24 a25 a26 a27 a28 a29) fun y => K (ofB22 y))))))))))))))))))))))))))))))))) ls⟩
def sh22_0 : Shape := ⟨[(106, [(2, .ref 0 0), (3, .ref 1 0), (5, .i .i64)])], [.cells [.i .u8, .i .i64, .i .i64, .i .i64, .i .i64, .b, .b, .i .i64, .i .i64, .sl false [.int .i64], .s, .i .i64, .i .i64, .b, .i .i64], .cells [.i .u8, .i .i64, .i .i64, .i .i64, .i .i64, .b, .b, .i .i64, .i .i64, .sl false [.int .i64], .s, .i .i64, .i .i64, .b, .i .i64]]⟩
def g22_0 (n : Nat) : List Leaf → Option (Bool) := gI (fun x0 => gI (fun x1 => gI (fun x2 => gI (fun x3 => gI (fun x4 => gI (fun x5 => gB (fun x6 => gB (fun x7 => gI (fun x8 => gI (fun x9 => gL [.int .i64] (fun x10 => gS (fun x11 => gI (fun x12 => gI (fun x13 => gB (fun x14 => gI (fun x15 => gI (fun x16 => gI (fun x17 => gI (fun x18 => gI (fun x19 => gI (fun x20 => gB (fun x21 => gB (fun x22 => gI (fun x23 => gI (fun x24 => gL [.int .i64] (fun x25 => gS (fun x26 => gI (fun x27 => gI (fun x28 => gB (fun x29 => gI (fun x30 => gE (F22_c0 n x0 x1 x2 x3 x4 x5 x6 x7 x8 x9 x10 x11 x12 x13 x14 x15 x16 x17 x18 x19 x20 x21 x22 x23 x24 x25 x26 x27 x28 x29 x30))))))))))))))))))))))))))))))))
def cuts22 : List (List Nat × Cut (Bool)) := [([1, 1, 0, 1, 0], ⟨sh22_0, g22_0⟩)]
noncomputable def X22 : Px (Bool) := ⟨T, Tryd.prog, lkF [], mkCuts 22 cuts22, altN, altN_ok⟩
theorem e22_0 (n : Nat) (x0 x1 x2 x3 x4 x5 : Int) (x6 x7 : Bool) (x8 x9 : Int) (x10 : List (Int)) (x11 : ByteArray) (x12 x13 : Int) (x14 : Bool) (x15 x16 x17 x18 x19 x20 : Int) (x21 x22 : Bool) (x23 x24 : Int) (x25 : List (Int)) (x26 : ByteArray) (x27 x28 : Int) (x29 : Bool) (x30 : Int) : stepF X22 8 22 (endK sr22 toB22) [1, 1, 0, 1, 0] sh22_0 n [.i x0, .i x1, .i x2, .i x3, .i x4, .i x5, .b x6, .b x7, .i x8, .i x9, .l [.int .i64] x10, .s x11, .i x12, .i x13, .b x14, .i x15, .i x16, .i x17, .i x18, .i x19, .i x20, .b x21, .b x22, .i x23, .i x24, .l [.int .i64] x25, .s x26, .i x27, .i x28, .b x29, .i x30] = F22_c0 (n + 1) x0 x1 x2 x3 x4 x5 x6 x7 x8 x9 x10 x11 x12 x13 x14 x15 x16 x17 x18 x19 x20 x21 x22 x23 x24 x25 x26 x27 x28 x29 x30 := by kernel_rfl
theorem e22 (n : Nat) (a0 a1 a2 a3 a4 : Int) (a5 a6 : Bool) (a7 a8 : Int) (a9 : List (Int)) (a10 : ByteArray) (a11 a12 : Int) (a13 : Bool) (a14 a15 a16 a17 a18 a19 : Int) (a20 a21 : Bool) (a22 a23 : Int) (a24 : List (Int)) (a25 : ByteArray) (a26 a27 : Int) (a28 : Bool) (a29 : Int) : entF X22 8 22 pa22 (endK sr22 toB22) n [.i a0, .i a1, .i a2, .i a3, .i a4, .b a5, .b a6, .i a7, .i a8, .l [.int .i64] a9, .s a10, .i a11, .i a12, .b a13, .i a14, .i a15, .i a16, .i a17, .i a18, .i a19, .b a20, .b a21, .i a22, .i a23, .l [.int .i64] a24, .s a25, .i a26, .i a27, .b a28, .i a29] = F22 n a0 a1 a2 a3 a4 a5 a6 a7 a8 a9 a10 a11 a12 a13 a14 a15 a16 a17 a18 a19 a20 a21 a22 a23 a24 a25 a26 a27 a28 a29 := by kernel_rfl
theorem c22_0 : CutOK X22 8 22 (endK sr22 toB22) [1, 1, 0, 1, 0] ⟨sh22_0, g22_0⟩ := by
  refine ⟨fun ls => ?_, fun n ls r h => ?_⟩
  · cases h : g22_0 0 ls with
    | none => exact h
    | some r =>
      unfold g22_0 at h; obtain ⟨x0, x1, x2, x3, _, rfl, h1⟩ := gI4_ok h; obtain ⟨x4, _, rfl, h2⟩ := gI_ok h1; obtain ⟨x5, _, rfl, h3⟩ := gI_ok h2; obtain ⟨x6, _, rfl, h4⟩ := gB_ok h3; obtain ⟨x7, _, rfl, h5⟩ := gB_ok h4; obtain ⟨x8, _, rfl, h6⟩ := gI_ok h5; obtain ⟨x9, _, rfl, h7⟩ := gI_ok h6; obtain ⟨x10, _, rfl, h8⟩ := gL_ok h7; obtain ⟨x11, _, rfl, h9⟩ := gS_ok h8; obtain ⟨x12, _, rfl, h10⟩ := gI_ok h9; obtain ⟨x13, _, rfl, h11⟩ := gI_ok h10; obtain ⟨x14, _, rfl, h12⟩ := gB_ok h11; obtain ⟨x15, x16, x17, x18, _, rfl, h13⟩ := gI4_ok h12; obtain ⟨x19, _, rfl, h14⟩ := gI_ok h13; obtain ⟨x20, _, rfl, h15⟩ := gI_ok h14; obtain ⟨x21, _, rfl, h16⟩ := gB_ok h15; obtain ⟨x22, _, rfl, h17⟩ := gB_ok h16; obtain ⟨x23, _, rfl, h18⟩ := gI_ok h17; obtain ⟨x24, _, rfl, h19⟩ := gI_ok h18; obtain ⟨x25, _, rfl, h20⟩ := gL_ok h19; obtain ⟨x26, _, rfl, h21⟩ := gS_ok h20; obtain ⟨x27, _, rfl, h22⟩ := gI_ok h21; obtain ⟨x28, _, rfl, h23⟩ := gI_ok h22; obtain ⟨x29, _, rfl, h24⟩ := gB_ok h23; obtain ⟨x30, _, rfl, h25⟩ := gI_ok h24; obtain ⟨rfl, h26⟩ := gE_ok h25; simp only [F22_c0] at h26; cases h26
  · replace h : g22_0 (n + 1) ls = some r := h
    unfold g22_0 at h
    obtain ⟨x0, x1, x2, x3, _, rfl, h1⟩ := gI4_ok h; obtain ⟨x4, _, rfl, h2⟩ := gI_ok h1; obtain ⟨x5, _, rfl, h3⟩ := gI_ok h2; obtain ⟨x6, _, rfl, h4⟩ := gB_ok h3; obtain ⟨x7, _, rfl, h5⟩ := gB_ok h4; obtain ⟨x8, _, rfl, h6⟩ := gI_ok h5; obtain ⟨x9, _, rfl, h7⟩ := gI_ok h6; obtain ⟨x10, _, rfl, h8⟩ := gL_ok h7; obtain ⟨x11, _, rfl, h9⟩ := gS_ok h8; obtain ⟨x12, _, rfl, h10⟩ := gI_ok h9; obtain ⟨x13, _, rfl, h11⟩ := gI_ok h10; obtain ⟨x14, _, rfl, h12⟩ := gB_ok h11; obtain ⟨x15, x16, x17, x18, _, rfl, h13⟩ := gI4_ok h12; obtain ⟨x19, _, rfl, h14⟩ := gI_ok h13; obtain ⟨x20, _, rfl, h15⟩ := gI_ok h14; obtain ⟨x21, _, rfl, h16⟩ := gB_ok h15; obtain ⟨x22, _, rfl, h17⟩ := gB_ok h16; obtain ⟨x23, _, rfl, h18⟩ := gI_ok h17; obtain ⟨x24, _, rfl, h19⟩ := gI_ok h18; obtain ⟨x25, _, rfl, h20⟩ := gL_ok h19; obtain ⟨x26, _, rfl, h21⟩ := gS_ok h20; obtain ⟨x27, _, rfl, h22⟩ := gI_ok h21; obtain ⟨x28, _, rfl, h23⟩ := gI_ok h22; obtain ⟨x29, _, rfl, h24⟩ := gB_ok h23; obtain ⟨x30, _, rfl, h25⟩ := gI_ok h24; obtain ⟨rfl, h26⟩ := gE_ok h25
    exact (e22_0 n x0 x1 x2 x3 x4 x5 x6 x7 x8 x9 x10 x11 x12 x13 x14 x15 x16 x17 x18 x19 x20 x21 x22 x23 x24 x25 x26 x27 x28 x29 x30).trans h26
theorem sp22 {n : Nat} (a0 a1 a2 a3 a4 : Int) (a5 a6 : Bool) (a7 a8 : Int) (a9 : List (Int)) (a10 : ByteArray) (a11 a12 : Int) (a13 : Bool) (a14 a15 a16 a17 a18 a19 : Int) (a20 a21 : Bool) (a22 a23 : Int) (a24 : List (Int)) (a25 : ByteArray) (a26 a27 : Int) (a28 : Bool) (a29 : Int) {y : Bool} (h : F22 n a0 a1 a2 a3 a4 a5 a6 a7 a8 a9 a10 a11 a12 a13 a14 a15 a16 a17 a18 a19 a20 a21 a22 a23 a24 a25 a26 a27 a28 a29 = some y) : SpecF T Tryd.prog 22 pa22 [.i a0, .i a1, .i a2, .i a3, .i a4, .b a5, .b a6, .i a7, .i a8, .l [.int .i64] a9, .s a10, .i a11, .i a12, .b a13, .i a14, .i a15, .i a16, .i a17, .i a18, .i a19, .b a20, .b a21, .i a22, .i a23, .l [.int .i64] a24, .s a25, .i a26, .i a27, .b a28, .i a29] sr22 (ofB22 y) :=
  fun_ok (X := X22) tok (sfok_of trivial) mixed 22 8 cuts22 rfl toB22_ok ⟨c22_0, trivial⟩ ((e22 n a0 a1 a2 a3 a4 a5 a6 a7 a8 a9 a10 a11 a12 a13 a14 a15 a16 a17 a18 a19 a20 a21 a22 a23 a24 a25 a26 a27 a28 a29).trans h)
theorem ok22 {R : Type} : SFone T Tryd.prog 22 (run22 : SF R) := by
  intro ls K r h
  simp only [run22] at h
  obtain ⟨a0, a1, a2, a3, _, rfl, h1⟩ := gI4_ok h; obtain ⟨a4, _, rfl, h2⟩ := gI_ok h1; obtain ⟨a5, _, rfl, h3⟩ := gB_ok h2; obtain ⟨a6, _, rfl, h4⟩ := gB_ok h3; obtain ⟨a7, _, rfl, h5⟩ := gI_ok h4; obtain ⟨a8, _, rfl, h6⟩ := gI_ok h5; obtain ⟨a9, _, rfl, h7⟩ := gL_ok h6; obtain ⟨a10, _, rfl, h8⟩ := gS_ok h7; obtain ⟨a11, _, rfl, h9⟩ := gI_ok h8; obtain ⟨a12, _, rfl, h10⟩ := gI_ok h9; obtain ⟨a13, _, rfl, h11⟩ := gB_ok h10; obtain ⟨a14, a15, a16, a17, _, rfl, h12⟩ := gI4_ok h11; obtain ⟨a18, _, rfl, h13⟩ := gI_ok h12; obtain ⟨a19, _, rfl, h14⟩ := gI_ok h13; obtain ⟨a20, _, rfl, h15⟩ := gB_ok h14; obtain ⟨a21, _, rfl, h16⟩ := gB_ok h15; obtain ⟨a22, _, rfl, h17⟩ := gI_ok h16; obtain ⟨a23, _, rfl, h18⟩ := gI_ok h17; obtain ⟨a24, _, rfl, h19⟩ := gL_ok h18; obtain ⟨a25, _, rfl, h20⟩ := gS_ok h19; obtain ⟨a26, _, rfl, h21⟩ := gI_ok h20; obtain ⟨a27, _, rfl, h22⟩ := gI_ok h21; obtain ⟨a28, _, rfl, h23⟩ := gB_ok h22; obtain ⟨a29, _, rfl, h24⟩ := gI_ok h23; obtain ⟨rfl, h25⟩ := gE_ok h24
  obtain ⟨y, k1, k2⟩ := Option.bind_eq_some_iff.1 h25
  exact ⟨_, k2, sp22 a0 a1 a2 a3 a4 a5 a6 a7 a8 a9 a10 a11 a12 a13 a14 a15 a16 a17 a18 a19 a20 a21 a22 a23 a24 a25 a26 a27 a28 a29 k1⟩

/-! ### garland/garlandref06.Pair -/
def pa59 : List VP := [.agg [.s, .i .i64, .i .i64, .b]]
def sr59 : RShape := ⟨.b, [], none⟩
def toB59 : List Leaf → Option (Bool) := gB (fun b0 => gE (some b0))
def ofB59 (y : Bool) : List Leaf := [.b y]
theorem toB59_ok : ∀ ls b, toB59 ls = some b → ls = ofB59 b := by
  intro ls b h
  unfold toB59 at h
  obtain ⟨b0, _, rfl, h1⟩ := gB_ok h; obtain ⟨rfl, h2⟩ := gE_ok h1
  cases h2; rfl
def run59 {R : Type} : SF R := ⟨pa59, sr59, fun ls K => (gS (fun a0 => gI (fun a1 => gI (fun a2 => gB (fun a3 => gE (Option.bind (F59 FUEL a0 a1 a2 a3) fun y => K (ofB59 y))))))) ls⟩
def cuts59 : List (List Nat × Cut (Bool)) := []
noncomputable def X59 : Px (Bool) := ⟨T, Tryd.prog, lkF [], mkCuts 59 cuts59, altN, altN_ok⟩
theorem e59 (n : Nat) (a0 : ByteArray) (a1 a2 : Int) (a3 : Bool) : entF X59 8 59 pa59 (endK sr59 toB59) n [.s a0, .i a1, .i a2, .b a3] = F59 n a0 a1 a2 a3 := by kernel_rfl
theorem sp59 {n : Nat} (a0 : ByteArray) (a1 a2 : Int) (a3 : Bool) {y : Bool} (h : F59 n a0 a1 a2 a3 = some y) : SpecF T Tryd.prog 59 pa59 [.s a0, .i a1, .i a2, .b a3] sr59 (ofB59 y) :=
  fun_ok (X := X59) tok (sfok_of trivial) mixed 59 8 cuts59 rfl toB59_ok trivial ((e59 n a0 a1 a2 a3).trans h)
theorem ok59 {R : Type} : SFone T Tryd.prog 59 (run59 : SF R) := by
  intro ls K r h
  simp only [run59] at h
  obtain ⟨a0, _, rfl, h1⟩ := gS_ok h; obtain ⟨a1, _, rfl, h2⟩ := gI_ok h1; obtain ⟨a2, _, rfl, h3⟩ := gI_ok h2; obtain ⟨a3, _, rfl, h4⟩ := gB_ok h3; obtain ⟨rfl, h5⟩ := gE_ok h4
  obtain ⟨y, k1, k2⟩ := Option.bind_eq_some_iff.1 h5
  exact ⟨_, k2, sp59 a0 a1 a2 a3 k1⟩

/-! ### garland/garlandref06.list -/
def pa60 : List VP := [.sl false [.int .i64], .i .i64]
def sr60 : RShape := ⟨.b, [], none⟩
def toB60 : List Leaf → Option (Bool) := gB (fun b0 => gE (some b0))
def ofB60 (y : Bool) : List Leaf := [.b y]
theorem toB60_ok : ∀ ls b, toB60 ls = some b → ls = ofB60 b := by
  intro ls b h
  unfold toB60 at h
  obtain ⟨b0, _, rfl, h1⟩ := gB_ok h; obtain ⟨rfl, h2⟩ := gE_ok h1
  cases h2; rfl
def run60 {R : Type} : SF R := ⟨pa60, sr60, fun ls K => (gL [.int .i64] (fun a0 => gI (fun a1 => gE (Option.bind (F60 FUEL a0 a1) fun y => K (ofB60 y))))) ls⟩
def sh60_0 : Shape := ⟨[(44, [(0, .sl false [.int .i64]), (1, .i .i64), (5, .i .i64)])], []⟩
def g60_0 (n : Nat) : List Leaf → Option (Bool) := gL [.int .i64] (fun x0 => gI (fun x1 => gI (fun x2 => gE (F60_c0 n x0 x1 x2))))
def sh60_1 : Shape := ⟨[(44, [(0, .sl false [.int .i64]), (1, .i .i64), (5, .i .i64), (6, .i .i64)])], []⟩
def g60_1 (n : Nat) : List Leaf → Option (Bool) := gL [.int .i64] (fun x0 => gI (fun x1 => gI (fun x2 => gI (fun x3 => gE (F60_c1 n x0 x1 x2 x3)))))
def cuts60 : List (List Nat × Cut (Bool)) := [([1, 0, 1, 0], ⟨sh60_0, g60_0⟩), ([1, 0, 1, 0, 0, 1, 0, 0, 1, 1, 0], ⟨sh60_1, g60_1⟩)]
noncomputable def X60 : Px (Bool) := ⟨T, Tryd.prog, lkF [(33, run33)], mkCuts 60 cuts60, altN, altN_ok⟩
theorem e60_0 (n : Nat) (x0 : List (Int)) (x1 x2 : Int) : stepF X60 8 60 (endK sr60 toB60) [1, 0, 1, 0] sh60_0 n [.l [.int .i64] x0, .i x1, .i x2] = F60_c0 (n + 1) x0 x1 x2 := by kernel_rfl
theorem e60_1 (n : Nat) (x0 : List (Int)) (x1 x2 x3 : Int) : stepF X60 8 60 (endK sr60 toB60) [1, 0, 1, 0, 0, 1, 0, 0, 1, 1, 0] sh60_1 n [.l [.int .i64] x0, .i x1, .i x2, .i x3] = F60_c1 (n + 1) x0 x1 x2 x3 := by kernel_rfl
theorem e60 (n : Nat) (a0 : List (Int)) (a1 : Int) : entF X60 8 60 pa60 (endK sr60 toB60) n [.l [.int .i64] a0, .i a1] = F60 n a0 a1 := by kernel_rfl
theorem c60_0 : CutOK X60 8 60 (endK sr60 toB60) [1, 0, 1, 0] ⟨sh60_0, g60_0⟩ := by
  refine ⟨fun ls => ?_, fun n ls r h => ?_⟩
  · cases h : g60_0 0 ls with
    | none => exact h
    | some r =>
      unfold g60_0 at h; obtain ⟨x0, _, rfl, h1⟩ := gL_ok h; obtain ⟨x1, _, rfl, h2⟩ := gI_ok h1; obtain ⟨x2, _, rfl, h3⟩ := gI_ok h2; obtain ⟨rfl, h4⟩ := gE_ok h3; simp only [F60_c0] at h4; cases h4
  · replace h : g60_0 (n + 1) ls = some r := h
    unfold g60_0 at h
    obtain ⟨x0, _, rfl, h1⟩ := gL_ok h; obtain ⟨x1, _, rfl, h2⟩ := gI_ok h1; obtain ⟨x2, _, rfl, h3⟩ := gI_ok h2; obtain ⟨rfl, h4⟩ := gE_ok h3
    exact (e60_0 n x0 x1 x2).trans h4
theorem c60_1 : CutOK X60 8 60 (endK sr60 toB60) [1, 0, 1, 0, 0, 1, 0, 0, 1, 1, 0] ⟨sh60_1, g60_1⟩ := by
  refine ⟨fun ls => ?_, fun n ls r h => ?_⟩
  · cases h : g60_1 0 ls with
    | none => exact h
    | some r =>
      unfold g60_1 at h; obtain ⟨x0, _, rfl, h1⟩ := gL_ok h; obtain ⟨x1, _, rfl, h2⟩ := gI_ok h1; obtain ⟨x2, _, rfl, h3⟩ := gI_ok h2; obtain ⟨x3, _, rfl, h4⟩ := gI_ok h3; obtain ⟨rfl, h5⟩ := gE_ok h4; simp only [F60_c1] at h5; cases h5
  · replace h : g60_1 (n + 1) ls = some r := h
    unfold g60_1 at h
    obtain ⟨x0, _, rfl, h1⟩ := gL_ok h; obtain ⟨x1, _, rfl, h2⟩ := gI_ok h1; obtain ⟨x2, _, rfl, h3⟩ := gI_ok h2; obtain ⟨x3, _, rfl, h4⟩ := gI_ok h3; obtain ⟨rfl, h5⟩ := gE_ok h4
    exact (e60_1 n x0 x1 x2 x3).trans h5
theorem sp60 {n : Nat} (a0 : List (Int)) (a1 : Int) {y : Bool} (h : F60 n a0 a1 = some y) : SpecF T Tryd.prog 60 pa60 [.l [.int .i64] a0, .i a1] sr60 (ofB60 y) :=
  fun_ok (X := X60) tok (sfok_of ⟨ok33, trivial⟩) mixed 60 8 cuts60 rfl toB60_ok ⟨c60_0, c60_1, trivial⟩ ((e60 n a0 a1).trans h)
theorem ok60 {R : Type} : SFone T Tryd.prog 60 (run60 : SF R) := by
  intro ls K r h
  simp only [run60] at h
  obtain ⟨a0, _, rfl, h1⟩ := gL_ok h; obtain ⟨a1, _, rfl, h2⟩ := gI_ok h1; obtain ⟨rfl, h3⟩ := gE_ok h2
  obtain ⟨y, k1, k2⟩ := Option.bind_eq_some_iff.1 h3
  exact ⟨_, k2, sp60 a0 a1 k1⟩

/-! ### garland/garlandref06.has -/
def pa36 : List VP := [.agg [.i .u8, .i .i64, .i .i64, .i .i64, .i .i64, .b, .b, .i .i64, .i .i64, .sl false [.int .i64], .s, .i .i64, .i .i64, .b, .i .i64]]
def sr36 : RShape := ⟨.b, [], none⟩
def toB36 : List Leaf → Option (Bool) := gB (fun b0 => gE (some b0))
def ofB36 (y : Bool) : List Leaf := [.b y]
theorem toB36_ok : ∀ ls b, toB36 ls = some b → ls = ofB36 b := by
  intro ls b h
  unfold toB36 at h
  obtain ⟨b0, _, rfl, h1⟩ := gB_ok h; obtain ⟨rfl, h2⟩ := gE_ok h1
  cases h2; rfl
def run36 {R : Type} : SF R := ⟨pa36, sr36, fun ls K => (gI (fun a0 => gI (fun a1 => gI (fun a2 => gI (fun a3 => gI (fun a4 => gB (fun a5 => gB (fun a6 => gI (fun a7 => gI (fun a8 => gL [.int .i64] (fun a9 => gS (fun a10 => gI (fun a11 => gI (fun a12 => gB (fun a13 => gI (fun a14 => gE (Option.bind (F36 FUEL a0 a1 a2 a3 a4 a5 a6 a7 a8 a9 a10 a11 a12 a13 a14) fun y => K (ofB36 y)))))))))))))))))) ls⟩
def cuts36 : List (List Nat × Cut (Bool)) := []
noncomputable def X36 : Px (Bool) := ⟨T, Tryd.prog, lkF [(33, run33), (59, run59), (60, run60)], mkCuts 36 cuts36, altN, altN_ok⟩
theorem e36 (n : Nat) (a0 a1 a2 a3 a4 : Int) (a5 a6 : Bool) (a7 a8 : Int) (a9 : List (Int)) (a10 : ByteArray) (a11 a12 : Int) (a13 : Bool) (a14 : Int) : entF X36 8 36 pa36 (endK sr36 toB36) n [.i a0, .i a1, .i a2, .i a3, .i a4, .b a5, .b a6, .i a7, .i a8, .l [.int .i64] a9, .s a10, .i a11, .i a12, .b a13, .i a14] = F36 n a0 a1 a2 a3 a4 a5 a6 a7 a8 a9 a10 a11 a12 a13 a14 := by kernel_rfl
theorem sp36 {n : Nat} (a0 a1 a2 a3 a4 : Int) (a5 a6 : Bool) (a7 a8 : Int) (a9 : List (Int)) (a10 : ByteArray) (a11 a12 : Int) (a13 : Bool) (a14 : Int) {y : Bool} (h : F36 n a0 a1 a2 a3 a4 a5 a6 a7 a8 a9 a10 a11 a12 a13 a14 = some y) : SpecF T Tryd.prog 36 pa36 [.i a0, .i a1, .i a2, .i a3, .i a4, .b a5, .b a6, .i a7, .i a8, .l [.int .i64] a9, .s a10, .i a11, .i a12, .b a13, .i a14] sr36 (ofB36 y) :=
  fun_ok (X := X36) tok (sfok_of ⟨ok33, ok59, ok60, trivial⟩) mixed 36 8 cuts36 rfl toB36_ok trivial ((e36 n a0 a1 a2 a3 a4 a5 a6 a7 a8 a9 a10 a11 a12 a13 a14).trans h)
theorem ok36 {R : Type} : SFone T Tryd.prog 36 (run36 : SF R) := by
  intro ls K r h
  simp only [run36] at h
  obtain ⟨a0, a1, a2, a3, _, rfl, h1⟩ := gI4_ok h; obtain ⟨a4, _, rfl, h2⟩ := gI_ok h1; obtain ⟨a5, _, rfl, h3⟩ := gB_ok h2; obtain ⟨a6, _, rfl, h4⟩ := gB_ok h3; obtain ⟨a7, _, rfl, h5⟩ := gI_ok h4; obtain ⟨a8, _, rfl, h6⟩ := gI_ok h5; obtain ⟨a9, _, rfl, h7⟩ := gL_ok h6; obtain ⟨a10, _, rfl, h8⟩ := gS_ok h7; obtain ⟨a11, _, rfl, h9⟩ := gI_ok h8; obtain ⟨a12, _, rfl, h10⟩ := gI_ok h9; obtain ⟨a13, _, rfl, h11⟩ := gB_ok h10; obtain ⟨a14, _, rfl, h12⟩ := gI_ok h11; obtain ⟨rfl, h13⟩ := gE_ok h12
  obtain ⟨y, k1, k2⟩ := Option.bind_eq_some_iff.1 h13
  exact ⟨_, k2, sp36 a0 a1 a2 a3 a4 a5 a6 a7 a8 a9 a10 a11 a12 a13 a14 k1⟩

/-! ### garland/garlandref06.Right -/
def pa11 : List VP := [.agg [.i .u8, .i .i64, .i .i64, .i .i64, .i .i64, .b, .b, .i .i64, .i .i64, .sl false [.int .i64], .s, .i .i64, .i .i64, .b, .i .i64]]
def sr11 : RShape := ⟨.b, [], none⟩
def toB11 : List Leaf → Option (Bool) := gB (fun b0 => gE (some b0))
def ofB11 (y : Bool) : List Leaf := [.b y]
theorem toB11_ok : ∀ ls b, toB11 ls = some b → ls = ofB11 b := by
  intro ls b h
  unfold toB11 at h
  obtain ⟨b0, _, rfl, h1⟩ := gB_ok h; obtain ⟨rfl, h2⟩ := gE_ok h1
  cases h2; rfl
def run11 {R : Type} : SF R := ⟨pa11, sr11, fun ls K => (gI (fun a0 => gI (fun a1 => gI (fun a2 => gI (fun a3 => gI (fun a4 => gB (fun a5 => gB (fun a6 => gI (fun a7 => gI (fun a8 => gL [.int .i64] (fun a9 => gS (fun a10 => gI (fun a11 => gI (fun a12 => gB (fun a13 => gI (fun a14 => gE (Option.bind (F11 FUEL a0 a1 a2 a3 a4 a5 a6 a7 a8 a9 a10 a11 a12 a13 a14) fun y => K (ofB11 y)))))))))))))))))) ls⟩
def cuts11 : List (List Nat × Cut (Bool)) := []
noncomputable def X11 : Px (Bool) := ⟨T, Tryd.prog, lkF [(33, run33), (34, run34), (35, run35), (22, run22), (36, run36)], mkCuts 11 cuts11, altN, altN_ok⟩
theorem e11 (n : Nat) (a0 a1 a2 a3 a4 : Int) (a5 a6 : Bool) (a7 a8 : Int) (a9 : List (Int)) (a10 : ByteArray) (a11 a12 : Int) (a13 : Bool) (a14 : Int) : entF X11 8 11 pa11 (endK sr11 toB11) n [.i a0, .i a1, .i a2, .i a3, .i a4, .b a5, .b a6, .i a7, .i a8, .l [.int .i64] a9, .s a10, .i a11, .i a12, .b a13, .i a14] = F11 n a0 a1 a2 a3 a4 a5 a6 a7 a8 a9 a10 a11 a12 a13 a14 := by kernel_rfl
theorem sp11 {n : Nat} (a0 a1 a2 a3 a4 : Int) (a5 a6 : Bool) (a7 a8 : Int) (a9 : List (Int)) (a10 : ByteArray) (a11 a12 : Int) (a13 : Bool) (a14 : Int) {y : Bool} (h : F11 n a0 a1 a2 a3 a4 a5 a6 a7 a8 a9 a10 a11 a12 a13 a14 = some y) : SpecF T Tryd.prog 11 pa11 [.i a0, .i a1, .i a2, .i a3, .i a4, .b a5, .b a6, .i a7, .i a8, .l [.int .i64] a9, .s a10, .i a11, .i a12, .b a13, .i a14] sr11 (ofB11 y) :=
  fun_ok (X := X11) tok (sfok_of ⟨ok33, ok34, ok35, ok22, ok36, trivial⟩) mixed 11 8 cuts11 rfl toB11_ok trivial ((e11 n a0 a1 a2 a3 a4 a5 a6 a7 a8 a9 a10 a11 a12 a13 a14).trans h)
theorem ok11 {R : Type} : SFone T Tryd.prog 11 (run11 : SF R) := by
  intro ls K r h
  simp only [run11] at h
  obtain ⟨a0, a1, a2, a3, _, rfl, h1⟩ := gI4_ok h; obtain ⟨a4, _, rfl, h2⟩ := gI_ok h1; obtain ⟨a5, _, rfl, h3⟩ := gB_ok h2; obtain ⟨a6, _, rfl, h4⟩ := gB_ok h3; obtain ⟨a7, _, rfl, h5⟩ := gI_ok h4; obtain ⟨a8, _, rfl, h6⟩ := gI_ok h5; obtain ⟨a9, _, rfl, h7⟩ := gL_ok h6; obtain ⟨a10, _, rfl, h8⟩ := gS_ok h7; obtain ⟨a11, _, rfl, h9⟩ := gI_ok h8; obtain ⟨a12, _, rfl, h10⟩ := gI_ok h9; obtain ⟨a13, _, rfl, h11⟩ := gB_ok h10; obtain ⟨a14, _, rfl, h12⟩ := gI_ok h11; obtain ⟨rfl, h13⟩ := gE_ok h12
  obtain ⟨y, k1, k2⟩ := Option.bind_eq_some_iff.1 h13
  exact ⟨_, k2, sp11 a0 a1 a2 a3 a4 a5 a6 a7 a8 a9 a10 a11 a12 a13 a14 k1⟩

end Go.Proofs.YtcbhmedknbiffaaDoor
