/-
  The functions of this program, evaluated; each is as it is evaluated.
-/
import Derived.Test.YthaomidjgadieaaEvR
import Derived.Test.YthaomidjgadieaaEvY
import Derived.Test.YthaomidjgadieaaVsT
import Derived.KernelRfl
namespace Go.Proofs.Ythaomidjgadieaa
open Go Go.RowKit
set_option maxRecDepth 100000

theorem mixed : Try.prog.follows .mixedOrders = true := by kernel_rfl


/-! ### garland/garlandlaw06.great -/
def pa13 : List VP := [.agg [.i .u8, .i .i64, .i .i64, .i .i64, .i .i64, .b, .b, .i .i64, .i .i64, .sl false [.int .i64], .s, .i .i64, .i .i64, .b, .i .i64]]
def sr13 : RShape := ⟨.b, [], none⟩
def toB13 : List Leaf → Option (Bool) := gB (fun b0 => gE (some b0))
def ofB13 (y : Bool) : List Leaf := [.b y]
theorem toB13_ok : ∀ ls b, toB13 ls = some b → ls = ofB13 b := by
  intro ls b h
  unfold toB13 at h
  obtain ⟨b0, _, rfl, h1⟩ := gB_ok h; obtain ⟨rfl, h2⟩ := gE_ok h1
  cases h2; rfl
def run13 {R : Type} : SF R := ⟨pa13, sr13, fun ls K => (gI (fun a0 => gI (fun a1 => gI (fun a2 => gI (fun a3 => gI (fun a4 => gB (fun a5 => gB (fun a6 => gI (fun a7 => gI (fun a8 => gL [.int .i64] (fun a9 => gS (fun a10 => gI (fun a11 => gI (fun a12 => gB (fun a13 => gI (fun a14 => gE (Option.bind (F13 FUEL a0 a1 a2 a3 a4 a5 a6 a7 a8 a9 a10 a11 a12 a13 a14) fun y => K (ofB13 y)))))))))))))))))) ls⟩
def cuts13 : List (List Nat × Cut (Bool)) := []
noncomputable def X13 : Px (Bool) := ⟨T, Try.prog, lkF [], mkCuts 13 cuts13, altN, altN_ok⟩
theorem e13 (n : Nat) (a0 a1 a2 a3 a4 : Int) (a5 a6 : Bool) (a7 a8 : Int) (a9 : List (Int)) (a10 : ByteArray) (a11 a12 : Int) (a13 : Bool) (a14 : Int) : entF X13 8 13 pa13 (endK sr13 toB13) n [.i a0, .i a1, .i a2, .i a3, .i a4, .b a5, .b a6, .i a7, .i a8, .l [.int .i64] a9, .s a10, .i a11, .i a12, .b a13, .i a14] = F13 n a0 a1 a2 a3 a4 a5 a6 a7 a8 a9 a10 a11 a12 a13 a14 := by kernel_rfl
theorem sp13 {n : Nat} (a0 a1 a2 a3 a4 : Int) (a5 a6 : Bool) (a7 a8 : Int) (a9 : List (Int)) (a10 : ByteArray) (a11 a12 : Int) (a13 : Bool) (a14 : Int) {y : Bool} (h : F13 n a0 a1 a2 a3 a4 a5 a6 a7 a8 a9 a10 a11 a12 a13 a14 = some y) : SpecF T Try.prog 13 pa13 [.i a0, .i a1, .i a2, .i a3, .i a4, .b a5, .b a6, .i a7, .i a8, .l [.int .i64] a9, .s a10, .i a11, .i a12, .b a13, .i a14] sr13 (ofB13 y) :=
  fun_ok (X := X13) tok (sfok_of trivial) mixed 13 8 cuts13 rfl toB13_ok trivial ((e13 n a0 a1 a2 a3 a4 a5 a6 a7 a8 a9 a10 a11 a12 a13 a14).trans h)
theorem ok13 {R : Type} : SFone T Try.prog 13 (run13 : SF R) := by
  intro ls K r h
  simp only [run13] at h
  obtain ⟨a0, a1, a2, a3, _, rfl, h1⟩ := gI4_ok h; obtain ⟨a4, _, rfl, h2⟩ := gI_ok h1; obtain ⟨a5, _, rfl, h3⟩ := gB_ok h2; obtain ⟨a6, _, rfl, h4⟩ := gB_ok h3; obtain ⟨a7, _, rfl, h5⟩ := gI_ok h4; obtain ⟨a8, _, rfl, h6⟩ := gI_ok h5; obtain ⟨a9, _, rfl, h7⟩ := gL_ok h6; obtain ⟨a10, _, rfl, h8⟩ := gS_ok h7; obtain ⟨a11, _, rfl, h9⟩ := gI_ok h8; obtain ⟨a12, _, rfl, h10⟩ := gI_ok h9; obtain ⟨a13, _, rfl, h11⟩ := gB_ok h10; obtain ⟨a14, _, rfl, h12⟩ := gI_ok h11; obtain ⟨rfl, h13⟩ := gE_ok h12
  obtain ⟨y, k1, k2⟩ := Option.bind_eq_some_iff.1 h13
  exact ⟨_, k2, sp13 a0 a1 a2 a3 a4 a5 a6 a7 a8 a9 a10 a11 a12 a13 a14 k1⟩

/-! ### garland/msg.isPlace -/
def pa49 : List VP := [.i .i64]
def sr49 : RShape := ⟨.b, [], none⟩
def toB49 : List Leaf → Option (Bool) := gB (fun b0 => gE (some b0))
def ofB49 (y : Bool) : List Leaf := [.b y]
theorem toB49_ok : ∀ ls b, toB49 ls = some b → ls = ofB49 b := by
  intro ls b h
  unfold toB49 at h
  obtain ⟨b0, _, rfl, h1⟩ := gB_ok h; obtain ⟨rfl, h2⟩ := gE_ok h1
  cases h2; rfl
def run49 {R : Type} : SF R := ⟨pa49, sr49, fun ls K => (gI (fun a0 => gE (Option.bind (F49 FUEL a0) fun y => K (ofB49 y)))) ls⟩
def cuts49 : List (List Nat × Cut (Bool)) := []
noncomputable def X49 : Px (Bool) := ⟨T, Try.prog, lkF [], mkCuts 49 cuts49, altN, altN_ok⟩
theorem e49 (n : Nat) (a0 : Int) : entF X49 8 49 pa49 (endK sr49 toB49) n [.i a0] = F49 n a0 := by kernel_rfl
theorem sp49 {n : Nat} (a0 : Int) {y : Bool} (h : F49 n a0 = some y) : SpecF T Try.prog 49 pa49 [.i a0] sr49 (ofB49 y) :=
  fun_ok (X := X49) tok (sfok_of trivial) mixed 49 8 cuts49 rfl toB49_ok trivial ((e49 n a0).trans h)
theorem ok49 {R : Type} : SFone T Try.prog 49 (run49 : SF R) := by
  intro ls K r h
  simp only [run49] at h
  obtain ⟨a0, _, rfl, h1⟩ := gI_ok h; obtain ⟨rfl, h2⟩ := gE_ok h1
  obtain ⟨y, k1, k2⟩ := Option.bind_eq_some_iff.1 h2
  exact ⟨_, k2, sp49 a0 k1⟩

/-! ### garland/msg.Call -/
def pa15 : List VP := [.i .i64, .i .i64]
def sr15 : RShape := ⟨.tup [.i .i64, .i .i64], [], none⟩
def toB15 : List Leaf → Option (Int × Int) := gI (fun b0 => gI (fun b1 => gE (some (b0, b1))))
def ofB15 (y : Int × Int) : List Leaf := [.i y.1, .i y.2]
theorem toB15_ok : ∀ ls b, toB15 ls = some b → ls = ofB15 b := by
  intro ls b h
  unfold toB15 at h
  obtain ⟨b0, _, rfl, h1⟩ := gI_ok h; obtain ⟨b1, _, rfl, h2⟩ := gI_ok h1; obtain ⟨rfl, h3⟩ := gE_ok h2
  cases h3; rfl
def run15 {R : Type} : SF R := ⟨pa15, sr15, fun ls K => (gI (fun a0 => gI (fun a1 => gE (Option.bind (F15 FUEL a0 a1) fun y => K (ofB15 y))))) ls⟩
def sh15_0 : Shape := ⟨[(21, [])], []⟩
def g15_0 (n : Nat) : List Leaf → Option (Int × Int) := gE (F15_c0 n )
def cuts15 : List (List Nat × Cut (Int × Int)) := [([1, 10], ⟨sh15_0, g15_0⟩)]
noncomputable def X15 : Px (Int × Int) := ⟨T, Try.prog, lkF [(49, run49)], mkCuts 15 cuts15, altN, altN_ok⟩
theorem e15_0 (n : Nat) : stepF X15 8 15 (endK sr15 toB15) [1, 10] sh15_0 n [] = F15_c0 (n + 1)  := by kernel_rfl
theorem e15 (n : Nat) (a0 a1 : Int) : entF X15 8 15 pa15 (endK sr15 toB15) n [.i a0, .i a1] = F15 n a0 a1 := by kernel_rfl
theorem c15_0 : CutOK X15 8 15 (endK sr15 toB15) [1, 10] ⟨sh15_0, g15_0⟩ := by
  refine ⟨fun ls => ?_, fun n ls r h => ?_⟩
  · cases h : g15_0 0 ls with
    | none => exact h
    | some r =>
      unfold g15_0 at h; obtain ⟨rfl, h1⟩ := gE_ok h; simp only [F15_c0] at h1; cases h1
  · replace h : g15_0 (n + 1) ls = some r := h
    unfold g15_0 at h
    obtain ⟨rfl, h1⟩ := gE_ok h
    exact (e15_0 n ).trans h1
theorem sp15 {n : Nat} (a0 a1 : Int) {y : Int × Int} (h : F15 n a0 a1 = some y) : SpecF T Try.prog 15 pa15 [.i a0, .i a1] sr15 (ofB15 y) :=
  fun_ok (X := X15) tok (sfok_of ⟨ok49, trivial⟩) mixed 15 8 cuts15 rfl toB15_ok ⟨c15_0, trivial⟩ ((e15 n a0 a1).trans h)
theorem ok15 {R : Type} : SFone T Try.prog 15 (run15 : SF R) := by
  intro ls K r h
  simp only [run15] at h
  obtain ⟨a0, _, rfl, h1⟩ := gI_ok h; obtain ⟨a1, _, rfl, h2⟩ := gI_ok h1; obtain ⟨rfl, h3⟩ := gE_ok h2
  obtain ⟨y, k1, k2⟩ := Option.bind_eq_some_iff.1 h3
  exact ⟨_, k2, sp15 a0 a1 k1⟩

/-! ### garland/msg.Asks -/
def pa21 : List VP := [.agg [.i .u8, .i .i64, .i .i64, .i .i64, .i .i64, .b, .b, .i .i64, .i .i64, .sl false [.int .i64], .s, .i .i64, .i .i64, .b, .i .i64]]
def sr21 : RShape := ⟨.b, [], none⟩
def toB21 : List Leaf → Option (Bool) := gB (fun b0 => gE (some b0))
def ofB21 (y : Bool) : List Leaf := [.b y]
theorem toB21_ok : ∀ ls b, toB21 ls = some b → ls = ofB21 b := by
  intro ls b h
  unfold toB21 at h
  obtain ⟨b0, _, rfl, h1⟩ := gB_ok h; obtain ⟨rfl, h2⟩ := gE_ok h1
  cases h2; rfl
def run21 {R : Type} : SF R := ⟨pa21, sr21, fun ls K => (gI (fun a0 => gI (fun a1 => gI (fun a2 => gI (fun a3 => gI (fun a4 => gB (fun a5 => gB (fun a6 => gI (fun a7 => gI (fun a8 => gL [.int .i64] (fun a9 => gS (fun a10 => gI (fun a11 => gI (fun a12 => gB (fun a13 => gI (fun a14 => gE (Option.bind (F21 FUEL a0 a1 a2 a3 a4 a5 a6 a7 a8 a9 a10 a11 a12 a13 a14) fun y => K (ofB21 y)))))))))))))))))) ls⟩
def cuts21 : List (List Nat × Cut (Bool)) := []
noncomputable def X21 : Px (Bool) := ⟨T, Try.prog, lkF [], mkCuts 21 cuts21, altN, altN_ok⟩
theorem e21 (n : Nat) (a0 a1 a2 a3 a4 : Int) (a5 a6 : Bool) (a7 a8 : Int) (a9 : List (Int)) (a10 : ByteArray) (a11 a12 : Int) (a13 : Bool) (a14 : Int) : entF X21 8 21 pa21 (endK sr21 toB21) n [.i a0, .i a1, .i a2, .i a3, .i a4, .b a5, .b a6, .i a7, .i a8, .l [.int .i64] a9, .s a10, .i a11, .i a12, .b a13, .i a14] = F21 n a0 a1 a2 a3 a4 a5 a6 a7 a8 a9 a10 a11 a12 a13 a14 := by kernel_rfl
theorem sp21 {n : Nat} (a0 a1 a2 a3 a4 : Int) (a5 a6 : Bool) (a7 a8 : Int) (a9 : List (Int)) (a10 : ByteArray) (a11 a12 : Int) (a13 : Bool) (a14 : Int) {y : Bool} (h : F21 n a0 a1 a2 a3 a4 a5 a6 a7 a8 a9 a10 a11 a12 a13 a14 = some y) : SpecF T Try.prog 21 pa21 [.i a0, .i a1, .i a2, .i a3, .i a4, .b a5, .b a6, .i a7, .i a8, .l [.int .i64] a9, .s a10, .i a11, .i a12, .b a13, .i a14] sr21 (ofB21 y) :=
  fun_ok (X := X21) tok (sfok_of trivial) mixed 21 8 cuts21 rfl toB21_ok trivial ((e21 n a0 a1 a2 a3 a4 a5 a6 a7 a8 a9 a10 a11 a12 a13 a14).trans h)
theorem ok21 {R : Type} : SFone T Try.prog 21 (run21 : SF R) := by
  intro ls K r h
  simp only [run21] at h
  obtain ⟨a0, a1, a2, a3, _, rfl, h1⟩ := gI4_ok h; obtain ⟨a4, _, rfl, h2⟩ := gI_ok h1; obtain ⟨a5, _, rfl, h3⟩ := gB_ok h2; obtain ⟨a6, _, rfl, h4⟩ := gB_ok h3; obtain ⟨a7, _, rfl, h5⟩ := gI_ok h4; obtain ⟨a8, _, rfl, h6⟩ := gI_ok h5; obtain ⟨a9, _, rfl, h7⟩ := gL_ok h6; obtain ⟨a10, _, rfl, h8⟩ := gS_ok h7; obtain ⟨a11, _, rfl, h9⟩ := gI_ok h8; obtain ⟨a12, _, rfl, h10⟩ := gI_ok h9; obtain ⟨a13, _, rfl, h11⟩ := gB_ok h10; obtain ⟨a14, _, rfl, h12⟩ := gI_ok h11; obtain ⟨rfl, h13⟩ := gE_ok h12
  obtain ⟨y, k1, k2⟩ := Option.bind_eq_some_iff.1 h13
  exact ⟨_, k2, sp21 a0 a1 a2 a3 a4 a5 a6 a7 a8 a9 a10 a11 a12 a13 a14 k1⟩

/-! ### garland/msg.Tell -/
def pa26 : List VP := [.agg [.i .u8, .i .i64, .i .i64, .i .i64, .i .i64, .b, .b, .i .i64, .i .i64, .sl false [.int .i64], .s, .i .i64, .i .i64, .b, .i .i64]]
def sr26 : RShape := ⟨.agg [.i .u8, .i .i64, .i .i64, .i .i64, .i .i64, .b, .b, .i .i64, .i .i64, .nil, .s, .i .i64, .i .i64, .b, .i .i64], [], none⟩
def toB26 : List Leaf → Option (Si5b2i2si2bi) := gI (fun b0 => gI (fun b1 => gI (fun b2 => gI (fun b3 => gI (fun b4 => gB (fun b5 => gB (fun b6 => gI (fun b7 => gI (fun b8 => gS (fun b9 => gI (fun b10 => gI (fun b11 => gB (fun b12 => gI (fun b13 => gE (some ⟨b0, b1, b2, b3, b4, b5, b6, b7, b8, b9, b10, b11, b12, b13⟩)))))))))))))))
def ofB26 (y : Si5b2i2si2bi) : List Leaf := [.i y.q0, .i y.q1, .i y.q2, .i y.q3, .i y.q4, .b y.q5, .b y.q6, .i y.q7, .i y.q8, .s y.q9, .i y.q10, .i y.q11, .b y.q12, .i y.q13]
theorem toB26_ok : ∀ ls b, toB26 ls = some b → ls = ofB26 b := by
  intro ls b h
  unfold toB26 at h
  obtain ⟨b0, b1, b2, b3, _, rfl, h1⟩ := gI4_ok h; obtain ⟨b4, _, rfl, h2⟩ := gI_ok h1; obtain ⟨b5, _, rfl, h3⟩ := gB_ok h2; obtain ⟨b6, _, rfl, h4⟩ := gB_ok h3; obtain ⟨b7, _, rfl, h5⟩ := gI_ok h4; obtain ⟨b8, _, rfl, h6⟩ := gI_ok h5; obtain ⟨b9, _, rfl, h7⟩ := gS_ok h6; obtain ⟨b10, _, rfl, h8⟩ := gI_ok h7; obtain ⟨b11, _, rfl, h9⟩ := gI_ok h8; obtain ⟨b12, _, rfl, h10⟩ := gB_ok h9; obtain ⟨b13, _, rfl, h11⟩ := gI_ok h10; obtain ⟨rfl, h12⟩ := gE_ok h11
  cases h12; rfl
def run26 {R : Type} : SF R := ⟨pa26, sr26, fun ls K => (gI (fun a0 => gI (fun a1 => gI (fun a2 => gI (fun a3 => gI (fun a4 => gB (fun a5 => gB (fun a6 => gI (fun a7 => gI (fun a8 => gL [.int .i64] (fun a9 => gS (fun a10 => gI (fun a11 => gI (fun a12 => gB (fun a13 => gI (fun a14 => gE (Option.bind (F26 FUEL a0 a1 a2 a3 a4 a5 a6 a7 a8 a9 a10 a11 a12 a13 a14) fun y => K (ofB26 y)))))))))))))))))) ls⟩
def cuts26 : List (List Nat × Cut (Si5b2i2si2bi)) := []
noncomputable def X26 : Px (Si5b2i2si2bi) := ⟨T, Try.prog, lkF [(21, run21)], mkCuts 26 cuts26, altN, altN_ok⟩
theorem e26 (n : Nat) (a0 a1 a2 a3 a4 : Int) (a5 a6 : Bool) (a7 a8 : Int) (a9 : List (Int)) (a10 : ByteArray) (a11 a12 : Int) (a13 : Bool) (a14 : Int) : entF X26 8 26 pa26 (endK sr26 toB26) n [.i a0, .i a1, .i a2, .i a3, .i a4, .b a5, .b a6, .i a7, .i a8, .l [.int .i64] a9, .s a10, .i a11, .i a12, .b a13, .i a14] = F26 n a0 a1 a2 a3 a4 a5 a6 a7 a8 a9 a10 a11 a12 a13 a14 := by kernel_rfl
theorem sp26 {n : Nat} (a0 a1 a2 a3 a4 : Int) (a5 a6 : Bool) (a7 a8 : Int) (a9 : List (Int)) (a10 : ByteArray) (a11 a12 : Int) (a13 : Bool) (a14 : Int) {y : Si5b2i2si2bi} (h : F26 n a0 a1 a2 a3 a4 a5 a6 a7 a8 a9 a10 a11 a12 a13 a14 = some y) : SpecF T Try.prog 26 pa26 [.i a0, .i a1, .i a2, .i a3, .i a4, .b a5, .b a6, .i a7, .i a8, .l [.int .i64] a9, .s a10, .i a11, .i a12, .b a13, .i a14] sr26 (ofB26 y) :=
  fun_ok (X := X26) tok (sfok_of ⟨ok21, trivial⟩) mixed 26 8 cuts26 rfl toB26_ok trivial ((e26 n a0 a1 a2 a3 a4 a5 a6 a7 a8 a9 a10 a11 a12 a13 a14).trans h)
theorem ok26 {R : Type} : SFone T Try.prog 26 (run26 : SF R) := by
  intro ls K r h
  simp only [run26] at h
  obtain ⟨a0, a1, a2, a3, _, rfl, h1⟩ := gI4_ok h; obtain ⟨a4, _, rfl, h2⟩ := gI_ok h1; obtain ⟨a5, _, rfl, h3⟩ := gB_ok h2; obtain ⟨a6, _, rfl, h4⟩ := gB_ok h3; obtain ⟨a7, _, rfl, h5⟩ := gI_ok h4; obtain ⟨a8, _, rfl, h6⟩ := gI_ok h5; obtain ⟨a9, _, rfl, h7⟩ := gL_ok h6; obtain ⟨a10, _, rfl, h8⟩ := gS_ok h7; obtain ⟨a11, _, rfl, h9⟩ := gI_ok h8; obtain ⟨a12, _, rfl, h10⟩ := gI_ok h9; obtain ⟨a13, _, rfl, h11⟩ := gB_ok h10; obtain ⟨a14, _, rfl, h12⟩ := gI_ok h11; obtain ⟨rfl, h13⟩ := gE_ok h12
  obtain ⟨y, k1, k2⟩ := Option.bind_eq_some_iff.1 h13
  exact ⟨_, k2, sp26 a0 a1 a2 a3 a4 a5 a6 a7 a8 a9 a10 a11 a12 a13 a14 k1⟩

/-! ### garland/msg.isKey -/
def pa51 : List VP := [.s]
def sr51 : RShape := ⟨.b, [], none⟩
def toB51 : List Leaf → Option (Bool) := gB (fun b0 => gE (some b0))
def ofB51 (y : Bool) : List Leaf := [.b y]
theorem toB51_ok : ∀ ls b, toB51 ls = some b → ls = ofB51 b := by
  intro ls b h
  unfold toB51 at h
  obtain ⟨b0, _, rfl, h1⟩ := gB_ok h; obtain ⟨rfl, h2⟩ := gE_ok h1
  cases h2; rfl
def run51 {R : Type} : SF R := ⟨pa51, sr51, fun ls K => (gS (fun a0 => gE (Option.bind (F51 FUEL a0) fun y => K (ofB51 y)))) ls⟩
def cuts51 : List (List Nat × Cut (Bool)) := []
noncomputable def X51 : Px (Bool) := ⟨T, Try.prog, lkF [], mkCuts 51 cuts51, altN, altN_ok⟩
theorem e51 (n : Nat) (a0 : ByteArray) : entF X51 8 51 pa51 (endK sr51 toB51) n [.s a0] = F51 n a0 := by kernel_rfl
theorem sp51 {n : Nat} (a0 : ByteArray) {y : Bool} (h : F51 n a0 = some y) : SpecF T Try.prog 51 pa51 [.s a0] sr51 (ofB51 y) :=
  fun_ok (X := X51) tok (sfok_of trivial) mixed 51 8 cuts51 rfl toB51_ok trivial ((e51 n a0).trans h)
theorem ok51 {R : Type} : SFone T Try.prog 51 (run51 : SF R) := by
  intro ls K r h
  simp only [run51] at h
  obtain ⟨a0, _, rfl, h1⟩ := gS_ok h; obtain ⟨rfl, h2⟩ := gE_ok h1
  obtain ⟨y, k1, k2⟩ := Option.bind_eq_some_iff.1 h2
  exact ⟨_, k2, sp51 a0 k1⟩

/-! ### garland/msg.isValue -/
def pa52 : List VP := [.i .i64]
def sr52 : RShape := ⟨.b, [], none⟩
def toB52 : List Leaf → Option (Bool) := gB (fun b0 => gE (some b0))
def ofB52 (y : Bool) : List Leaf := [.b y]
theorem toB52_ok : ∀ ls b, toB52 ls = some b → ls = ofB52 b := by
  intro ls b h
  unfold toB52 at h
  obtain ⟨b0, _, rfl, h1⟩ := gB_ok h; obtain ⟨rfl, h2⟩ := gE_ok h1
  cases h2; rfl
def run52 {R : Type} : SF R := ⟨pa52, sr52, fun ls K => (gI (fun a0 => gE (Option.bind (F52 FUEL a0) fun y => K (ofB52 y)))) ls⟩
def cuts52 : List (List Nat × Cut (Bool)) := []
noncomputable def X52 : Px (Bool) := ⟨T, Try.prog, lkF [], mkCuts 52 cuts52, altN, altN_ok⟩
theorem e52 (n : Nat) (a0 : Int) : entF X52 8 52 pa52 (endK sr52 toB52) n [.i a0] = F52 n a0 := by kernel_rfl
theorem sp52 {n : Nat} (a0 : Int) {y : Bool} (h : F52 n a0 = some y) : SpecF T Try.prog 52 pa52 [.i a0] sr52 (ofB52 y) :=
  fun_ok (X := X52) tok (sfok_of trivial) mixed 52 8 cuts52 rfl toB52_ok trivial ((e52 n a0).trans h)
theorem ok52 {R : Type} : SFone T Try.prog 52 (run52 : SF R) := by
  intro ls K r h
  simp only [run52] at h
  obtain ⟨a0, _, rfl, h1⟩ := gI_ok h; obtain ⟨rfl, h2⟩ := gE_ok h1
  obtain ⟨y, k1, k2⟩ := Option.bind_eq_some_iff.1 h2
  exact ⟨_, k2, sp52 a0 k1⟩

/-! ### garland/msg.Pair -/
def pa17 : List VP := [.agg [.s, .i .i64, .i .i64, .b]]
def sr17 : RShape := ⟨.b, [], none⟩
def toB17 : List Leaf → Option (Bool) := gB (fun b0 => gE (some b0))
def ofB17 (y : Bool) : List Leaf := [.b y]
theorem toB17_ok : ∀ ls b, toB17 ls = some b → ls = ofB17 b := by
  intro ls b h
  unfold toB17 at h
  obtain ⟨b0, _, rfl, h1⟩ := gB_ok h; obtain ⟨rfl, h2⟩ := gE_ok h1
  cases h2; rfl
def run17 {R : Type} : SF R := ⟨pa17, sr17, fun ls K => (gS (fun a0 => gI (fun a1 => gI (fun a2 => gB (fun a3 => gE (Option.bind (F17 FUEL a0 a1 a2 a3) fun y => K (ofB17 y))))))) ls⟩
def cuts17 : List (List Nat × Cut (Bool)) := []
noncomputable def X17 : Px (Bool) := ⟨T, Try.prog, lkF [(51, run51), (52, run52)], mkCuts 17 cuts17, altN, altN_ok⟩
theorem e17 (n : Nat) (a0 : ByteArray) (a1 a2 : Int) (a3 : Bool) : entF X17 8 17 pa17 (endK sr17 toB17) n [.s a0, .i a1, .i a2, .b a3] = F17 n a0 a1 a2 a3 := by kernel_rfl
theorem sp17 {n : Nat} (a0 : ByteArray) (a1 a2 : Int) (a3 : Bool) {y : Bool} (h : F17 n a0 a1 a2 a3 = some y) : SpecF T Try.prog 17 pa17 [.s a0, .i a1, .i a2, .b a3] sr17 (ofB17 y) :=
  fun_ok (X := X17) tok (sfok_of ⟨ok51, ok52, trivial⟩) mixed 17 8 cuts17 rfl toB17_ok trivial ((e17 n a0 a1 a2 a3).trans h)
theorem ok17 {R : Type} : SFone T Try.prog 17 (run17 : SF R) := by
  intro ls K r h
  simp only [run17] at h
  obtain ⟨a0, _, rfl, h1⟩ := gS_ok h; obtain ⟨a1, _, rfl, h2⟩ := gI_ok h1; obtain ⟨a2, _, rfl, h3⟩ := gI_ok h2; obtain ⟨a3, _, rfl, h4⟩ := gB_ok h3; obtain ⟨rfl, h5⟩ := gE_ok h4
  obtain ⟨y, k1, k2⟩ := Option.bind_eq_some_iff.1 h5
  exact ⟨_, k2, sp17 a0 a1 a2 a3 k1⟩

/-! ### slices.Index[[]int,int] -/
def pa77 : List VP := [.sl false [.int .i64], .i .i64]
def sr77 : RShape := ⟨.i .i64, [], none⟩
def toB77 : List Leaf → Option (Int) := gI (fun b0 => gE (some b0))
def ofB77 (y : Int) : List Leaf := [.i y]
theorem toB77_ok : ∀ ls b, toB77 ls = some b → ls = ofB77 b := by
  intro ls b h
  unfold toB77 at h
  obtain ⟨b0, _, rfl, h1⟩ := gI_ok h; obtain ⟨rfl, h2⟩ := gE_ok h1
  cases h2; rfl
def run77 {R : Type} : SF R := ⟨pa77, sr77, fun ls K => (gL [.int .i64] (fun a0 => gI (fun a1 => gE (Option.bind (F77 FUEL a0 a1) fun y => K (ofB77 y))))) ls⟩
def sh77_0 : Shape := ⟨[(19, [(0, .sl false [.int .i64]), (1, .i .i64), (7, .i .i64), (8, .i .i64)])], []⟩
def g77_0 (n : Nat) : List Leaf → Option (Int) := gL [.int .i64] (fun x0 => gI (fun x1 => gI (fun x2 => gI (fun x3 => gE (F77_c0 n x0 x1 x2 x3)))))
def cuts77 : List (List Nat × Cut (Int)) := [([1, 0, 1, 0], ⟨sh77_0, g77_0⟩)]
noncomputable def X77 : Px (Int) := ⟨T, Try.prog, lkF [], mkCuts 77 cuts77, altN, altN_ok⟩
theorem e77_0 (n : Nat) (x0 : List (Int)) (x1 x2 x3 : Int) : stepF X77 8 77 (endK sr77 toB77) [1, 0, 1, 0] sh77_0 n [.l [.int .i64] x0, .i x1, .i x2, .i x3] = F77_c0 (n + 1) x0 x1 x2 x3 := by kernel_rfl
theorem e77 (n : Nat) (a0 : List (Int)) (a1 : Int) : entF X77 8 77 pa77 (endK sr77 toB77) n [.l [.int .i64] a0, .i a1] = F77 n a0 a1 := by kernel_rfl
theorem c77_0 : CutOK X77 8 77 (endK sr77 toB77) [1, 0, 1, 0] ⟨sh77_0, g77_0⟩ := by
  refine ⟨fun ls => ?_, fun n ls r h => ?_⟩
  · cases h : g77_0 0 ls with
    | none => exact h
    | some r =>
      unfold g77_0 at h; obtain ⟨x0, _, rfl, h1⟩ := gL_ok h; obtain ⟨x1, _, rfl, h2⟩ := gI_ok h1; obtain ⟨x2, _, rfl, h3⟩ := gI_ok h2; obtain ⟨x3, _, rfl, h4⟩ := gI_ok h3; obtain ⟨rfl, h5⟩ := gE_ok h4; simp only [F77_c0] at h5; cases h5
  · replace h : g77_0 (n + 1) ls = some r := h
    unfold g77_0 at h
    obtain ⟨x0, _, rfl, h1⟩ := gL_ok h; obtain ⟨x1, _, rfl, h2⟩ := gI_ok h1; obtain ⟨x2, _, rfl, h3⟩ := gI_ok h2; obtain ⟨x3, _, rfl, h4⟩ := gI_ok h3; obtain ⟨rfl, h5⟩ := gE_ok h4
    exact (e77_0 n x0 x1 x2 x3).trans h5
theorem sp77 {n : Nat} (a0 : List (Int)) (a1 : Int) {y : Int} (h : F77 n a0 a1 = some y) : SpecF T Try.prog 77 pa77 [.l [.int .i64] a0, .i a1] sr77 (ofB77 y) :=
  fun_ok (X := X77) tok (sfok_of trivial) mixed 77 8 cuts77 rfl toB77_ok ⟨c77_0, trivial⟩ ((e77 n a0 a1).trans h)
theorem ok77 {R : Type} : SFone T Try.prog 77 (run77 : SF R) := by
  intro ls K r h
  simp only [run77] at h
  obtain ⟨a0, _, rfl, h1⟩ := gL_ok h; obtain ⟨a1, _, rfl, h2⟩ := gI_ok h1; obtain ⟨rfl, h3⟩ := gE_ok h2
  obtain ⟨y, k1, k2⟩ := Option.bind_eq_some_iff.1 h3
  exact ⟨_, k2, sp77 a0 a1 k1⟩

/-! ### slices.Contains[[]int,int] -/
def pa72 : List VP := [.sl false [.int .i64], .i .i64]
def sr72 : RShape := ⟨.b, [], none⟩
def toB72 : List Leaf → Option (Bool) := gB (fun b0 => gE (some b0))
def ofB72 (y : Bool) : List Leaf := [.b y]
theorem toB72_ok : ∀ ls b, toB72 ls = some b → ls = ofB72 b := by
  intro ls b h
  unfold toB72 at h
  obtain ⟨b0, _, rfl, h1⟩ := gB_ok h; obtain ⟨rfl, h2⟩ := gE_ok h1
  cases h2; rfl
def run72 {R : Type} : SF R := ⟨pa72, sr72, fun ls K => (gL [.int .i64] (fun a0 => gI (fun a1 => gE (Option.bind (F72 FUEL a0 a1) fun y => K (ofB72 y))))) ls⟩
def cuts72 : List (List Nat × Cut (Bool)) := []
noncomputable def X72 : Px (Bool) := ⟨T, Try.prog, lkF [(77, run77)], mkCuts 72 cuts72, altN, altN_ok⟩
theorem e72 (n : Nat) (a0 : List (Int)) (a1 : Int) : entF X72 8 72 pa72 (endK sr72 toB72) n [.l [.int .i64] a0, .i a1] = F72 n a0 a1 := by kernel_rfl
theorem sp72 {n : Nat} (a0 : List (Int)) (a1 : Int) {y : Bool} (h : F72 n a0 a1 = some y) : SpecF T Try.prog 72 pa72 [.l [.int .i64] a0, .i a1] sr72 (ofB72 y) :=
  fun_ok (X := X72) tok (sfok_of ⟨ok77, trivial⟩) mixed 72 8 cuts72 rfl toB72_ok trivial ((e72 n a0 a1).trans h)
theorem ok72 {R : Type} : SFone T Try.prog 72 (run72 : SF R) := by
  intro ls K r h
  simp only [run72] at h
  obtain ⟨a0, _, rfl, h1⟩ := gL_ok h; obtain ⟨a1, _, rfl, h2⟩ := gI_ok h1; obtain ⟨rfl, h3⟩ := gE_ok h2
  obtain ⟨y, k1, k2⟩ := Option.bind_eq_some_iff.1 h3
  exact ⟨_, k2, sp72 a0 a1 k1⟩

/-! ### garland/msg.apart -/
def pa65 : List VP := [.i .i64, .sl false [.int .i64]]
def sr65 : RShape := ⟨.b, [], none⟩
def toB65 : List Leaf → Option (Bool) := gB (fun b0 => gE (some b0))
def ofB65 (y : Bool) : List Leaf := [.b y]
theorem toB65_ok : ∀ ls b, toB65 ls = some b → ls = ofB65 b := by
  intro ls b h
  unfold toB65 at h
  obtain ⟨b0, _, rfl, h1⟩ := gB_ok h; obtain ⟨rfl, h2⟩ := gE_ok h1
  cases h2; rfl
def run65 {R : Type} : SF R := ⟨pa65, sr65, fun ls K => (gI (fun a0 => gL [.int .i64] (fun a1 => gE (Option.bind (F65 FUEL a0 a1) fun y => K (ofB65 y))))) ls⟩
def sh65_0 : Shape := ⟨[(25, [(0, .i .i64), (1, .sl false [.int .i64]), (7, .sl false [.int .i64]), (8, .i .i64), (9, .i .i64)])], []⟩
def g65_0 (n : Nat) : List Leaf → Option (Bool) := gI (fun x0 => gL [.int .i64] (fun x1 => gL [.int .i64] (fun x2 => gI (fun x3 => gI (fun x4 => gE (F65_c0 n x0 x1 x2 x3 x4))))))
def cuts65 : List (List Nat × Cut (Bool)) := [([1, 0, 1, 0], ⟨sh65_0, g65_0⟩)]
noncomputable def X65 : Px (Bool) := ⟨T, Try.prog, lkF [(72, run72)], mkCuts 65 cuts65, altN, altN_ok⟩
theorem e65_0 (n : Nat) (x0 : Int) (x1 x2 : List (Int)) (x3 x4 : Int) : stepF X65 8 65 (endK sr65 toB65) [1, 0, 1, 0] sh65_0 n [.i x0, .l [.int .i64] x1, .l [.int .i64] x2, .i x3, .i x4] = F65_c0 (n + 1) x0 x1 x2 x3 x4 := by kernel_rfl
theorem e65 (n : Nat) (a0 : Int) (a1 : List (Int)) : entF X65 8 65 pa65 (endK sr65 toB65) n [.i a0, .l [.int .i64] a1] = F65 n a0 a1 := by kernel_rfl
theorem c65_0 : CutOK X65 8 65 (endK sr65 toB65) [1, 0, 1, 0] ⟨sh65_0, g65_0⟩ := by
  refine ⟨fun ls => ?_, fun n ls r h => ?_⟩
  · cases h : g65_0 0 ls with
    | none => exact h
    | some r =>
      unfold g65_0 at h; obtain ⟨x0, _, rfl, h1⟩ := gI_ok h; obtain ⟨x1, _, rfl, h2⟩ := gL_ok h1; obtain ⟨x2, _, rfl, h3⟩ := gL_ok h2; obtain ⟨x3, _, rfl, h4⟩ := gI_ok h3; obtain ⟨x4, _, rfl, h5⟩ := gI_ok h4; obtain ⟨rfl, h6⟩ := gE_ok h5; simp only [F65_c0] at h6; cases h6
  · replace h : g65_0 (n + 1) ls = some r := h
    unfold g65_0 at h
    obtain ⟨x0, _, rfl, h1⟩ := gI_ok h; obtain ⟨x1, _, rfl, h2⟩ := gL_ok h1; obtain ⟨x2, _, rfl, h3⟩ := gL_ok h2; obtain ⟨x3, _, rfl, h4⟩ := gI_ok h3; obtain ⟨x4, _, rfl, h5⟩ := gI_ok h4; obtain ⟨rfl, h6⟩ := gE_ok h5
    exact (e65_0 n x0 x1 x2 x3 x4).trans h6
theorem sp65 {n : Nat} (a0 : Int) (a1 : List (Int)) {y : Bool} (h : F65 n a0 a1 = some y) : SpecF T Try.prog 65 pa65 [.i a0, .l [.int .i64] a1] sr65 (ofB65 y) :=
  fun_ok (X := X65) tok (sfok_of ⟨ok72, trivial⟩) mixed 65 8 cuts65 rfl toB65_ok ⟨c65_0, trivial⟩ ((e65 n a0 a1).trans h)
theorem ok65 {R : Type} : SFone T Try.prog 65 (run65 : SF R) := by
  intro ls K r h
  simp only [run65] at h
  obtain ⟨a0, _, rfl, h1⟩ := gI_ok h; obtain ⟨a1, _, rfl, h2⟩ := gL_ok h1; obtain ⟨rfl, h3⟩ := gE_ok h2
  obtain ⟨y, k1, k2⟩ := Option.bind_eq_some_iff.1 h3
  exact ⟨_, k2, sp65 a0 a1 k1⟩

/-! ### garland/msg.holds -/
def pa53 : List VP := [.agg [.i .u8, .i .i64, .i .i64, .i .i64, .i .i64, .b, .b, .i .i64, .i .i64, .sl false [.int .i64], .s, .i .i64, .i .i64, .b, .i .i64]]
def sr53 : RShape := ⟨.b, [], none⟩
def toB53 : List Leaf → Option (Bool) := gB (fun b0 => gE (some b0))
def ofB53 (y : Bool) : List Leaf := [.b y]
theorem toB53_ok : ∀ ls b, toB53 ls = some b → ls = ofB53 b := by
  intro ls b h
  unfold toB53 at h
  obtain ⟨b0, _, rfl, h1⟩ := gB_ok h; obtain ⟨rfl, h2⟩ := gE_ok h1
  cases h2; rfl
def run53 {R : Type} : SF R := ⟨pa53, sr53, fun ls K => (gI (fun a0 => gI (fun a1 => gI (fun a2 => gI (fun a3 => gI (fun a4 => gB (fun a5 => gB (fun a6 => gI (fun a7 => gI (fun a8 => gL [.int .i64] (fun a9 => gS (fun a10 => gI (fun a11 => gI (fun a12 => gB (fun a13 => gI (fun a14 => gE (Option.bind (F53 FUEL a0 a1 a2 a3 a4 a5 a6 a7 a8 a9 a10 a11 a12 a13 a14) fun y => K (ofB53 y)))))))))))))))))) ls⟩
def cuts53 : List (List Nat × Cut (Bool)) := []
noncomputable def X53 : Px (Bool) := ⟨T, Try.prog, lkF [(17, run17), (51, run51), (65, run65)], mkCuts 53 cuts53, altN, altN_ok⟩
theorem e53 (n : Nat) (a0 a1 a2 a3 a4 : Int) (a5 a6 : Bool) (a7 a8 : Int) (a9 : List (Int)) (a10 : ByteArray) (a11 a12 : Int) (a13 : Bool) (a14 : Int) : entF X53 8 53 pa53 (endK sr53 toB53) n [.i a0, .i a1, .i a2, .i a3, .i a4, .b a5, .b a6, .i a7, .i a8, .l [.int .i64] a9, .s a10, .i a11, .i a12, .b a13, .i a14] = F53 n a0 a1 a2 a3 a4 a5 a6 a7 a8 a9 a10 a11 a12 a13 a14 := by kernel_rfl
theorem sp53 {n : Nat} (a0 a1 a2 a3 a4 : Int) (a5 a6 : Bool) (a7 a8 : Int) (a9 : List (Int)) (a10 : ByteArray) (a11 a12 : Int) (a13 : Bool) (a14 : Int) {y : Bool} (h : F53 n a0 a1 a2 a3 a4 a5 a6 a7 a8 a9 a10 a11 a12 a13 a14 = some y) : SpecF T Try.prog 53 pa53 [.i a0, .i a1, .i a2, .i a3, .i a4, .b a5, .b a6, .i a7, .i a8, .l [.int .i64] a9, .s a10, .i a11, .i a12, .b a13, .i a14] sr53 (ofB53 y) :=
  fun_ok (X := X53) tok (sfok_of ⟨ok17, ok51, ok65, trivial⟩) mixed 53 8 cuts53 rfl toB53_ok trivial ((e53 n a0 a1 a2 a3 a4 a5 a6 a7 a8 a9 a10 a11 a12 a13 a14).trans h)
theorem ok53 {R : Type} : SFone T Try.prog 53 (run53 : SF R) := by
  intro ls K r h
  simp only [run53] at h
  obtain ⟨a0, a1, a2, a3, _, rfl, h1⟩ := gI4_ok h; obtain ⟨a4, _, rfl, h2⟩ := gI_ok h1; obtain ⟨a5, _, rfl, h3⟩ := gB_ok h2; obtain ⟨a6, _, rfl, h4⟩ := gB_ok h3; obtain ⟨a7, _, rfl, h5⟩ := gI_ok h4; obtain ⟨a8, _, rfl, h6⟩ := gI_ok h5; obtain ⟨a9, _, rfl, h7⟩ := gL_ok h6; obtain ⟨a10, _, rfl, h8⟩ := gS_ok h7; obtain ⟨a11, _, rfl, h9⟩ := gI_ok h8; obtain ⟨a12, _, rfl, h10⟩ := gI_ok h9; obtain ⟨a13, _, rfl, h11⟩ := gB_ok h10; obtain ⟨a14, _, rfl, h12⟩ := gI_ok h11; obtain ⟨rfl, h13⟩ := gE_ok h12
  obtain ⟨y, k1, k2⟩ := Option.bind_eq_some_iff.1 h13
  exact ⟨_, k2, sp53 a0 a1 a2 a3 a4 a5 a6 a7 a8 a9 a10 a11 a12 a13 a14 k1⟩

/-! ### garland/msg.Asker -/
def pa23 : List VP := [.agg [.i .u8, .i .i64, .i .i64, .i .i64, .i .i64, .b, .b, .i .i64, .i .i64, .sl false [.int .i64], .s, .i .i64, .i .i64, .b, .i .i64]]
def sr23 : RShape := ⟨.i .i64, [], none⟩
def toB23 : List Leaf → Option (Int) := gI (fun b0 => gE (some b0))
def ofB23 (y : Int) : List Leaf := [.i y]
theorem toB23_ok : ∀ ls b, toB23 ls = some b → ls = ofB23 b := by
  intro ls b h
  unfold toB23 at h
  obtain ⟨b0, _, rfl, h1⟩ := gI_ok h; obtain ⟨rfl, h2⟩ := gE_ok h1
  cases h2; rfl
def run23 {R : Type} : SF R := ⟨pa23, sr23, fun ls K => (gI (fun a0 => gI (fun a1 => gI (fun a2 => gI (fun a3 => gI (fun a4 => gB (fun a5 => gB (fun a6 => gI (fun a7 => gI (fun a8 => gL [.int .i64] (fun a9 => gS (fun a10 => gI (fun a11 => gI (fun a12 => gB (fun a13 => gI (fun a14 => gE (Option.bind (F23 FUEL a0 a1 a2 a3 a4 a5 a6 a7 a8 a9 a10 a11 a12 a13 a14) fun y => K (ofB23 y)))))))))))))))))) ls⟩
def cuts23 : List (List Nat × Cut (Int)) := []
noncomputable def X23 : Px (Int) := ⟨T, Try.prog, lkF [(21, run21)], mkCuts 23 cuts23, altN, altN_ok⟩
theorem e23 (n : Nat) (a0 a1 a2 a3 a4 : Int) (a5 a6 : Bool) (a7 a8 : Int) (a9 : List (Int)) (a10 : ByteArray) (a11 a12 : Int) (a13 : Bool) (a14 : Int) : entF X23 8 23 pa23 (endK sr23 toB23) n [.i a0, .i a1, .i a2, .i a3, .i a4, .b a5, .b a6, .i a7, .i a8, .l [.int .i64] a9, .s a10, .i a11, .i a12, .b a13, .i a14] = F23 n a0 a1 a2 a3 a4 a5 a6 a7 a8 a9 a10 a11 a12 a13 a14 := by kernel_rfl
theorem sp23 {n : Nat} (a0 a1 a2 a3 a4 : Int) (a5 a6 : Bool) (a7 a8 : Int) (a9 : List (Int)) (a10 : ByteArray) (a11 a12 : Int) (a13 : Bool) (a14 : Int) {y : Int} (h : F23 n a0 a1 a2 a3 a4 a5 a6 a7 a8 a9 a10 a11 a12 a13 a14 = some y) : SpecF T Try.prog 23 pa23 [.i a0, .i a1, .i a2, .i a3, .i a4, .b a5, .b a6, .i a7, .i a8, .l [.int .i64] a9, .s a10, .i a11, .i a12, .b a13, .i a14] sr23 (ofB23 y) :=
  fun_ok (X := X23) tok (sfok_of ⟨ok21, trivial⟩) mixed 23 8 cuts23 rfl toB23_ok trivial ((e23 n a0 a1 a2 a3 a4 a5 a6 a7 a8 a9 a10 a11 a12 a13 a14).trans h)
theorem ok23 {R : Type} : SFone T Try.prog 23 (run23 : SF R) := by
  intro ls K r h
  simp only [run23] at h
  obtain ⟨a0, a1, a2, a3, _, rfl, h1⟩ := gI4_ok h; obtain ⟨a4, _, rfl, h2⟩ := gI_ok h1; obtain ⟨a5, _, rfl, h3⟩ := gB_ok h2; obtain ⟨a6, _, rfl, h4⟩ := gB_ok h3; obtain ⟨a7, _, rfl, h5⟩ := gI_ok h4; obtain ⟨a8, _, rfl, h6⟩ := gI_ok h5; obtain ⟨a9, _, rfl, h7⟩ := gL_ok h6; obtain ⟨a10, _, rfl, h8⟩ := gS_ok h7; obtain ⟨a11, _, rfl, h9⟩ := gI_ok h8; obtain ⟨a12, _, rfl, h10⟩ := gI_ok h9; obtain ⟨a13, _, rfl, h11⟩ := gB_ok h10; obtain ⟨a14, _, rfl, h12⟩ := gI_ok h11; obtain ⟨rfl, h13⟩ := gE_ok h12
  obtain ⟨y, k1, k2⟩ := Option.bind_eq_some_iff.1 h13
  exact ⟨_, k2, sp23 a0 a1 a2 a3 a4 a5 a6 a7 a8 a9 a10 a11 a12 a13 a14 k1⟩

/-! ### garland/msg.isCall -/
def pa55 : List VP := [.i .i64, .i .i64]
def sr55 : RShape := ⟨.b, [], none⟩
def toB55 : List Leaf → Option (Bool) := gB (fun b0 => gE (some b0))
def ofB55 (y : Bool) : List Leaf := [.b y]
theorem toB55_ok : ∀ ls b, toB55 ls = some b → ls = ofB55 b := by
  intro ls b h
  unfold toB55 at h
  obtain ⟨b0, _, rfl, h1⟩ := gB_ok h; obtain ⟨rfl, h2⟩ := gE_ok h1
  cases h2; rfl
def run55 {R : Type} : SF R := ⟨pa55, sr55, fun ls K => (gI (fun a0 => gI (fun a1 => gE (Option.bind (F55 FUEL a0 a1) fun y => K (ofB55 y))))) ls⟩
def cuts55 : List (List Nat × Cut (Bool)) := []
noncomputable def X55 : Px (Bool) := ⟨T, Try.prog, lkF [], mkCuts 55 cuts55, altN, altN_ok⟩
theorem e55 (n : Nat) (a0 a1 : Int) : entF X55 8 55 pa55 (endK sr55 toB55) n [.i a0, .i a1] = F55 n a0 a1 := by kernel_rfl
theorem sp55 {n : Nat} (a0 a1 : Int) {y : Bool} (h : F55 n a0 a1 = some y) : SpecF T Try.prog 55 pa55 [.i a0, .i a1] sr55 (ofB55 y) :=
  fun_ok (X := X55) tok (sfok_of trivial) mixed 55 8 cuts55 rfl toB55_ok trivial ((e55 n a0 a1).trans h)
theorem ok55 {R : Type} : SFone T Try.prog 55 (run55 : SF R) := by
  intro ls K r h
  simp only [run55] at h
  obtain ⟨a0, _, rfl, h1⟩ := gI_ok h; obtain ⟨a1, _, rfl, h2⟩ := gI_ok h1; obtain ⟨rfl, h3⟩ := gE_ok h2
  obtain ⟨y, k1, k2⟩ := Option.bind_eq_some_iff.1 h3
  exact ⟨_, k2, sp55 a0 a1 k1⟩

/-! ### garland/msg.beside -/
def pa56 : List VP := [.agg [.i .u8, .i .i64, .i .i64, .i .i64, .i .i64, .b, .b, .i .i64, .i .i64, .opq 0, .s, .i .i64, .i .i64, .b, .i .i64]]
def sr56 : RShape := ⟨.agg [.i .u8, .i .i64, .i .i64, .i .i64, .i .i64, .b, .b, .i .i64, .i .i64, .opq 0, .s, .i .i64, .i .i64, .b, .i .i64], [], some (.agg [.i .u8, .i .i64, .i .i64, .i .i64, .i .i64, .b, .b, .i .i64, .i .i64, .nil, .s, .i .i64, .i .i64, .b, .i .i64])⟩
def toB56 : List Leaf → Option (Sbi5b2i2si2bi) := gB (fun b0 => gI (fun b1 => gI (fun b2 => gI (fun b3 => gI (fun b4 => gI (fun b5 => gB (fun b6 => gB (fun b7 => gI (fun b8 => gI (fun b9 => gS (fun b10 => gI (fun b11 => gI (fun b12 => gB (fun b13 => gI (fun b14 => gE (some ⟨b0, b1, b2, b3, b4, b5, b6, b7, b8, b9, b10, b11, b12, b13, b14⟩))))))))))))))))
def ofB56 (y : Sbi5b2i2si2bi) : List Leaf := [.b y.q0, .i y.q1, .i y.q2, .i y.q3, .i y.q4, .i y.q5, .b y.q6, .b y.q7, .i y.q8, .i y.q9, .s y.q10, .i y.q11, .i y.q12, .b y.q13, .i y.q14]
theorem toB56_ok : ∀ ls b, toB56 ls = some b → ls = ofB56 b := by
  intro ls b h
  unfold toB56 at h
  obtain ⟨b0, _, rfl, h1⟩ := gB_ok h; obtain ⟨b1, b2, b3, b4, _, rfl, h2⟩ := gI4_ok h1; obtain ⟨b5, _, rfl, h3⟩ := gI_ok h2; obtain ⟨b6, _, rfl, h4⟩ := gB_ok h3; obtain ⟨b7, _, rfl, h5⟩ := gB_ok h4; obtain ⟨b8, _, rfl, h6⟩ := gI_ok h5; obtain ⟨b9, _, rfl, h7⟩ := gI_ok h6; obtain ⟨b10, _, rfl, h8⟩ := gS_ok h7; obtain ⟨b11, _, rfl, h9⟩ := gI_ok h8; obtain ⟨b12, _, rfl, h10⟩ := gI_ok h9; obtain ⟨b13, _, rfl, h11⟩ := gB_ok h10; obtain ⟨b14, _, rfl, h12⟩ := gI_ok h11; obtain ⟨rfl, h13⟩ := gE_ok h12
  cases h13; rfl
def run56 {R : Type} : SF R := ⟨pa56, sr56, fun ls K => (gI (fun a0 => gI (fun a1 => gI (fun a2 => gI (fun a3 => gI (fun a4 => gB (fun a5 => gB (fun a6 => gI (fun a7 => gI (fun a8 => gS (fun a9 => gI (fun a10 => gI (fun a11 => gB (fun a12 => gI (fun a13 => gE (Option.bind (F56 FUEL a0 a1 a2 a3 a4 a5 a6 a7 a8 a9 a10 a11 a12 a13) fun y => K (ofB56 y))))))))))))))))) ls⟩
def cuts56 : List (List Nat × Cut (Sbi5b2i2si2bi)) := []
noncomputable def X56 : Px (Sbi5b2i2si2bi) := ⟨T, Try.prog, lkF [], mkCuts 56 cuts56, altN, altN_ok⟩
theorem e56 (n : Nat) (a0 a1 a2 a3 a4 : Int) (a5 a6 : Bool) (a7 a8 : Int) (a9 : ByteArray) (a10 a11 : Int) (a12 : Bool) (a13 : Int) : entF X56 8 56 pa56 (endK sr56 toB56) n [.i a0, .i a1, .i a2, .i a3, .i a4, .b a5, .b a6, .i a7, .i a8, .s a9, .i a10, .i a11, .b a12, .i a13] = F56 n a0 a1 a2 a3 a4 a5 a6 a7 a8 a9 a10 a11 a12 a13 := by kernel_rfl
theorem sp56 {n : Nat} (a0 a1 a2 a3 a4 : Int) (a5 a6 : Bool) (a7 a8 : Int) (a9 : ByteArray) (a10 a11 : Int) (a12 : Bool) (a13 : Int) {y : Sbi5b2i2si2bi} (h : F56 n a0 a1 a2 a3 a4 a5 a6 a7 a8 a9 a10 a11 a12 a13 = some y) : SpecF T Try.prog 56 pa56 [.i a0, .i a1, .i a2, .i a3, .i a4, .b a5, .b a6, .i a7, .i a8, .s a9, .i a10, .i a11, .b a12, .i a13] sr56 (ofB56 y) :=
  fun_ok (X := X56) tok (sfok_of trivial) mixed 56 8 cuts56 rfl toB56_ok trivial ((e56 n a0 a1 a2 a3 a4 a5 a6 a7 a8 a9 a10 a11 a12 a13).trans h)
theorem ok56 {R : Type} : SFone T Try.prog 56 (run56 : SF R) := by
  intro ls K r h
  simp only [run56] at h
  obtain ⟨a0, a1, a2, a3, _, rfl, h1⟩ := gI4_ok h; obtain ⟨a4, _, rfl, h2⟩ := gI_ok h1; obtain ⟨a5, _, rfl, h3⟩ := gB_ok h2; obtain ⟨a6, _, rfl, h4⟩ := gB_ok h3; obtain ⟨a7, _, rfl, h5⟩ := gI_ok h4; obtain ⟨a8, _, rfl, h6⟩ := gI_ok h5; obtain ⟨a9, _, rfl, h7⟩ := gS_ok h6; obtain ⟨a10, _, rfl, h8⟩ := gI_ok h7; obtain ⟨a11, _, rfl, h9⟩ := gI_ok h8; obtain ⟨a12, _, rfl, h10⟩ := gB_ok h9; obtain ⟨a13, _, rfl, h11⟩ := gI_ok h10; obtain ⟨rfl, h12⟩ := gE_ok h11
  obtain ⟨y, k1, k2⟩ := Option.bind_eq_some_iff.1 h12
  exact ⟨_, k2, sp56 a0 a1 a2 a3 a4 a5 a6 a7 a8 a9 a10 a11 a12 a13 k1⟩

/-! ### slices.Equal[[]int,int] -/
def pa59 : List VP := [.sl false [.int .i64], .sl false [.int .i64]]
def sr59 : RShape := ⟨.b, [], none⟩
def toB59 : List Leaf → Option (Bool) := gB (fun b0 => gE (some b0))
def ofB59 (y : Bool) : List Leaf := [.b y]
theorem toB59_ok : ∀ ls b, toB59 ls = some b → ls = ofB59 b := by
  intro ls b h
  unfold toB59 at h
  obtain ⟨b0, _, rfl, h1⟩ := gB_ok h; obtain ⟨rfl, h2⟩ := gE_ok h1
  cases h2; rfl
def run59 {R : Type} : SF R := ⟨pa59, sr59, fun ls K => (gL [.int .i64] (fun a0 => gL [.int .i64] (fun a1 => gE (Option.bind (F59 FUEL a0 a1) fun y => K (ofB59 y))))) ls⟩
def sh59_0 : Shape := ⟨[(26, [(0, .sl false [.int .i64]), (1, .sl false [.int .i64]), (12, .i .i64), (13, .i .i64)])], []⟩
def g59_0 (n : Nat) : List Leaf → Option (Bool) := gL [.int .i64] (fun x0 => gL [.int .i64] (fun x1 => gI (fun x2 => gI (fun x3 => gE (F59_c0 n x0 x1 x2 x3)))))
def cuts59 : List (List Nat × Cut (Bool)) := [([1, 1, 0, 1, 0], ⟨sh59_0, g59_0⟩)]
noncomputable def X59 : Px (Bool) := ⟨T, Try.prog, lkF [], mkCuts 59 cuts59, altN, altN_ok⟩
theorem e59_0 (n : Nat) (x0 x1 : List (Int)) (x2 x3 : Int) : stepF X59 8 59 (endK sr59 toB59) [1, 1, 0, 1, 0] sh59_0 n [.l [.int .i64] x0, .l [.int .i64] x1, .i x2, .i x3] = F59_c0 (n + 1) x0 x1 x2 x3 := by kernel_rfl
theorem e59 (n : Nat) (a0 a1 : List (Int)) : entF X59 8 59 pa59 (endK sr59 toB59) n [.l [.int .i64] a0, .l [.int .i64] a1] = F59 n a0 a1 := by kernel_rfl
theorem c59_0 : CutOK X59 8 59 (endK sr59 toB59) [1, 1, 0, 1, 0] ⟨sh59_0, g59_0⟩ := by
  refine ⟨fun ls => ?_, fun n ls r h => ?_⟩
  · cases h : g59_0 0 ls with
    | none => exact h
    | some r =>
      unfold g59_0 at h; obtain ⟨x0, _, rfl, h1⟩ := gL_ok h; obtain ⟨x1, _, rfl, h2⟩ := gL_ok h1; obtain ⟨x2, _, rfl, h3⟩ := gI_ok h2; obtain ⟨x3, _, rfl, h4⟩ := gI_ok h3; obtain ⟨rfl, h5⟩ := gE_ok h4; simp only [F59_c0] at h5; cases h5
  · replace h : g59_0 (n + 1) ls = some r := h
    unfold g59_0 at h
    obtain ⟨x0, _, rfl, h1⟩ := gL_ok h; obtain ⟨x1, _, rfl, h2⟩ := gL_ok h1; obtain ⟨x2, _, rfl, h3⟩ := gI_ok h2; obtain ⟨x3, _, rfl, h4⟩ := gI_ok h3; obtain ⟨rfl, h5⟩ := gE_ok h4
    exact (e59_0 n x0 x1 x2 x3).trans h5
theorem sp59 {n : Nat} (a0 a1 : List (Int)) {y : Bool} (h : F59 n a0 a1 = some y) : SpecF T Try.prog 59 pa59 [.l [.int .i64] a0, .l [.int .i64] a1] sr59 (ofB59 y) :=
  fun_ok (X := X59) tok (sfok_of trivial) mixed 59 8 cuts59 rfl toB59_ok ⟨c59_0, trivial⟩ ((e59 n a0 a1).trans h)
theorem ok59 {R : Type} : SFone T Try.prog 59 (run59 : SF R) := by
  intro ls K r h
  simp only [run59] at h
  obtain ⟨a0, _, rfl, h1⟩ := gL_ok h; obtain ⟨a1, _, rfl, h2⟩ := gL_ok h1; obtain ⟨rfl, h3⟩ := gE_ok h2
  obtain ⟨y, k1, k2⟩ := Option.bind_eq_some_iff.1 h3
  exact ⟨_, k2, sp59 a0 a1 k1⟩

/-! ### garland/msg.Same -/
def pa28 : List VP := [.agg [.i .u8, .i .i64, .i .i64, .i .i64, .i .i64, .b, .b, .i .i64, .i .i64, .sl false [.int .i64], .s, .i .i64, .i .i64, .b, .i .i64], .agg [.i .u8, .i .i64, .i .i64, .i .i64, .i .i64, .b, .b, .i .i64, .i .i64, .sl false [.int .i64], .s, .i .i64, .i .i64, .b, .i .i64]]
def sr28 : RShape := ⟨.b, [], none⟩
def toB28 : List Leaf → Option (Bool) := gB (fun b0 => gE (some b0))
def ofB28 (y : Bool) : List Leaf := [.b y]
theorem toB28_ok : ∀ ls b, toB28 ls = some b → ls = ofB28 b := by
  intro ls b h
  unfold toB28 at h
  obtain ⟨b0, _, rfl, h1⟩ := gB_ok h; obtain ⟨rfl, h2⟩ := gE_ok h1
  cases h2; rfl
def run28 {R : Type} : SF R := ⟨pa28, sr28, fun ls K => (gI (fun a0 => gI (fun a1 => gI (fun a2 => gI (fun a3 => gI (fun a4 => gB (fun a5 => gB (fun a6 => gI (fun a7 => gI (fun a8 => gL [.int .i64] (fun a9 => gS (fun a10 => gI (fun a11 => gI (fun a12 => gB (fun a13 => gI (fun a14 => gI (fun a15 => gI (fun a16 => gI (fun a17 => gI (fun a18 => gI (fun a19 => gB (fun a20 => gB (fun a21 => gI (fun a22 => gI (fun a23 => gL [.int .i64] (fun a24 => gS (fun a25 => gI (fun a26 => gI (fun a27 => gB (fun a28 => gI (fun a29 => gE (Option.bind (F28 FUEL a0 a1 a2 a3 a4 a5 a6 a7 a8 a9 a10 a11 a12 a13 a14 a15 a16 a17 a18 a19 a20 a21 a22 a23 a24 a25 a26 a27 a28 a29) fun y => K (ofB28 y))))))))))))))))))))))))))))))))) ls⟩
def cuts28 : List (List Nat × Cut (Bool)) := []
noncomputable def X28 : Px (Bool) := ⟨T, Try.prog, lkF [(59, run59)], mkCuts 28 cuts28, altN, altN_ok⟩
theorem e28 (n : Nat) (a0 a1 a2 a3 a4 : Int) (a5 a6 : Bool) (a7 a8 : Int) (a9 : List (Int)) (a10 : ByteArray) (a11 a12 : Int) (a13 : Bool) (a14 a15 a16 a17 a18 a19 : Int) (a20 a21 : Bool) (a22 a23 : Int) (a24 : List (Int)) (a25 : ByteArray) (a26 a27 : Int) (a28 : Bool) (a29 : Int) : entF X28 8 28 pa28 (endK sr28 toB28) n [.i a0, .i a1, .i a2, .i a3, .i a4, .b a5, .b a6, .i a7, .i a8, .l [.int .i64] a9, .s a10, .i a11, .i a12, .b a13, .i a14, .i a15, .i a16, .i a17, .i a18, .i a19, .b a20, .b a21, .i a22, .i a23, .l [.int .i64] a24, .s a25, .i a26, .i a27, .b a28, .i a29] = F28 n a0 a1 a2 a3 a4 a5 a6 a7 a8 a9 a10 a11 a12 a13 a14 a15 a16 a17 a18 a19 a20 a21 a22 a23 a24 a25 a26 a27 a28 a29 := by kernel_rfl
theorem sp28 {n : Nat} (a0 a1 a2 a3 a4 : Int) (a5 a6 : Bool) (a7 a8 : Int) (a9 : List (Int)) (a10 : ByteArray) (a11 a12 : Int) (a13 : Bool) (a14 a15 a16 a17 a18 a19 : Int) (a20 a21 : Bool) (a22 a23 : Int) (a24 : List (Int)) (a25 : ByteArray) (a26 a27 : Int) (a28 : Bool) (a29 : Int) {y : Bool} (h : F28 n a0 a1 a2 a3 a4 a5 a6 a7 a8 a9 a10 a11 a12 a13 a14 a15 a16 a17 a18 a19 a20 a21 a22 a23 a24 a25 a26 a27 a28 a29 = some y) : SpecF T Try.prog 28 pa28 [.i a0, .i a1, .i a2, .i a3, .i a4, .b a5, .b a6, .i a7, .i a8, .l [.int .i64] a9, .s a10, .i a11, .i a12, .b a13, .i a14, .i a15, .i a16, .i a17, .i a18, .i a19, .b a20, .b a21, .i a22, .i a23, .l [.int .i64] a24, .s a25, .i a26, .i a27, .b a28, .i a29] sr28 (ofB28 y) :=
  fun_ok (X := X28) tok (sfok_of ⟨ok59, trivial⟩) mixed 28 8 cuts28 rfl toB28_ok trivial ((e28 n a0 a1 a2 a3 a4 a5 a6 a7 a8 a9 a10 a11 a12 a13 a14 a15 a16 a17 a18 a19 a20 a21 a22 a23 a24 a25 a26 a27 a28 a29).trans h)
theorem ok28 {R : Type} : SFone T Try.prog 28 (run28 : SF R) := by
  intro ls K r h
  simp only [run28] at h
  obtain ⟨a0, a1, a2, a3, _, rfl, h1⟩ := gI4_ok h; obtain ⟨a4, _, rfl, h2⟩ := gI_ok h1; obtain ⟨a5, _, rfl, h3⟩ := gB_ok h2; obtain ⟨a6, _, rfl, h4⟩ := gB_ok h3; obtain ⟨a7, _, rfl, h5⟩ := gI_ok h4; obtain ⟨a8, _, rfl, h6⟩ := gI_ok h5; obtain ⟨a9, _, rfl, h7⟩ := gL_ok h6; obtain ⟨a10, _, rfl, h8⟩ := gS_ok h7; obtain ⟨a11, _, rfl, h9⟩ := gI_ok h8; obtain ⟨a12, _, rfl, h10⟩ := gI_ok h9; obtain ⟨a13, _, rfl, h11⟩ := gB_ok h10; obtain ⟨a14, a15, a16, a17, _, rfl, h12⟩ := gI4_ok h11; obtain ⟨a18, _, rfl, h13⟩ := gI_ok h12; obtain ⟨a19, _, rfl, h14⟩ := gI_ok h13; obtain ⟨a20, _, rfl, h15⟩ := gB_ok h14; obtain ⟨a21, _, rfl, h16⟩ := gB_ok h15; obtain ⟨a22, _, rfl, h17⟩ := gI_ok h16; obtain ⟨a23, _, rfl, h18⟩ := gI_ok h17; obtain ⟨a24, _, rfl, h19⟩ := gL_ok h18; obtain ⟨a25, _, rfl, h20⟩ := gS_ok h19; obtain ⟨a26, _, rfl, h21⟩ := gI_ok h20; obtain ⟨a27, _, rfl, h22⟩ := gI_ok h21; obtain ⟨a28, _, rfl, h23⟩ := gB_ok h22; obtain ⟨a29, _, rfl, h24⟩ := gI_ok h23; obtain ⟨rfl, h25⟩ := gE_ok h24
  obtain ⟨y, k1, k2⟩ := Option.bind_eq_some_iff.1 h25
  exact ⟨_, k2, sp28 a0 a1 a2 a3 a4 a5 a6 a7 a8 a9 a10 a11 a12 a13 a14 a15 a16 a17 a18 a19 a20 a21 a22 a23 a24 a25 a26 a27 a28 a29 k1⟩

/-! ### garland/msg.Right -/
def pa19 : List VP := [.agg [.i .u8, .i .i64, .i .i64, .i .i64, .i .i64, .b, .b, .i .i64, .i .i64, .sl false [.int .i64], .s, .i .i64, .i .i64, .b, .i .i64]]
def sr19 : RShape := ⟨.b, [], none⟩
def toB19 : List Leaf → Option (Bool) := gB (fun b0 => gE (some b0))
def ofB19 (y : Bool) : List Leaf := [.b y]
theorem toB19_ok : ∀ ls b, toB19 ls = some b → ls = ofB19 b := by
  intro ls b h
  unfold toB19 at h
  obtain ⟨b0, _, rfl, h1⟩ := gB_ok h; obtain ⟨rfl, h2⟩ := gE_ok h1
  cases h2; rfl
def run19 {R : Type} : SF R := ⟨pa19, sr19, fun ls K => (gI (fun a0 => gI (fun a1 => gI (fun a2 => gI (fun a3 => gI (fun a4 => gB (fun a5 => gB (fun a6 => gI (fun a7 => gI (fun a8 => gL [.int .i64] (fun a9 => gS (fun a10 => gI (fun a11 => gI (fun a12 => gB (fun a13 => gI (fun a14 => gE (Option.bind (F19 FUEL a0 a1 a2 a3 a4 a5 a6 a7 a8 a9 a10 a11 a12 a13 a14) fun y => K (ofB19 y)))))))))))))))))) ls⟩
def sh19_0 : Shape := ⟨[(40, [])], []⟩
def g19_0 (n : Nat) : List Leaf → Option (Bool) := gE (F19_c0 n )
def sh19_1 : Shape := ⟨[(55, [(0, .yield 7), (44, .sl false [.int .i64]), (45, .i .i64), (46, .i .i64)]), (40, [(1, .ref 0 0)])], [.cells [.i .u8, .i .i64, .i .i64, .i .i64, .i .i64, .b, .b, .i .i64, .i .i64, .sl false [.int .i64], .s, .i .i64, .i .i64, .b, .i .i64]]⟩
def g19_1 (n : Nat) : List Leaf → Option (Bool) := gL [.int .i64] (fun x0 => gI (fun x1 => gI (fun x2 => gI (fun x3 => gI (fun x4 => gI (fun x5 => gI (fun x6 => gI (fun x7 => gB (fun x8 => gB (fun x9 => gI (fun x10 => gI (fun x11 => gL [.int .i64] (fun x12 => gS (fun x13 => gI (fun x14 => gI (fun x15 => gB (fun x16 => gI (fun x17 => gE (F19_c1 n x0 x1 x2 x3 x4 x5 x6 x7 x8 x9 x10 x11 x12 x13 x14 x15 x16 x17)))))))))))))))))))
def cuts19 : List (List Nat × Cut (Bool)) := [([1, 10], ⟨sh19_0, g19_0⟩), ([1, 0, 1, 0, 1, 0, 132, 1, 1, 0, 1, 1, 1, 1, 1, 0, 1, 1, 0], ⟨sh19_1, g19_1⟩)]
noncomputable def X19 : Px (Bool) := ⟨T, Try.prog, lkF [(53, run53), (49, run49), (23, run23), (55, run55), (56, run56), (28, run28)], mkCuts 19 cuts19, altN, altN_ok⟩
theorem e19_0 (n : Nat) : stepF X19 8 19 (endK sr19 toB19) [1, 10] sh19_0 n [] = F19_c0 (n + 1)  := by kernel_rfl
theorem e19_1 (n : Nat) (x0 : List (Int)) (x1 x2 x3 x4 x5 x6 x7 : Int) (x8 x9 : Bool) (x10 x11 : Int) (x12 : List (Int)) (x13 : ByteArray) (x14 x15 : Int) (x16 : Bool) (x17 : Int) : stepF X19 8 19 (endK sr19 toB19) [1, 0, 1, 0, 1, 0, 132, 1, 1, 0, 1, 1, 1, 1, 1, 0, 1, 1, 0] sh19_1 n [.l [.int .i64] x0, .i x1, .i x2, .i x3, .i x4, .i x5, .i x6, .i x7, .b x8, .b x9, .i x10, .i x11, .l [.int .i64] x12, .s x13, .i x14, .i x15, .b x16, .i x17] = F19_c1 (n + 1) x0 x1 x2 x3 x4 x5 x6 x7 x8 x9 x10 x11 x12 x13 x14 x15 x16 x17 := by kernel_rfl
theorem e19 (n : Nat) (a0 a1 a2 a3 a4 : Int) (a5 a6 : Bool) (a7 a8 : Int) (a9 : List (Int)) (a10 : ByteArray) (a11 a12 : Int) (a13 : Bool) (a14 : Int) : entF X19 8 19 pa19 (endK sr19 toB19) n [.i a0, .i a1, .i a2, .i a3, .i a4, .b a5, .b a6, .i a7, .i a8, .l [.int .i64] a9, .s a10, .i a11, .i a12, .b a13, .i a14] = F19 n a0 a1 a2 a3 a4 a5 a6 a7 a8 a9 a10 a11 a12 a13 a14 := by kernel_rfl
theorem c19_0 : CutOK X19 8 19 (endK sr19 toB19) [1, 10] ⟨sh19_0, g19_0⟩ := by
  refine ⟨fun ls => ?_, fun n ls r h => ?_⟩
  · cases h : g19_0 0 ls with
    | none => exact h
    | some r =>
      unfold g19_0 at h; obtain ⟨rfl, h1⟩ := gE_ok h; simp only [F19_c0] at h1; cases h1
  · replace h : g19_0 (n + 1) ls = some r := h
    unfold g19_0 at h
    obtain ⟨rfl, h1⟩ := gE_ok h
    exact (e19_0 n ).trans h1
theorem c19_1 : CutOK X19 8 19 (endK sr19 toB19) [1, 0, 1, 0, 1, 0, 132, 1, 1, 0, 1, 1, 1, 1, 1, 0, 1, 1, 0] ⟨sh19_1, g19_1⟩ := by
  refine ⟨fun ls => ?_, fun n ls r h => ?_⟩
  · cases h : g19_1 0 ls with
    | none => exact h
    | some r =>
      unfold g19_1 at h; obtain ⟨x0, _, rfl, h1⟩ := gL_ok h; obtain ⟨x1, x2, x3, x4, _, rfl, h2⟩ := gI4_ok h1; obtain ⟨x5, _, rfl, h3⟩ := gI_ok h2; obtain ⟨x6, _, rfl, h4⟩ := gI_ok h3; obtain ⟨x7, _, rfl, h5⟩ := gI_ok h4; obtain ⟨x8, _, rfl, h6⟩ := gB_ok h5; obtain ⟨x9, _, rfl, h7⟩ := gB_ok h6; obtain ⟨x10, _, rfl, h8⟩ := gI_ok h7; obtain ⟨x11, _, rfl, h9⟩ := gI_ok h8; obtain ⟨x12, _, rfl, h10⟩ := gL_ok h9; obtain ⟨x13, _, rfl, h11⟩ := gS_ok h10; obtain ⟨x14, _, rfl, h12⟩ := gI_ok h11; obtain ⟨x15, _, rfl, h13⟩ := gI_ok h12; obtain ⟨x16, _, rfl, h14⟩ := gB_ok h13; obtain ⟨x17, _, rfl, h15⟩ := gI_ok h14; obtain ⟨rfl, h16⟩ := gE_ok h15; simp only [F19_c1] at h16; cases h16
  · replace h : g19_1 (n + 1) ls = some r := h
    unfold g19_1 at h
    obtain ⟨x0, _, rfl, h1⟩ := gL_ok h; obtain ⟨x1, x2, x3, x4, _, rfl, h2⟩ := gI4_ok h1; obtain ⟨x5, _, rfl, h3⟩ := gI_ok h2; obtain ⟨x6, _, rfl, h4⟩ := gI_ok h3; obtain ⟨x7, _, rfl, h5⟩ := gI_ok h4; obtain ⟨x8, _, rfl, h6⟩ := gB_ok h5; obtain ⟨x9, _, rfl, h7⟩ := gB_ok h6; obtain ⟨x10, _, rfl, h8⟩ := gI_ok h7; obtain ⟨x11, _, rfl, h9⟩ := gI_ok h8; obtain ⟨x12, _, rfl, h10⟩ := gL_ok h9; obtain ⟨x13, _, rfl, h11⟩ := gS_ok h10; obtain ⟨x14, _, rfl, h12⟩ := gI_ok h11; obtain ⟨x15, _, rfl, h13⟩ := gI_ok h12; obtain ⟨x16, _, rfl, h14⟩ := gB_ok h13; obtain ⟨x17, _, rfl, h15⟩ := gI_ok h14; obtain ⟨rfl, h16⟩ := gE_ok h15
    exact (e19_1 n x0 x1 x2 x3 x4 x5 x6 x7 x8 x9 x10 x11 x12 x13 x14 x15 x16 x17).trans h16
theorem sp19 {n : Nat} (a0 a1 a2 a3 a4 : Int) (a5 a6 : Bool) (a7 a8 : Int) (a9 : List (Int)) (a10 : ByteArray) (a11 a12 : Int) (a13 : Bool) (a14 : Int) {y : Bool} (h : F19 n a0 a1 a2 a3 a4 a5 a6 a7 a8 a9 a10 a11 a12 a13 a14 = some y) : SpecF T Try.prog 19 pa19 [.i a0, .i a1, .i a2, .i a3, .i a4, .b a5, .b a6, .i a7, .i a8, .l [.int .i64] a9, .s a10, .i a11, .i a12, .b a13, .i a14] sr19 (ofB19 y) :=
  fun_ok (X := X19) tok (sfok_of ⟨ok53, ok49, ok23, ok55, ok56, ok28, trivial⟩) mixed 19 8 cuts19 rfl toB19_ok ⟨c19_0, c19_1, trivial⟩ ((e19 n a0 a1 a2 a3 a4 a5 a6 a7 a8 a9 a10 a11 a12 a13 a14).trans h)
theorem ok19 {R : Type} : SFone T Try.prog 19 (run19 : SF R) := by
  intro ls K r h
  simp only [run19] at h
  obtain ⟨a0, a1, a2, a3, _, rfl, h1⟩ := gI4_ok h; obtain ⟨a4, _, rfl, h2⟩ := gI_ok h1; obtain ⟨a5, _, rfl, h3⟩ := gB_ok h2; obtain ⟨a6, _, rfl, h4⟩ := gB_ok h3; obtain ⟨a7, _, rfl, h5⟩ := gI_ok h4; obtain ⟨a8, _, rfl, h6⟩ := gI_ok h5; obtain ⟨a9, _, rfl, h7⟩ := gL_ok h6; obtain ⟨a10, _, rfl, h8⟩ := gS_ok h7; obtain ⟨a11, _, rfl, h9⟩ := gI_ok h8; obtain ⟨a12, _, rfl, h10⟩ := gI_ok h9; obtain ⟨a13, _, rfl, h11⟩ := gB_ok h10; obtain ⟨a14, _, rfl, h12⟩ := gI_ok h11; obtain ⟨rfl, h13⟩ := gE_ok h12
  obtain ⟨y, k1, k2⟩ := Option.bind_eq_some_iff.1 h13
  exact ⟨_, k2, sp19 a0 a1 a2 a3 a4 a5 a6 a7 a8 a9 a10 a11 a12 a13 a14 k1⟩

/-! ### garland/msg.Own -/
def pa29 : List VP := [.agg [.i .u8, .i .i64, .i .i64, .i .i64, .i .i64, .b, .b, .i .i64, .i .i64, .sl false [.int .i64], .s, .i .i64, .i .i64, .b, .i .i64]]
def sr29 : RShape := ⟨.agg [.i .u8, .i .i64, .i .i64, .i .i64, .i .i64, .b, .b, .i .i64, .i .i64, .row 0, .s, .i .i64, .i .i64, .b, .i .i64], [.row true [.int .i64]], none⟩
def toB29 : List Leaf → Option (Si5b2i2si2bil) := gI (fun b0 => gI (fun b1 => gI (fun b2 => gI (fun b3 => gI (fun b4 => gB (fun b5 => gB (fun b6 => gI (fun b7 => gI (fun b8 => gS (fun b9 => gI (fun b10 => gI (fun b11 => gB (fun b12 => gI (fun b13 => gL [.int .i64] (fun b14 => gE (some ⟨b0, b1, b2, b3, b4, b5, b6, b7, b8, b9, b10, b11, b12, b13, b14⟩))))))))))))))))
def ofB29 (y : Si5b2i2si2bil) : List Leaf := [.i y.q0, .i y.q1, .i y.q2, .i y.q3, .i y.q4, .b y.q5, .b y.q6, .i y.q7, .i y.q8, .s y.q9, .i y.q10, .i y.q11, .b y.q12, .i y.q13, .l [.int .i64] y.q14]
theorem toB29_ok : ∀ ls b, toB29 ls = some b → ls = ofB29 b := by
  intro ls b h
  unfold toB29 at h
  obtain ⟨b0, b1, b2, b3, _, rfl, h1⟩ := gI4_ok h; obtain ⟨b4, _, rfl, h2⟩ := gI_ok h1; obtain ⟨b5, _, rfl, h3⟩ := gB_ok h2; obtain ⟨b6, _, rfl, h4⟩ := gB_ok h3; obtain ⟨b7, _, rfl, h5⟩ := gI_ok h4; obtain ⟨b8, _, rfl, h6⟩ := gI_ok h5; obtain ⟨b9, _, rfl, h7⟩ := gS_ok h6; obtain ⟨b10, _, rfl, h8⟩ := gI_ok h7; obtain ⟨b11, _, rfl, h9⟩ := gI_ok h8; obtain ⟨b12, _, rfl, h10⟩ := gB_ok h9; obtain ⟨b13, _, rfl, h11⟩ := gI_ok h10; obtain ⟨b14, _, rfl, h12⟩ := gL_ok h11; obtain ⟨rfl, h13⟩ := gE_ok h12
  cases h13; rfl
def run29 {R : Type} : SF R := ⟨pa29, sr29, fun ls K => (gI (fun a0 => gI (fun a1 => gI (fun a2 => gI (fun a3 => gI (fun a4 => gB (fun a5 => gB (fun a6 => gI (fun a7 => gI (fun a8 => gL [.int .i64] (fun a9 => gS (fun a10 => gI (fun a11 => gI (fun a12 => gB (fun a13 => gI (fun a14 => gE (Option.bind (F29 FUEL a0 a1 a2 a3 a4 a5 a6 a7 a8 a9 a10 a11 a12 a13 a14) fun y => K (ofB29 y)))))))))))))))))) ls⟩
def cuts29 : List (List Nat × Cut (Si5b2i2si2bil)) := []
noncomputable def X29 : Px (Si5b2i2si2bil) := ⟨T, Try.prog, lkF [], mkCuts 29 cuts29, altN, altN_ok⟩
theorem e29 (n : Nat) (a0 a1 a2 a3 a4 : Int) (a5 a6 : Bool) (a7 a8 : Int) (a9 : List (Int)) (a10 : ByteArray) (a11 a12 : Int) (a13 : Bool) (a14 : Int) : entF X29 8 29 pa29 (endK sr29 toB29) n [.i a0, .i a1, .i a2, .i a3, .i a4, .b a5, .b a6, .i a7, .i a8, .l [.int .i64] a9, .s a10, .i a11, .i a12, .b a13, .i a14] = F29 n a0 a1 a2 a3 a4 a5 a6 a7 a8 a9 a10 a11 a12 a13 a14 := by kernel_rfl
theorem sp29 {n : Nat} (a0 a1 a2 a3 a4 : Int) (a5 a6 : Bool) (a7 a8 : Int) (a9 : List (Int)) (a10 : ByteArray) (a11 a12 : Int) (a13 : Bool) (a14 : Int) {y : Si5b2i2si2bil} (h : F29 n a0 a1 a2 a3 a4 a5 a6 a7 a8 a9 a10 a11 a12 a13 a14 = some y) : SpecF T Try.prog 29 pa29 [.i a0, .i a1, .i a2, .i a3, .i a4, .b a5, .b a6, .i a7, .i a8, .l [.int .i64] a9, .s a10, .i a11, .i a12, .b a13, .i a14] sr29 (ofB29 y) :=
  fun_ok (X := X29) tok (sfok_of trivial) mixed 29 8 cuts29 rfl toB29_ok trivial ((e29 n a0 a1 a2 a3 a4 a5 a6 a7 a8 a9 a10 a11 a12 a13 a14).trans h)
theorem ok29 {R : Type} : SFone T Try.prog 29 (run29 : SF R) := by
  intro ls K r h
  simp only [run29] at h
  obtain ⟨a0, a1, a2, a3, _, rfl, h1⟩ := gI4_ok h; obtain ⟨a4, _, rfl, h2⟩ := gI_ok h1; obtain ⟨a5, _, rfl, h3⟩ := gB_ok h2; obtain ⟨a6, _, rfl, h4⟩ := gB_ok h3; obtain ⟨a7, _, rfl, h5⟩ := gI_ok h4; obtain ⟨a8, _, rfl, h6⟩ := gI_ok h5; obtain ⟨a9, _, rfl, h7⟩ := gL_ok h6; obtain ⟨a10, _, rfl, h8⟩ := gS_ok h7; obtain ⟨a11, _, rfl, h9⟩ := gI_ok h8; obtain ⟨a12, _, rfl, h10⟩ := gI_ok h9; obtain ⟨a13, _, rfl, h11⟩ := gB_ok h10; obtain ⟨a14, _, rfl, h12⟩ := gI_ok h11; obtain ⟨rfl, h13⟩ := gE_ok h12
  obtain ⟨y, k1, k2⟩ := Option.bind_eq_some_iff.1 h13
  exact ⟨_, k2, sp29 a0 a1 a2 a3 a4 a5 a6 a7 a8 a9 a10 a11 a12 a13 a14 k1⟩

/-! ### garland/garlandlaw06.wakes -/
def pa14 : List VP := []
def sr14 : RShape := ⟨.b, [], none⟩
def toB14 : List Leaf → Option (Bool) := gB (fun b0 => gE (some b0))
def ofB14 (y : Bool) : List Leaf := [.b y]
theorem toB14_ok : ∀ ls b, toB14 ls = some b → ls = ofB14 b := by
  intro ls b h
  unfold toB14 at h
  obtain ⟨b0, _, rfl, h1⟩ := gB_ok h; obtain ⟨rfl, h2⟩ := gE_ok h1
  cases h2; rfl
def run14 {R : Type} : SF R := ⟨pa14, sr14, fun ls K => (gE (Option.bind (F14 FUEL ) fun y => K (ofB14 y))) ls⟩
def cuts14 : List (List Nat × Cut (Bool)) := []
noncomputable def X14 : Px (Bool) := ⟨T, Try.prog, lkF [(15, run15), (26, run26), (19, run19), (21, run21), (23, run23), (28, run28), (17, run17), (29, run29)], mkCuts 14 cuts14, altN, altN_ok⟩
theorem e14 (n : Nat) : entF X14 8 14 pa14 (endK sr14 toB14) n [] = F14 n  := by kernel_rfl
theorem sp14 {n : Nat} {y : Bool} (h : F14 n  = some y) : SpecF T Try.prog 14 pa14 [] sr14 (ofB14 y) :=
  fun_ok (X := X14) tok (sfok_of ⟨ok15, ok26, ok19, ok21, ok23, ok28, ok17, ok29, trivial⟩) mixed 14 8 cuts14 rfl toB14_ok trivial ((e14 n ).trans h)
theorem ok14 {R : Type} : SFone T Try.prog 14 (run14 : SF R) := by
  intro ls K r h
  simp only [run14] at h
  obtain ⟨rfl, h1⟩ := gE_ok h
  obtain ⟨y, k1, k2⟩ := Option.bind_eq_some_iff.1 h1
  exact ⟨_, k2, sp14  k1⟩

/-! ### garland/garlandref06.place -/
def pa50 : List VP := [.i .i64]
def sr50 : RShape := ⟨.b, [], none⟩
def toB50 : List Leaf → Option (Bool) := gB (fun b0 => gE (some b0))
def ofB50 (y : Bool) : List Leaf := [.b y]
theorem toB50_ok : ∀ ls b, toB50 ls = some b → ls = ofB50 b := by
  intro ls b h
  unfold toB50 at h
  obtain ⟨b0, _, rfl, h1⟩ := gB_ok h; obtain ⟨rfl, h2⟩ := gE_ok h1
  cases h2; rfl
def run50 {R : Type} : SF R := ⟨pa50, sr50, fun ls K => (gI (fun a0 => gE (Option.bind (F50 FUEL a0) fun y => K (ofB50 y)))) ls⟩
def cuts50 : List (List Nat × Cut (Bool)) := []
noncomputable def X50 : Px (Bool) := ⟨T, Try.prog, lkF [], mkCuts 50 cuts50, altN, altN_ok⟩
theorem e50 (n : Nat) (a0 : Int) : entF X50 8 50 pa50 (endK sr50 toB50) n [.i a0] = F50 n a0 := by kernel_rfl
theorem sp50 {n : Nat} (a0 : Int) {y : Bool} (h : F50 n a0 = some y) : SpecF T Try.prog 50 pa50 [.i a0] sr50 (ofB50 y) :=
  fun_ok (X := X50) tok (sfok_of trivial) mixed 50 8 cuts50 rfl toB50_ok trivial ((e50 n a0).trans h)
theorem ok50 {R : Type} : SFone T Try.prog 50 (run50 : SF R) := by
  intro ls K r h
  simp only [run50] at h
  obtain ⟨a0, _, rfl, h1⟩ := gI_ok h; obtain ⟨rfl, h2⟩ := gE_ok h1
  obtain ⟨y, k1, k2⟩ := Option.bind_eq_some_iff.1 h2
  exact ⟨_, k2, sp50 a0 k1⟩

/-! ### garland/garlandref06.Call -/
def pa16 : List VP := [.i .i64, .i .i64]
def sr16 : RShape := ⟨.tup [.i .i64, .i .i64], [], none⟩
def toB16 : List Leaf → Option (Int × Int) := gI (fun b0 => gI (fun b1 => gE (some (b0, b1))))
def ofB16 (y : Int × Int) : List Leaf := [.i y.1, .i y.2]
theorem toB16_ok : ∀ ls b, toB16 ls = some b → ls = ofB16 b := by
  intro ls b h
  unfold toB16 at h
  obtain ⟨b0, _, rfl, h1⟩ := gI_ok h; obtain ⟨b1, _, rfl, h2⟩ := gI_ok h1; obtain ⟨rfl, h3⟩ := gE_ok h2
  cases h3; rfl
def run16 {R : Type} : SF R := ⟨pa16, sr16, fun ls K => (gI (fun a0 => gI (fun a1 => gE (Option.bind (F16 FUEL a0 a1) fun y => K (ofB16 y))))) ls⟩
def cuts16 : List (List Nat × Cut (Int × Int)) := []
noncomputable def X16 : Px (Int × Int) := ⟨T, Try.prog, lkF [(50, run50)], mkCuts 16 cuts16, altN, altN_ok⟩
theorem e16 (n : Nat) (a0 a1 : Int) : entF X16 8 16 pa16 (endK sr16 toB16) n [.i a0, .i a1] = F16 n a0 a1 := by kernel_rfl
theorem sp16 {n : Nat} (a0 a1 : Int) {y : Int × Int} (h : F16 n a0 a1 = some y) : SpecF T Try.prog 16 pa16 [.i a0, .i a1] sr16 (ofB16 y) :=
  fun_ok (X := X16) tok (sfok_of ⟨ok50, trivial⟩) mixed 16 8 cuts16 rfl toB16_ok trivial ((e16 n a0 a1).trans h)
theorem ok16 {R : Type} : SFone T Try.prog 16 (run16 : SF R) := by
  intro ls K r h
  simp only [run16] at h
  obtain ⟨a0, _, rfl, h1⟩ := gI_ok h; obtain ⟨a1, _, rfl, h2⟩ := gI_ok h1; obtain ⟨rfl, h3⟩ := gE_ok h2
  obtain ⟨y, k1, k2⟩ := Option.bind_eq_some_iff.1 h3
  exact ⟨_, k2, sp16 a0 a1 k1⟩

/-! ### garland/garlandref06.Pair -/
def pa18 : List VP := [.agg [.s, .i .i64, .i .i64, .b]]
def sr18 : RShape := ⟨.b, [], none⟩
def toB18 : List Leaf → Option (Bool) := gB (fun b0 => gE (some b0))
def ofB18 (y : Bool) : List Leaf := [.b y]
theorem toB18_ok : ∀ ls b, toB18 ls = some b → ls = ofB18 b := by
  intro ls b h
  unfold toB18 at h
  obtain ⟨b0, _, rfl, h1⟩ := gB_ok h; obtain ⟨rfl, h2⟩ := gE_ok h1
  cases h2; rfl
def run18 {R : Type} : SF R := ⟨pa18, sr18, fun ls K => (gS (fun a0 => gI (fun a1 => gI (fun a2 => gB (fun a3 => gE (Option.bind (F18 FUEL a0 a1 a2 a3) fun y => K (ofB18 y))))))) ls⟩
def cuts18 : List (List Nat × Cut (Bool)) := []
noncomputable def X18 : Px (Bool) := ⟨T, Try.prog, lkF [], mkCuts 18 cuts18, altN, altN_ok⟩
theorem e18 (n : Nat) (a0 : ByteArray) (a1 a2 : Int) (a3 : Bool) : entF X18 8 18 pa18 (endK sr18 toB18) n [.s a0, .i a1, .i a2, .b a3] = F18 n a0 a1 a2 a3 := by kernel_rfl
theorem sp18 {n : Nat} (a0 : ByteArray) (a1 a2 : Int) (a3 : Bool) {y : Bool} (h : F18 n a0 a1 a2 a3 = some y) : SpecF T Try.prog 18 pa18 [.s a0, .i a1, .i a2, .b a3] sr18 (ofB18 y) :=
  fun_ok (X := X18) tok (sfok_of trivial) mixed 18 8 cuts18 rfl toB18_ok trivial ((e18 n a0 a1 a2 a3).trans h)
theorem ok18 {R : Type} : SFone T Try.prog 18 (run18 : SF R) := by
  intro ls K r h
  simp only [run18] at h
  obtain ⟨a0, _, rfl, h1⟩ := gS_ok h; obtain ⟨a1, _, rfl, h2⟩ := gI_ok h1; obtain ⟨a2, _, rfl, h3⟩ := gI_ok h2; obtain ⟨a3, _, rfl, h4⟩ := gB_ok h3; obtain ⟨rfl, h5⟩ := gE_ok h4
  obtain ⟨y, k1, k2⟩ := Option.bind_eq_some_iff.1 h5
  exact ⟨_, k2, sp18 a0 a1 a2 a3 k1⟩

/-! ### garland/garlandref06.Asks -/
def pa22 : List VP := [.agg [.i .u8, .i .i64, .i .i64, .i .i64, .i .i64, .b, .b, .i .i64, .i .i64, .sl false [.int .i64], .s, .i .i64, .i .i64, .b, .i .i64]]
def sr22 : RShape := ⟨.b, [], none⟩
def toB22 : List Leaf → Option (Bool) := gB (fun b0 => gE (some b0))
def ofB22 (y : Bool) : List Leaf := [.b y]
theorem toB22_ok : ∀ ls b, toB22 ls = some b → ls = ofB22 b := by
  intro ls b h
  unfold toB22 at h
  obtain ⟨b0, _, rfl, h1⟩ := gB_ok h; obtain ⟨rfl, h2⟩ := gE_ok h1
  cases h2; rfl
def run22 {R : Type} : SF R := ⟨pa22, sr22, fun ls K => (gI (fun a0 => gI (fun a1 => gI (fun a2 => gI (fun a3 => gI (fun a4 => gB (fun a5 => gB (fun a6 => gI (fun a7 => gI (fun a8 => gL [.int .i64] (fun a9 => gS (fun a10 => gI (fun a11 => gI (fun a12 => gB (fun a13 => gI (fun a14 => gE (Option.bind (F22 FUEL a0 a1 a2 a3 a4 a5 a6 a7 a8 a9 a10 a11 a12 a13 a14) fun y => K (ofB22 y)))))))))))))))))) ls⟩
def cuts22 : List (List Nat × Cut (Bool)) := []
noncomputable def X22 : Px (Bool) := ⟨T, Try.prog, lkF [], mkCuts 22 cuts22, altN, altN_ok⟩
theorem e22 (n : Nat) (a0 a1 a2 a3 a4 : Int) (a5 a6 : Bool) (a7 a8 : Int) (a9 : List (Int)) (a10 : ByteArray) (a11 a12 : Int) (a13 : Bool) (a14 : Int) : entF X22 8 22 pa22 (endK sr22 toB22) n [.i a0, .i a1, .i a2, .i a3, .i a4, .b a5, .b a6, .i a7, .i a8, .l [.int .i64] a9, .s a10, .i a11, .i a12, .b a13, .i a14] = F22 n a0 a1 a2 a3 a4 a5 a6 a7 a8 a9 a10 a11 a12 a13 a14 := by kernel_rfl
theorem sp22 {n : Nat} (a0 a1 a2 a3 a4 : Int) (a5 a6 : Bool) (a7 a8 : Int) (a9 : List (Int)) (a10 : ByteArray) (a11 a12 : Int) (a13 : Bool) (a14 : Int) {y : Bool} (h : F22 n a0 a1 a2 a3 a4 a5 a6 a7 a8 a9 a10 a11 a12 a13 a14 = some y) : SpecF T Try.prog 22 pa22 [.i a0, .i a1, .i a2, .i a3, .i a4, .b a5, .b a6, .i a7, .i a8, .l [.int .i64] a9, .s a10, .i a11, .i a12, .b a13, .i a14] sr22 (ofB22 y) :=
  fun_ok (X := X22) tok (sfok_of trivial) mixed 22 8 cuts22 rfl toB22_ok trivial ((e22 n a0 a1 a2 a3 a4 a5 a6 a7 a8 a9 a10 a11 a12 a13 a14).trans h)
theorem ok22 {R : Type} : SFone T Try.prog 22 (run22 : SF R) := by
  intro ls K r h
  simp only [run22] at h
  obtain ⟨a0, a1, a2, a3, _, rfl, h1⟩ := gI4_ok h; obtain ⟨a4, _, rfl, h2⟩ := gI_ok h1; obtain ⟨a5, _, rfl, h3⟩ := gB_ok h2; obtain ⟨a6, _, rfl, h4⟩ := gB_ok h3; obtain ⟨a7, _, rfl, h5⟩ := gI_ok h4; obtain ⟨a8, _, rfl, h6⟩ := gI_ok h5; obtain ⟨a9, _, rfl, h7⟩ := gL_ok h6; obtain ⟨a10, _, rfl, h8⟩ := gS_ok h7; obtain ⟨a11, _, rfl, h9⟩ := gI_ok h8; obtain ⟨a12, _, rfl, h10⟩ := gI_ok h9; obtain ⟨a13, _, rfl, h11⟩ := gB_ok h10; obtain ⟨a14, _, rfl, h12⟩ := gI_ok h11; obtain ⟨rfl, h13⟩ := gE_ok h12
  obtain ⟨y, k1, k2⟩ := Option.bind_eq_some_iff.1 h13
  exact ⟨_, k2, sp22 a0 a1 a2 a3 a4 a5 a6 a7 a8 a9 a10 a11 a12 a13 a14 k1⟩

/-! ### garland/garlandref06.Asker -/
def pa24 : List VP := [.agg [.i .u8, .i .i64, .i .i64, .i .i64, .i .i64, .b, .b, .i .i64, .i .i64, .sl false [.int .i64], .s, .i .i64, .i .i64, .b, .i .i64]]
def sr24 : RShape := ⟨.i .i64, [], none⟩
def toB24 : List Leaf → Option (Int) := gI (fun b0 => gE (some b0))
def ofB24 (y : Int) : List Leaf := [.i y]
theorem toB24_ok : ∀ ls b, toB24 ls = some b → ls = ofB24 b := by
  intro ls b h
  unfold toB24 at h
  obtain ⟨b0, _, rfl, h1⟩ := gI_ok h; obtain ⟨rfl, h2⟩ := gE_ok h1
  cases h2; rfl
def run24 {R : Type} : SF R := ⟨pa24, sr24, fun ls K => (gI (fun a0 => gI (fun a1 => gI (fun a2 => gI (fun a3 => gI (fun a4 => gB (fun a5 => gB (fun a6 => gI (fun a7 => gI (fun a8 => gL [.int .i64] (fun a9 => gS (fun a10 => gI (fun a11 => gI (fun a12 => gB (fun a13 => gI (fun a14 => gE (Option.bind (F24 FUEL a0 a1 a2 a3 a4 a5 a6 a7 a8 a9 a10 a11 a12 a13 a14) fun y => K (ofB24 y)))))))))))))))))) ls⟩
def cuts24 : List (List Nat × Cut (Int)) := []
noncomputable def X24 : Px (Int) := ⟨T, Try.prog, lkF [(22, run22)], mkCuts 24 cuts24, altN, altN_ok⟩
theorem e24 (n : Nat) (a0 a1 a2 a3 a4 : Int) (a5 a6 : Bool) (a7 a8 : Int) (a9 : List (Int)) (a10 : ByteArray) (a11 a12 : Int) (a13 : Bool) (a14 : Int) : entF X24 8 24 pa24 (endK sr24 toB24) n [.i a0, .i a1, .i a2, .i a3, .i a4, .b a5, .b a6, .i a7, .i a8, .l [.int .i64] a9, .s a10, .i a11, .i a12, .b a13, .i a14] = F24 n a0 a1 a2 a3 a4 a5 a6 a7 a8 a9 a10 a11 a12 a13 a14 := by kernel_rfl
theorem sp24 {n : Nat} (a0 a1 a2 a3 a4 : Int) (a5 a6 : Bool) (a7 a8 : Int) (a9 : List (Int)) (a10 : ByteArray) (a11 a12 : Int) (a13 : Bool) (a14 : Int) {y : Int} (h : F24 n a0 a1 a2 a3 a4 a5 a6 a7 a8 a9 a10 a11 a12 a13 a14 = some y) : SpecF T Try.prog 24 pa24 [.i a0, .i a1, .i a2, .i a3, .i a4, .b a5, .b a6, .i a7, .i a8, .l [.int .i64] a9, .s a10, .i a11, .i a12, .b a13, .i a14] sr24 (ofB24 y) :=
  fun_ok (X := X24) tok (sfok_of ⟨ok22, trivial⟩) mixed 24 8 cuts24 rfl toB24_ok trivial ((e24 n a0 a1 a2 a3 a4 a5 a6 a7 a8 a9 a10 a11 a12 a13 a14).trans h)
theorem ok24 {R : Type} : SFone T Try.prog 24 (run24 : SF R) := by
  intro ls K r h
  simp only [run24] at h
  obtain ⟨a0, a1, a2, a3, _, rfl, h1⟩ := gI4_ok h; obtain ⟨a4, _, rfl, h2⟩ := gI_ok h1; obtain ⟨a5, _, rfl, h3⟩ := gB_ok h2; obtain ⟨a6, _, rfl, h4⟩ := gB_ok h3; obtain ⟨a7, _, rfl, h5⟩ := gI_ok h4; obtain ⟨a8, _, rfl, h6⟩ := gI_ok h5; obtain ⟨a9, _, rfl, h7⟩ := gL_ok h6; obtain ⟨a10, _, rfl, h8⟩ := gS_ok h7; obtain ⟨a11, _, rfl, h9⟩ := gI_ok h8; obtain ⟨a12, _, rfl, h10⟩ := gI_ok h9; obtain ⟨a13, _, rfl, h11⟩ := gB_ok h10; obtain ⟨a14, _, rfl, h12⟩ := gI_ok h11; obtain ⟨rfl, h13⟩ := gE_ok h12
  obtain ⟨y, k1, k2⟩ := Option.bind_eq_some_iff.1 h13
  exact ⟨_, k2, sp24 a0 a1 a2 a3 a4 a5 a6 a7 a8 a9 a10 a11 a12 a13 a14 k1⟩

/-! ### garland/garlandref06.bare -/
def pa57 : List VP := [.agg [.i .u8, .i .i64, .i .i64, .i .i64, .i .i64, .b, .b, .i .i64, .i .i64, .opq 0, .s, .i .i64, .i .i64, .b, .i .i64]]
def sr57 : RShape := ⟨.agg [.i .u8, .i .i64, .i .i64, .i .i64, .i .i64, .b, .b, .i .i64, .i .i64, .opq 0, .s, .i .i64, .i .i64, .b, .i .i64], [], some (.agg [.i .u8, .i .i64, .i .i64, .i .i64, .i .i64, .b, .b, .i .i64, .i .i64, .nil, .s, .i .i64, .i .i64, .b, .i .i64])⟩
def toB57 : List Leaf → Option (Sbi5b2i2si2bi) := gB (fun b0 => gI (fun b1 => gI (fun b2 => gI (fun b3 => gI (fun b4 => gI (fun b5 => gB (fun b6 => gB (fun b7 => gI (fun b8 => gI (fun b9 => gS (fun b10 => gI (fun b11 => gI (fun b12 => gB (fun b13 => gI (fun b14 => gE (some ⟨b0, b1, b2, b3, b4, b5, b6, b7, b8, b9, b10, b11, b12, b13, b14⟩))))))))))))))))
def ofB57 (y : Sbi5b2i2si2bi) : List Leaf := [.b y.q0, .i y.q1, .i y.q2, .i y.q3, .i y.q4, .i y.q5, .b y.q6, .b y.q7, .i y.q8, .i y.q9, .s y.q10, .i y.q11, .i y.q12, .b y.q13, .i y.q14]
theorem toB57_ok : ∀ ls b, toB57 ls = some b → ls = ofB57 b := by
  intro ls b h
  unfold toB57 at h
  obtain ⟨b0, _, rfl, h1⟩ := gB_ok h; obtain ⟨b1, b2, b3, b4, _, rfl, h2⟩ := gI4_ok h1; obtain ⟨b5, _, rfl, h3⟩ := gI_ok h2; obtain ⟨b6, _, rfl, h4⟩ := gB_ok h3; obtain ⟨b7, _, rfl, h5⟩ := gB_ok h4; obtain ⟨b8, _, rfl, h6⟩ := gI_ok h5; obtain ⟨b9, _, rfl, h7⟩ := gI_ok h6; obtain ⟨b10, _, rfl, h8⟩ := gS_ok h7; obtain ⟨b11, _, rfl, h9⟩ := gI_ok h8; obtain ⟨b12, _, rfl, h10⟩ := gI_ok h9; obtain ⟨b13, _, rfl, h11⟩ := gB_ok h10; obtain ⟨b14, _, rfl, h12⟩ := gI_ok h11; obtain ⟨rfl, h13⟩ := gE_ok h12
  cases h13; rfl
def run57 {R : Type} : SF R := ⟨pa57, sr57, fun ls K => (gI (fun a0 => gI (fun a1 => gI (fun a2 => gI (fun a3 => gI (fun a4 => gB (fun a5 => gB (fun a6 => gI (fun a7 => gI (fun a8 => gS (fun a9 => gI (fun a10 => gI (fun a11 => gB (fun a12 => gI (fun a13 => gE (Option.bind (F57 FUEL a0 a1 a2 a3 a4 a5 a6 a7 a8 a9 a10 a11 a12 a13) fun y => K (ofB57 y))))))))))))))))) ls⟩
def cuts57 : List (List Nat × Cut (Sbi5b2i2si2bi)) := []
noncomputable def X57 : Px (Sbi5b2i2si2bi) := ⟨T, Try.prog, lkF [], mkCuts 57 cuts57, altN, altN_ok⟩
theorem e57 (n : Nat) (a0 a1 a2 a3 a4 : Int) (a5 a6 : Bool) (a7 a8 : Int) (a9 : ByteArray) (a10 a11 : Int) (a12 : Bool) (a13 : Int) : entF X57 8 57 pa57 (endK sr57 toB57) n [.i a0, .i a1, .i a2, .i a3, .i a4, .b a5, .b a6, .i a7, .i a8, .s a9, .i a10, .i a11, .b a12, .i a13] = F57 n a0 a1 a2 a3 a4 a5 a6 a7 a8 a9 a10 a11 a12 a13 := by kernel_rfl
theorem sp57 {n : Nat} (a0 a1 a2 a3 a4 : Int) (a5 a6 : Bool) (a7 a8 : Int) (a9 : ByteArray) (a10 a11 : Int) (a12 : Bool) (a13 : Int) {y : Sbi5b2i2si2bi} (h : F57 n a0 a1 a2 a3 a4 a5 a6 a7 a8 a9 a10 a11 a12 a13 = some y) : SpecF T Try.prog 57 pa57 [.i a0, .i a1, .i a2, .i a3, .i a4, .b a5, .b a6, .i a7, .i a8, .s a9, .i a10, .i a11, .b a12, .i a13] sr57 (ofB57 y) :=
  fun_ok (X := X57) tok (sfok_of trivial) mixed 57 8 cuts57 rfl toB57_ok trivial ((e57 n a0 a1 a2 a3 a4 a5 a6 a7 a8 a9 a10 a11 a12 a13).trans h)
theorem ok57 {R : Type} : SFone T Try.prog 57 (run57 : SF R) := by
  intro ls K r h
  simp only [run57] at h
  obtain ⟨a0, a1, a2, a3, _, rfl, h1⟩ := gI4_ok h; obtain ⟨a4, _, rfl, h2⟩ := gI_ok h1; obtain ⟨a5, _, rfl, h3⟩ := gB_ok h2; obtain ⟨a6, _, rfl, h4⟩ := gB_ok h3; obtain ⟨a7, _, rfl, h5⟩ := gI_ok h4; obtain ⟨a8, _, rfl, h6⟩ := gI_ok h5; obtain ⟨a9, _, rfl, h7⟩ := gS_ok h6; obtain ⟨a10, _, rfl, h8⟩ := gI_ok h7; obtain ⟨a11, _, rfl, h9⟩ := gI_ok h8; obtain ⟨a12, _, rfl, h10⟩ := gB_ok h9; obtain ⟨a13, _, rfl, h11⟩ := gI_ok h10; obtain ⟨rfl, h12⟩ := gE_ok h11
  obtain ⟨y, k1, k2⟩ := Option.bind_eq_some_iff.1 h12
  exact ⟨_, k2, sp57 a0 a1 a2 a3 a4 a5 a6 a7 a8 a9 a10 a11 a12 a13 k1⟩

/-! ### garland/garlandref06.Same -/
def pa25 : List VP := [.agg [.i .u8, .i .i64, .i .i64, .i .i64, .i .i64, .b, .b, .i .i64, .i .i64, .sl false [.int .i64], .s, .i .i64, .i .i64, .b, .i .i64], .agg [.i .u8, .i .i64, .i .i64, .i .i64, .i .i64, .b, .b, .i .i64, .i .i64, .sl false [.int .i64], .s, .i .i64, .i .i64, .b, .i .i64]]
def sr25 : RShape := ⟨.b, [], none⟩
def toB25 : List Leaf → Option (Bool) := gB (fun b0 => gE (some b0))
def ofB25 (y : Bool) : List Leaf := [.b y]
theorem toB25_ok : ∀ ls b, toB25 ls = some b → ls = ofB25 b := by
  intro ls b h
  unfold toB25 at h
  obtain ⟨b0, _, rfl, h1⟩ := gB_ok h; obtain ⟨rfl, h2⟩ := gE_ok h1
  cases h2; rfl
def run25 {R : Type} : SF R := ⟨pa25, sr25, fun ls K => (gI (fun a0 => gI (fun a1 => gI (fun a2 => gI (fun a3 => gI (fun a4 => gB (fun a5 => gB (fun a6 => gI (fun a7 => gI (fun a8 => gL [.int .i64] (fun a9 => gS (fun a10 => gI (fun a11 => gI (fun a12 => gB (fun a13 => gI (fun a14 => gI (fun a15 => gI (fun a16 => gI (fun a17 => gI (fun a18 => gI (fun a19 => gB (fun a20 => gB (fun a21 => gI (fun a22 => gI (fun a23 => gL [.int .i64] (fun a24 => gS (fun a25 => gI (fun a26 => gI (fun a27 => gB (fun a28 => gI (fun a29 => gE (Option.bind (F25 FUEL a0 a1 a2 a3 a4 a5 a6 a7 a8 a9 a10 a11 a12 a13 a14 a15 a16 a17 a18 a19 a20 a21 a22 a23 a24 a25 a26 a27 a28 a29) fun y => K (ofB25 y))))))))))))))))))))))))))))))))) ls⟩
def sh25_0 : Shape := ⟨[(106, [(2, .ref 0 0), (3, .ref 1 0), (5, .i .i64)])], [.cells [.i .u8, .i .i64, .i .i64, .i .i64, .i .i64, .b, .b, .i .i64, .i .i64, .sl false [.int .i64], .s, .i .i64, .i .i64, .b, .i .i64], .cells [.i .u8, .i .i64, .i .i64, .i .i64, .i .i64, .b, .b, .i .i64, .i .i64, .sl false [.int .i64], .s, .i .i64, .i .i64, .b, .i .i64]]⟩
def g25_0 (n : Nat) : List Leaf → Option (Bool) := gI (fun x0 => gI (fun x1 => gI (fun x2 => gI (fun x3 => gI (fun x4 => gI (fun x5 => gB (fun x6 => gB (fun x7 => gI (fun x8 => gI (fun x9 => gL [.int .i64] (fun x10 => gS (fun x11 => gI (fun x12 => gI (fun x13 => gB (fun x14 => gI (fun x15 => gI (fun x16 => gI (fun x17 => gI (fun x18 => gI (fun x19 => gI (fun x20 => gB (fun x21 => gB (fun x22 => gI (fun x23 => gI (fun x24 => gL [.int .i64] (fun x25 => gS (fun x26 => gI (fun x27 => gI (fun x28 => gB (fun x29 => gI (fun x30 => gE (F25_c0 n x0 x1 x2 x3 x4 x5 x6 x7 x8 x9 x10 x11 x12 x13 x14 x15 x16 x17 x18 x19 x20 x21 x22 x23 x24 x25 x26 x27 x28 x29 x30))))))))))))))))))))))))))))))))
def cuts25 : List (List Nat × Cut (Bool)) := [([1, 1, 0, 1, 0], ⟨sh25_0, g25_0⟩)]
noncomputable def X25 : Px (Bool) := ⟨T, Try.prog, lkF [], mkCuts 25 cuts25, altN, altN_ok⟩
theorem e25_0 (n : Nat) (x0 x1 x2 x3 x4 x5 : Int) (x6 x7 : Bool) (x8 x9 : Int) (x10 : List (Int)) (x11 : ByteArray) (x12 x13 : Int) (x14 : Bool) (x15 x16 x17 x18 x19 x20 : Int) (x21 x22 : Bool) (x23 x24 : Int) (x25 : List (Int)) (x26 : ByteArray) (x27 x28 : Int) (x29 : Bool) (x30 : Int) : stepF X25 8 25 (endK sr25 toB25) [1, 1, 0, 1, 0] sh25_0 n [.i x0, .i x1, .i x2, .i x3, .i x4, .i x5, .b x6, .b x7, .i x8, .i x9, .l [.int .i64] x10, .s x11, .i x12, .i x13, .b x14, .i x15, .i x16, .i x17, .i x18, .i x19, .i x20, .b x21, .b x22, .i x23, .i x24, .l [.int .i64] x25, .s x26, .i x27, .i x28, .b x29, .i x30] = F25_c0 (n + 1) x0 x1 x2 x3 x4 x5 x6 x7 x8 x9 x10 x11 x12 x13 x14 x15 x16 x17 x18 x19 x20 x21 x22 x23 x24 x25 x26 x27 x28 x29 x30 := by kernel_rfl
theorem e25 (n : Nat) (a0 a1 a2 a3 a4 : Int) (a5 a6 : Bool) (a7 a8 : Int) (a9 : List (Int)) (a10 : ByteArray) (a11 a12 : Int) (a13 : Bool) (a14 a15 a16 a17 a18 a19 : Int) (a20 a21 : Bool) (a22 a23 : Int) (a24 : List (Int)) (a25 : ByteArray) (a26 a27 : Int) (a28 : Bool) (a29 : Int) : entF X25 8 25 pa25 (endK sr25 toB25) n [.i a0, .i a1, .i a2, .i a3, .i a4, .b a5, .b a6, .i a7, .i a8, .l [.int .i64] a9, .s a10, .i a11, .i a12, .b a13, .i a14, .i a15, .i a16, .i a17, .i a18, .i a19, .b a20, .b a21, .i a22, .i a23, .l [.int .i64] a24, .s a25, .i a26, .i a27, .b a28, .i a29] = F25 n a0 a1 a2 a3 a4 a5 a6 a7 a8 a9 a10 a11 a12 a13 a14 a15 a16 a17 a18 a19 a20 a21 a22 a23 a24 a25 a26 a27 a28 a29 := by kernel_rfl
theorem c25_0 : CutOK X25 8 25 (endK sr25 toB25) [1, 1, 0, 1, 0] ⟨sh25_0, g25_0⟩ := by
  refine ⟨fun ls => ?_, fun n ls r h => ?_⟩
  · cases h : g25_0 0 ls with
    | none => exact h
    | some r =>
      unfold g25_0 at h; obtain ⟨x0, x1, x2, x3, _, rfl, h1⟩ := gI4_ok h; obtain ⟨x4, _, rfl, h2⟩ := gI_ok h1; obtain ⟨x5, _, rfl, h3⟩ := gI_ok h2; obtain ⟨x6, _, rfl, h4⟩ := gB_ok h3; obtain ⟨x7, _, rfl, h5⟩ := gB_ok h4; obtain ⟨x8, _, rfl, h6⟩ := gI_ok h5; obtain ⟨x9, _, rfl, h7⟩ := gI_ok h6; obtain ⟨x10, _, rfl, h8⟩ := gL_ok h7; obtain ⟨x11, _, rfl, h9⟩ := gS_ok h8; obtain ⟨x12, _, rfl, h10⟩ := gI_ok h9; obtain ⟨x13, _, rfl, h11⟩ := gI_ok h10; obtain ⟨x14, _, rfl, h12⟩ := gB_ok h11; obtain ⟨x15, x16, x17, x18, _, rfl, h13⟩ := gI4_ok h12; obtain ⟨x19, _, rfl, h14⟩ := gI_ok h13; obtain ⟨x20, _, rfl, h15⟩ := gI_ok h14; obtain ⟨x21, _, rfl, h16⟩ := gB_ok h15; obtain ⟨x22, _, rfl, h17⟩ := gB_ok h16; obtain ⟨x23, _, rfl, h18⟩ := gI_ok h17; obtain ⟨x24, _, rfl, h19⟩ := gI_ok h18; obtain ⟨x25, _, rfl, h20⟩ := gL_ok h19; obtain ⟨x26, _, rfl, h21⟩ := gS_ok h20; obtain ⟨x27, _, rfl, h22⟩ := gI_ok h21; obtain ⟨x28, _, rfl, h23⟩ := gI_ok h22; obtain ⟨x29, _, rfl, h24⟩ := gB_ok h23; obtain ⟨x30, _, rfl, h25⟩ := gI_ok h24; obtain ⟨rfl, h26⟩ := gE_ok h25; simp only [F25_c0] at h26; cases h26
  · replace h : g25_0 (n + 1) ls = some r := h
    unfold g25_0 at h
    obtain ⟨x0, x1, x2, x3, _, rfl, h1⟩ := gI4_ok h; obtain ⟨x4, _, rfl, h2⟩ := gI_ok h1; obtain ⟨x5, _, rfl, h3⟩ := gI_ok h2; obtain ⟨x6, _, rfl, h4⟩ := gB_ok h3; obtain ⟨x7, _, rfl, h5⟩ := gB_ok h4; obtain ⟨x8, _, rfl, h6⟩ := gI_ok h5; obtain ⟨x9, _, rfl, h7⟩ := gI_ok h6; obtain ⟨x10, _, rfl, h8⟩ := gL_ok h7; obtain ⟨x11, _, rfl, h9⟩ := gS_ok h8; obtain ⟨x12, _, rfl, h10⟩ := gI_ok h9; obtain ⟨x13, _, rfl, h11⟩ := gI_ok h10; obtain ⟨x14, _, rfl, h12⟩ := gB_ok h11; obtain ⟨x15, x16, x17, x18, _, rfl, h13⟩ := gI4_ok h12; obtain ⟨x19, _, rfl, h14⟩ := gI_ok h13; obtain ⟨x20, _, rfl, h15⟩ := gI_ok h14; obtain ⟨x21, _, rfl, h16⟩ := gB_ok h15; obtain ⟨x22, _, rfl, h17⟩ := gB_ok h16; obtain ⟨x23, _, rfl, h18⟩ := gI_ok h17; obtain ⟨x24, _, rfl, h19⟩ := gI_ok h18; obtain ⟨x25, _, rfl, h20⟩ := gL_ok h19; obtain ⟨x26, _, rfl, h21⟩ := gS_ok h20; obtain ⟨x27, _, rfl, h22⟩ := gI_ok h21; obtain ⟨x28, _, rfl, h23⟩ := gI_ok h22; obtain ⟨x29, _, rfl, h24⟩ := gB_ok h23; obtain ⟨x30, _, rfl, h25⟩ := gI_ok h24; obtain ⟨rfl, h26⟩ := gE_ok h25
    exact (e25_0 n x0 x1 x2 x3 x4 x5 x6 x7 x8 x9 x10 x11 x12 x13 x14 x15 x16 x17 x18 x19 x20 x21 x22 x23 x24 x25 x26 x27 x28 x29 x30).trans h26
theorem sp25 {n : Nat} (a0 a1 a2 a3 a4 : Int) (a5 a6 : Bool) (a7 a8 : Int) (a9 : List (Int)) (a10 : ByteArray) (a11 a12 : Int) (a13 : Bool) (a14 a15 a16 a17 a18 a19 : Int) (a20 a21 : Bool) (a22 a23 : Int) (a24 : List (Int)) (a25 : ByteArray) (a26 a27 : Int) (a28 : Bool) (a29 : Int) {y : Bool} (h : F25 n a0 a1 a2 a3 a4 a5 a6 a7 a8 a9 a10 a11 a12 a13 a14 a15 a16 a17 a18 a19 a20 a21 a22 a23 a24 a25 a26 a27 a28 a29 = some y) : SpecF T Try.prog 25 pa25 [.i a0, .i a1, .i a2, .i a3, .i a4, .b a5, .b a6, .i a7, .i a8, .l [.int .i64] a9, .s a10, .i a11, .i a12, .b a13, .i a14, .i a15, .i a16, .i a17, .i a18, .i a19, .b a20, .b a21, .i a22, .i a23, .l [.int .i64] a24, .s a25, .i a26, .i a27, .b a28, .i a29] sr25 (ofB25 y) :=
  fun_ok (X := X25) tok (sfok_of trivial) mixed 25 8 cuts25 rfl toB25_ok ⟨c25_0, trivial⟩ ((e25 n a0 a1 a2 a3 a4 a5 a6 a7 a8 a9 a10 a11 a12 a13 a14 a15 a16 a17 a18 a19 a20 a21 a22 a23 a24 a25 a26 a27 a28 a29).trans h)
theorem ok25 {R : Type} : SFone T Try.prog 25 (run25 : SF R) := by
  intro ls K r h
  simp only [run25] at h
  obtain ⟨a0, a1, a2, a3, _, rfl, h1⟩ := gI4_ok h; obtain ⟨a4, _, rfl, h2⟩ := gI_ok h1; obtain ⟨a5, _, rfl, h3⟩ := gB_ok h2; obtain ⟨a6, _, rfl, h4⟩ := gB_ok h3; obtain ⟨a7, _, rfl, h5⟩ := gI_ok h4; obtain ⟨a8, _, rfl, h6⟩ := gI_ok h5; obtain ⟨a9, _, rfl, h7⟩ := gL_ok h6; obtain ⟨a10, _, rfl, h8⟩ := gS_ok h7; obtain ⟨a11, _, rfl, h9⟩ := gI_ok h8; obtain ⟨a12, _, rfl, h10⟩ := gI_ok h9; obtain ⟨a13, _, rfl, h11⟩ := gB_ok h10; obtain ⟨a14, a15, a16, a17, _, rfl, h12⟩ := gI4_ok h11; obtain ⟨a18, _, rfl, h13⟩ := gI_ok h12; obtain ⟨a19, _, rfl, h14⟩ := gI_ok h13; obtain ⟨a20, _, rfl, h15⟩ := gB_ok h14; obtain ⟨a21, _, rfl, h16⟩ := gB_ok h15; obtain ⟨a22, _, rfl, h17⟩ := gI_ok h16; obtain ⟨a23, _, rfl, h18⟩ := gI_ok h17; obtain ⟨a24, _, rfl, h19⟩ := gL_ok h18; obtain ⟨a25, _, rfl, h20⟩ := gS_ok h19; obtain ⟨a26, _, rfl, h21⟩ := gI_ok h20; obtain ⟨a27, _, rfl, h22⟩ := gI_ok h21; obtain ⟨a28, _, rfl, h23⟩ := gB_ok h22; obtain ⟨a29, _, rfl, h24⟩ := gI_ok h23; obtain ⟨rfl, h25⟩ := gE_ok h24
  obtain ⟨y, k1, k2⟩ := Option.bind_eq_some_iff.1 h25
  exact ⟨_, k2, sp25 a0 a1 a2 a3 a4 a5 a6 a7 a8 a9 a10 a11 a12 a13 a14 a15 a16 a17 a18 a19 a20 a21 a22 a23 a24 a25 a26 a27 a28 a29 k1⟩

/-! ### garland/garlandref06.list -/
def pa67 : List VP := [.sl false [.int .i64], .i .i64]
def sr67 : RShape := ⟨.b, [], none⟩
def toB67 : List Leaf → Option (Bool) := gB (fun b0 => gE (some b0))
def ofB67 (y : Bool) : List Leaf := [.b y]
theorem toB67_ok : ∀ ls b, toB67 ls = some b → ls = ofB67 b := by
  intro ls b h
  unfold toB67 at h
  obtain ⟨b0, _, rfl, h1⟩ := gB_ok h; obtain ⟨rfl, h2⟩ := gE_ok h1
  cases h2; rfl
def run67 {R : Type} : SF R := ⟨pa67, sr67, fun ls K => (gL [.int .i64] (fun a0 => gI (fun a1 => gE (Option.bind (F67 FUEL a0 a1) fun y => K (ofB67 y))))) ls⟩
def sh67_0 : Shape := ⟨[(44, [(0, .sl false [.int .i64]), (1, .i .i64), (5, .i .i64)])], []⟩
def g67_0 (n : Nat) : List Leaf → Option (Bool) := gL [.int .i64] (fun x0 => gI (fun x1 => gI (fun x2 => gE (F67_c0 n x0 x1 x2))))
def sh67_1 : Shape := ⟨[(44, [(0, .sl false [.int .i64]), (1, .i .i64), (5, .i .i64), (6, .i .i64)])], []⟩
def g67_1 (n : Nat) : List Leaf → Option (Bool) := gL [.int .i64] (fun x0 => gI (fun x1 => gI (fun x2 => gI (fun x3 => gE (F67_c1 n x0 x1 x2 x3)))))
def cuts67 : List (List Nat × Cut (Bool)) := [([1, 0, 1, 0], ⟨sh67_0, g67_0⟩), ([1, 0, 1, 0, 0, 1, 0, 0, 1, 1, 0], ⟨sh67_1, g67_1⟩)]
noncomputable def X67 : Px (Bool) := ⟨T, Try.prog, lkF [(50, run50)], mkCuts 67 cuts67, altN, altN_ok⟩
theorem e67_0 (n : Nat) (x0 : List (Int)) (x1 x2 : Int) : stepF X67 8 67 (endK sr67 toB67) [1, 0, 1, 0] sh67_0 n [.l [.int .i64] x0, .i x1, .i x2] = F67_c0 (n + 1) x0 x1 x2 := by kernel_rfl
theorem e67_1 (n : Nat) (x0 : List (Int)) (x1 x2 x3 : Int) : stepF X67 8 67 (endK sr67 toB67) [1, 0, 1, 0, 0, 1, 0, 0, 1, 1, 0] sh67_1 n [.l [.int .i64] x0, .i x1, .i x2, .i x3] = F67_c1 (n + 1) x0 x1 x2 x3 := by kernel_rfl
theorem e67 (n : Nat) (a0 : List (Int)) (a1 : Int) : entF X67 8 67 pa67 (endK sr67 toB67) n [.l [.int .i64] a0, .i a1] = F67 n a0 a1 := by kernel_rfl
theorem c67_0 : CutOK X67 8 67 (endK sr67 toB67) [1, 0, 1, 0] ⟨sh67_0, g67_0⟩ := by
  refine ⟨fun ls => ?_, fun n ls r h => ?_⟩
  · cases h : g67_0 0 ls with
    | none => exact h
    | some r =>
      unfold g67_0 at h; obtain ⟨x0, _, rfl, h1⟩ := gL_ok h; obtain ⟨x1, _, rfl, h2⟩ := gI_ok h1; obtain ⟨x2, _, rfl, h3⟩ := gI_ok h2; obtain ⟨rfl, h4⟩ := gE_ok h3; simp only [F67_c0] at h4; cases h4
  · replace h : g67_0 (n + 1) ls = some r := h
    unfold g67_0 at h
    obtain ⟨x0, _, rfl, h1⟩ := gL_ok h; obtain ⟨x1, _, rfl, h2⟩ := gI_ok h1; obtain ⟨x2, _, rfl, h3⟩ := gI_ok h2; obtain ⟨rfl, h4⟩ := gE_ok h3
    exact (e67_0 n x0 x1 x2).trans h4
theorem c67_1 : CutOK X67 8 67 (endK sr67 toB67) [1, 0, 1, 0, 0, 1, 0, 0, 1, 1, 0] ⟨sh67_1, g67_1⟩ := by
  refine ⟨fun ls => ?_, fun n ls r h => ?_⟩
  · cases h : g67_1 0 ls with
    | none => exact h
    | some r =>
      unfold g67_1 at h; obtain ⟨x0, _, rfl, h1⟩ := gL_ok h; obtain ⟨x1, _, rfl, h2⟩ := gI_ok h1; obtain ⟨x2, _, rfl, h3⟩ := gI_ok h2; obtain ⟨x3, _, rfl, h4⟩ := gI_ok h3; obtain ⟨rfl, h5⟩ := gE_ok h4; simp only [F67_c1] at h5; cases h5
  · replace h : g67_1 (n + 1) ls = some r := h
    unfold g67_1 at h
    obtain ⟨x0, _, rfl, h1⟩ := gL_ok h; obtain ⟨x1, _, rfl, h2⟩ := gI_ok h1; obtain ⟨x2, _, rfl, h3⟩ := gI_ok h2; obtain ⟨x3, _, rfl, h4⟩ := gI_ok h3; obtain ⟨rfl, h5⟩ := gE_ok h4
    exact (e67_1 n x0 x1 x2 x3).trans h5
theorem sp67 {n : Nat} (a0 : List (Int)) (a1 : Int) {y : Bool} (h : F67 n a0 a1 = some y) : SpecF T Try.prog 67 pa67 [.l [.int .i64] a0, .i a1] sr67 (ofB67 y) :=
  fun_ok (X := X67) tok (sfok_of ⟨ok50, trivial⟩) mixed 67 8 cuts67 rfl toB67_ok ⟨c67_0, c67_1, trivial⟩ ((e67 n a0 a1).trans h)
theorem ok67 {R : Type} : SFone T Try.prog 67 (run67 : SF R) := by
  intro ls K r h
  simp only [run67] at h
  obtain ⟨a0, _, rfl, h1⟩ := gL_ok h; obtain ⟨a1, _, rfl, h2⟩ := gI_ok h1; obtain ⟨rfl, h3⟩ := gE_ok h2
  obtain ⟨y, k1, k2⟩ := Option.bind_eq_some_iff.1 h3
  exact ⟨_, k2, sp67 a0 a1 k1⟩

/-! ### garland/garlandref06.has -/
def pa58 : List VP := [.agg [.i .u8, .i .i64, .i .i64, .i .i64, .i .i64, .b, .b, .i .i64, .i .i64, .sl false [.int .i64], .s, .i .i64, .i .i64, .b, .i .i64]]
def sr58 : RShape := ⟨.b, [], none⟩
def toB58 : List Leaf → Option (Bool) := gB (fun b0 => gE (some b0))
def ofB58 (y : Bool) : List Leaf := [.b y]
theorem toB58_ok : ∀ ls b, toB58 ls = some b → ls = ofB58 b := by
  intro ls b h
  unfold toB58 at h
  obtain ⟨b0, _, rfl, h1⟩ := gB_ok h; obtain ⟨rfl, h2⟩ := gE_ok h1
  cases h2; rfl
def run58 {R : Type} : SF R := ⟨pa58, sr58, fun ls K => (gI (fun a0 => gI (fun a1 => gI (fun a2 => gI (fun a3 => gI (fun a4 => gB (fun a5 => gB (fun a6 => gI (fun a7 => gI (fun a8 => gL [.int .i64] (fun a9 => gS (fun a10 => gI (fun a11 => gI (fun a12 => gB (fun a13 => gI (fun a14 => gE (Option.bind (F58 FUEL a0 a1 a2 a3 a4 a5 a6 a7 a8 a9 a10 a11 a12 a13 a14) fun y => K (ofB58 y)))))))))))))))))) ls⟩
def cuts58 : List (List Nat × Cut (Bool)) := []
noncomputable def X58 : Px (Bool) := ⟨T, Try.prog, lkF [(50, run50), (18, run18), (67, run67)], mkCuts 58 cuts58, altN, altN_ok⟩
theorem e58 (n : Nat) (a0 a1 a2 a3 a4 : Int) (a5 a6 : Bool) (a7 a8 : Int) (a9 : List (Int)) (a10 : ByteArray) (a11 a12 : Int) (a13 : Bool) (a14 : Int) : entF X58 8 58 pa58 (endK sr58 toB58) n [.i a0, .i a1, .i a2, .i a3, .i a4, .b a5, .b a6, .i a7, .i a8, .l [.int .i64] a9, .s a10, .i a11, .i a12, .b a13, .i a14] = F58 n a0 a1 a2 a3 a4 a5 a6 a7 a8 a9 a10 a11 a12 a13 a14 := by kernel_rfl
theorem sp58 {n : Nat} (a0 a1 a2 a3 a4 : Int) (a5 a6 : Bool) (a7 a8 : Int) (a9 : List (Int)) (a10 : ByteArray) (a11 a12 : Int) (a13 : Bool) (a14 : Int) {y : Bool} (h : F58 n a0 a1 a2 a3 a4 a5 a6 a7 a8 a9 a10 a11 a12 a13 a14 = some y) : SpecF T Try.prog 58 pa58 [.i a0, .i a1, .i a2, .i a3, .i a4, .b a5, .b a6, .i a7, .i a8, .l [.int .i64] a9, .s a10, .i a11, .i a12, .b a13, .i a14] sr58 (ofB58 y) :=
  fun_ok (X := X58) tok (sfok_of ⟨ok50, ok18, ok67, trivial⟩) mixed 58 8 cuts58 rfl toB58_ok trivial ((e58 n a0 a1 a2 a3 a4 a5 a6 a7 a8 a9 a10 a11 a12 a13 a14).trans h)
theorem ok58 {R : Type} : SFone T Try.prog 58 (run58 : SF R) := by
  intro ls K r h
  simp only [run58] at h
  obtain ⟨a0, a1, a2, a3, _, rfl, h1⟩ := gI4_ok h; obtain ⟨a4, _, rfl, h2⟩ := gI_ok h1; obtain ⟨a5, _, rfl, h3⟩ := gB_ok h2; obtain ⟨a6, _, rfl, h4⟩ := gB_ok h3; obtain ⟨a7, _, rfl, h5⟩ := gI_ok h4; obtain ⟨a8, _, rfl, h6⟩ := gI_ok h5; obtain ⟨a9, _, rfl, h7⟩ := gL_ok h6; obtain ⟨a10, _, rfl, h8⟩ := gS_ok h7; obtain ⟨a11, _, rfl, h9⟩ := gI_ok h8; obtain ⟨a12, _, rfl, h10⟩ := gI_ok h9; obtain ⟨a13, _, rfl, h11⟩ := gB_ok h10; obtain ⟨a14, _, rfl, h12⟩ := gI_ok h11; obtain ⟨rfl, h13⟩ := gE_ok h12
  obtain ⟨y, k1, k2⟩ := Option.bind_eq_some_iff.1 h13
  exact ⟨_, k2, sp58 a0 a1 a2 a3 a4 a5 a6 a7 a8 a9 a10 a11 a12 a13 a14 k1⟩

/-! ### garland/garlandref06.Right -/
def pa20 : List VP := [.agg [.i .u8, .i .i64, .i .i64, .i .i64, .i .i64, .b, .b, .i .i64, .i .i64, .sl false [.int .i64], .s, .i .i64, .i .i64, .b, .i .i64]]
def sr20 : RShape := ⟨.b, [], none⟩
def toB20 : List Leaf → Option (Bool) := gB (fun b0 => gE (some b0))
def ofB20 (y : Bool) : List Leaf := [.b y]
theorem toB20_ok : ∀ ls b, toB20 ls = some b → ls = ofB20 b := by
  intro ls b h
  unfold toB20 at h
  obtain ⟨b0, _, rfl, h1⟩ := gB_ok h; obtain ⟨rfl, h2⟩ := gE_ok h1
  cases h2; rfl
def run20 {R : Type} : SF R := ⟨pa20, sr20, fun ls K => (gI (fun a0 => gI (fun a1 => gI (fun a2 => gI (fun a3 => gI (fun a4 => gB (fun a5 => gB (fun a6 => gI (fun a7 => gI (fun a8 => gL [.int .i64] (fun a9 => gS (fun a10 => gI (fun a11 => gI (fun a12 => gB (fun a13 => gI (fun a14 => gE (Option.bind (F20 FUEL a0 a1 a2 a3 a4 a5 a6 a7 a8 a9 a10 a11 a12 a13 a14) fun y => K (ofB20 y)))))))))))))))))) ls⟩
def cuts20 : List (List Nat × Cut (Bool)) := []
noncomputable def X20 : Px (Bool) := ⟨T, Try.prog, lkF [(50, run50), (24, run24), (57, run57), (25, run25), (58, run58)], mkCuts 20 cuts20, altN, altN_ok⟩
theorem e20 (n : Nat) (a0 a1 a2 a3 a4 : Int) (a5 a6 : Bool) (a7 a8 : Int) (a9 : List (Int)) (a10 : ByteArray) (a11 a12 : Int) (a13 : Bool) (a14 : Int) : entF X20 8 20 pa20 (endK sr20 toB20) n [.i a0, .i a1, .i a2, .i a3, .i a4, .b a5, .b a6, .i a7, .i a8, .l [.int .i64] a9, .s a10, .i a11, .i a12, .b a13, .i a14] = F20 n a0 a1 a2 a3 a4 a5 a6 a7 a8 a9 a10 a11 a12 a13 a14 := by kernel_rfl
theorem sp20 {n : Nat} (a0 a1 a2 a3 a4 : Int) (a5 a6 : Bool) (a7 a8 : Int) (a9 : List (Int)) (a10 : ByteArray) (a11 a12 : Int) (a13 : Bool) (a14 : Int) {y : Bool} (h : F20 n a0 a1 a2 a3 a4 a5 a6 a7 a8 a9 a10 a11 a12 a13 a14 = some y) : SpecF T Try.prog 20 pa20 [.i a0, .i a1, .i a2, .i a3, .i a4, .b a5, .b a6, .i a7, .i a8, .l [.int .i64] a9, .s a10, .i a11, .i a12, .b a13, .i a14] sr20 (ofB20 y) :=
  fun_ok (X := X20) tok (sfok_of ⟨ok50, ok24, ok57, ok25, ok58, trivial⟩) mixed 20 8 cuts20 rfl toB20_ok trivial ((e20 n a0 a1 a2 a3 a4 a5 a6 a7 a8 a9 a10 a11 a12 a13 a14).trans h)
theorem ok20 {R : Type} : SFone T Try.prog 20 (run20 : SF R) := by
  intro ls K r h
  simp only [run20] at h
  obtain ⟨a0, a1, a2, a3, _, rfl, h1⟩ := gI4_ok h; obtain ⟨a4, _, rfl, h2⟩ := gI_ok h1; obtain ⟨a5, _, rfl, h3⟩ := gB_ok h2; obtain ⟨a6, _, rfl, h4⟩ := gB_ok h3; obtain ⟨a7, _, rfl, h5⟩ := gI_ok h4; obtain ⟨a8, _, rfl, h6⟩ := gI_ok h5; obtain ⟨a9, _, rfl, h7⟩ := gL_ok h6; obtain ⟨a10, _, rfl, h8⟩ := gS_ok h7; obtain ⟨a11, _, rfl, h9⟩ := gI_ok h8; obtain ⟨a12, _, rfl, h10⟩ := gI_ok h9; obtain ⟨a13, _, rfl, h11⟩ := gB_ok h10; obtain ⟨a14, _, rfl, h12⟩ := gI_ok h11; obtain ⟨rfl, h13⟩ := gE_ok h12
  obtain ⟨y, k1, k2⟩ := Option.bind_eq_some_iff.1 h13
  exact ⟨_, k2, sp20 a0 a1 a2 a3 a4 a5 a6 a7 a8 a9 a10 a11 a12 a13 a14 k1⟩

/-! ### garland/garlandref06.Tell -/
def pa27 : List VP := [.agg [.i .u8, .i .i64, .i .i64, .i .i64, .i .i64, .b, .b, .i .i64, .i .i64, .sl false [.int .i64], .s, .i .i64, .i .i64, .b, .i .i64]]
def sr27 : RShape := ⟨.agg [.i .u8, .i .i64, .i .i64, .i .i64, .i .i64, .b, .b, .i .i64, .i .i64, .nil, .s, .i .i64, .i .i64, .b, .i .i64], [], none⟩
def toB27 : List Leaf → Option (Si5b2i2si2bi) := gI (fun b0 => gI (fun b1 => gI (fun b2 => gI (fun b3 => gI (fun b4 => gB (fun b5 => gB (fun b6 => gI (fun b7 => gI (fun b8 => gS (fun b9 => gI (fun b10 => gI (fun b11 => gB (fun b12 => gI (fun b13 => gE (some ⟨b0, b1, b2, b3, b4, b5, b6, b7, b8, b9, b10, b11, b12, b13⟩)))))))))))))))
def ofB27 (y : Si5b2i2si2bi) : List Leaf := [.i y.q0, .i y.q1, .i y.q2, .i y.q3, .i y.q4, .b y.q5, .b y.q6, .i y.q7, .i y.q8, .s y.q9, .i y.q10, .i y.q11, .b y.q12, .i y.q13]
theorem toB27_ok : ∀ ls b, toB27 ls = some b → ls = ofB27 b := by
  intro ls b h
  unfold toB27 at h
  obtain ⟨b0, b1, b2, b3, _, rfl, h1⟩ := gI4_ok h; obtain ⟨b4, _, rfl, h2⟩ := gI_ok h1; obtain ⟨b5, _, rfl, h3⟩ := gB_ok h2; obtain ⟨b6, _, rfl, h4⟩ := gB_ok h3; obtain ⟨b7, _, rfl, h5⟩ := gI_ok h4; obtain ⟨b8, _, rfl, h6⟩ := gI_ok h5; obtain ⟨b9, _, rfl, h7⟩ := gS_ok h6; obtain ⟨b10, _, rfl, h8⟩ := gI_ok h7; obtain ⟨b11, _, rfl, h9⟩ := gI_ok h8; obtain ⟨b12, _, rfl, h10⟩ := gB_ok h9; obtain ⟨b13, _, rfl, h11⟩ := gI_ok h10; obtain ⟨rfl, h12⟩ := gE_ok h11
  cases h12; rfl
def run27 {R : Type} : SF R := ⟨pa27, sr27, fun ls K => (gI (fun a0 => gI (fun a1 => gI (fun a2 => gI (fun a3 => gI (fun a4 => gB (fun a5 => gB (fun a6 => gI (fun a7 => gI (fun a8 => gL [.int .i64] (fun a9 => gS (fun a10 => gI (fun a11 => gI (fun a12 => gB (fun a13 => gI (fun a14 => gE (Option.bind (F27 FUEL a0 a1 a2 a3 a4 a5 a6 a7 a8 a9 a10 a11 a12 a13 a14) fun y => K (ofB27 y)))))))))))))))))) ls⟩
def cuts27 : List (List Nat × Cut (Si5b2i2si2bi)) := []
noncomputable def X27 : Px (Si5b2i2si2bi) := ⟨T, Try.prog, lkF [(22, run22)], mkCuts 27 cuts27, altN, altN_ok⟩
theorem e27 (n : Nat) (a0 a1 a2 a3 a4 : Int) (a5 a6 : Bool) (a7 a8 : Int) (a9 : List (Int)) (a10 : ByteArray) (a11 a12 : Int) (a13 : Bool) (a14 : Int) : entF X27 8 27 pa27 (endK sr27 toB27) n [.i a0, .i a1, .i a2, .i a3, .i a4, .b a5, .b a6, .i a7, .i a8, .l [.int .i64] a9, .s a10, .i a11, .i a12, .b a13, .i a14] = F27 n a0 a1 a2 a3 a4 a5 a6 a7 a8 a9 a10 a11 a12 a13 a14 := by kernel_rfl
theorem sp27 {n : Nat} (a0 a1 a2 a3 a4 : Int) (a5 a6 : Bool) (a7 a8 : Int) (a9 : List (Int)) (a10 : ByteArray) (a11 a12 : Int) (a13 : Bool) (a14 : Int) {y : Si5b2i2si2bi} (h : F27 n a0 a1 a2 a3 a4 a5 a6 a7 a8 a9 a10 a11 a12 a13 a14 = some y) : SpecF T Try.prog 27 pa27 [.i a0, .i a1, .i a2, .i a3, .i a4, .b a5, .b a6, .i a7, .i a8, .l [.int .i64] a9, .s a10, .i a11, .i a12, .b a13, .i a14] sr27 (ofB27 y) :=
  fun_ok (X := X27) tok (sfok_of ⟨ok22, trivial⟩) mixed 27 8 cuts27 rfl toB27_ok trivial ((e27 n a0 a1 a2 a3 a4 a5 a6 a7 a8 a9 a10 a11 a12 a13 a14).trans h)
theorem ok27 {R : Type} : SFone T Try.prog 27 (run27 : SF R) := by
  intro ls K r h
  simp only [run27] at h
  obtain ⟨a0, a1, a2, a3, _, rfl, h1⟩ := gI4_ok h; obtain ⟨a4, _, rfl, h2⟩ := gI_ok h1; obtain ⟨a5, _, rfl, h3⟩ := gB_ok h2; obtain ⟨a6, _, rfl, h4⟩ := gB_ok h3; obtain ⟨a7, _, rfl, h5⟩ := gI_ok h4; obtain ⟨a8, _, rfl, h6⟩ := gI_ok h5; obtain ⟨a9, _, rfl, h7⟩ := gL_ok h6; obtain ⟨a10, _, rfl, h8⟩ := gS_ok h7; obtain ⟨a11, _, rfl, h9⟩ := gI_ok h8; obtain ⟨a12, _, rfl, h10⟩ := gI_ok h9; obtain ⟨a13, _, rfl, h11⟩ := gB_ok h10; obtain ⟨a14, _, rfl, h12⟩ := gI_ok h11; obtain ⟨rfl, h13⟩ := gE_ok h12
  obtain ⟨y, k1, k2⟩ := Option.bind_eq_some_iff.1 h13
  exact ⟨_, k2, sp27 a0 a1 a2 a3 a4 a5 a6 a7 a8 a9 a10 a11 a12 a13 a14 k1⟩

/-! ### garland/garlandlaw06.MsgTells -/
def pa3 : List VP := [.agg [.i .u8, .i .i64, .i .i64, .i .i64, .i .i64, .b, .b, .i .i64, .i .i64, .sl false [.int .i64], .s, .i .i64, .i .i64, .b, .i .i64], .agg [.i .u8, .i .i64, .i .i64, .i .i64, .i .i64, .b, .b, .i .i64, .i .i64, .sl false [.int .i64], .s, .i .i64, .i .i64, .b, .i .i64], .agg [.s, .i .i64, .i .i64, .b], .i .i64, .i .i64]
def sr3 : RShape := ⟨.b, [], none⟩
def toB3 : List Leaf → Option (Bool) := gB (fun b0 => gE (some b0))
def ofB3 (y : Bool) : List Leaf := [.b y]
theorem toB3_ok : ∀ ls b, toB3 ls = some b → ls = ofB3 b := by
  intro ls b h
  unfold toB3 at h
  obtain ⟨b0, _, rfl, h1⟩ := gB_ok h; obtain ⟨rfl, h2⟩ := gE_ok h1
  cases h2; rfl
def run3 {R : Type} : SF R := ⟨pa3, sr3, fun ls K => (gI (fun a0 => gI (fun a1 => gI (fun a2 => gI (fun a3 => gI (fun a4 => gB (fun a5 => gB (fun a6 => gI (fun a7 => gI (fun a8 => gL [.int .i64] (fun a9 => gS (fun a10 => gI (fun a11 => gI (fun a12 => gB (fun a13 => gI (fun a14 => gI (fun a15 => gI (fun a16 => gI (fun a17 => gI (fun a18 => gI (fun a19 => gB (fun a20 => gB (fun a21 => gI (fun a22 => gI (fun a23 => gL [.int .i64] (fun a24 => gS (fun a25 => gI (fun a26 => gI (fun a27 => gB (fun a28 => gI (fun a29 => gS (fun a30 => gI (fun a31 => gI (fun a32 => gB (fun a33 => gI (fun a34 => gI (fun a35 => gE (Option.bind (F3 FUEL a0 a1 a2 a3 a4 a5 a6 a7 a8 a9 a10 a11 a12 a13 a14 a15 a16 a17 a18 a19 a20 a21 a22 a23 a24 a25 a26 a27 a28 a29 a30 a31 a32 a33 a34 a35) fun y => K (ofB3 y))))))))))))))))))))))))))))))))))))))) ls⟩
def cuts3 : List (List Nat × Cut (Bool)) := []
noncomputable def X3 : Px (Bool) := ⟨T, Try.prog, lkF [(13, run13), (14, run14), (15, run15), (16, run16), (17, run17), (18, run18), (19, run19), (20, run20), (21, run21), (22, run22), (23, run23), (24, run24), (26, run26), (27, run27), (25, run25), (28, run28), (29, run29)], mkCuts 3 cuts3, altN, altN_ok⟩
theorem e3 (n : Nat) (a0 a1 a2 a3 a4 : Int) (a5 a6 : Bool) (a7 a8 : Int) (a9 : List (Int)) (a10 : ByteArray) (a11 a12 : Int) (a13 : Bool) (a14 a15 a16 a17 a18 a19 : Int) (a20 a21 : Bool) (a22 a23 : Int) (a24 : List (Int)) (a25 : ByteArray) (a26 a27 : Int) (a28 : Bool) (a29 : Int) (a30 : ByteArray) (a31 a32 : Int) (a33 : Bool) (a34 a35 : Int) : entF X3 8 3 pa3 (endK sr3 toB3) n [.i a0, .i a1, .i a2, .i a3, .i a4, .b a5, .b a6, .i a7, .i a8, .l [.int .i64] a9, .s a10, .i a11, .i a12, .b a13, .i a14, .i a15, .i a16, .i a17, .i a18, .i a19, .b a20, .b a21, .i a22, .i a23, .l [.int .i64] a24, .s a25, .i a26, .i a27, .b a28, .i a29, .s a30, .i a31, .i a32, .b a33, .i a34, .i a35] = F3 n a0 a1 a2 a3 a4 a5 a6 a7 a8 a9 a10 a11 a12 a13 a14 a15 a16 a17 a18 a19 a20 a21 a22 a23 a24 a25 a26 a27 a28 a29 a30 a31 a32 a33 a34 a35 := by kernel_rfl
theorem sp3 {n : Nat} (a0 a1 a2 a3 a4 : Int) (a5 a6 : Bool) (a7 a8 : Int) (a9 : List (Int)) (a10 : ByteArray) (a11 a12 : Int) (a13 : Bool) (a14 a15 a16 a17 a18 a19 : Int) (a20 a21 : Bool) (a22 a23 : Int) (a24 : List (Int)) (a25 : ByteArray) (a26 a27 : Int) (a28 : Bool) (a29 : Int) (a30 : ByteArray) (a31 a32 : Int) (a33 : Bool) (a34 a35 : Int) {y : Bool} (h : F3 n a0 a1 a2 a3 a4 a5 a6 a7 a8 a9 a10 a11 a12 a13 a14 a15 a16 a17 a18 a19 a20 a21 a22 a23 a24 a25 a26 a27 a28 a29 a30 a31 a32 a33 a34 a35 = some y) : SpecF T Try.prog 3 pa3 [.i a0, .i a1, .i a2, .i a3, .i a4, .b a5, .b a6, .i a7, .i a8, .l [.int .i64] a9, .s a10, .i a11, .i a12, .b a13, .i a14, .i a15, .i a16, .i a17, .i a18, .i a19, .b a20, .b a21, .i a22, .i a23, .l [.int .i64] a24, .s a25, .i a26, .i a27, .b a28, .i a29, .s a30, .i a31, .i a32, .b a33, .i a34, .i a35] sr3 (ofB3 y) :=
  fun_ok (X := X3) tok (sfok_of ⟨ok13, ok14, ok15, ok16, ok17, ok18, ok19, ok20, ok21, ok22, ok23, ok24, ok26, ok27, ok25, ok28, ok29, trivial⟩) mixed 3 8 cuts3 rfl toB3_ok trivial ((e3 n a0 a1 a2 a3 a4 a5 a6 a7 a8 a9 a10 a11 a12 a13 a14 a15 a16 a17 a18 a19 a20 a21 a22 a23 a24 a25 a26 a27 a28 a29 a30 a31 a32 a33 a34 a35).trans h)
theorem ok3 {R : Type} : SFone T Try.prog 3 (run3 : SF R) := by
  intro ls K r h
  simp only [run3] at h
  obtain ⟨a0, a1, a2, a3, _, rfl, h1⟩ := gI4_ok h; obtain ⟨a4, _, rfl, h2⟩ := gI_ok h1; obtain ⟨a5, _, rfl, h3⟩ := gB_ok h2; obtain ⟨a6, _, rfl, h4⟩ := gB_ok h3; obtain ⟨a7, _, rfl, h5⟩ := gI_ok h4; obtain ⟨a8, _, rfl, h6⟩ := gI_ok h5; obtain ⟨a9, _, rfl, h7⟩ := gL_ok h6; obtain ⟨a10, _, rfl, h8⟩ := gS_ok h7; obtain ⟨a11, _, rfl, h9⟩ := gI_ok h8; obtain ⟨a12, _, rfl, h10⟩ := gI_ok h9; obtain ⟨a13, _, rfl, h11⟩ := gB_ok h10; obtain ⟨a14, a15, a16, a17, _, rfl, h12⟩ := gI4_ok h11; obtain ⟨a18, _, rfl, h13⟩ := gI_ok h12; obtain ⟨a19, _, rfl, h14⟩ := gI_ok h13; obtain ⟨a20, _, rfl, h15⟩ := gB_ok h14; obtain ⟨a21, _, rfl, h16⟩ := gB_ok h15; obtain ⟨a22, _, rfl, h17⟩ := gI_ok h16; obtain ⟨a23, _, rfl, h18⟩ := gI_ok h17; obtain ⟨a24, _, rfl, h19⟩ := gL_ok h18; obtain ⟨a25, _, rfl, h20⟩ := gS_ok h19; obtain ⟨a26, _, rfl, h21⟩ := gI_ok h20; obtain ⟨a27, _, rfl, h22⟩ := gI_ok h21; obtain ⟨a28, _, rfl, h23⟩ := gB_ok h22; obtain ⟨a29, _, rfl, h24⟩ := gI_ok h23; obtain ⟨a30, _, rfl, h25⟩ := gS_ok h24; obtain ⟨a31, _, rfl, h26⟩ := gI_ok h25; obtain ⟨a32, _, rfl, h27⟩ := gI_ok h26; obtain ⟨a33, _, rfl, h28⟩ := gB_ok h27; obtain ⟨a34, _, rfl, h29⟩ := gI_ok h28; obtain ⟨a35, _, rfl, h30⟩ := gI_ok h29; obtain ⟨rfl, h31⟩ := gE_ok h30
  obtain ⟨y, k1, k2⟩ := Option.bind_eq_some_iff.1 h31
  exact ⟨_, k2, sp3 a0 a1 a2 a3 a4 a5 a6 a7 a8 a9 a10 a11 a12 a13 a14 a15 a16 a17 a18 a19 a20 a21 a22 a23 a24 a25 a26 a27 a28 a29 a30 a31 a32 a33 a34 a35 k1⟩

/-! ### garland/garlandlaw06.MsgTold -/
def pa4 : List VP := [.agg [.i .u8, .i .i64, .i .i64, .i .i64, .i .i64, .b, .b, .i .i64, .i .i64, .sl false [.int .i64], .s, .i .i64, .i .i64, .b, .i .i64], .agg [.s, .i .i64, .i .i64, .b]]
def sr4 : RShape := ⟨.b, [], none⟩
def toB4 : List Leaf → Option (Bool) := gB (fun b0 => gE (some b0))
def ofB4 (y : Bool) : List Leaf := [.b y]
theorem toB4_ok : ∀ ls b, toB4 ls = some b → ls = ofB4 b := by
  intro ls b h
  unfold toB4 at h
  obtain ⟨b0, _, rfl, h1⟩ := gB_ok h; obtain ⟨rfl, h2⟩ := gE_ok h1
  cases h2; rfl
def run4 {R : Type} : SF R := ⟨pa4, sr4, fun ls K => (gI (fun a0 => gI (fun a1 => gI (fun a2 => gI (fun a3 => gI (fun a4 => gB (fun a5 => gB (fun a6 => gI (fun a7 => gI (fun a8 => gL [.int .i64] (fun a9 => gS (fun a10 => gI (fun a11 => gI (fun a12 => gB (fun a13 => gI (fun a14 => gS (fun a15 => gI (fun a16 => gI (fun a17 => gB (fun a18 => gE (Option.bind (F4 FUEL a0 a1 a2 a3 a4 a5 a6 a7 a8 a9 a10 a11 a12 a13 a14 a15 a16 a17 a18) fun y => K (ofB4 y)))))))))))))))))))))) ls⟩
def cuts4 : List (List Nat × Cut (Bool)) := []
noncomputable def X4 : Px (Bool) := ⟨T, Try.prog, lkF [(13, run13), (14, run14), (20, run20), (26, run26), (21, run21), (25, run25), (23, run23), (19, run19), (18, run18)], mkCuts 4 cuts4, altN, altN_ok⟩
theorem e4 (n : Nat) (a0 a1 a2 a3 a4 : Int) (a5 a6 : Bool) (a7 a8 : Int) (a9 : List (Int)) (a10 : ByteArray) (a11 a12 : Int) (a13 : Bool) (a14 : Int) (a15 : ByteArray) (a16 a17 : Int) (a18 : Bool) : entF X4 8 4 pa4 (endK sr4 toB4) n [.i a0, .i a1, .i a2, .i a3, .i a4, .b a5, .b a6, .i a7, .i a8, .l [.int .i64] a9, .s a10, .i a11, .i a12, .b a13, .i a14, .s a15, .i a16, .i a17, .b a18] = F4 n a0 a1 a2 a3 a4 a5 a6 a7 a8 a9 a10 a11 a12 a13 a14 a15 a16 a17 a18 := by kernel_rfl
theorem sp4 {n : Nat} (a0 a1 a2 a3 a4 : Int) (a5 a6 : Bool) (a7 a8 : Int) (a9 : List (Int)) (a10 : ByteArray) (a11 a12 : Int) (a13 : Bool) (a14 : Int) (a15 : ByteArray) (a16 a17 : Int) (a18 : Bool) {y : Bool} (h : F4 n a0 a1 a2 a3 a4 a5 a6 a7 a8 a9 a10 a11 a12 a13 a14 a15 a16 a17 a18 = some y) : SpecF T Try.prog 4 pa4 [.i a0, .i a1, .i a2, .i a3, .i a4, .b a5, .b a6, .i a7, .i a8, .l [.int .i64] a9, .s a10, .i a11, .i a12, .b a13, .i a14, .s a15, .i a16, .i a17, .b a18] sr4 (ofB4 y) :=
  fun_ok (X := X4) tok (sfok_of ⟨ok13, ok14, ok20, ok26, ok21, ok25, ok23, ok19, ok18, trivial⟩) mixed 4 8 cuts4 rfl toB4_ok trivial ((e4 n a0 a1 a2 a3 a4 a5 a6 a7 a8 a9 a10 a11 a12 a13 a14 a15 a16 a17 a18).trans h)
theorem ok4 {R : Type} : SFone T Try.prog 4 (run4 : SF R) := by
  intro ls K r h
  simp only [run4] at h
  obtain ⟨a0, a1, a2, a3, _, rfl, h1⟩ := gI4_ok h; obtain ⟨a4, _, rfl, h2⟩ := gI_ok h1; obtain ⟨a5, _, rfl, h3⟩ := gB_ok h2; obtain ⟨a6, _, rfl, h4⟩ := gB_ok h3; obtain ⟨a7, _, rfl, h5⟩ := gI_ok h4; obtain ⟨a8, _, rfl, h6⟩ := gI_ok h5; obtain ⟨a9, _, rfl, h7⟩ := gL_ok h6; obtain ⟨a10, _, rfl, h8⟩ := gS_ok h7; obtain ⟨a11, _, rfl, h9⟩ := gI_ok h8; obtain ⟨a12, _, rfl, h10⟩ := gI_ok h9; obtain ⟨a13, _, rfl, h11⟩ := gB_ok h10; obtain ⟨a14, _, rfl, h12⟩ := gI_ok h11; obtain ⟨a15, _, rfl, h13⟩ := gS_ok h12; obtain ⟨a16, _, rfl, h14⟩ := gI_ok h13; obtain ⟨a17, _, rfl, h15⟩ := gI_ok h14; obtain ⟨a18, _, rfl, h16⟩ := gB_ok h15; obtain ⟨rfl, h17⟩ := gE_ok h16
  obtain ⟨y, k1, k2⟩ := Option.bind_eq_some_iff.1 h17
  exact ⟨_, k2, sp4 a0 a1 a2 a3 a4 a5 a6 a7 a8 a9 a10 a11 a12 a13 a14 a15 a16 a17 a18 k1⟩

/-! ### garland/garlandlaw06.MsgOne -/
def pa5 : List VP := [.agg [.i .u8, .i .i64, .i .i64, .i .i64, .i .i64, .b, .b, .i .i64, .i .i64, .sl false [.int .i64], .s, .i .i64, .i .i64, .b, .i .i64], .i .i64]
def sr5 : RShape := ⟨.b, [], none⟩
def toB5 : List Leaf → Option (Bool) := gB (fun b0 => gE (some b0))
def ofB5 (y : Bool) : List Leaf := [.b y]
theorem toB5_ok : ∀ ls b, toB5 ls = some b → ls = ofB5 b := by
  intro ls b h
  unfold toB5 at h
  obtain ⟨b0, _, rfl, h1⟩ := gB_ok h; obtain ⟨rfl, h2⟩ := gE_ok h1
  cases h2; rfl
def run5 {R : Type} : SF R := ⟨pa5, sr5, fun ls K => (gI (fun a0 => gI (fun a1 => gI (fun a2 => gI (fun a3 => gI (fun a4 => gB (fun a5 => gB (fun a6 => gI (fun a7 => gI (fun a8 => gL [.int .i64] (fun a9 => gS (fun a10 => gI (fun a11 => gI (fun a12 => gB (fun a13 => gI (fun a14 => gI (fun a15 => gE (Option.bind (F5 FUEL a0 a1 a2 a3 a4 a5 a6 a7 a8 a9 a10 a11 a12 a13 a14 a15) fun y => K (ofB5 y))))))))))))))))))) ls⟩
def cuts5 : List (List Nat × Cut (Bool)) := []
noncomputable def X5 : Px (Bool) := ⟨T, Try.prog, lkF [(13, run13), (14, run14), (20, run20), (19, run19), (28, run28)], mkCuts 5 cuts5, altN, altN_ok⟩
theorem e5 (n : Nat) (a0 a1 a2 a3 a4 : Int) (a5 a6 : Bool) (a7 a8 : Int) (a9 : List (Int)) (a10 : ByteArray) (a11 a12 : Int) (a13 : Bool) (a14 a15 : Int) : entF X5 32 5 pa5 (endK sr5 toB5) n [.i a0, .i a1, .i a2, .i a3, .i a4, .b a5, .b a6, .i a7, .i a8, .l [.int .i64] a9, .s a10, .i a11, .i a12, .b a13, .i a14, .i a15] = F5 n a0 a1 a2 a3 a4 a5 a6 a7 a8 a9 a10 a11 a12 a13 a14 a15 := by kernel_rfl
theorem sp5 {n : Nat} (a0 a1 a2 a3 a4 : Int) (a5 a6 : Bool) (a7 a8 : Int) (a9 : List (Int)) (a10 : ByteArray) (a11 a12 : Int) (a13 : Bool) (a14 a15 : Int) {y : Bool} (h : F5 n a0 a1 a2 a3 a4 a5 a6 a7 a8 a9 a10 a11 a12 a13 a14 a15 = some y) : SpecF T Try.prog 5 pa5 [.i a0, .i a1, .i a2, .i a3, .i a4, .b a5, .b a6, .i a7, .i a8, .l [.int .i64] a9, .s a10, .i a11, .i a12, .b a13, .i a14, .i a15] sr5 (ofB5 y) :=
  fun_ok (X := X5) tok (sfok_of ⟨ok13, ok14, ok20, ok19, ok28, trivial⟩) mixed 5 32 cuts5 rfl toB5_ok trivial ((e5 n a0 a1 a2 a3 a4 a5 a6 a7 a8 a9 a10 a11 a12 a13 a14 a15).trans h)
theorem ok5 {R : Type} : SFone T Try.prog 5 (run5 : SF R) := by
  intro ls K r h
  simp only [run5] at h
  obtain ⟨a0, a1, a2, a3, _, rfl, h1⟩ := gI4_ok h; obtain ⟨a4, _, rfl, h2⟩ := gI_ok h1; obtain ⟨a5, _, rfl, h3⟩ := gB_ok h2; obtain ⟨a6, _, rfl, h4⟩ := gB_ok h3; obtain ⟨a7, _, rfl, h5⟩ := gI_ok h4; obtain ⟨a8, _, rfl, h6⟩ := gI_ok h5; obtain ⟨a9, _, rfl, h7⟩ := gL_ok h6; obtain ⟨a10, _, rfl, h8⟩ := gS_ok h7; obtain ⟨a11, _, rfl, h9⟩ := gI_ok h8; obtain ⟨a12, _, rfl, h10⟩ := gI_ok h9; obtain ⟨a13, _, rfl, h11⟩ := gB_ok h10; obtain ⟨a14, _, rfl, h12⟩ := gI_ok h11; obtain ⟨a15, _, rfl, h13⟩ := gI_ok h12; obtain ⟨rfl, h14⟩ := gE_ok h13
  obtain ⟨y, k1, k2⟩ := Option.bind_eq_some_iff.1 h14
  exact ⟨_, k2, sp5 a0 a1 a2 a3 a4 a5 a6 a7 a8 a9 a10 a11 a12 a13 a14 a15 k1⟩

/-! ### garland/garlandlaw06.MsgCalls -/
def pa6 : List VP := [.i .i64, .i .i64, .i .i64, .i .i64]
def sr6 : RShape := ⟨.b, [], none⟩
def toB6 : List Leaf → Option (Bool) := gB (fun b0 => gE (some b0))
def ofB6 (y : Bool) : List Leaf := [.b y]
theorem toB6_ok : ∀ ls b, toB6 ls = some b → ls = ofB6 b := by
  intro ls b h
  unfold toB6 at h
  obtain ⟨b0, _, rfl, h1⟩ := gB_ok h; obtain ⟨rfl, h2⟩ := gE_ok h1
  cases h2; rfl
def run6 {R : Type} : SF R := ⟨pa6, sr6, fun ls K => (gI (fun a0 => gI (fun a1 => gI (fun a2 => gI (fun a3 => gE (Option.bind (F6 FUEL a0 a1 a2 a3) fun y => K (ofB6 y))))))) ls⟩
def cuts6 : List (List Nat × Cut (Bool)) := []
noncomputable def X6 : Px (Bool) := ⟨T, Try.prog, lkF [(15, run15), (14, run14), (19, run19)], mkCuts 6 cuts6, altN, altN_ok⟩
theorem e6 (n : Nat) (a0 a1 a2 a3 : Int) : entF X6 8 6 pa6 (endK sr6 toB6) n [.i a0, .i a1, .i a2, .i a3] = F6 n a0 a1 a2 a3 := by kernel_rfl
theorem sp6 {n : Nat} (a0 a1 a2 a3 : Int) {y : Bool} (h : F6 n a0 a1 a2 a3 = some y) : SpecF T Try.prog 6 pa6 [.i a0, .i a1, .i a2, .i a3] sr6 (ofB6 y) :=
  fun_ok (X := X6) tok (sfok_of ⟨ok15, ok14, ok19, trivial⟩) mixed 6 8 cuts6 rfl toB6_ok trivial ((e6 n a0 a1 a2 a3).trans h)
theorem ok6 {R : Type} : SFone T Try.prog 6 (run6 : SF R) := by
  intro ls K r h
  simp only [run6] at h
  obtain ⟨a0, a1, a2, a3, _, rfl, h1⟩ := gI4_ok h; obtain ⟨rfl, h2⟩ := gE_ok h1
  obtain ⟨y, k1, k2⟩ := Option.bind_eq_some_iff.1 h2
  exact ⟨_, k2, sp6 a0 a1 a2 a3 k1⟩

/-! ### garland/garlandlaw06.MsgLists -/
def pa7 : List VP := [.sl false [.int .i64], .i .i64, .i .i64]
def sr7 : RShape := ⟨.b, [], none⟩
def toB7 : List Leaf → Option (Bool) := gB (fun b0 => gE (some b0))
def ofB7 (y : Bool) : List Leaf := [.b y]
theorem toB7_ok : ∀ ls b, toB7 ls = some b → ls = ofB7 b := by
  intro ls b h
  unfold toB7 at h
  obtain ⟨b0, _, rfl, h1⟩ := gB_ok h; obtain ⟨rfl, h2⟩ := gE_ok h1
  cases h2; rfl
def run7 {R : Type} : SF R := ⟨pa7, sr7, fun ls K => (gL [.int .i64] (fun a0 => gI (fun a1 => gI (fun a2 => gE (Option.bind (F7 FUEL a0 a1 a2) fun y => K (ofB7 y)))))) ls⟩
def sh7_0 : Shape := ⟨[(115, [(0, .sl false [.int .i64]), (1, .i .i64), (2, .i .i64), (7, .i .i64), (8, .b), (9, .i .i64)])], []⟩
def g7_0 (n : Nat) : List Leaf → Option (Bool) := gL [.int .i64] (fun x0 => gI (fun x1 => gI (fun x2 => gI (fun x3 => gB (fun x4 => gI (fun x5 => gE (F7_c0 n x0 x1 x2 x3 x4 x5)))))))
def sh7_1 : Shape := ⟨[(115, [(0, .sl false [.int .i64]), (1, .i .i64), (2, .i .i64), (7, .i .i64), (8, .b), (9, .i .i64), (10, .i .i64)])], []⟩
def g7_1 (n : Nat) : List Leaf → Option (Bool) := gL [.int .i64] (fun x0 => gI (fun x1 => gI (fun x2 => gI (fun x3 => gB (fun x4 => gI (fun x5 => gI (fun x6 => gE (F7_c1 n x0 x1 x2 x3 x4 x5 x6))))))))
def cuts7 : List (List Nat × Cut (Bool)) := [([1, 1, 1, 1, 0, 1, 0], ⟨sh7_0, g7_0⟩), ([1, 1, 1, 1, 0, 1, 0, 0, 1, 0, 0, 1, 1, 0], ⟨sh7_1, g7_1⟩)]
noncomputable def X7 : Px (Bool) := ⟨T, Try.prog, lkF [(14, run14), (29, run29), (19, run19), (28, run28)], mkCuts 7 cuts7, altN, altN_ok⟩
theorem e7_0 (n : Nat) (x0 : List (Int)) (x1 x2 x3 : Int) (x4 : Bool) (x5 : Int) : stepF X7 8 7 (endK sr7 toB7) [1, 1, 1, 1, 0, 1, 0] sh7_0 n [.l [.int .i64] x0, .i x1, .i x2, .i x3, .b x4, .i x5] = F7_c0 (n + 1) x0 x1 x2 x3 x4 x5 := by kernel_rfl
theorem e7_1 (n : Nat) (x0 : List (Int)) (x1 x2 x3 : Int) (x4 : Bool) (x5 x6 : Int) : stepF X7 8 7 (endK sr7 toB7) [1, 1, 1, 1, 0, 1, 0, 0, 1, 0, 0, 1, 1, 0] sh7_1 n [.l [.int .i64] x0, .i x1, .i x2, .i x3, .b x4, .i x5, .i x6] = F7_c1 (n + 1) x0 x1 x2 x3 x4 x5 x6 := by kernel_rfl
theorem e7 (n : Nat) (a0 : List (Int)) (a1 a2 : Int) : entF X7 8 7 pa7 (endK sr7 toB7) n [.l [.int .i64] a0, .i a1, .i a2] = F7 n a0 a1 a2 := by kernel_rfl
theorem c7_0 : CutOK X7 8 7 (endK sr7 toB7) [1, 1, 1, 1, 0, 1, 0] ⟨sh7_0, g7_0⟩ := by
  refine ⟨fun ls => ?_, fun n ls r h => ?_⟩
  · cases h : g7_0 0 ls with
    | none => exact h
    | some r =>
      unfold g7_0 at h; obtain ⟨x0, _, rfl, h1⟩ := gL_ok h; obtain ⟨x1, _, rfl, h2⟩ := gI_ok h1; obtain ⟨x2, _, rfl, h3⟩ := gI_ok h2; obtain ⟨x3, _, rfl, h4⟩ := gI_ok h3; obtain ⟨x4, _, rfl, h5⟩ := gB_ok h4; obtain ⟨x5, _, rfl, h6⟩ := gI_ok h5; obtain ⟨rfl, h7⟩ := gE_ok h6; simp only [F7_c0] at h7; cases h7
  · replace h : g7_0 (n + 1) ls = some r := h
    unfold g7_0 at h
    obtain ⟨x0, _, rfl, h1⟩ := gL_ok h; obtain ⟨x1, _, rfl, h2⟩ := gI_ok h1; obtain ⟨x2, _, rfl, h3⟩ := gI_ok h2; obtain ⟨x3, _, rfl, h4⟩ := gI_ok h3; obtain ⟨x4, _, rfl, h5⟩ := gB_ok h4; obtain ⟨x5, _, rfl, h6⟩ := gI_ok h5; obtain ⟨rfl, h7⟩ := gE_ok h6
    exact (e7_0 n x0 x1 x2 x3 x4 x5).trans h7
theorem c7_1 : CutOK X7 8 7 (endK sr7 toB7) [1, 1, 1, 1, 0, 1, 0, 0, 1, 0, 0, 1, 1, 0] ⟨sh7_1, g7_1⟩ := by
  refine ⟨fun ls => ?_, fun n ls r h => ?_⟩
  · cases h : g7_1 0 ls with
    | none => exact h
    | some r =>
      unfold g7_1 at h; obtain ⟨x0, _, rfl, h1⟩ := gL_ok h; obtain ⟨x1, _, rfl, h2⟩ := gI_ok h1; obtain ⟨x2, _, rfl, h3⟩ := gI_ok h2; obtain ⟨x3, _, rfl, h4⟩ := gI_ok h3; obtain ⟨x4, _, rfl, h5⟩ := gB_ok h4; obtain ⟨x5, _, rfl, h6⟩ := gI_ok h5; obtain ⟨x6, _, rfl, h7⟩ := gI_ok h6; obtain ⟨rfl, h8⟩ := gE_ok h7; simp only [F7_c1] at h8; cases h8
  · replace h : g7_1 (n + 1) ls = some r := h
    unfold g7_1 at h
    obtain ⟨x0, _, rfl, h1⟩ := gL_ok h; obtain ⟨x1, _, rfl, h2⟩ := gI_ok h1; obtain ⟨x2, _, rfl, h3⟩ := gI_ok h2; obtain ⟨x3, _, rfl, h4⟩ := gI_ok h3; obtain ⟨x4, _, rfl, h5⟩ := gB_ok h4; obtain ⟨x5, _, rfl, h6⟩ := gI_ok h5; obtain ⟨x6, _, rfl, h7⟩ := gI_ok h6; obtain ⟨rfl, h8⟩ := gE_ok h7
    exact (e7_1 n x0 x1 x2 x3 x4 x5 x6).trans h8
theorem sp7 {n : Nat} (a0 : List (Int)) (a1 a2 : Int) {y : Bool} (h : F7 n a0 a1 a2 = some y) : SpecF T Try.prog 7 pa7 [.l [.int .i64] a0, .i a1, .i a2] sr7 (ofB7 y) :=
  fun_ok (X := X7) tok (sfok_of ⟨ok14, ok29, ok19, ok28, trivial⟩) mixed 7 8 cuts7 rfl toB7_ok ⟨c7_0, c7_1, trivial⟩ ((e7 n a0 a1 a2).trans h)
theorem ok7 {R : Type} : SFone T Try.prog 7 (run7 : SF R) := by
  intro ls K r h
  simp only [run7] at h
  obtain ⟨a0, _, rfl, h1⟩ := gL_ok h; obtain ⟨a1, _, rfl, h2⟩ := gI_ok h1; obtain ⟨a2, _, rfl, h3⟩ := gI_ok h2; obtain ⟨rfl, h4⟩ := gE_ok h3
  obtain ⟨y, k1, k2⟩ := Option.bind_eq_some_iff.1 h4
  exact ⟨_, k2, sp7 a0 a1 a2 k1⟩

end Go.Proofs.Ythaomidjgadieaa
