/-
  The functions of this program, evaluated; each is as it is evaluated.
-/
import Derived.Test.YthaomidjgadieaaEvR
import Derived.Test.YthaomidjgadieaaEvY
import Derived.Test.YthaomidjgadieaaVsT
import Derived.KernelRfl
namespace Go.Proofs.Ythaomidjgadieaa
open Go Go.RowKit
set_option maxRecDepth 100000

theorem mixed : Try.prog.follows .mixedOrders = true := by kernel_rfl


/-! ### garland/garlandlaw06.great -/
def pa13 : List VP := [.agg [.i .u8, .i .i64, .i .i64, .i .i64, .i .i64, .b, .b, .i .i64, .i .i64, .sl false [.int .i64], .s, .i .i64, .i .i64, .b, .i .i64]]
def sr13 : RShape := ⟨.b, [], none⟩
def toB13 : List Leaf → Option (Bool) := gB (fun b0 => gE (some b0))
def ofB13 (y : Bool) : List Leaf := [.b y]
theorem toB13_ok : ∀ ls b, toB13 ls = some b → ls = ofB13 b := by
  intro ls b h
  unfold toB13 at h
  obtain ⟨b0, ls1, rfl, h1⟩ := gB_ok h; obtain ⟨rfl, h2⟩ := gE_ok h1
  cases h2; rfl
def run13 {R : Type} : SF R := ⟨pa13, sr13, fun ls K => (gI (fun a0 => gI (fun a1 => gI (fun a2 => gI (fun a3 => gI (fun a4 => gB (fun a5 => gB (fun a6 => gI (fun a7 => gI (fun a8 => gL [.int .i64] (fun a9 => gS (fun a10 => gI (fun a11 => gI (fun a12 => gB (fun a13 => gI (fun a14 => gE (Option.bind (F13 FUEL a0 a1 a2 a3 a4 a5 a6 a7 a8 a9 a10 a11 a12 a13 a14) fun y => K (ofB13 y)))))))))))))))))) ls⟩
def cuts13 : List (List Nat × Cut (Bool)) := []
noncomputable def X13 : Px (Bool) := ⟨T, Try.prog, lkF [], mkCuts 13 cuts13, altN, altN_ok⟩
theorem e13 (n : Nat) (a0 : Int) (a1 : Int) (a2 : Int) (a3 : Int) (a4 : Int) (a5 : Bool) (a6 : Bool) (a7 : Int) (a8 : Int) (a9 : List (Int)) (a10 : ByteArray) (a11 : Int) (a12 : Int) (a13 : Bool) (a14 : Int) : entF X13 8 13 pa13 (endK sr13 toB13) n [.i a0, .i a1, .i a2, .i a3, .i a4, .b a5, .b a6, .i a7, .i a8, .l [.int .i64] a9, .s a10, .i a11, .i a12, .b a13, .i a14] = F13 n a0 a1 a2 a3 a4 a5 a6 a7 a8 a9 a10 a11 a12 a13 a14 := by kernel_rfl
theorem sp13 {n : Nat} (a0 : Int) (a1 : Int) (a2 : Int) (a3 : Int) (a4 : Int) (a5 : Bool) (a6 : Bool) (a7 : Int) (a8 : Int) (a9 : List (Int)) (a10 : ByteArray) (a11 : Int) (a12 : Int) (a13 : Bool) (a14 : Int) {y : Bool} (h : F13 n a0 a1 a2 a3 a4 a5 a6 a7 a8 a9 a10 a11 a12 a13 a14 = some y) : SpecF T Try.prog 13 pa13 [.i a0, .i a1, .i a2, .i a3, .i a4, .b a5, .b a6, .i a7, .i a8, .l [.int .i64] a9, .s a10, .i a11, .i a12, .b a13, .i a14] sr13 (ofB13 y) :=
  fun_ok (X := X13) tok (sfok_of trivial) mixed 13 8 cuts13 rfl toB13_ok trivial ((e13 n a0 a1 a2 a3 a4 a5 a6 a7 a8 a9 a10 a11 a12 a13 a14).trans h)
theorem ok13 {R : Type} : SFone T Try.prog 13 (run13 : SF R) := by
  intro ls K r h
  simp only [run13] at h
  obtain ⟨a0, ls1, rfl, h1⟩ := gI_ok h; obtain ⟨a1, ls2, rfl, h2⟩ := gI_ok h1; obtain ⟨a2, ls3, rfl, h3⟩ := gI_ok h2; obtain ⟨a3, ls4, rfl, h4⟩ := gI_ok h3; obtain ⟨a4, ls5, rfl, h5⟩ := gI_ok h4; obtain ⟨a5, ls6, rfl, h6⟩ := gB_ok h5; obtain ⟨a6, ls7, rfl, h7⟩ := gB_ok h6; obtain ⟨a7, ls8, rfl, h8⟩ := gI_ok h7; obtain ⟨a8, ls9, rfl, h9⟩ := gI_ok h8; obtain ⟨a9, ls10, rfl, h10⟩ := gL_ok h9; obtain ⟨a10, ls11, rfl, h11⟩ := gS_ok h10; obtain ⟨a11, ls12, rfl, h12⟩ := gI_ok h11; obtain ⟨a12, ls13, rfl, h13⟩ := gI_ok h12; obtain ⟨a13, ls14, rfl, h14⟩ := gB_ok h13; obtain ⟨a14, ls15, rfl, h15⟩ := gI_ok h14; obtain ⟨rfl, h16⟩ := gE_ok h15
  obtain ⟨y, k1, k2⟩ := Option.bind_eq_some_iff.1 h16
  exact ⟨_, k2, sp13 a0 a1 a2 a3 a4 a5 a6 a7 a8 a9 a10 a11 a12 a13 a14 k1⟩

/-! ### garland/msg.isPlace -/
def pa49 : List VP := [.i .i64]
def sr49 : RShape := ⟨.b, [], none⟩
def toB49 : List Leaf → Option (Bool) := gB (fun b0 => gE (some b0))
def ofB49 (y : Bool) : List Leaf := [.b y]
theorem toB49_ok : ∀ ls b, toB49 ls = some b → ls = ofB49 b := by
  intro ls b h
  unfold toB49 at h
  obtain ⟨b0, ls1, rfl, h1⟩ := gB_ok h; obtain ⟨rfl, h2⟩ := gE_ok h1
  cases h2; rfl
def run49 {R : Type} : SF R := ⟨pa49, sr49, fun ls K => (gI (fun a0 => gE (Option.bind (F49 FUEL a0) fun y => K (ofB49 y)))) ls⟩
def cuts49 : List (List Nat × Cut (Bool)) := []
noncomputable def X49 : Px (Bool) := ⟨T, Try.prog, lkF [], mkCuts 49 cuts49, altN, altN_ok⟩
theorem e49 (n : Nat) (a0 : Int) : entF X49 8 49 pa49 (endK sr49 toB49) n [.i a0] = F49 n a0 := by kernel_rfl
theorem sp49 {n : Nat} (a0 : Int) {y : Bool} (h : F49 n a0 = some y) : SpecF T Try.prog 49 pa49 [.i a0] sr49 (ofB49 y) :=
  fun_ok (X := X49) tok (sfok_of trivial) mixed 49 8 cuts49 rfl toB49_ok trivial ((e49 n a0).trans h)
theorem ok49 {R : Type} : SFone T Try.prog 49 (run49 : SF R) := by
  intro ls K r h
  simp only [run49] at h
  obtain ⟨a0, ls1, rfl, h1⟩ := gI_ok h; obtain ⟨rfl, h2⟩ := gE_ok h1
  obtain ⟨y, k1, k2⟩ := Option.bind_eq_some_iff.1 h2
  exact ⟨_, k2, sp49 a0 k1⟩

/-! ### garland/msg.Call -/
def pa15 : List VP := [.i .i64, .i .i64]
def sr15 : RShape := ⟨.tup [.i .i64, .i .i64], [], none⟩
def toB15 : List Leaf → Option (Int × Int) := gI (fun b0 => gI (fun b1 => gE (some (b0, b1))))
def ofB15 (y : Int × Int) : List Leaf := [.i y.1, .i y.2]
theorem toB15_ok : ∀ ls b, toB15 ls = some b → ls = ofB15 b := by
  intro ls b h
  unfold toB15 at h
  obtain ⟨b0, ls1, rfl, h1⟩ := gI_ok h; obtain ⟨b1, ls2, rfl, h2⟩ := gI_ok h1; obtain ⟨rfl, h3⟩ := gE_ok h2
  cases h3; rfl
def run15 {R : Type} : SF R := ⟨pa15, sr15, fun ls K => (gI (fun a0 => gI (fun a1 => gE (Option.bind (F15 FUEL a0 a1) fun y => K (ofB15 y))))) ls⟩
def sh15_0 : Shape := ⟨[(21, [])], []⟩
def g15_0 (n : Nat) : List Leaf → Option (Int × Int) := gE (F15_c0 n )
def cuts15 : List (List Nat × Cut (Int × Int)) := [([1, 10], ⟨sh15_0, g15_0⟩)]
noncomputable def X15 : Px (Int × Int) := ⟨T, Try.prog, lkF [(49, run49)], mkCuts 15 cuts15, altN, altN_ok⟩
theorem e15_0 (n : Nat) : stepF X15 8 15 (endK sr15 toB15) [1, 10] sh15_0 n [] = F15_c0 (n + 1)  := by kernel_rfl
theorem e15 (n : Nat) (a0 : Int) (a1 : Int) : entF X15 8 15 pa15 (endK sr15 toB15) n [.i a0, .i a1] = F15 n a0 a1 := by kernel_rfl
theorem c15_0 : CutOK X15 8 15 (endK sr15 toB15) [1, 10] ⟨sh15_0, g15_0⟩ := by
  refine ⟨fun ls => ?_, fun n ls r h => ?_⟩
  · cases h : g15_0 0 ls with
    | none => exact h
    | some r =>
      unfold g15_0 at h; obtain ⟨rfl, h1⟩ := gE_ok h; simp only [F15_c0] at h1; cases h1
  · replace h : g15_0 (n + 1) ls = some r := h
    unfold g15_0 at h
    obtain ⟨rfl, h1⟩ := gE_ok h
    exact (e15_0 n ).trans h1
theorem sp15 {n : Nat} (a0 : Int) (a1 : Int) {y : Int × Int} (h : F15 n a0 a1 = some y) : SpecF T Try.prog 15 pa15 [.i a0, .i a1] sr15 (ofB15 y) :=
  fun_ok (X := X15) tok (sfok_of ⟨ok49, trivial⟩) mixed 15 8 cuts15 rfl toB15_ok ⟨c15_0, trivial⟩ ((e15 n a0 a1).trans h)
theorem ok15 {R : Type} : SFone T Try.prog 15 (run15 : SF R) := by
  intro ls K r h
  simp only [run15] at h
  obtain ⟨a0, ls1, rfl, h1⟩ := gI_ok h; obtain ⟨a1, ls2, rfl, h2⟩ := gI_ok h1; obtain ⟨rfl, h3⟩ := gE_ok h2
  obtain ⟨y, k1, k2⟩ := Option.bind_eq_some_iff.1 h3
  exact ⟨_, k2, sp15 a0 a1 k1⟩

/-! ### garland/msg.Asks -/
def pa21 : List VP := [.agg [.i .u8, .i .i64, .i .i64, .i .i64, .i .i64, .b, .b, .i .i64, .i .i64, .sl false [.int .i64], .s, .i .i64, .i .i64, .b, .i .i64]]
def sr21 : RShape := ⟨.b, [], none⟩
def toB21 : List Leaf → Option (Bool) := gB (fun b0 => gE (some b0))
def ofB21 (y : Bool) : List Leaf := [.b y]
theorem toB21_ok : ∀ ls b, toB21 ls = some b → ls = ofB21 b := by
  intro ls b h
  unfold toB21 at h
  obtain ⟨b0, ls1, rfl, h1⟩ := gB_ok h; obtain ⟨rfl, h2⟩ := gE_ok h1
  cases h2; rfl
def run21 {R : Type} : SF R := ⟨pa21, sr21, fun ls K => (gI (fun a0 => gI (fun a1 => gI (fun a2 => gI (fun a3 => gI (fun a4 => gB (fun a5 => gB (fun a6 => gI (fun a7 => gI (fun a8 => gL [.int .i64] (fun a9 => gS (fun a10 => gI (fun a11 => gI (fun a12 => gB (fun a13 => gI (fun a14 => gE (Option.bind (F21 FUEL a0 a1 a2 a3 a4 a5 a6 a7 a8 a9 a10 a11 a12 a13 a14) fun y => K (ofB21 y)))))))))))))))))) ls⟩
def cuts21 : List (List Nat × Cut (Bool)) := []
noncomputable def X21 : Px (Bool) := ⟨T, Try.prog, lkF [], mkCuts 21 cuts21, altN, altN_ok⟩
theorem e21 (n : Nat) (a0 : Int) (a1 : Int) (a2 : Int) (a3 : Int) (a4 : Int) (a5 : Bool) (a6 : Bool) (a7 : Int) (a8 : Int) (a9 : List (Int)) (a10 : ByteArray) (a11 : Int) (a12 : Int) (a13 : Bool) (a14 : Int) : entF X21 8 21 pa21 (endK sr21 toB21) n [.i a0, .i a1, .i a2, .i a3, .i a4, .b a5, .b a6, .i a7, .i a8, .l [.int .i64] a9, .s a10, .i a11, .i a12, .b a13, .i a14] = F21 n a0 a1 a2 a3 a4 a5 a6 a7 a8 a9 a10 a11 a12 a13 a14 := by kernel_rfl
theorem sp21 {n : Nat} (a0 : Int) (a1 : Int) (a2 : Int) (a3 : Int) (a4 : Int) (a5 : Bool) (a6 : Bool) (a7 : Int) (a8 : Int) (a9 : List (Int)) (a10 : ByteArray) (a11 : Int) (a12 : Int) (a13 : Bool) (a14 : Int) {y : Bool} (h : F21 n a0 a1 a2 a3 a4 a5 a6 a7 a8 a9 a10 a11 a12 a13 a14 = some y) : SpecF T Try.prog 21 pa21 [.i a0, .i a1, .i a2, .i a3, .i a4, .b a5, .b a6, .i a7, .i a8, .l [.int .i64] a9, .s a10, .i a11, .i a12, .b a13, .i a14] sr21 (ofB21 y) :=
  fun_ok (X := X21) tok (sfok_of trivial) mixed 21 8 cuts21 rfl toB21_ok trivial ((e21 n a0 a1 a2 a3 a4 a5 a6 a7 a8 a9 a10 a11 a12 a13 a14).trans h)
theorem ok21 {R : Type} : SFone T Try.prog 21 (run21 : SF R) := by
  intro ls K r h
  simp only [run21] at h
  obtain ⟨a0, ls1, rfl, h1⟩ := gI_ok h; obtain ⟨a1, ls2, rfl, h2⟩ := gI_ok h1; obtain ⟨a2, ls3, rfl, h3⟩ := gI_ok h2; obtain ⟨a3, ls4, rfl, h4⟩ := gI_ok h3; obtain ⟨a4, ls5, rfl, h5⟩ := gI_ok h4; obtain ⟨a5, ls6, rfl, h6⟩ := gB_ok h5; obtain ⟨a6, ls7, rfl, h7⟩ := gB_ok h6; obtain ⟨a7, ls8, rfl, h8⟩ := gI_ok h7; obtain ⟨a8, ls9, rfl, h9⟩ := gI_ok h8; obtain ⟨a9, ls10, rfl, h10⟩ := gL_ok h9; obtain ⟨a10, ls11, rfl, h11⟩ := gS_ok h10; obtain ⟨a11, ls12, rfl, h12⟩ := gI_ok h11; obtain ⟨a12, ls13, rfl, h13⟩ := gI_ok h12; obtain ⟨a13, ls14, rfl, h14⟩ := gB_ok h13; obtain ⟨a14, ls15, rfl, h15⟩ := gI_ok h14; obtain ⟨rfl, h16⟩ := gE_ok h15
  obtain ⟨y, k1, k2⟩ := Option.bind_eq_some_iff.1 h16
  exact ⟨_, k2, sp21 a0 a1 a2 a3 a4 a5 a6 a7 a8 a9 a10 a11 a12 a13 a14 k1⟩

/-! ### garland/msg.Tell -/
def pa26 : List VP := [.agg [.i .u8, .i .i64, .i .i64, .i .i64, .i .i64, .b, .b, .i .i64, .i .i64, .sl false [.int .i64], .s, .i .i64, .i .i64, .b, .i .i64]]
def sr26 : RShape := ⟨.agg [.i .u8, .i .i64, .i .i64, .i .i64, .i .i64, .b, .b, .i .i64, .i .i64, .nil, .s, .i .i64, .i .i64, .b, .i .i64], [], none⟩
def toB26 : List Leaf → Option (Si5b2i2si2bi) := gI (fun b0 => gI (fun b1 => gI (fun b2 => gI (fun b3 => gI (fun b4 => gB (fun b5 => gB (fun b6 => gI (fun b7 => gI (fun b8 => gS (fun b9 => gI (fun b10 => gI (fun b11 => gB (fun b12 => gI (fun b13 => gE (some ⟨b0, b1, b2, b3, b4, b5, b6, b7, b8, b9, b10, b11, b12, b13⟩)))))))))))))))
def ofB26 (y : Si5b2i2si2bi) : List Leaf := [.i y.q0, .i y.q1, .i y.q2, .i y.q3, .i y.q4, .b y.q5, .b y.q6, .i y.q7, .i y.q8, .s y.q9, .i y.q10, .i y.q11, .b y.q12, .i y.q13]
theorem toB26_ok : ∀ ls b, toB26 ls = some b → ls = ofB26 b := by
  intro ls b h
  unfold toB26 at h
  obtain ⟨b0, ls1, rfl, h1⟩ := gI_ok h; obtain ⟨b1, ls2, rfl, h2⟩ := gI_ok h1; obtain ⟨b2, ls3, rfl, h3⟩ := gI_ok h2; obtain ⟨b3, ls4, rfl, h4⟩ := gI_ok h3; obtain ⟨b4, ls5, rfl, h5⟩ := gI_ok h4; obtain ⟨b5, ls6, rfl, h6⟩ := gB_ok h5; obtain ⟨b6, ls7, rfl, h7⟩ := gB_ok h6; obtain ⟨b7, ls8, rfl, h8⟩ := gI_ok h7; obtain ⟨b8, ls9, rfl, h9⟩ := gI_ok h8; obtain ⟨b9, ls10, rfl, h10⟩ := gS_ok h9; obtain ⟨b10, ls11, rfl, h11⟩ := gI_ok h10; obtain ⟨b11, ls12, rfl, h12⟩ := gI_ok h11; obtain ⟨b12, ls13, rfl, h13⟩ := gB_ok h12; obtain ⟨b13, ls14, rfl, h14⟩ := gI_ok h13; obtain ⟨rfl, h15⟩ := gE_ok h14
  cases h15; rfl
def run26 {R : Type} : SF R := ⟨pa26, sr26, fun ls K => (gI (fun a0 => gI (fun a1 => gI (fun a2 => gI (fun a3 => gI (fun a4 => gB (fun a5 => gB (fun a6 => gI (fun a7 => gI (fun a8 => gL [.int .i64] (fun a9 => gS (fun a10 => gI (fun a11 => gI (fun a12 => gB (fun a13 => gI (fun a14 => gE (Option.bind (F26 FUEL a0 a1 a2 a3 a4 a5 a6 a7 a8 a9 a10 a11 a12 a13 a14) fun y => K (ofB26 y)))))))))))))))))) ls⟩
def cuts26 : List (List Nat × Cut (Si5b2i2si2bi)) := []
noncomputable def X26 : Px (Si5b2i2si2bi) := ⟨T, Try.prog, lkF [(21, run21)], mkCuts 26 cuts26, altN, altN_ok⟩
theorem e26 (n : Nat) (a0 : Int) (a1 : Int) (a2 : Int) (a3 : Int) (a4 : Int) (a5 : Bool) (a6 : Bool) (a7 : Int) (a8 : Int) (a9 : List (Int)) (a10 : ByteArray) (a11 : Int) (a12 : Int) (a13 : Bool) (a14 : Int) : entF X26 8 26 pa26 (endK sr26 toB26) n [.i a0, .i a1, .i a2, .i a3, .i a4, .b a5, .b a6, .i a7, .i a8, .l [.int .i64] a9, .s a10, .i a11, .i a12, .b a13, .i a14] = F26 n a0 a1 a2 a3 a4 a5 a6 a7 a8 a9 a10 a11 a12 a13 a14 := by kernel_rfl
theorem sp26 {n : Nat} (a0 : Int) (a1 : Int) (a2 : Int) (a3 : Int) (a4 : Int) (a5 : Bool) (a6 : Bool) (a7 : Int) (a8 : Int) (a9 : List (Int)) (a10 : ByteArray) (a11 : Int) (a12 : Int) (a13 : Bool) (a14 : Int) {y : Si5b2i2si2bi} (h : F26 n a0 a1 a2 a3 a4 a5 a6 a7 a8 a9 a10 a11 a12 a13 a14 = some y) : SpecF T Try.prog 26 pa26 [.i a0, .i a1, .i a2, .i a3, .i a4, .b a5, .b a6, .i a7, .i a8, .l [.int .i64] a9, .s a10, .i a11, .i a12, .b a13, .i a14] sr26 (ofB26 y) :=
  fun_ok (X := X26) tok (sfok_of ⟨ok21, trivial⟩) mixed 26 8 cuts26 rfl toB26_ok trivial ((e26 n a0 a1 a2 a3 a4 a5 a6 a7 a8 a9 a10 a11 a12 a13 a14).trans h)
theorem ok26 {R : Type} : SFone T Try.prog 26 (run26 : SF R) := by
  intro ls K r h
  simp only [run26] at h
  obtain ⟨a0, ls1, rfl, h1⟩ := gI_ok h; obtain ⟨a1, ls2, rfl, h2⟩ := gI_ok h1; obtain ⟨a2, ls3, rfl, h3⟩ := gI_ok h2; obtain ⟨a3, ls4, rfl, h4⟩ := gI_ok h3; obtain ⟨a4, ls5, rfl, h5⟩ := gI_ok h4; obtain ⟨a5, ls6, rfl, h6⟩ := gB_ok h5; obtain ⟨a6, ls7, rfl, h7⟩ := gB_ok h6; obtain ⟨a7, ls8, rfl, h8⟩ := gI_ok h7; obtain ⟨a8, ls9, rfl, h9⟩ := gI_ok h8; obtain ⟨a9, ls10, rfl, h10⟩ := gL_ok h9; obtain ⟨a10, ls11, rfl, h11⟩ := gS_ok h10; obtain ⟨a11, ls12, rfl, h12⟩ := gI_ok h11; obtain ⟨a12, ls13, rfl, h13⟩ := gI_ok h12; obtain ⟨a13, ls14, rfl, h14⟩ := gB_ok h13; obtain ⟨a14, ls15, rfl, h15⟩ := gI_ok h14; obtain ⟨rfl, h16⟩ := gE_ok h15
  obtain ⟨y, k1, k2⟩ := Option.bind_eq_some_iff.1 h16
  exact ⟨_, k2, sp26 a0 a1 a2 a3 a4 a5 a6 a7 a8 a9 a10 a11 a12 a13 a14 k1⟩

/-! ### garland/msg.isKey -/
def pa51 : List VP := [.s]
def sr51 : RShape := ⟨.b, [], none⟩
def toB51 : List Leaf → Option (Bool) := gB (fun b0 => gE (some b0))
def ofB51 (y : Bool) : List Leaf := [.b y]
theorem toB51_ok : ∀ ls b, toB51 ls = some b → ls = ofB51 b := by
  intro ls b h
  unfold toB51 at h
  obtain ⟨b0, ls1, rfl, h1⟩ := gB_ok h; obtain ⟨rfl, h2⟩ := gE_ok h1
  cases h2; rfl
def run51 {R : Type} : SF R := ⟨pa51, sr51, fun ls K => (gS (fun a0 => gE (Option.bind (F51 FUEL a0) fun y => K (ofB51 y)))) ls⟩
def cuts51 : List (List Nat × Cut (Bool)) := []
noncomputable def X51 : Px (Bool) := ⟨T, Try.prog, lkF [], mkCuts 51 cuts51, altN, altN_ok⟩
theorem e51 (n : Nat) (a0 : ByteArray) : entF X51 8 51 pa51 (endK sr51 toB51) n [.s a0] = F51 n a0 := by kernel_rfl
theorem sp51 {n : Nat} (a0 : ByteArray) {y : Bool} (h : F51 n a0 = some y) : SpecF T Try.prog 51 pa51 [.s a0] sr51 (ofB51 y) :=
  fun_ok (X := X51) tok (sfok_of trivial) mixed 51 8 cuts51 rfl toB51_ok trivial ((e51 n a0).trans h)
theorem ok51 {R : Type} : SFone T Try.prog 51 (run51 : SF R) := by
  intro ls K r h
  simp only [run51] at h
  obtain ⟨a0, ls1, rfl, h1⟩ := gS_ok h; obtain ⟨rfl, h2⟩ := gE_ok h1
  obtain ⟨y, k1, k2⟩ := Option.bind_eq_some_iff.1 h2
  exact ⟨_, k2, sp51 a0 k1⟩

/-! ### garland/msg.isValue -/
def pa52 : List VP := [.i .i64]
def sr52 : RShape := ⟨.b, [], none⟩
def toB52 : List Leaf → Option (Bool) := gB (fun b0 => gE (some b0))
def ofB52 (y : Bool) : List Leaf := [.b y]
theorem toB52_ok : ∀ ls b, toB52 ls = some b → ls = ofB52 b := by
  intro ls b h
  unfold toB52 at h
  obtain ⟨b0, ls1, rfl, h1⟩ := gB_ok h; obtain ⟨rfl, h2⟩ := gE_ok h1
  cases h2; rfl
def run52 {R : Type} : SF R := ⟨pa52, sr52, fun ls K => (gI (fun a0 => gE (Option.bind (F52 FUEL a0) fun y => K (ofB52 y)))) ls⟩
def cuts52 : List (List Nat × Cut (Bool)) := []
noncomputable def X52 : Px (Bool) := ⟨T, Try.prog, lkF [], mkCuts 52 cuts52, altN, altN_ok⟩
theorem e52 (n : Nat) (a0 : Int) : entF X52 8 52 pa52 (endK sr52 toB52) n [.i a0] = F52 n a0 := by kernel_rfl
theorem sp52 {n : Nat} (a0 : Int) {y : Bool} (h : F52 n a0 = some y) : SpecF T Try.prog 52 pa52 [.i a0] sr52 (ofB52 y) :=
  fun_ok (X := X52) tok (sfok_of trivial) mixed 52 8 cuts52 rfl toB52_ok trivial ((e52 n a0).trans h)
theorem ok52 {R : Type} : SFone T Try.prog 52 (run52 : SF R) := by
  intro ls K r h
  simp only [run52] at h
  obtain ⟨a0, ls1, rfl, h1⟩ := gI_ok h; obtain ⟨rfl, h2⟩ := gE_ok h1
  obtain ⟨y, k1, k2⟩ := Option.bind_eq_some_iff.1 h2
  exact ⟨_, k2, sp52 a0 k1⟩

/-! ### garland/msg.Pair -/
def pa17 : List VP := [.agg [.s, .i .i64, .i .i64, .b]]
def sr17 : RShape := ⟨.b, [], none⟩
def toB17 : List Leaf → Option (Bool) := gB (fun b0 => gE (some b0))
def ofB17 (y : Bool) : List Leaf := [.b y]
theorem toB17_ok : ∀ ls b, toB17 ls = some b → ls = ofB17 b := by
  intro ls b h
  unfold toB17 at h
  obtain ⟨b0, ls1, rfl, h1⟩ := gB_ok h; obtain ⟨rfl, h2⟩ := gE_ok h1
  cases h2; rfl
def run17 {R : Type} : SF R := ⟨pa17, sr17, fun ls K => (gS (fun a0 => gI (fun a1 => gI (fun a2 => gB (fun a3 => gE (Option.bind (F17 FUEL a0 a1 a2 a3) fun y => K (ofB17 y))))))) ls⟩
def cuts17 : List (List Nat × Cut (Bool)) := []
noncomputable def X17 : Px (Bool) := ⟨T, Try.prog, lkF [(51, run51), (52, run52)], mkCuts 17 cuts17, altN, altN_ok⟩
theorem e17 (n : Nat) (a0 : ByteArray) (a1 : Int) (a2 : Int) (a3 : Bool) : entF X17 8 17 pa17 (endK sr17 toB17) n [.s a0, .i a1, .i a2, .b a3] = F17 n a0 a1 a2 a3 := by kernel_rfl
theorem sp17 {n : Nat} (a0 : ByteArray) (a1 : Int) (a2 : Int) (a3 : Bool) {y : Bool} (h : F17 n a0 a1 a2 a3 = some y) : SpecF T Try.prog 17 pa17 [.s a0, .i a1, .i a2, .b a3] sr17 (ofB17 y) :=
  fun_ok (X := X17) tok (sfok_of ⟨ok51, ok52, trivial⟩) mixed 17 8 cuts17 rfl toB17_ok trivial ((e17 n a0 a1 a2 a3).trans h)
theorem ok17 {R : Type} : SFone T Try.prog 17 (run17 : SF R) := by
  intro ls K r h
  simp only [run17] at h
  obtain ⟨a0, ls1, rfl, h1⟩ := gS_ok h; obtain ⟨a1, ls2, rfl, h2⟩ := gI_ok h1; obtain ⟨a2, ls3, rfl, h3⟩ := gI_ok h2; obtain ⟨a3, ls4, rfl, h4⟩ := gB_ok h3; obtain ⟨rfl, h5⟩ := gE_ok h4
  obtain ⟨y, k1, k2⟩ := Option.bind_eq_some_iff.1 h5
  exact ⟨_, k2, sp17 a0 a1 a2 a3 k1⟩

/-! ### slices.Index[[]int,int] -/
def pa77 : List VP := [.sl false [.int .i64], .i .i64]
def sr77 : RShape := ⟨.i .i64, [], none⟩
def toB77 : List Leaf → Option (Int) := gI (fun b0 => gE (some b0))
def ofB77 (y : Int) : List Leaf := [.i y]
theorem toB77_ok : ∀ ls b, toB77 ls = some b → ls = ofB77 b := by
  intro ls b h
  unfold toB77 at h
  obtain ⟨b0, ls1, rfl, h1⟩ := gI_ok h; obtain ⟨rfl, h2⟩ := gE_ok h1
  cases h2; rfl
def run77 {R : Type} : SF R := ⟨pa77, sr77, fun ls K => (gL [.int .i64] (fun a0 => gI (fun a1 => gE (Option.bind (F77 FUEL a0 a1) fun y => K (ofB77 y))))) ls⟩
def sh77_0 : Shape := ⟨[(19, [(0, .sl false [.int .i64]), (1, .i .i64), (7, .i .i64), (8, .i .i64)])], []⟩
def g77_0 (n : Nat) : List Leaf → Option (Int) := gL [.int .i64] (fun x0 => gI (fun x1 => gI (fun x2 => gI (fun x3 => gE (F77_c0 n x0 x1 x2 x3)))))
def cuts77 : List (List Nat × Cut (Int)) := [([1, 0, 1, 0], ⟨sh77_0, g77_0⟩)]
noncomputable def X77 : Px (Int) := ⟨T, Try.prog, lkF [], mkCuts 77 cuts77, altN, altN_ok⟩
theorem e77_0 (n : Nat) (x0 : List (Int)) (x1 : Int) (x2 : Int) (x3 : Int) : stepF X77 8 77 (endK sr77 toB77) [1, 0, 1, 0] sh77_0 n [.l [.int .i64] x0, .i x1, .i x2, .i x3] = F77_c0 (n + 1) x0 x1 x2 x3 := by kernel_rfl
theorem e77 (n : Nat) (a0 : List (Int)) (a1 : Int) : entF X77 8 77 pa77 (endK sr77 toB77) n [.l [.int .i64] a0, .i a1] = F77 n a0 a1 := by kernel_rfl
theorem c77_0 : CutOK X77 8 77 (endK sr77 toB77) [1, 0, 1, 0] ⟨sh77_0, g77_0⟩ := by
  refine ⟨fun ls => ?_, fun n ls r h => ?_⟩
  · cases h : g77_0 0 ls with
    | none => exact h
    | some r =>
      unfold g77_0 at h; obtain ⟨x0, ls1, rfl, h1⟩ := gL_ok h; obtain ⟨x1, ls2, rfl, h2⟩ := gI_ok h1; obtain ⟨x2, ls3, rfl, h3⟩ := gI_ok h2; obtain ⟨x3, ls4, rfl, h4⟩ := gI_ok h3; obtain ⟨rfl, h5⟩ := gE_ok h4; simp only [F77_c0] at h5; cases h5
  · replace h : g77_0 (n + 1) ls = some r := h
    unfold g77_0 at h
    obtain ⟨x0, ls1, rfl, h1⟩ := gL_ok h; obtain ⟨x1, ls2, rfl, h2⟩ := gI_ok h1; obtain ⟨x2, ls3, rfl, h3⟩ := gI_ok h2; obtain ⟨x3, ls4, rfl, h4⟩ := gI_ok h3; obtain ⟨rfl, h5⟩ := gE_ok h4
    exact (e77_0 n x0 x1 x2 x3).trans h5
theorem sp77 {n : Nat} (a0 : List (Int)) (a1 : Int) {y : Int} (h : F77 n a0 a1 = some y) : SpecF T Try.prog 77 pa77 [.l [.int .i64] a0, .i a1] sr77 (ofB77 y) :=
  fun_ok (X := X77) tok (sfok_of trivial) mixed 77 8 cuts77 rfl toB77_ok ⟨c77_0, trivial⟩ ((e77 n a0 a1).trans h)
theorem ok77 {R : Type} : SFone T Try.prog 77 (run77 : SF R) := by
  intro ls K r h
  simp only [run77] at h
  obtain ⟨a0, ls1, rfl, h1⟩ := gL_ok h; obtain ⟨a1, ls2, rfl, h2⟩ := gI_ok h1; obtain ⟨rfl, h3⟩ := gE_ok h2
  obtain ⟨y, k1, k2⟩ := Option.bind_eq_some_iff.1 h3
  exact ⟨_, k2, sp77 a0 a1 k1⟩

/-! ### slices.Contains[[]int,int] -/
def pa72 : List VP := [.sl false [.int .i64], .i .i64]
def sr72 : RShape := ⟨.b, [], none⟩
def toB72 : List Leaf → Option (Bool) := gB (fun b0 => gE (some b0))
def ofB72 (y : Bool) : List Leaf := [.b y]
theorem toB72_ok : ∀ ls b, toB72 ls = some b → ls = ofB72 b := by
  intro ls b h
  unfold toB72 at h
  obtain ⟨b0, ls1, rfl, h1⟩ := gB_ok h; obtain ⟨rfl, h2⟩ := gE_ok h1
  cases h2; rfl
def run72 {R : Type} : SF R := ⟨pa72, sr72, fun ls K => (gL [.int .i64] (fun a0 => gI (fun a1 => gE (Option.bind (F72 FUEL a0 a1) fun y => K (ofB72 y))))) ls⟩
def cuts72 : List (List Nat × Cut (Bool)) := []
noncomputable def X72 : Px (Bool) := ⟨T, Try.prog, lkF [(77, run77)], mkCuts 72 cuts72, altN, altN_ok⟩
theorem e72 (n : Nat) (a0 : List (Int)) (a1 : Int) : entF X72 8 72 pa72 (endK sr72 toB72) n [.l [.int .i64] a0, .i a1] = F72 n a0 a1 := by kernel_rfl
theorem sp72 {n : Nat} (a0 : List (Int)) (a1 : Int) {y : Bool} (h : F72 n a0 a1 = some y) : SpecF T Try.prog 72 pa72 [.l [.int .i64] a0, .i a1] sr72 (ofB72 y) :=
  fun_ok (X := X72) tok (sfok_of ⟨ok77, trivial⟩) mixed 72 8 cuts72 rfl toB72_ok trivial ((e72 n a0 a1).trans h)
theorem ok72 {R : Type} : SFone T Try.prog 72 (run72 : SF R) := by
  intro ls K r h
  simp only [run72] at h
  obtain ⟨a0, ls1, rfl, h1⟩ := gL_ok h; obtain ⟨a1, ls2, rfl, h2⟩ := gI_ok h1; obtain ⟨rfl, h3⟩ := gE_ok h2
  obtain ⟨y, k1, k2⟩ := Option.bind_eq_some_iff.1 h3
  exact ⟨_, k2, sp72 a0 a1 k1⟩

/-! ### garland/msg.apart -/
def pa65 : List VP := [.i .i64, .sl false [.int .i64]]
def sr65 : RShape := ⟨.b, [], none⟩
def toB65 : List Leaf → Option (Bool) := gB (fun b0 => gE (some b0))
def ofB65 (y : Bool) : List Leaf := [.b y]
theorem toB65_ok : ∀ ls b, toB65 ls = some b → ls = ofB65 b := by
  intro ls b h
  unfold toB65 at h
  obtain ⟨b0, ls1, rfl, h1⟩ := gB_ok h; obtain ⟨rfl, h2⟩ := gE_ok h1
  cases h2; rfl
def run65 {R : Type} : SF R := ⟨pa65, sr65, fun ls K => (gI (fun a0 => gL [.int .i64] (fun a1 => gE (Option.bind (F65 FUEL a0 a1) fun y => K (ofB65 y))))) ls⟩
def sh65_0 : Shape := ⟨[(25, [(0, .i .i64), (1, .sl false [.int .i64]), (7, .sl false [.int .i64]), (8, .i .i64), (9, .i .i64)])], []⟩
def g65_0 (n : Nat) : List Leaf → Option (Bool) := gI (fun x0 => gL [.int .i64] (fun x1 => gL [.int .i64] (fun x2 => gI (fun x3 => gI (fun x4 => gE (F65_c0 n x0 x1 x2 x3 x4))))))
def cuts65 : List (List Nat × Cut (Bool)) := [([1, 0, 1, 0], ⟨sh65_0, g65_0⟩)]
noncomputable def X65 : Px (Bool) := ⟨T, Try.prog, lkF [(72, run72)], mkCuts 65 cuts65, altN, altN_ok⟩
theorem e65_0 (n : Nat) (x0 : Int) (x1 : List (Int)) (x2 : List (Int)) (x3 : Int) (x4 : Int) : stepF X65 8 65 (endK sr65 toB65) [1, 0, 1, 0] sh65_0 n [.i x0, .l [.int .i64] x1, .l [.int .i64] x2, .i x3, .i x4] = F65_c0 (n + 1) x0 x1 x2 x3 x4 := by kernel_rfl
theorem e65 (n : Nat) (a0 : Int) (a1 : List (Int)) : entF X65 8 65 pa65 (endK sr65 toB65) n [.i a0, .l [.int .i64] a1] = F65 n a0 a1 := by kernel_rfl
theorem c65_0 : CutOK X65 8 65 (endK sr65 toB65) [1, 0, 1, 0] ⟨sh65_0, g65_0⟩ := by
  refine ⟨fun ls => ?_, fun n ls r h => ?_⟩
  · cases h : g65_0 0 ls with
    | none => exact h
    | some r =>
      unfold g65_0 at h; obtain ⟨x0, ls1, rfl, h1⟩ := gI_ok h; obtain ⟨x1, ls2, rfl, h2⟩ := gL_ok h1; obtain ⟨x2, ls3, rfl, h3⟩ := gL_ok h2; obtain ⟨x3, ls4, rfl, h4⟩ := gI_ok h3; obtain ⟨x4, ls5, rfl, h5⟩ := gI_ok h4; obtain ⟨rfl, h6⟩ := gE_ok h5; simp only [F65_c0] at h6; cases h6
  · replace h : g65_0 (n + 1) ls = some r := h
    unfold g65_0 at h
    obtain ⟨x0, ls1, rfl, h1⟩ := gI_ok h; obtain ⟨x1, ls2, rfl, h2⟩ := gL_ok h1; obtain ⟨x2, ls3, rfl, h3⟩ := gL_ok h2; obtain ⟨x3, ls4, rfl, h4⟩ := gI_ok h3; obtain ⟨x4, ls5, rfl, h5⟩ := gI_ok h4; obtain ⟨rfl, h6⟩ := gE_ok h5
    exact (e65_0 n x0 x1 x2 x3 x4).trans h6
theorem sp65 {n : Nat} (a0 : Int) (a1 : List (Int)) {y : Bool} (h : F65 n a0 a1 = some y) : SpecF T Try.prog 65 pa65 [.i a0, .l [.int .i64] a1] sr65 (ofB65 y) :=
  fun_ok (X := X65) tok (sfok_of ⟨ok72, trivial⟩) mixed 65 8 cuts65 rfl toB65_ok ⟨c65_0, trivial⟩ ((e65 n a0 a1).trans h)
theorem ok65 {R : Type} : SFone T Try.prog 65 (run65 : SF R) := by
  intro ls K r h
  simp only [run65] at h
  obtain ⟨a0, ls1, rfl, h1⟩ := gI_ok h; obtain ⟨a1, ls2, rfl, h2⟩ := gL_ok h1; obtain ⟨rfl, h3⟩ := gE_ok h2
  obtain ⟨y, k1, k2⟩ := Option.bind_eq_some_iff.1 h3
  exact ⟨_, k2, sp65 a0 a1 k1⟩

/-! ### garland/msg.holds -/
def pa53 : List VP := [.agg [.i .u8, .i .i64, .i .i64, .i .i64, .i .i64, .b, .b, .i .i64, .i .i64, .sl false [.int .i64], .s, .i .i64, .i .i64, .b, .i .i64]]
def sr53 : RShape := ⟨.b, [], none⟩
def toB53 : List Leaf → Option (Bool) := gB (fun b0 => gE (some b0))
def ofB53 (y : Bool) : List Leaf := [.b y]
theorem toB53_ok : ∀ ls b, toB53 ls = some b → ls = ofB53 b := by
  intro ls b h
  unfold toB53 at h
  obtain ⟨b0, ls1, rfl, h1⟩ := gB_ok h; obtain ⟨rfl, h2⟩ := gE_ok h1
  cases h2; rfl
def run53 {R : Type} : SF R := ⟨pa53, sr53, fun ls K => (gI (fun a0 => gI (fun a1 => gI (fun a2 => gI (fun a3 => gI (fun a4 => gB (fun a5 => gB (fun a6 => gI (fun a7 => gI (fun a8 => gL [.int .i64] (fun a9 => gS (fun a10 => gI (fun a11 => gI (fun a12 => gB (fun a13 => gI (fun a14 => gE (Option.bind (F53 FUEL a0 a1 a2 a3 a4 a5 a6 a7 a8 a9 a10 a11 a12 a13 a14) fun y => K (ofB53 y)))))))))))))))))) ls⟩
def cuts53 : List (List Nat × Cut (Bool)) := []
noncomputable def X53 : Px (Bool) := ⟨T, Try.prog, lkF [(17, run17), (51, run51), (65, run65)], mkCuts 53 cuts53, altN, altN_ok⟩
theorem e53 (n : Nat) (a0 : Int) (a1 : Int) (a2 : Int) (a3 : Int) (a4 : Int) (a5 : Bool) (a6 : Bool) (a7 : Int) (a8 : Int) (a9 : List (Int)) (a10 : ByteArray) (a11 : Int) (a12 : Int) (a13 : Bool) (a14 : Int) : entF X53 8 53 pa53 (endK sr53 toB53) n [.i a0, .i a1, .i a2, .i a3, .i a4, .b a5, .b a6, .i a7, .i a8, .l [.int .i64] a9, .s a10, .i a11, .i a12, .b a13, .i a14] = F53 n a0 a1 a2 a3 a4 a5 a6 a7 a8 a9 a10 a11 a12 a13 a14 := by kernel_rfl
theorem sp53 {n : Nat} (a0 : Int) (a1 : Int) (a2 : Int) (a3 : Int) (a4 : Int) (a5 : Bool) (a6 : Bool) (a7 : Int) (a8 : Int) (a9 : List (Int)) (a10 : ByteArray) (a11 : Int) (a12 : Int) (a13 : Bool) (a14 : Int) {y : Bool} (h : F53 n a0 a1 a2 a3 a4 a5 a6 a7 a8 a9 a10 a11 a12 a13 a14 = some y) : SpecF T Try.prog 53 pa53 [.i a0, .i a1, .i a2, .i a3, .i a4, .b a5, .b a6, .i a7, .i a8, .l [.int .i64] a9, .s a10, .i a11, .i a12, .b a13, .i a14] sr53 (ofB53 y) :=
  fun_ok (X := X53) tok (sfok_of ⟨ok17, ok51, ok65, trivial⟩) mixed 53 8 cuts53 rfl toB53_ok trivial ((e53 n a0 a1 a2 a3 a4 a5 a6 a7 a8 a9 a10 a11 a12 a13 a14).trans h)
theorem ok53 {R : Type} : SFone T Try.prog 53 (run53 : SF R) := by
  intro ls K r h
  simp only [run53] at h
  obtain ⟨a0, ls1, rfl, h1⟩ := gI_ok h; obtain ⟨a1, ls2, rfl, h2⟩ := gI_ok h1; obtain ⟨a2, ls3, rfl, h3⟩ := gI_ok h2; obtain ⟨a3, ls4, rfl, h4⟩ := gI_ok h3; obtain ⟨a4, ls5, rfl, h5⟩ := gI_ok h4; obtain ⟨a5, ls6, rfl, h6⟩ := gB_ok h5; obtain ⟨a6, ls7, rfl, h7⟩ := gB_ok h6; obtain ⟨a7, ls8, rfl, h8⟩ := gI_ok h7; obtain ⟨a8, ls9, rfl, h9⟩ := gI_ok h8; obtain ⟨a9, ls10, rfl, h10⟩ := gL_ok h9; obtain ⟨a10, ls11, rfl, h11⟩ := gS_ok h10; obtain ⟨a11, ls12, rfl, h12⟩ := gI_ok h11; obtain ⟨a12, ls13, rfl, h13⟩ := gI_ok h12; obtain ⟨a13, ls14, rfl, h14⟩ := gB_ok h13; obtain ⟨a14, ls15, rfl, h15⟩ := gI_ok h14; obtain ⟨rfl, h16⟩ := gE_ok h15
  obtain ⟨y, k1, k2⟩ := Option.bind_eq_some_iff.1 h16
  exact ⟨_, k2, sp53 a0 a1 a2 a3 a4 a5 a6 a7 a8 a9 a10 a11 a12 a13 a14 k1⟩

/-! ### garland/msg.Asker -/
def pa23 : List VP := [.agg [.i .u8, .i .i64, .i .i64, .i .i64, .i .i64, .b, .b, .i .i64, .i .i64, .sl false [.int .i64], .s, .i .i64, .i .i64, .b, .i .i64]]
def sr23 : RShape := ⟨.i .i64, [], none⟩
def toB23 : List Leaf → Option (Int) := gI (fun b0 => gE (some b0))
def ofB23 (y : Int) : List Leaf := [.i y]
theorem toB23_ok : ∀ ls b, toB23 ls = some b → ls = ofB23 b := by
  intro ls b h
  unfold toB23 at h
  obtain ⟨b0, ls1, rfl, h1⟩ := gI_ok h; obtain ⟨rfl, h2⟩ := gE_ok h1
  cases h2; rfl
def run23 {R : Type} : SF R := ⟨pa23, sr23, fun ls K => (gI (fun a0 => gI (fun a1 => gI (fun a2 => gI (fun a3 => gI (fun a4 => gB (fun a5 => gB (fun a6 => gI (fun a7 => gI (fun a8 => gL [.int .i64] (fun a9 => gS (fun a10 => gI (fun a11 => gI (fun a12 => gB (fun a13 => gI (fun a14 => gE (Option.bind (F23 FUEL a0 a1 a2 a3 a4 a5 a6 a7 a8 a9 a10 a11 a12 a13 a14) fun y => K (ofB23 y)))))))))))))))))) ls⟩
def cuts23 : List (List Nat × Cut (Int)) := []
noncomputable def X23 : Px (Int) := ⟨T, Try.prog, lkF [(21, run21)], mkCuts 23 cuts23, altN, altN_ok⟩
theorem e23 (n : Nat) (a0 : Int) (a1 : Int) (a2 : Int) (a3 : Int) (a4 : Int) (a5 : Bool) (a6 : Bool) (a7 : Int) (a8 : Int) (a9 : List (Int)) (a10 : ByteArray) (a11 : Int) (a12 : Int) (a13 : Bool) (a14 : Int) : entF X23 8 23 pa23 (endK sr23 toB23) n [.i a0, .i a1, .i a2, .i a3, .i a4, .b a5, .b a6, .i a7, .i a8, .l [.int .i64] a9, .s a10, .i a11, .i a12, .b a13, .i a14] = F23 n a0 a1 a2 a3 a4 a5 a6 a7 a8 a9 a10 a11 a12 a13 a14 := by kernel_rfl
theorem sp23 {n : Nat} (a0 : Int) (a1 : Int) (a2 : Int) (a3 : Int) (a4 : Int) (a5 : Bool) (a6 : Bool) (a7 : Int) (a8 : Int) (a9 : List (Int)) (a10 : ByteArray) (a11 : Int) (a12 : Int) (a13 : Bool) (a14 : Int) {y : Int} (h : F23 n a0 a1 a2 a3 a4 a5 a6 a7 a8 a9 a10 a11 a12 a13 a14 = some y) : SpecF T Try.prog 23 pa23 [.i a0, .i a1, .i a2, .i a3, .i a4, .b a5, .b a6, .i a7, .i a8, .l [.int .i64] a9, .s a10, .i a11, .i a12, .b a13, .i a14] sr23 (ofB23 y) :=
  fun_ok (X := X23) tok (sfok_of ⟨ok21, trivial⟩) mixed 23 8 cuts23 rfl toB23_ok trivial ((e23 n a0 a1 a2 a3 a4 a5 a6 a7 a8 a9 a10 a11 a12 a13 a14).trans h)
theorem ok23 {R : Type} : SFone T Try.prog 23 (run23 : SF R) := by
  intro ls K r h
  simp only [run23] at h
  obtain ⟨a0, ls1, rfl, h1⟩ := gI_ok h; obtain ⟨a1, ls2, rfl, h2⟩ := gI_ok h1; obtain ⟨a2, ls3, rfl, h3⟩ := gI_ok h2; obtain ⟨a3, ls4, rfl, h4⟩ := gI_ok h3; obtain ⟨a4, ls5, rfl, h5⟩ := gI_ok h4; obtain ⟨a5, ls6, rfl, h6⟩ := gB_ok h5; obtain ⟨a6, ls7, rfl, h7⟩ := gB_ok h6; obtain ⟨a7, ls8, rfl, h8⟩ := gI_ok h7; obtain ⟨a8, ls9, rfl, h9⟩ := gI_ok h8; obtain ⟨a9, ls10, rfl, h10⟩ := gL_ok h9; obtain ⟨a10, ls11, rfl, h11⟩ := gS_ok h10; obtain ⟨a11, ls12, rfl, h12⟩ := gI_ok h11; obtain ⟨a12, ls13, rfl, h13⟩ := gI_ok h12; obtain ⟨a13, ls14, rfl, h14⟩ := gB_ok h13; obtain ⟨a14, ls15, rfl, h15⟩ := gI_ok h14; obtain ⟨rfl, h16⟩ := gE_ok h15
  obtain ⟨y, k1, k2⟩ := Option.bind_eq_some_iff.1 h16
  exact ⟨_, k2, sp23 a0 a1 a2 a3 a4 a5 a6 a7 a8 a9 a10 a11 a12 a13 a14 k1⟩

/-! ### garland/msg.isCall -/
def pa55 : List VP := [.i .i64, .i .i64]
def sr55 : RShape := ⟨.b, [], none⟩
def toB55 : List Leaf → Option (Bool) := gB (fun b0 => gE (some b0))
def ofB55 (y : Bool) : List Leaf := [.b y]
theorem toB55_ok : ∀ ls b, toB55 ls = some b → ls = ofB55 b := by
  intro ls b h
  unfold toB55 at h
  obtain ⟨b0, ls1, rfl, h1⟩ := gB_ok h; obtain ⟨rfl, h2⟩ := gE_ok h1
  cases h2; rfl
def run55 {R : Type} : SF R := ⟨pa55, sr55, fun ls K => (gI (fun a0 => gI (fun a1 => gE (Option.bind (F55 FUEL a0 a1) fun y => K (ofB55 y))))) ls⟩
def cuts55 : List (List Nat × Cut (Bool)) := []
noncomputable def X55 : Px (Bool) := ⟨T, Try.prog, lkF [], mkCuts 55 cuts55, altN, altN_ok⟩
theorem e55 (n : Nat) (a0 : Int) (a1 : Int) : entF X55 8 55 pa55 (endK sr55 toB55) n [.i a0, .i a1] = F55 n a0 a1 := by kernel_rfl
theorem sp55 {n : Nat} (a0 : Int) (a1 : Int) {y : Bool} (h : F55 n a0 a1 = some y) : SpecF T Try.prog 55 pa55 [.i a0, .i a1] sr55 (ofB55 y) :=
  fun_ok (X := X55) tok (sfok_of trivial) mixed 55 8 cuts55 rfl toB55_ok trivial ((e55 n a0 a1).trans h)
theorem ok55 {R : Type} : SFone T Try.prog 55 (run55 : SF R) := by
  intro ls K r h
  simp only [run55] at h
  obtain ⟨a0, ls1, rfl, h1⟩ := gI_ok h; obtain ⟨a1, ls2, rfl, h2⟩ := gI_ok h1; obtain ⟨rfl, h3⟩ := gE_ok h2
  obtain ⟨y, k1, k2⟩ := Option.bind_eq_some_iff.1 h3
  exact ⟨_, k2, sp55 a0 a1 k1⟩

/-! ### garland/msg.beside -/
def pa56 : List VP := [.agg [.i .u8, .i .i64, .i .i64, .i .i64, .i .i64, .b, .b, .i .i64, .i .i64, .opq 0, .s, .i .i64, .i .i64, .b, .i .i64]]
def sr56 : RShape := ⟨.agg [.i .u8, .i .i64, .i .i64, .i .i64, .i .i64, .b, .b, .i .i64, .i .i64, .opq 0, .s, .i .i64, .i .i64, .b, .i .i64], [], some (.agg [.i .u8, .i .i64, .i .i64, .i .i64, .i .i64, .b, .b, .i .i64, .i .i64, .nil, .s, .i .i64, .i .i64, .b, .i .i64])⟩
def toB56 : List Leaf → Option (Sbi5b2i2si2bi) := gB (fun b0 => gI (fun b1 => gI (fun b2 => gI (fun b3 => gI (fun b4 => gI (fun b5 => gB (fun b6 => gB (fun b7 => gI (fun b8 => gI (fun b9 => gS (fun b10 => gI (fun b11 => gI (fun b12 => gB (fun b13 => gI (fun b14 => gE (some ⟨b0, b1, b2, b3, b4, b5, b6, b7, b8, b9, b10, b11, b12, b13, b14⟩))))))))))))))))
def ofB56 (y : Sbi5b2i2si2bi) : List Leaf := [.b y.q0, .i y.q1, .i y.q2, .i y.q3, .i y.q4, .i y.q5, .b y.q6, .b y.q7, .i y.q8, .i y.q9, .s y.q10, .i y.q11, .i y.q12, .b y.q13, .i y.q14]
theorem toB56_ok : ∀ ls b, toB56 ls = some b → ls = ofB56 b := by
  intro ls b h
  unfold toB56 at h
  obtain ⟨b0, ls1, rfl, h1⟩ := gB_ok h; obtain ⟨b1, ls2, rfl, h2⟩ := gI_ok h1; obtain ⟨b2, ls3, rfl, h3⟩ := gI_ok h2; obtain ⟨b3, ls4, rfl, h4⟩ := gI_ok h3; obtain ⟨b4, ls5, rfl, h5⟩ := gI_ok h4; obtain ⟨b5, ls6, rfl, h6⟩ := gI_ok h5; obtain ⟨b6, ls7, rfl, h7⟩ := gB_ok h6; obtain ⟨b7, ls8, rfl, h8⟩ := gB_ok h7; obtain ⟨b8, ls9, rfl, h9⟩ := gI_ok h8; obtain ⟨b9, ls10, rfl, h10⟩ := gI_ok h9; obtain ⟨b10, ls11, rfl, h11⟩ := gS_ok h10; obtain ⟨b11, ls12, rfl, h12⟩ := gI_ok h11; obtain ⟨b12, ls13, rfl, h13⟩ := gI_ok h12; obtain ⟨b13, ls14, rfl, h14⟩ := gB_ok h13; obtain ⟨b14, ls15, rfl, h15⟩ := gI_ok h14; obtain ⟨rfl, h16⟩ := gE_ok h15
  cases h16; rfl
def run56 {R : Type} : SF R := ⟨pa56, sr56, fun ls K => (gI (fun a0 => gI (fun a1 => gI (fun a2 => gI (fun a3 => gI (fun a4 => gB (fun a5 => gB (fun a6 => gI (fun a7 => gI (fun a8 => gS (fun a9 => gI (fun a10 => gI (fun a11 => gB (fun a12 => gI (fun a13 => gE (Option.bind (F56 FUEL a0 a1 a2 a3 a4 a5 a6 a7 a8 a9 a10 a11 a12 a13) fun y => K (ofB56 y))))))))))))))))) ls⟩
def cuts56 : List (List Nat × Cut (Sbi5b2i2si2bi)) := []
noncomputable def X56 : Px (Sbi5b2i2si2bi) := ⟨T, Try.prog, lkF [], mkCuts 56 cuts56, altN, altN_ok⟩
theorem e56 (n : Nat) (a0 : Int) (a1 : Int) (a2 : Int) (a3 : Int) (a4 : Int) (a5 : Bool) (a6 : Bool) (a7 : Int) (a8 : Int) (a9 : ByteArray) (a10 : Int) (a11 : Int) (a12 : Bool) (a13 : Int) : entF X56 8 56 pa56 (endK sr56 toB56) n [.i a0, .i a1, .i a2, .i a3, .i a4, .b a5, .b a6, .i a7, .i a8, .s a9, .i a10, .i a11, .b a12, .i a13] = F56 n a0 a1 a2 a3 a4 a5 a6 a7 a8 a9 a10 a11 a12 a13 := by kernel_rfl
theorem sp56 {n : Nat} (a0 : Int) (a1 : Int) (a2 : Int) (a3 : Int) (a4 : Int) (a5 : Bool) (a6 : Bool) (a7 : Int) (a8 : Int) (a9 : ByteArray) (a10 : Int) (a11 : Int) (a12 : Bool) (a13 : Int) {y : Sbi5b2i2si2bi} (h : F56 n a0 a1 a2 a3 a4 a5 a6 a7 a8 a9 a10 a11 a12 a13 = some y) : SpecF T Try.prog 56 pa56 [.i a0, .i a1, .i a2, .i a3, .i a4, .b a5, .b a6, .i a7, .i a8, .s a9, .i a10, .i a11, .b a12, .i a13] sr56 (ofB56 y) :=
  fun_ok (X := X56) tok (sfok_of trivial) mixed 56 8 cuts56 rfl toB56_ok trivial ((e56 n a0 a1 a2 a3 a4 a5 a6 a7 a8 a9 a10 a11 a12 a13).trans h)
theorem ok56 {R : Type} : SFone T Try.prog 56 (run56 : SF R) := by
  intro ls K r h
  simp only [run56] at h
  obtain ⟨a0, ls1, rfl, h1⟩ := gI_ok h; obtain ⟨a1, ls2, rfl, h2⟩ := gI_ok h1; obtain ⟨a2, ls3, rfl, h3⟩ := gI_ok h2; obtain ⟨a3, ls4, rfl, h4⟩ := gI_ok h3; obtain ⟨a4, ls5, rfl, h5⟩ := gI_ok h4; obtain ⟨a5, ls6, rfl, h6⟩ := gB_ok h5; obtain ⟨a6, ls7, rfl, h7⟩ := gB_ok h6; obtain ⟨a7, ls8, rfl, h8⟩ := gI_ok h7; obtain ⟨a8, ls9, rfl, h9⟩ := gI_ok h8; obtain ⟨a9, ls10, rfl, h10⟩ := gS_ok h9; obtain ⟨a10, ls11, rfl, h11⟩ := gI_ok h10; obtain ⟨a11, ls12, rfl, h12⟩ := gI_ok h11; obtain ⟨a12, ls13, rfl, h13⟩ := gB_ok h12; obtain ⟨a13, ls14, rfl, h14⟩ := gI_ok h13; obtain ⟨rfl, h15⟩ := gE_ok h14
  obtain ⟨y, k1, k2⟩ := Option.bind_eq_some_iff.1 h15
  exact ⟨_, k2, sp56 a0 a1 a2 a3 a4 a5 a6 a7 a8 a9 a10 a11 a12 a13 k1⟩

/-! ### slices.Equal[[]int,int] -/
def pa59 : List VP := [.sl false [.int .i64], .sl false [.int .i64]]
def sr59 : RShape := ⟨.b, [], none⟩
def toB59 : List Leaf → Option (Bool) := gB (fun b0 => gE (some b0))
def ofB59 (y : Bool) : List Leaf := [.b y]
theorem toB59_ok : ∀ ls b, toB59 ls = some b → ls = ofB59 b := by
  intro ls b h
  unfold toB59 at h
  obtain ⟨b0, ls1, rfl, h1⟩ := gB_ok h; obtain ⟨rfl, h2⟩ := gE_ok h1
  cases h2; rfl
def run59 {R : Type} : SF R := ⟨pa59, sr59, fun ls K => (gL [.int .i64] (fun a0 => gL [.int .i64] (fun a1 => gE (Option.bind (F59 FUEL a0 a1) fun y => K (ofB59 y))))) ls⟩
def sh59_0 : Shape := ⟨[(26, [(0, .sl false [.int .i64]), (1, .sl false [.int .i64]), (12, .i .i64), (13, .i .i64)])], []⟩
def g59_0 (n : Nat) : List Leaf → Option (Bool) := gL [.int .i64] (fun x0 => gL [.int .i64] (fun x1 => gI (fun x2 => gI (fun x3 => gE (F59_c0 n x0 x1 x2 x3)))))
def cuts59 : List (List Nat × Cut (Bool)) := [([1, 1, 0, 1, 0], ⟨sh59_0, g59_0⟩)]
noncomputable def X59 : Px (Bool) := ⟨T, Try.prog, lkF [], mkCuts 59 cuts59, altN, altN_ok⟩
theorem e59_0 (n : Nat) (x0 : List (Int)) (x1 : List (Int)) (x2 : Int) (x3 : Int) : stepF X59 8 59 (endK sr59 toB59) [1, 1, 0, 1, 0] sh59_0 n [.l [.int .i64] x0, .l [.int .i64] x1, .i x2, .i x3] = F59_c0 (n + 1) x0 x1 x2 x3 := by kernel_rfl
theorem e59 (n : Nat) (a0 : List (Int)) (a1 : List (Int)) : entF X59 8 59 pa59 (endK sr59 toB59) n [.l [.int .i64] a0, .l [.int .i64] a1] = F59 n a0 a1 := by kernel_rfl
theorem c59_0 : CutOK X59 8 59 (endK sr59 toB59) [1, 1, 0, 1, 0] ⟨sh59_0, g59_0⟩ := by
  refine ⟨fun ls => ?_, fun n ls r h => ?_⟩
  · cases h : g59_0 0 ls with
    | none => exact h
    | some r =>
      unfold g59_0 at h; obtain ⟨x0, ls1, rfl, h1⟩ := gL_ok h; obtain ⟨x1, ls2, rfl, h2⟩ := gL_ok h1; obtain ⟨x2, ls3, rfl, h3⟩ := gI_ok h2; obtain ⟨x3, ls4, rfl, h4⟩ := gI_ok h3; obtain ⟨rfl, h5⟩ := gE_ok h4; simp only [F59_c0] at h5; cases h5
  · replace h : g59_0 (n + 1) ls = some r := h
    unfold g59_0 at h
    obtain ⟨x0, ls1, rfl, h1⟩ := gL_ok h; obtain ⟨x1, ls2, rfl, h2⟩ := gL_ok h1; obtain ⟨x2, ls3, rfl, h3⟩ := gI_ok h2; obtain ⟨x3, ls4, rfl, h4⟩ := gI_ok h3; obtain ⟨rfl, h5⟩ := gE_ok h4
    exact (e59_0 n x0 x1 x2 x3).trans h5
theorem sp59 {n : Nat} (a0 : List (Int)) (a1 : List (Int)) {y : Bool} (h : F59 n a0 a1 = some y) : SpecF T Try.prog 59 pa59 [.l [.int .i64] a0, .l [.int .i64] a1] sr59 (ofB59 y) :=
  fun_ok (X := X59) tok (sfok_of trivial) mixed 59 8 cuts59 rfl toB59_ok ⟨c59_0, trivial⟩ ((e59 n a0 a1).trans h)
theorem ok59 {R : Type} : SFone T Try.prog 59 (run59 : SF R) := by
  intro ls K r h
  simp only [run59] at h
  obtain ⟨a0, ls1, rfl, h1⟩ := gL_ok h; obtain ⟨a1, ls2, rfl, h2⟩ := gL_ok h1; obtain ⟨rfl, h3⟩ := gE_ok h2
  obtain ⟨y, k1, k2⟩ := Option.bind_eq_some_iff.1 h3
  exact ⟨_, k2, sp59 a0 a1 k1⟩

/-! ### garland/msg.Same -/
def pa28 : List VP := [.agg [.i .u8, .i .i64, .i .i64, .i .i64, .i .i64, .b, .b, .i .i64, .i .i64, .sl false [.int .i64], .s, .i .i64, .i .i64, .b, .i .i64], .agg [.i .u8, .i .i64, .i .i64, .i .i64, .i .i64, .b, .b, .i .i64, .i .i64, .sl false [.int .i64], .s, .i .i64, .i .i64, .b, .i .i64]]
def sr28 : RShape := ⟨.b, [], none⟩
def toB28 : List Leaf → Option (Bool) := gB (fun b0 => gE (some b0))
def ofB28 (y : Bool) : List Leaf := [.b y]
theorem toB28_ok : ∀ ls b, toB28 ls = some b → ls = ofB28 b := by
  intro ls b h
  unfold toB28 at h
  obtain ⟨b0, ls1, rfl, h1⟩ := gB_ok h; obtain ⟨rfl, h2⟩ := gE_ok h1
  cases h2; rfl
def run28 {R : Type} : SF R := ⟨pa28, sr28, fun ls K => (gI (fun a0 => gI (fun a1 => gI (fun a2 => gI (fun a3 => gI (fun a4 => gB (fun a5 => gB (fun a6 => gI (fun a7 => gI (fun a8 => gL [.int .i64] (fun a9 => gS (fun a10 => gI (fun a11 => gI (fun a12 => gB (fun a13 => gI (fun a14 => gI (fun a15 => gI (fun a16 => gI (fun a17 => gI (fun a18 => gI (fun a19 => gB (fun a20 => gB (fun a21 => gI (fun a22 => gI (fun a23 => gL [.int .i64] (fun a24 => gS (fun a25 => gI (fun a26 => gI (fun a27 => gB (fun a28 => gI (fun a29 => gE (Option.bind (F28 FUEL a0 a1 a2 a3 a4 a5 a6 a7 a8 a9 a10 a11 a12 a13 a14 a15 a16 a17 a18 a19 a20 a21 a22 a23 a24 a25 a26 a27 a28 a29) fun y => K (ofB28 y))))))))))))))))))))))))))))))))) ls⟩
def cuts28 : List (List Nat × Cut (Bool)) := []
noncomputable def X28 : Px (Bool) := ⟨T, Try.prog, lkF [(59, run59)], mkCuts 28 cuts28, altN, altN_ok⟩
theorem e28 (n : Nat) (a0 : Int) (a1 : Int) (a2 : Int) (a3 : Int) (a4 : Int) (a5 : Bool) (a6 : Bool) (a7 : Int) (a8 : Int) (a9 : List (Int)) (a10 : ByteArray) (a11 : Int) (a12 : Int) (a13 : Bool) (a14 : Int) (a15 : Int) (a16 : Int) (a17 : Int) (a18 : Int) (a19 : Int) (a20 : Bool) (a21 : Bool) (a22 : Int) (a23 : Int) (a24 : List (Int)) (a25 : ByteArray) (a26 : Int) (a27 : Int) (a28 : Bool) (a29 : Int) : entF X28 8 28 pa28 (endK sr28 toB28) n [.i a0, .i a1, .i a2, .i a3, .i a4, .b a5, .b a6, .i a7, .i a8, .l [.int .i64] a9, .s a10, .i a11, .i a12, .b a13, .i a14, .i a15, .i a16, .i a17, .i a18, .i a19, .b a20, .b a21, .i a22, .i a23, .l [.int .i64] a24, .s a25, .i a26, .i a27, .b a28, .i a29] = F28 n a0 a1 a2 a3 a4 a5 a6 a7 a8 a9 a10 a11 a12 a13 a14 a15 a16 a17 a18 a19 a20 a21 a22 a23 a24 a25 a26 a27 a28 a29 := by kernel_rfl
theorem sp28 {n : Nat} (a0 : Int) (a1 : Int) (a2 : Int) (a3 : Int) (a4 : Int) (a5 : Bool) (a6 : Bool) (a7 : Int) (a8 : Int) (a9 : List (Int)) (a10 : ByteArray) (a11 : Int) (a12 : Int) (a13 : Bool) (a14 : Int) (a15 : Int) (a16 : Int) (a17 : Int) (a18 : Int) (a19 : Int) (a20 : Bool) (a21 : Bool) (a22 : Int) (a23 : Int) (a24 : List (Int)) (a25 : ByteArray) (a26 : Int) (a27 : Int) (a28 : Bool) (a29 : Int) {y : Bool} (h : F28 n a0 a1 a2 a3 a4 a5 a6 a7 a8 a9 a10 a11 a12 a13 a14 a15 a16 a17 a18 a19 a20 a21 a22 a23 a24 a25 a26 a27 a28 a29 = some y) : SpecF T Try.prog 28 pa28 [.i a0, .i a1, .i a2, .i a3, .i a4, .b a5, .b a6, .i a7, .i a8, .l [.int .i64] a9, .s a10, .i a11, .i a12, .b a13, .i a14, .i a15, .i a16, .i a17, .i a18, .i a19, .b a20, .b a21, .i a22, .i a23, .l [.int .i64] a24, .s a25, .i a26, .i a27, .b a28, .i a29] sr28 (ofB28 y) :=
  fun_ok (X := X28) tok (sfok_of ⟨ok59, trivial⟩) mixed 28 8 cuts28 rfl toB28_ok trivial ((e28 n a0 a1 a2 a3 a4 a5 a6 a7 a8 a9 a10 a11 a12 a13 a14 a15 a16 a17 a18 a19 a20 a21 a22 a23 a24 a25 a26 a27 a28 a29).trans h)
theorem ok28 {R : Type} : SFone T Try.prog 28 (run28 : SF R) := by
  intro ls K r h
  simp only [run28] at h
  obtain ⟨a0, ls1, rfl, h1⟩ := gI_ok h; obtain ⟨a1, ls2, rfl, h2⟩ := gI_ok h1; obtain ⟨a2, ls3, rfl, h3⟩ := gI_ok h2; obtain ⟨a3, ls4, rfl, h4⟩ := gI_ok h3; obtain ⟨a4, ls5, rfl, h5⟩ := gI_ok h4; obtain ⟨a5, ls6, rfl, h6⟩ := gB_ok h5; obtain ⟨a6, ls7, rfl, h7⟩ := gB_ok h6; obtain ⟨a7, ls8, rfl, h8⟩ := gI_ok h7; obtain ⟨a8, ls9, rfl, h9⟩ := gI_ok h8; obtain ⟨a9, ls10, rfl, h10⟩ := gL_ok h9; obtain ⟨a10, ls11, rfl, h11⟩ := gS_ok h10; obtain ⟨a11, ls12, rfl, h12⟩ := gI_ok h11; obtain ⟨a12, ls13, rfl, h13⟩ := gI_ok h12; obtain ⟨a13, ls14, rfl, h14⟩ := gB_ok h13; obtain ⟨a14, ls15, rfl, h15⟩ := gI_ok h14; obtain ⟨a15, ls16, rfl, h16⟩ := gI_ok h15; obtain ⟨a16, ls17, rfl, h17⟩ := gI_ok h16; obtain ⟨a17, ls18, rfl, h18⟩ := gI_ok h17; obtain ⟨a18, ls19, rfl, h19⟩ := gI_ok h18; obtain ⟨a19, ls20, rfl, h20⟩ := gI_ok h19; obtain ⟨a20, ls21, rfl, h21⟩ := gB_ok h20; obtain ⟨a21, ls22, rfl, h22⟩ := gB_ok h21; obtain ⟨a22, ls23, rfl, h23⟩ := gI_ok h22; obtain ⟨a23, ls24, rfl, h24⟩ := gI_ok h23; obtain ⟨a24, ls25, rfl, h25⟩ := gL_ok h24; obtain ⟨a25, ls26, rfl, h26⟩ := gS_ok h25; obtain ⟨a26, ls27, rfl, h27⟩ := gI_ok h26; obtain ⟨a27, ls28, rfl, h28⟩ := gI_ok h27; obtain ⟨a28, ls29, rfl, h29⟩ := gB_ok h28; obtain ⟨a29, ls30, rfl, h30⟩ := gI_ok h29; obtain ⟨rfl, h31⟩ := gE_ok h30
  obtain ⟨y, k1, k2⟩ := Option.bind_eq_some_iff.1 h31
  exact ⟨_, k2, sp28 a0 a1 a2 a3 a4 a5 a6 a7 a8 a9 a10 a11 a12 a13 a14 a15 a16 a17 a18 a19 a20 a21 a22 a23 a24 a25 a26 a27 a28 a29 k1⟩

/-! ### garland/msg.Right -/
def pa19 : List VP := [.agg [.i .u8, .i .i64, .i .i64, .i .i64, .i .i64, .b, .b, .i .i64, .i .i64, .sl false [.int .i64], .s, .i .i64, .i .i64, .b, .i .i64]]
def sr19 : RShape := ⟨.b, [], none⟩
def toB19 : List Leaf → Option (Bool) := gB (fun b0 => gE (some b0))
def ofB19 (y : Bool) : List Leaf := [.b y]
theorem toB19_ok : ∀ ls b, toB19 ls = some b → ls = ofB19 b := by
  intro ls b h
  unfold toB19 at h
  obtain ⟨b0, ls1, rfl, h1⟩ := gB_ok h; obtain ⟨rfl, h2⟩ := gE_ok h1
  cases h2; rfl
def run19 {R : Type} : SF R := ⟨pa19, sr19, fun ls K => (gI (fun a0 => gI (fun a1 => gI (fun a2 => gI (fun a3 => gI (fun a4 => gB (fun a5 => gB (fun a6 => gI (fun a7 => gI (fun a8 => gL [.int .i64] (fun a9 => gS (fun a10 => gI (fun a11 => gI (fun a12 => gB (fun a13 => gI (fun a14 => gE (Option.bind (F19 FUEL a0 a1 a2 a3 a4 a5 a6 a7 a8 a9 a10 a11 a12 a13 a14) fun y => K (ofB19 y)))))))))))))))))) ls⟩
def sh19_0 : Shape := ⟨[(40, [])], []⟩
def g19_0 (n : Nat) : List Leaf → Option (Bool) := gE (F19_c0 n )
def sh19_1 : Shape := ⟨[(55, [(0, .yield 7), (44, .sl false [.int .i64]), (45, .i .i64), (46, .i .i64)]), (40, [(1, .ref 0 0)])], [.cells [.i .u8, .i .i64, .i .i64, .i .i64, .i .i64, .b, .b, .i .i64, .i .i64, .sl false [.int .i64], .s, .i .i64, .i .i64, .b, .i .i64]]⟩
def g19_1 (n : Nat) : List Leaf → Option (Bool) := gL [.int .i64] (fun x0 => gI (fun x1 => gI (fun x2 => gI (fun x3 => gI (fun x4 => gI (fun x5 => gI (fun x6 => gI (fun x7 => gB (fun x8 => gB (fun x9 => gI (fun x10 => gI (fun x11 => gL [.int .i64] (fun x12 => gS (fun x13 => gI (fun x14 => gI (fun x15 => gB (fun x16 => gI (fun x17 => gE (F19_c1 n x0 x1 x2 x3 x4 x5 x6 x7 x8 x9 x10 x11 x12 x13 x14 x15 x16 x17)))))))))))))))))))
def cuts19 : List (List Nat × Cut (Bool)) := [([1, 10], ⟨sh19_0, g19_0⟩), ([1, 0, 1, 0, 1, 0, 132, 1, 1, 0, 1, 1, 1, 1, 1, 0, 1, 1, 0], ⟨sh19_1, g19_1⟩)]
noncomputable def X19 : Px (Bool) := ⟨T, Try.prog, lkF [(53, run53), (49, run49), (23, run23), (55, run55), (56, run56), (28, run28)], mkCuts 19 cuts19, altN, altN_ok⟩
theorem e19_0 (n : Nat) : stepF X19 8 19 (endK sr19 toB19) [1, 10] sh19_0 n [] = F19_c0 (n + 1)  := by kernel_rfl
theorem e19_1 (n : Nat) (x0 : List (Int)) (x1 : Int) (x2 : Int) (x3 : Int) (x4 : Int) (x5 : Int) (x6 : Int) (x7 : Int) (x8 : Bool) (x9 : Bool) (x10 : Int) (x11 : Int) (x12 : List (Int)) (x13 : ByteArray) (x14 : Int) (x15 : Int) (x16 : Bool) (x17 : Int) : stepF X19 8 19 (endK sr19 toB19) [1, 0, 1, 0, 1, 0, 132, 1, 1, 0, 1, 1, 1, 1, 1, 0, 1, 1, 0] sh19_1 n [.l [.int .i64] x0, .i x1, .i x2, .i x3, .i x4, .i x5, .i x6, .i x7, .b x8, .b x9, .i x10, .i x11, .l [.int .i64] x12, .s x13, .i x14, .i x15, .b x16, .i x17] = F19_c1 (n + 1) x0 x1 x2 x3 x4 x5 x6 x7 x8 x9 x10 x11 x12 x13 x14 x15 x16 x17 := by kernel_rfl
theorem e19 (n : Nat) (a0 : Int) (a1 : Int) (a2 : Int) (a3 : Int) (a4 : Int) (a5 : Bool) (a6 : Bool) (a7 : Int) (a8 : Int) (a9 : List (Int)) (a10 : ByteArray) (a11 : Int) (a12 : Int) (a13 : Bool) (a14 : Int) : entF X19 8 19 pa19 (endK sr19 toB19) n [.i a0, .i a1, .i a2, .i a3, .i a4, .b a5, .b a6, .i a7, .i a8, .l [.int .i64] a9, .s a10, .i a11, .i a12, .b a13, .i a14] = F19 n a0 a1 a2 a3 a4 a5 a6 a7 a8 a9 a10 a11 a12 a13 a14 := by kernel_rfl
theorem c19_0 : CutOK X19 8 19 (endK sr19 toB19) [1, 10] ⟨sh19_0, g19_0⟩ := by
  refine ⟨fun ls => ?_, fun n ls r h => ?_⟩
  · cases h : g19_0 0 ls with
    | none => exact h
    | some r =>
      unfold g19_0 at h; obtain ⟨rfl, h1⟩ := gE_ok h; simp only [F19_c0] at h1; cases h1
  · replace h : g19_0 (n + 1) ls = some r := h
    unfold g19_0 at h
    obtain ⟨rfl, h1⟩ := gE_ok h
    exact (e19_0 n ).trans h1
theorem c19_1 : CutOK X19 8 19 (endK sr19 toB19) [1, 0, 1, 0, 1, 0, 132, 1, 1, 0, 1, 1, 1, 1, 1, 0, 1, 1, 0] ⟨sh19_1, g19_1⟩ := by
  refine ⟨fun ls => ?_, fun n ls r h => ?_⟩
  · cases h : g19_1 0 ls with
    | none => exact h
    | some r =>
      unfold g19_1 at h; obtain ⟨x0, ls1, rfl, h1⟩ := gL_ok h; obtain ⟨x1, ls2, rfl, h2⟩ := gI_ok h1; obtain ⟨x2, ls3, rfl, h3⟩ := gI_ok h2; obtain ⟨x3, ls4, rfl, h4⟩ := gI_ok h3; obtain ⟨x4, ls5, rfl, h5⟩ := gI_ok h4; obtain ⟨x5, ls6, rfl, h6⟩ := gI_ok h5; obtain ⟨x6, ls7, rfl, h7⟩ := gI_ok h6; obtain ⟨x7, ls8, rfl, h8⟩ := gI_ok h7; obtain ⟨x8, ls9, rfl, h9⟩ := gB_ok h8; obtain ⟨x9, ls10, rfl, h10⟩ := gB_ok h9; obtain ⟨x10, ls11, rfl, h11⟩ := gI_ok h10; obtain ⟨x11, ls12, rfl, h12⟩ := gI_ok h11; obtain ⟨x12, ls13, rfl, h13⟩ := gL_ok h12; obtain ⟨x13, ls14, rfl, h14⟩ := gS_ok h13; obtain ⟨x14, ls15, rfl, h15⟩ := gI_ok h14; obtain ⟨x15, ls16, rfl, h16⟩ := gI_ok h15; obtain ⟨x16, ls17, rfl, h17⟩ := gB_ok h16; obtain ⟨x17, ls18, rfl, h18⟩ := gI_ok h17; obtain ⟨rfl, h19⟩ := gE_ok h18; simp only [F19_c1] at h19; cases h19
  · replace h : g19_1 (n + 1) ls = some r := h
    unfold g19_1 at h
    obtain ⟨x0, ls1, rfl, h1⟩ := gL_ok h; obtain ⟨x1, ls2, rfl, h2⟩ := gI_ok h1; obtain ⟨x2, ls3, rfl, h3⟩ := gI_ok h2; obtain ⟨x3, ls4, rfl, h4⟩ := gI_ok h3; obtain ⟨x4, ls5, rfl, h5⟩ := gI_ok h4; obtain ⟨x5, ls6, rfl, h6⟩ := gI_ok h5; obtain ⟨x6, ls7, rfl, h7⟩ := gI_ok h6; obtain ⟨x7, ls8, rfl, h8⟩ := gI_ok h7; obtain ⟨x8, ls9, rfl, h9⟩ := gB_ok h8; obtain ⟨x9, ls10, rfl, h10⟩ := gB_ok h9; obtain ⟨x10, ls11, rfl, h11⟩ := gI_ok h10; obtain ⟨x11, ls12, rfl, h12⟩ := gI_ok h11; obtain ⟨x12, ls13, rfl, h13⟩ := gL_ok h12; obtain ⟨x13, ls14, rfl, h14⟩ := gS_ok h13; obtain ⟨x14, ls15, rfl, h15⟩ := gI_ok h14; obtain ⟨x15, ls16, rfl, h16⟩ := gI_ok h15; obtain ⟨x16, ls17, rfl, h17⟩ := gB_ok h16; obtain ⟨x17, ls18, rfl, h18⟩ := gI_ok h17; obtain ⟨rfl, h19⟩ := gE_ok h18
    exact (e19_1 n x0 x1 x2 x3 x4 x5 x6 x7 x8 x9 x10 x11 x12 x13 x14 x15 x16 x17).trans h19
theorem sp19 {n : Nat} (a0 : Int) (a1 : Int) (a2 : Int) (a3 : Int) (a4 : Int) (a5 : Bool) (a6 : Bool) (a7 : Int) (a8 : Int) (a9 : List (Int)) (a10 : ByteArray) (a11 : Int) (a12 : Int) (a13 : Bool) (a14 : Int) {y : Bool} (h : F19 n a0 a1 a2 a3 a4 a5 a6 a7 a8 a9 a10 a11 a12 a13 a14 = some y) : SpecF T Try.prog 19 pa19 [.i a0, .i a1, .i a2, .i a3, .i a4, .b a5, .b a6, .i a7, .i a8, .l [.int .i64] a9, .s a10, .i a11, .i a12, .b a13, .i a14] sr19 (ofB19 y) :=
  fun_ok (X := X19) tok (sfok_of ⟨ok53, ok49, ok23, ok55, ok56, ok28, trivial⟩) mixed 19 8 cuts19 rfl toB19_ok ⟨c19_0, c19_1, trivial⟩ ((e19 n a0 a1 a2 a3 a4 a5 a6 a7 a8 a9 a10 a11 a12 a13 a14).trans h)
theorem ok19 {R : Type} : SFone T Try.prog 19 (run19 : SF R) := by
  intro ls K r h
  simp only [run19] at h
  obtain ⟨a0, ls1, rfl, h1⟩ := gI_ok h; obtain ⟨a1, ls2, rfl, h2⟩ := gI_ok h1; obtain ⟨a2, ls3, rfl, h3⟩ := gI_ok h2; obtain ⟨a3, ls4, rfl, h4⟩ := gI_ok h3; obtain ⟨a4, ls5, rfl, h5⟩ := gI_ok h4; obtain ⟨a5, ls6, rfl, h6⟩ := gB_ok h5; obtain ⟨a6, ls7, rfl, h7⟩ := gB_ok h6; obtain ⟨a7, ls8, rfl, h8⟩ := gI_ok h7; obtain ⟨a8, ls9, rfl, h9⟩ := gI_ok h8; obtain ⟨a9, ls10, rfl, h10⟩ := gL_ok h9; obtain ⟨a10, ls11, rfl, h11⟩ := gS_ok h10; obtain ⟨a11, ls12, rfl, h12⟩ := gI_ok h11; obtain ⟨a12, ls13, rfl, h13⟩ := gI_ok h12; obtain ⟨a13, ls14, rfl, h14⟩ := gB_ok h13; obtain ⟨a14, ls15, rfl, h15⟩ := gI_ok h14; obtain ⟨rfl, h16⟩ := gE_ok h15
  obtain ⟨y, k1, k2⟩ := Option.bind_eq_some_iff.1 h16
  exact ⟨_, k2, sp19 a0 a1 a2 a3 a4 a5 a6 a7 a8 a9 a10 a11 a12 a13 a14 k1⟩

/-! ### garland/msg.Own -/
def pa29 : List VP := [.agg [.i .u8, .i .i64, .i .i64, .i .i64, .i .i64, .b, .b, .i .i64, .i .i64, .sl false [.int .i64], .s, .i .i64, .i .i64, .b, .i .i64]]
def sr29 : RShape := ⟨.agg [.i .u8, .i .i64, .i .i64, .i .i64, .i .i64, .b, .b, .i .i64, .i .i64, .row 0, .s, .i .i64, .i .i64, .b, .i .i64], [.row true [.int .i64]], none⟩
def toB29 : List Leaf → Option (Si5b2i2si2bil) := gI (fun b0 => gI (fun b1 => gI (fun b2 => gI (fun b3 => gI (fun b4 => gB (fun b5 => gB (fun b6 => gI (fun b7 => gI (fun b8 => gS (fun b9 => gI (fun b10 => gI (fun b11 => gB (fun b12 => gI (fun b13 => gL [.int .i64] (fun b14 => gE (some ⟨b0, b1, b2, b3, b4, b5, b6, b7, b8, b9, b10, b11, b12, b13, b14⟩))))))))))))))))
def ofB29 (y : Si5b2i2si2bil) : List Leaf := [.i y.q0, .i y.q1, .i y.q2, .i y.q3, .i y.q4, .b y.q5, .b y.q6, .i y.q7, .i y.q8, .s y.q9, .i y.q10, .i y.q11, .b y.q12, .i y.q13, .l [.int .i64] y.q14]
theorem toB29_ok : ∀ ls b, toB29 ls = some b → ls = ofB29 b := by
  intro ls b h
  unfold toB29 at h
  obtain ⟨b0, ls1, rfl, h1⟩ := gI_ok h; obtain ⟨b1, ls2, rfl, h2⟩ := gI_ok h1; obtain ⟨b2, ls3, rfl, h3⟩ := gI_ok h2; obtain ⟨b3, ls4, rfl, h4⟩ := gI_ok h3; obtain ⟨b4, ls5, rfl, h5⟩ := gI_ok h4; obtain ⟨b5, ls6, rfl, h6⟩ := gB_ok h5; obtain ⟨b6, ls7, rfl, h7⟩ := gB_ok h6; obtain ⟨b7, ls8, rfl, h8⟩ := gI_ok h7; obtain ⟨b8, ls9, rfl, h9⟩ := gI_ok h8; obtain ⟨b9, ls10, rfl, h10⟩ := gS_ok h9; obtain ⟨b10, ls11, rfl, h11⟩ := gI_ok h10; obtain ⟨b11, ls12, rfl, h12⟩ := gI_ok h11; obtain ⟨b12, ls13, rfl, h13⟩ := gB_ok h12; obtain ⟨b13, ls14, rfl, h14⟩ := gI_ok h13; obtain ⟨b14, ls15, rfl, h15⟩ := gL_ok h14; obtain ⟨rfl, h16⟩ := gE_ok h15
  cases h16; rfl
def run29 {R : Type} : SF R := ⟨pa29, sr29, fun ls K => (gI (fun a0 => gI (fun a1 => gI (fun a2 => gI (fun a3 => gI (fun a4 => gB (fun a5 => gB (fun a6 => gI (fun a7 => gI (fun a8 => gL [.int .i64] (fun a9 => gS (fun a10 => gI (fun a11 => gI (fun a12 => gB (fun a13 => gI (fun a14 => gE (Option.bind (F29 FUEL a0 a1 a2 a3 a4 a5 a6 a7 a8 a9 a10 a11 a12 a13 a14) fun y => K (ofB29 y)))))))))))))))))) ls⟩
def cuts29 : List (List Nat × Cut (Si5b2i2si2bil)) := []
noncomputable def X29 : Px (Si5b2i2si2bil) := ⟨T, Try.prog, lkF [], mkCuts 29 cuts29, altN, altN_ok⟩
theorem e29 (n : Nat) (a0 : Int) (a1 : Int) (a2 : Int) (a3 : Int) (a4 : Int) (a5 : Bool) (a6 : Bool) (a7 : Int) (a8 : Int) (a9 : List (Int)) (a10 : ByteArray) (a11 : Int) (a12 : Int) (a13 : Bool) (a14 : Int) : entF X29 8 29 pa29 (endK sr29 toB29) n [.i a0, .i a1, .i a2, .i a3, .i a4, .b a5, .b a6, .i a7, .i a8, .l [.int .i64] a9, .s a10, .i a11, .i a12, .b a13, .i a14] = F29 n a0 a1 a2 a3 a4 a5 a6 a7 a8 a9 a10 a11 a12 a13 a14 := by kernel_rfl
theorem sp29 {n : Nat} (a0 : Int) (a1 : Int) (a2 : Int) (a3 : Int) (a4 : Int) (a5 : Bool) (a6 : Bool) (a7 : Int) (a8 : Int) (a9 : List (Int)) (a10 : ByteArray) (a11 : Int) (a12 : Int) (a13 : Bool) (a14 : Int) {y : Si5b2i2si2bil} (h : F29 n a0 a1 a2 a3 a4 a5 a6 a7 a8 a9 a10 a11 a12 a13 a14 = some y) : SpecF T Try.prog 29 pa29 [.i a0, .i a1, .i a2, .i a3, .i a4, .b a5, .b a6, .i a7, .i a8, .l [.int .i64] a9, .s a10, .i a11, .i a12, .b a13, .i a14] sr29 (ofB29 y) :=
  fun_ok (X := X29) tok (sfok_of trivial) mixed 29 8 cuts29 rfl toB29_ok trivial ((e29 n a0 a1 a2 a3 a4 a5 a6 a7 a8 a9 a10 a11 a12 a13 a14).trans h)
theorem ok29 {R : Type} : SFone T Try.prog 29 (run29 : SF R) := by
  intro ls K r h
  simp only [run29] at h
  obtain ⟨a0, ls1, rfl, h1⟩ := gI_ok h; obtain ⟨a1, ls2, rfl, h2⟩ := gI_ok h1; obtain ⟨a2, ls3, rfl, h3⟩ := gI_ok h2; obtain ⟨a3, ls4, rfl, h4⟩ := gI_ok h3; obtain ⟨a4, ls5, rfl, h5⟩ := gI_ok h4; obtain ⟨a5, ls6, rfl, h6⟩ := gB_ok h5; obtain ⟨a6, ls7, rfl, h7⟩ := gB_ok h6; obtain ⟨a7, ls8, rfl, h8⟩ := gI_ok h7; obtain ⟨a8, ls9, rfl, h9⟩ := gI_ok h8; obtain ⟨a9, ls10, rfl, h10⟩ := gL_ok h9; obtain ⟨a10, ls11, rfl, h11⟩ := gS_ok h10; obtain ⟨a11, ls12, rfl, h12⟩ := gI_ok h11; obtain ⟨a12, ls13, rfl, h13⟩ := gI_ok h12; obtain ⟨a13, ls14, rfl, h14⟩ := gB_ok h13; obtain ⟨a14, ls15, rfl, h15⟩ := gI_ok h14; obtain ⟨rfl, h16⟩ := gE_ok h15
  obtain ⟨y, k1, k2⟩ := Option.bind_eq_some_iff.1 h16
  exact ⟨_, k2, sp29 a0 a1 a2 a3 a4 a5 a6 a7 a8 a9 a10 a11 a12 a13 a14 k1⟩

/-! ### garland/garlandlaw06.wakes -/
def pa14 : List VP := []
def sr14 : RShape := ⟨.b, [], none⟩
def toB14 : List Leaf → Option (Bool) := gB (fun b0 => gE (some b0))
def ofB14 (y : Bool) : List Leaf := [.b y]
theorem toB14_ok : ∀ ls b, toB14 ls = some b → ls = ofB14 b := by
  intro ls b h
  unfold toB14 at h
  obtain ⟨b0, ls1, rfl, h1⟩ := gB_ok h; obtain ⟨rfl, h2⟩ := gE_ok h1
  cases h2; rfl
def run14 {R : Type} : SF R := ⟨pa14, sr14, fun ls K => (gE (Option.bind (F14 FUEL ) fun y => K (ofB14 y))) ls⟩
def cuts14 : List (List Nat × Cut (Bool)) := []
noncomputable def X14 : Px (Bool) := ⟨T, Try.prog, lkF [(15, run15), (26, run26), (19, run19), (21, run21), (23, run23), (28, run28), (17, run17), (29, run29)], mkCuts 14 cuts14, altN, altN_ok⟩
theorem e14 (n : Nat) : entF X14 8 14 pa14 (endK sr14 toB14) n [] = F14 n  := by kernel_rfl
theorem sp14 {n : Nat} {y : Bool} (h : F14 n  = some y) : SpecF T Try.prog 14 pa14 [] sr14 (ofB14 y) :=
  fun_ok (X := X14) tok (sfok_of ⟨ok15, ok26, ok19, ok21, ok23, ok28, ok17, ok29, trivial⟩) mixed 14 8 cuts14 rfl toB14_ok trivial ((e14 n ).trans h)
theorem ok14 {R : Type} : SFone T Try.prog 14 (run14 : SF R) := by
  intro ls K r h
  simp only [run14] at h
  obtain ⟨rfl, h1⟩ := gE_ok h
  obtain ⟨y, k1, k2⟩ := Option.bind_eq_some_iff.1 h1
  exact ⟨_, k2, sp14  k1⟩

/-! ### garland/garlandref06.place -/
def pa50 : List VP := [.i .i64]
def sr50 : RShape := ⟨.b, [], none⟩
def toB50 : List Leaf → Option (Bool) := gB (fun b0 => gE (some b0))
def ofB50 (y : Bool) : List Leaf := [.b y]
theorem toB50_ok : ∀ ls b, toB50 ls = some b → ls = ofB50 b := by
  intro ls b h
  unfold toB50 at h
  obtain ⟨b0, ls1, rfl, h1⟩ := gB_ok h; obtain ⟨rfl, h2⟩ := gE_ok h1
  cases h2; rfl
def run50 {R : Type} : SF R := ⟨pa50, sr50, fun ls K => (gI (fun a0 => gE (Option.bind (F50 FUEL a0) fun y => K (ofB50 y)))) ls⟩
def cuts50 : List (List Nat × Cut (Bool)) := []
noncomputable def X50 : Px (Bool) := ⟨T, Try.prog, lkF [], mkCuts 50 cuts50, altN, altN_ok⟩
theorem e50 (n : Nat) (a0 : Int) : entF X50 8 50 pa50 (endK sr50 toB50) n [.i a0] = F50 n a0 := by kernel_rfl
theorem sp50 {n : Nat} (a0 : Int) {y : Bool} (h : F50 n a0 = some y) : SpecF T Try.prog 50 pa50 [.i a0] sr50 (ofB50 y) :=
  fun_ok (X := X50) tok (sfok_of trivial) mixed 50 8 cuts50 rfl toB50_ok trivial ((e50 n a0).trans h)
theorem ok50 {R : Type} : SFone T Try.prog 50 (run50 : SF R) := by
  intro ls K r h
  simp only [run50] at h
  obtain ⟨a0, ls1, rfl, h1⟩ := gI_ok h; obtain ⟨rfl, h2⟩ := gE_ok h1
  obtain ⟨y, k1, k2⟩ := Option.bind_eq_some_iff.1 h2
  exact ⟨_, k2, sp50 a0 k1⟩

/-! ### garland/garlandref06.Call -/
def pa16 : List VP := [.i .i64, .i .i64]
def sr16 : RShape := ⟨.tup [.i .i64, .i .i64], [], none⟩
def toB16 : List Leaf → Option (Int × Int) := gI (fun b0 => gI (fun b1 => gE (some (b0, b1))))
def ofB16 (y : Int × Int) : List Leaf := [.i y.1, .i y.2]
theorem toB16_ok : ∀ ls b, toB16 ls = some b → ls = ofB16 b := by
  intro ls b h
  unfold toB16 at h
  obtain ⟨b0, ls1, rfl, h1⟩ := gI_ok h; obtain ⟨b1, ls2, rfl, h2⟩ := gI_ok h1; obtain ⟨rfl, h3⟩ := gE_ok h2
  cases h3; rfl
def run16 {R : Type} : SF R := ⟨pa16, sr16, fun ls K => (gI (fun a0 => gI (fun a1 => gE (Option.bind (F16 FUEL a0 a1) fun y => K (ofB16 y))))) ls⟩
def cuts16 : List (List Nat × Cut (Int × Int)) := []
noncomputable def X16 : Px (Int × Int) := ⟨T, Try.prog, lkF [(50, run50)], mkCuts 16 cuts16, altN, altN_ok⟩
theorem e16 (n : Nat) (a0 : Int) (a1 : Int) : entF X16 8 16 pa16 (endK sr16 toB16) n [.i a0, .i a1] = F16 n a0 a1 := by kernel_rfl
theorem sp16 {n : Nat} (a0 : Int) (a1 : Int) {y : Int × Int} (h : F16 n a0 a1 = some y) : SpecF T Try.prog 16 pa16 [.i a0, .i a1] sr16 (ofB16 y) :=
  fun_ok (X := X16) tok (sfok_of ⟨ok50, trivial⟩) mixed 16 8 cuts16 rfl toB16_ok trivial ((e16 n a0 a1).trans h)
theorem ok16 {R : Type} : SFone T Try.prog 16 (run16 : SF R) := by
  intro ls K r h
  simp only [run16] at h
  obtain ⟨a0, ls1, rfl, h1⟩ := gI_ok h; obtain ⟨a1, ls2, rfl, h2⟩ := gI_ok h1; obtain ⟨rfl, h3⟩ := gE_ok h2
  obtain ⟨y, k1, k2⟩ := Option.bind_eq_some_iff.1 h3
  exact ⟨_, k2, sp16 a0 a1 k1⟩

/-! ### garland/garlandref06.Pair -/
def pa18 : List VP := [.agg [.s, .i .i64, .i .i64, .b]]
def sr18 : RShape := ⟨.b, [], none⟩
def toB18 : List Leaf → Option (Bool) := gB (fun b0 => gE (some b0))
def ofB18 (y : Bool) : List Leaf := [.b y]
theorem toB18_ok : ∀ ls b, toB18 ls = some b → ls = ofB18 b := by
  intro ls b h
  unfold toB18 at h
  obtain ⟨b0, ls1, rfl, h1⟩ := gB_ok h; obtain ⟨rfl, h2⟩ := gE_ok h1
  cases h2; rfl
def run18 {R : Type} : SF R := ⟨pa18, sr18, fun ls K => (gS (fun a0 => gI (fun a1 => gI (fun a2 => gB (fun a3 => gE (Option.bind (F18 FUEL a0 a1 a2 a3) fun y => K (ofB18 y))))))) ls⟩
def cuts18 : List (List Nat × Cut (Bool)) := []
noncomputable def X18 : Px (Bool) := ⟨T, Try.prog, lkF [], mkCuts 18 cuts18, altN, altN_ok⟩
theorem e18 (n : Nat) (a0 : ByteArray) (a1 : Int) (a2 : Int) (a3 : Bool) : entF X18 8 18 pa18 (endK sr18 toB18) n [.s a0, .i a1, .i a2, .b a3] = F18 n a0 a1 a2 a3 := by kernel_rfl
theorem sp18 {n : Nat} (a0 : ByteArray) (a1 : Int) (a2 : Int) (a3 : Bool) {y : Bool} (h : F18 n a0 a1 a2 a3 = some y) : SpecF T Try.prog 18 pa18 [.s a0, .i a1, .i a2, .b a3] sr18 (ofB18 y) :=
  fun_ok (X := X18) tok (sfok_of trivial) mixed 18 8 cuts18 rfl toB18_ok trivial ((e18 n a0 a1 a2 a3).trans h)
theorem ok18 {R : Type} : SFone T Try.prog 18 (run18 : SF R) := by
  intro ls K r h
  simp only [run18] at h
  obtain ⟨a0, ls1, rfl, h1⟩ := gS_ok h; obtain ⟨a1, ls2, rfl, h2⟩ := gI_ok h1; obtain ⟨a2, ls3, rfl, h3⟩ := gI_ok h2; obtain ⟨a3, ls4, rfl, h4⟩ := gB_ok h3; obtain ⟨rfl, h5⟩ := gE_ok h4
  obtain ⟨y, k1, k2⟩ := Option.bind_eq_some_iff.1 h5
  exact ⟨_, k2, sp18 a0 a1 a2 a3 k1⟩

/-! ### garland/garlandref06.Asks -/
def pa22 : List VP := [.agg [.i .u8, .i .i64, .i .i64, .i .i64, .i .i64, .b, .b, .i .i64, .i .i64, .sl false [.int .i64], .s, .i .i64, .i .i64, .b, .i .i64]]
def sr22 : RShape := ⟨.b, [], none⟩
def toB22 : List Leaf → Option (Bool) := gB (fun b0 => gE (some b0))
def ofB22 (y : Bool) : List Leaf := [.b y]
theorem toB22_ok : ∀ ls b, toB22 ls = some b → ls = ofB22 b := by
  intro ls b h
  unfold toB22 at h
  obtain ⟨b0, ls1, rfl, h1⟩ := gB_ok h; obtain ⟨rfl, h2⟩ := gE_ok h1
  cases h2; rfl
def run22 {R : Type} : SF R := ⟨pa22, sr22, fun ls K => (gI (fun a0 => gI (fun a1 => gI (fun a2 => gI (fun a3 => gI (fun a4 => gB (fun a5 => gB (fun a6 => gI (fun a7 => gI (fun a8 => gL [.int .i64] (fun a9 => gS (fun a10 => gI (fun a11 => gI (fun a12 => gB (fun a13 => gI (fun a14 => gE (Option.bind (F22 FUEL a0 a1 a2 a3 a4 a5 a6 a7 a8 a9 a10 a11 a12 a13 a14) fun y => K (ofB22 y)))))))))))))))))) ls⟩
def cuts22 : List (List Nat × Cut (Bool)) := []
noncomputable def X22 : Px (Bool) := ⟨T, Try.prog, lkF [], mkCuts 22 cuts22, altN, altN_ok⟩
theorem e22 (n : Nat) (a0 : Int) (a1 : Int) (a2 : Int) (a3 : Int) (a4 : Int) (a5 : Bool) (a6 : Bool) (a7 : Int) (a8 : Int) (a9 : List (Int)) (a10 : ByteArray) (a11 : Int) (a12 : Int) (a13 : Bool) (a14 : Int) : entF X22 8 22 pa22 (endK sr22 toB22) n [.i a0, .i a1, .i a2, .i a3, .i a4, .b a5, .b a6, .i a7, .i a8, .l [.int .i64] a9, .s a10, .i a11, .i a12, .b a13, .i a14] = F22 n a0 a1 a2 a3 a4 a5 a6 a7 a8 a9 a10 a11 a12 a13 a14 := by kernel_rfl
theorem sp22 {n : Nat} (a0 : Int) (a1 : Int) (a2 : Int) (a3 : Int) (a4 : Int) (a5 : Bool) (a6 : Bool) (a7 : Int) (a8 : Int) (a9 : List (Int)) (a10 : ByteArray) (a11 : Int) (a12 : Int) (a13 : Bool) (a14 : Int) {y : Bool} (h : F22 n a0 a1 a2 a3 a4 a5 a6 a7 a8 a9 a10 a11 a12 a13 a14 = some y) : SpecF T Try.prog 22 pa22 [.i a0, .i a1, .i a2, .i a3, .i a4, .b a5, .b a6, .i a7, .i a8, .l [.int .i64] a9, .s a10, .i a11, .i a12, .b a13, .i a14] sr22 (ofB22 y) :=
  fun_ok (X := X22) tok (sfok_of trivial) mixed 22 8 cuts22 rfl toB22_ok trivial ((e22 n a0 a1 a2 a3 a4 a5 a6 a7 a8 a9 a10 a11 a12 a13 a14).trans h)
theorem ok22 {R : Type} : SFone T Try.prog 22 (run22 : SF R) := by
  intro ls K r h
  simp only [run22] at h
  obtain ⟨a0, ls1, rfl, h1⟩ := gI_ok h; obtain ⟨a1, ls2, rfl, h2⟩ := gI_ok h1; obtain ⟨a2, ls3, rfl, h3⟩ := gI_ok h2; obtain ⟨a3, ls4, rfl, h4⟩ := gI_ok h3; obtain ⟨a4, ls5, rfl, h5⟩ := gI_ok h4; obtain ⟨a5, ls6, rfl, h6⟩ := gB_ok h5; obtain ⟨a6, ls7, rfl, h7⟩ := gB_ok h6; obtain ⟨a7, ls8, rfl, h8⟩ := gI_ok h7; obtain ⟨a8, ls9, rfl, h9⟩ := gI_ok h8; obtain ⟨a9, ls10, rfl, h10⟩ := gL_ok h9; obtain ⟨a10, ls11, rfl, h11⟩ := gS_ok h10; obtain ⟨a11, ls12, rfl, h12⟩ := gI_ok h11; obtain ⟨a12, ls13, rfl, h13⟩ := gI_ok h12; obtain ⟨a13, ls14, rfl, h14⟩ := gB_ok h13; obtain ⟨a14, ls15, rfl, h15⟩ := gI_ok h14; obtain ⟨rfl, h16⟩ := gE_ok h15
  obtain ⟨y, k1, k2⟩ := Option.bind_eq_some_iff.1 h16
  exact ⟨_, k2, sp22 a0 a1 a2 a3 a4 a5 a6 a7 a8 a9 a10 a11 a12 a13 a14 k1⟩

/-! ### garland/garlandref06.Asker -/
def pa24 : List VP := [.agg [.i .u8, .i .i64, .i .i64, .i .i64, .i .i64, .b, .b, .i .i64, .i .i64, .sl false [.int .i64], .s, .i .i64, .i .i64, .b, .i .i64]]
def sr24 : RShape := ⟨.i .i64, [], none⟩
def toB24 : List Leaf → Option (Int) := gI (fun b0 => gE (some b0))
def ofB24 (y : Int) : List Leaf := [.i y]
theorem toB24_ok : ∀ ls b, toB24 ls = some b → ls = ofB24 b := by
  intro ls b h
  unfold toB24 at h
  obtain ⟨b0, ls1, rfl, h1⟩ := gI_ok h; obtain ⟨rfl, h2⟩ := gE_ok h1
  cases h2; rfl
def run24 {R : Type} : SF R := ⟨pa24, sr24, fun ls K => (gI (fun a0 => gI (fun a1 => gI (fun a2 => gI (fun a3 => gI (fun a4 => gB (fun a5 => gB (fun a6 => gI (fun a7 => gI (fun a8 => gL [.int .i64] (fun a9 => gS (fun a10 => gI (fun a11 => gI (fun a12 => gB (fun a13 => gI (fun a14 => gE (Option.bind (F24 FUEL a0 a1 a2 a3 a4 a5 a6 a7 a8 a9 a10 a11 a12 a13 a14) fun y => K (ofB24 y)))))))))))))))))) ls⟩
def cuts24 : List (List Nat × Cut (Int)) := []
noncomputable def X24 : Px (Int) := ⟨T, Try.prog, lkF [(22, run22)], mkCuts 24 cuts24, altN, altN_ok⟩
theorem e24 (n : Nat) (a0 : Int) (a1 : Int) (a2 : Int) (a3 : Int) (a4 : Int) (a5 : Bool) (a6 : Bool) (a7 : Int) (a8 : Int) (a9 : List (Int)) (a10 : ByteArray) (a11 : Int) (a12 : Int) (a13 : Bool) (a14 : Int) : entF X24 8 24 pa24 (endK sr24 toB24) n [.i a0, .i a1, .i a2, .i a3, .i a4, .b a5, .b a6, .i a7, .i a8, .l [.int .i64] a9, .s a10, .i a11, .i a12, .b a13, .i a14] = F24 n a0 a1 a2 a3 a4 a5 a6 a7 a8 a9 a10 a11 a12 a13 a14 := by kernel_rfl
theorem sp24 {n : Nat} (a0 : Int) (a1 : Int) (a2 : Int) (a3 : Int) (a4 : Int) (a5 : Bool) (a6 : Bool) (a7 : Int) (a8 : Int) (a9 : List (Int)) (a10 : ByteArray) (a11 : Int) (a12 : Int) (a13 : Bool) (a14 : Int) {y : Int} (h : F24 n a0 a1 a2 a3 a4 a5 a6 a7 a8 a9 a10 a11 a12 a13 a14 = some y) : SpecF T Try.prog 24 pa24 [.i a0, .i a1, .i a2, .i a3, .i a4, .b a5, .b a6, .i a7, .i a8, .l [.int .i64] a9, .s a10, .i a11, .i a12, .b a13, .i a14] sr24 (ofB24 y) :=
  fun_ok (X := X24) tok (sfok_of ⟨ok22, trivial⟩) mixed 24 8 cuts24 rfl toB24_ok trivial ((e24 n a0 a1 a2 a3 a4 a5 a6 a7 a8 a9 a10 a11 a12 a13 a14).trans h)
theorem ok24 {R : Type} : SFone T Try.prog 24 (run24 : SF R) := by
  intro ls K r h
  simp only [run24] at h
  obtain ⟨a0, ls1, rfl, h1⟩ := gI_ok h; obtain ⟨a1, ls2, rfl, h2⟩ := gI_ok h1; obtain ⟨a2, ls3, rfl, h3⟩ := gI_ok h2; obtain ⟨a3, ls4, rfl, h4⟩ := gI_ok h3; obtain ⟨a4, ls5, rfl, h5⟩ := gI_ok h4; obtain ⟨a5, ls6, rfl, h6⟩ := gB_ok h5; obtain ⟨a6, ls7, rfl, h7⟩ := gB_ok h6; obtain ⟨a7, ls8, rfl, h8⟩ := gI_ok h7; obtain ⟨a8, ls9, rfl, h9⟩ := gI_ok h8; obtain ⟨a9, ls10, rfl, h10⟩ := gL_ok h9; obtain ⟨a10, ls11, rfl, h11⟩ := gS_ok h10; obtain ⟨a11, ls12, rfl, h12⟩ := gI_ok h11; obtain ⟨a12, ls13, rfl, h13⟩ := gI_ok h12; obtain ⟨a13, ls14, rfl, h14⟩ := gB_ok h13; obtain ⟨a14, ls15, rfl, h15⟩ := gI_ok h14; obtain ⟨rfl, h16⟩ := gE_ok h15
  obtain ⟨y, k1, k2⟩ := Option.bind_eq_some_iff.1 h16
  exact ⟨_, k2, sp24 a0 a1 a2 a3 a4 a5 a6 a7 a8 a9 a10 a11 a12 a13 a14 k1⟩

/-! ### garland/garlandref06.bare -/
def pa57 : List VP := [.agg [.i .u8, .i .i64, .i .i64, .i .i64, .i .i64, .b, .b, .i .i64, .i .i64, .opq 0, .s, .i .i64, .i .i64, .b, .i .i64]]
def sr57 : RShape := ⟨.agg [.i .u8, .i .i64, .i .i64, .i .i64, .i .i64, .b, .b, .i .i64, .i .i64, .opq 0, .s, .i .i64, .i .i64, .b, .i .i64], [], some (.agg [.i .u8, .i .i64, .i .i64, .i .i64, .i .i64, .b, .b, .i .i64, .i .i64, .nil, .s, .i .i64, .i .i64, .b, .i .i64])⟩
def toB57 : List Leaf → Option (Sbi5b2i2si2bi) := gB (fun b0 => gI (fun b1 => gI (fun b2 => gI (fun b3 => gI (fun b4 => gI (fun b5 => gB (fun b6 => gB (fun b7 => gI (fun b8 => gI (fun b9 => gS (fun b10 => gI (fun b11 => gI (fun b12 => gB (fun b13 => gI (fun b14 => gE (some ⟨b0, b1, b2, b3, b4, b5, b6, b7, b8, b9, b10, b11, b12, b13, b14⟩))))))))))))))))
def ofB57 (y : Sbi5b2i2si2bi) : List Leaf := [.b y.q0, .i y.q1, .i y.q2, .i y.q3, .i y.q4, .i y.q5, .b y.q6, .b y.q7, .i y.q8, .i y.q9, .s y.q10, .i y.q11, .i y.q12, .b y.q13, .i y.q14]
theorem toB57_ok : ∀ ls b, toB57 ls = some b → ls = ofB57 b := by
  intro ls b h
  unfold toB57 at h
  obtain ⟨b0, ls1, rfl, h1⟩ := gB_ok h; obtain ⟨b1, ls2, rfl, h2⟩ := gI_ok h1; obtain ⟨b2, ls3, rfl, h3⟩ := gI_ok h2; obtain ⟨b3, ls4, rfl, h4⟩ := gI_ok h3; obtain ⟨b4, ls5, rfl, h5⟩ := gI_ok h4; obtain ⟨b5, ls6, rfl, h6⟩ := gI_ok h5; obtain ⟨b6, ls7, rfl, h7⟩ := gB_ok h6; obtain ⟨b7, ls8, rfl, h8⟩ := gB_ok h7; obtain ⟨b8, ls9, rfl, h9⟩ := gI_ok h8; obtain ⟨b9, ls10, rfl, h10⟩ := gI_ok h9; obtain ⟨b10, ls11, rfl, h11⟩ := gS_ok h10; obtain ⟨b11, ls12, rfl, h12⟩ := gI_ok h11; obtain ⟨b12, ls13, rfl, h13⟩ := gI_ok h12; obtain ⟨b13, ls14, rfl, h14⟩ := gB_ok h13; obtain ⟨b14, ls15, rfl, h15⟩ := gI_ok h14; obtain ⟨rfl, h16⟩ := gE_ok h15
  cases h16; rfl
def run57 {R : Type} : SF R := ⟨pa57, sr57, fun ls K => (gI (fun a0 => gI (fun a1 => gI (fun a2 => gI (fun a3 => gI (fun a4 => gB (fun a5 => gB (fun a6 => gI (fun a7 => gI (fun a8 => gS (fun a9 => gI (fun a10 => gI (fun a11 => gB (fun a12 => gI (fun a13 => gE (Option.bind (F57 FUEL a0 a1 a2 a3 a4 a5 a6 a7 a8 a9 a10 a11 a12 a13) fun y => K (ofB57 y))))))))))))))))) ls⟩
def cuts57 : List (List Nat × Cut (Sbi5b2i2si2bi)) := []
noncomputable def X57 : Px (Sbi5b2i2si2bi) := ⟨T, Try.prog, lkF [], mkCuts 57 cuts57, altN, altN_ok⟩
theorem e57 (n : Nat) (a0 : Int) (a1 : Int) (a2 : Int) (a3 : Int) (a4 : Int) (a5 : Bool) (a6 : Bool) (a7 : Int) (a8 : Int) (a9 : ByteArray) (a10 : Int) (a11 : Int) (a12 : Bool) (a13 : Int) : entF X57 8 57 pa57 (endK sr57 toB57) n [.i a0, .i a1, .i a2, .i a3, .i a4, .b a5, .b a6, .i a7, .i a8, .s a9, .i a10, .i a11, .b a12, .i a13] = F57 n a0 a1 a2 a3 a4 a5 a6 a7 a8 a9 a10 a11 a12 a13 := by kernel_rfl
theorem sp57 {n : Nat} (a0 : Int) (a1 : Int) (a2 : Int) (a3 : Int) (a4 : Int) (a5 : Bool) (a6 : Bool) (a7 : Int) (a8 : Int) (a9 : ByteArray) (a10 : Int) (a11 : Int) (a12 : Bool) (a13 : Int) {y : Sbi5b2i2si2bi} (h : F57 n a0 a1 a2 a3 a4 a5 a6 a7 a8 a9 a10 a11 a12 a13 = some y) : SpecF T Try.prog 57 pa57 [.i a0, .i a1, .i a2, .i a3, .i a4, .b a5, .b a6, .i a7, .i a8, .s a9, .i a10, .i a11, .b a12, .i a13] sr57 (ofB57 y) :=
  fun_ok (X := X57) tok (sfok_of trivial) mixed 57 8 cuts57 rfl toB57_ok trivial ((e57 n a0 a1 a2 a3 a4 a5 a6 a7 a8 a9 a10 a11 a12 a13).trans h)
theorem ok57 {R : Type} : SFone T Try.prog 57 (run57 : SF R) := by
  intro ls K r h
  simp only [run57] at h
  obtain ⟨a0, ls1, rfl, h1⟩ := gI_ok h; obtain ⟨a1, ls2, rfl, h2⟩ := gI_ok h1; obtain ⟨a2, ls3, rfl, h3⟩ := gI_ok h2; obtain ⟨a3, ls4, rfl, h4⟩ := gI_ok h3; obtain ⟨a4, ls5, rfl, h5⟩ := gI_ok h4; obtain ⟨a5, ls6, rfl, h6⟩ := gB_ok h5; obtain ⟨a6, ls7, rfl, h7⟩ := gB_ok h6; obtain ⟨a7, ls8, rfl, h8⟩ := gI_ok h7; obtain ⟨a8, ls9, rfl, h9⟩ := gI_ok h8; obtain ⟨a9, ls10, rfl, h10⟩ := gS_ok h9; obtain ⟨a10, ls11, rfl, h11⟩ := gI_ok h10; obtain ⟨a11, ls12, rfl, h12⟩ := gI_ok h11; obtain ⟨a12, ls13, rfl, h13⟩ := gB_ok h12; obtain ⟨a13, ls14, rfl, h14⟩ := gI_ok h13; obtain ⟨rfl, h15⟩ := gE_ok h14
  obtain ⟨y, k1, k2⟩ := Option.bind_eq_some_iff.1 h15
  exact ⟨_, k2, sp57 a0 a1 a2 a3 a4 a5 a6 a7 a8 a9 a10 a11 a12 a13 k1⟩

/-! ### garland/garlandref06.Same -/
def pa25 : List VP := [.agg [.i .u8, .i .i64, .i .i64, .i .i64, .i .i64, .b, .b, .i .i64, .i .i64, .sl false [.int .i64], .s, .i .i64, .i .i64, .b, .i .i64], .agg [.i .u8, .i .i64, .i .i64, .i .i64, .i .i64, .b, .b, .i .i64, .i .i64, .sl false [.int .i64], .s, .i .i64, .i .i64, .b, .i .i64]]
def sr25 : RShape := ⟨.b, [], none⟩
def toB25 : List Leaf → Option (Bool) := gB (fun b0 => gE (some b0))
def ofB25 (y : Bool) : List Leaf := [.b y]
theorem toB25_ok : ∀ ls b, toB25 ls = some b → ls = ofB25 b := by
  intro ls b h
  unfold toB25 at h
  obtain ⟨b0, ls1, rfl, h1⟩ := gB_ok h; obtain ⟨rfl, h2⟩ := gE_ok h1
  cases h2; rfl
def run25 {R : Type} : SF R := ⟨pa25, sr25, fun ls K => (gI (fun a0 => gI (fun a1 => gI (fun a2 => gI (fun a3 => gI (fun a4 => gB (fun a5 => gB (fun a6 => gI (fun a7 => gI (fun a8 => gL [.int .i64] (fun a9 => gS (fun a10 => gI (fun a11 => gI (fun a12 => gB (fun a13 => gI (fun a14 => gI (fun a15 => gI (fun a16 => gI (fun a17 => gI (fun a18 => gI (fun a19 => gB (fun a20 => gB (fun a21 => gI (fun a22 => gI (fun a23 => gL [.int .i64] (fun a24 => gS (fun a25 => gI (fun a26 => gI (fun a27 => gB (fun a28 => gI (fun a29 => gE (Option.bind (F25 FUEL a0 a1 a2 a3 a4 a5 a6 a7 a8 a9 a10 a11 a12 a13 a14 a15 a16 a17 a18 a19 a20 a21 a22 a23 a24 a25 a26 a27 a28 a29) fun y => K (ofB25 y))))))))))))))))))))))))))))))))) ls⟩
def sh25_0 : Shape := ⟨[(106, [(2, .ref 0 0), (3, .ref 1 0), (5, .i .i64)])], [.cells [.i .u8, .i .i64, .i .i64, .i .i64, .i .i64, .b, .b, .i .i64, .i .i64, .sl false [.int .i64], .s, .i .i64, .i .i64, .b, .i .i64], .cells [.i .u8, .i .i64, .i .i64, .i .i64, .i .i64, .b, .b, .i .i64, .i .i64, .sl false [.int .i64], .s, .i .i64, .i .i64, .b, .i .i64]]⟩
def g25_0 (n : Nat) : List Leaf → Option (Bool) := gI (fun x0 => gI (fun x1 => gI (fun x2 => gI (fun x3 => gI (fun x4 => gI (fun x5 => gB (fun x6 => gB (fun x7 => gI (fun x8 => gI (fun x9 => gL [.int .i64] (fun x10 => gS (fun x11 => gI (fun x12 => gI (fun x13 => gB (fun x14 => gI (fun x15 => gI (fun x16 => gI (fun x17 => gI (fun x18 => gI (fun x19 => gI (fun x20 => gB (fun x21 => gB (fun x22 => gI (fun x23 => gI (fun x24 => gL [.int .i64] (fun x25 => gS (fun x26 => gI (fun x27 => gI (fun x28 => gB (fun x29 => gI (fun x30 => gE (F25_c0 n x0 x1 x2 x3 x4 x5 x6 x7 x8 x9 x10 x11 x12 x13 x14 x15 x16 x17 x18 x19 x20 x21 x22 x23 x24 x25 x26 x27 x28 x29 x30))))))))))))))))))))))))))))))))
def cuts25 : List (List Nat × Cut (Bool)) := [([1, 1, 0, 1, 0], ⟨sh25_0, g25_0⟩)]
noncomputable def X25 : Px (Bool) := ⟨T, Try.prog, lkF [], mkCuts 25 cuts25, altN, altN_ok⟩
theorem e25_0 (n : Nat) (x0 : Int) (x1 : Int) (x2 : Int) (x3 : Int) (x4 : Int) (x5 : Int) (x6 : Bool) (x7 : Bool) (x8 : Int) (x9 : Int) (x10 : List (Int)) (x11 : ByteArray) (x12 : Int) (x13 : Int) (x14 : Bool) (x15 : Int) (x16 : Int) (x17 : Int) (x18 : Int) (x19 : Int) (x20 : Int) (x21 : Bool) (x22 : Bool) (x23 : Int) (x24 : Int) (x25 : List (Int)) (x26 : ByteArray) (x27 : Int) (x28 : Int) (x29 : Bool) (x30 : Int) : stepF X25 8 25 (endK sr25 toB25) [1, 1, 0, 1, 0] sh25_0 n [.i x0, .i x1, .i x2, .i x3, .i x4, .i x5, .b x6, .b x7, .i x8, .i x9, .l [.int .i64] x10, .s x11, .i x12, .i x13, .b x14, .i x15, .i x16, .i x17, .i x18, .i x19, .i x20, .b x21, .b x22, .i x23, .i x24, .l [.int .i64] x25, .s x26, .i x27, .i x28, .b x29, .i x30] = F25_c0 (n + 1) x0 x1 x2 x3 x4 x5 x6 x7 x8 x9 x10 x11 x12 x13 x14 x15 x16 x17 x18 x19 x20 x21 x22 x23 x24 x25 x26 x27 x28 x29 x30 := by kernel_rfl
theorem e25 (n : Nat) (a0 : Int) (a1 : Int) (a2 : Int) (a3 : Int) (a4 : Int) (a5 : Bool) (a6 : Bool) (a7 : Int) (a8 : Int) (a9 : List (Int)) (a10 : ByteArray) (a11 : Int) (a12 : Int) (a13 : Bool) (a14 : Int) (a15 : Int) (a16 : Int) (a17 : Int) (a18 : Int) (a19 : Int) (a20 : Bool) (a21 : Bool) (a22 : Int) (a23 : Int) (a24 : List (Int)) (a25 : ByteArray) (a26 : Int) (a27 : Int) (a28 : Bool) (a29 : Int) : entF X25 8 25 pa25 (endK sr25 toB25) n [.i a0, .i a1, .i a2, .i a3, .i a4, .b a5, .b a6, .i a7, .i a8, .l [.int .i64] a9, .s a10, .i a11, .i a12, .b a13, .i a14, .i a15, .i a16, .i a17, .i a18, .i a19, .b a20, .b a21, .i a22, .i a23, .l [.int .i64] a24, .s a25, .i a26, .i a27, .b a28, .i a29] = F25 n a0 a1 a2 a3 a4 a5 a6 a7 a8 a9 a10 a11 a12 a13 a14 a15 a16 a17 a18 a19 a20 a21 a22 a23 a24 a25 a26 a27 a28 a29 := by kernel_rfl
theorem c25_0 : CutOK X25 8 25 (endK sr25 toB25) [1, 1, 0, 1, 0] ⟨sh25_0, g25_0⟩ := by
  refine ⟨fun ls => ?_, fun n ls r h => ?_⟩
  · cases h : g25_0 0 ls with
    | none => exact h
    | some r =>
      unfold g25_0 at h; obtain ⟨x0, ls1, rfl, h1⟩ := gI_ok h; obtain ⟨x1, ls2, rfl, h2⟩ := gI_ok h1; obtain ⟨x2, ls3, rfl, h3⟩ := gI_ok h2; obtain ⟨x3, ls4, rfl, h4⟩ := gI_ok h3; obtain ⟨x4, ls5, rfl, h5⟩ := gI_ok h4; obtain ⟨x5, ls6, rfl, h6⟩ := gI_ok h5; obtain ⟨x6, ls7, rfl, h7⟩ := gB_ok h6; obtain ⟨x7, ls8, rfl, h8⟩ := gB_ok h7; obtain ⟨x8, ls9, rfl, h9⟩ := gI_ok h8; obtain ⟨x9, ls10, rfl, h10⟩ := gI_ok h9; obtain ⟨x10, ls11, rfl, h11⟩ := gL_ok h10; obtain ⟨x11, ls12, rfl, h12⟩ := gS_ok h11; obtain ⟨x12, ls13, rfl, h13⟩ := gI_ok h12; obtain ⟨x13, ls14, rfl, h14⟩ := gI_ok h13; obtain ⟨x14, ls15, rfl, h15⟩ := gB_ok h14; obtain ⟨x15, ls16, rfl, h16⟩ := gI_ok h15; obtain ⟨x16, ls17, rfl, h17⟩ := gI_ok h16; obtain ⟨x17, ls18, rfl, h18⟩ := gI_ok h17; obtain ⟨x18, ls19, rfl, h19⟩ := gI_ok h18; obtain ⟨x19, ls20, rfl, h20⟩ := gI_ok h19; obtain ⟨x20, ls21, rfl, h21⟩ := gI_ok h20; obtain ⟨x21, ls22, rfl, h22⟩ := gB_ok h21; obtain ⟨x22, ls23, rfl, h23⟩ := gB_ok h22; obtain ⟨x23, ls24, rfl, h24⟩ := gI_ok h23; obtain ⟨x24, ls25, rfl, h25⟩ := gI_ok h24; obtain ⟨x25, ls26, rfl, h26⟩ := gL_ok h25; obtain ⟨x26, ls27, rfl, h27⟩ := gS_ok h26; obtain ⟨x27, ls28, rfl, h28⟩ := gI_ok h27; obtain ⟨x28, ls29, rfl, h29⟩ := gI_ok h28; obtain ⟨x29, ls30, rfl, h30⟩ := gB_ok h29; obtain ⟨x30, ls31, rfl, h31⟩ := gI_ok h30; obtain ⟨rfl, h32⟩ := gE_ok h31; simp only [F25_c0] at h32; cases h32
  · replace h : g25_0 (n + 1) ls = some r := h
    unfold g25_0 at h
    obtain ⟨x0, ls1, rfl, h1⟩ := gI_ok h; obtain ⟨x1, ls2, rfl, h2⟩ := gI_ok h1; obtain ⟨x2, ls3, rfl, h3⟩ := gI_ok h2; obtain ⟨x3, ls4, rfl, h4⟩ := gI_ok h3; obtain ⟨x4, ls5, rfl, h5⟩ := gI_ok h4; obtain ⟨x5, ls6, rfl, h6⟩ := gI_ok h5; obtain ⟨x6, ls7, rfl, h7⟩ := gB_ok h6; obtain ⟨x7, ls8, rfl, h8⟩ := gB_ok h7; obtain ⟨x8, ls9, rfl, h9⟩ := gI_ok h8; obtain ⟨x9, ls10, rfl, h10⟩ := gI_ok h9; obtain ⟨x10, ls11, rfl, h11⟩ := gL_ok h10; obtain ⟨x11, ls12, rfl, h12⟩ := gS_ok h11; obtain ⟨x12, ls13, rfl, h13⟩ := gI_ok h12; obtain ⟨x13, ls14, rfl, h14⟩ := gI_ok h13; obtain ⟨x14, ls15, rfl, h15⟩ := gB_ok h14; obtain ⟨x15, ls16, rfl, h16⟩ := gI_ok h15; obtain ⟨x16, ls17, rfl, h17⟩ := gI_ok h16; obtain ⟨x17, ls18, rfl, h18⟩ := gI_ok h17; obtain ⟨x18, ls19, rfl, h19⟩ := gI_ok h18; obtain ⟨x19, ls20, rfl, h20⟩ := gI_ok h19; obtain ⟨x20, ls21, rfl, h21⟩ := gI_ok h20; obtain ⟨x21, ls22, rfl, h22⟩ := gB_ok h21; obtain ⟨x22, ls23, rfl, h23⟩ := gB_ok h22; obtain ⟨x23, ls24, rfl, h24⟩ := gI_ok h23; obtain ⟨x24, ls25, rfl, h25⟩ := gI_ok h24; obtain ⟨x25, ls26, rfl, h26⟩ := gL_ok h25; obtain ⟨x26, ls27, rfl, h27⟩ := gS_ok h26; obtain ⟨x27, ls28, rfl, h28⟩ := gI_ok h27; obtain ⟨x28, ls29, rfl, h29⟩ := gI_ok h28; obtain ⟨x29, ls30, rfl, h30⟩ := gB_ok h29; obtain ⟨x30, ls31, rfl, h31⟩ := gI_ok h30; obtain ⟨rfl, h32⟩ := gE_ok h31
    exact (e25_0 n x0 x1 x2 x3 x4 x5 x6 x7 x8 x9 x10 x11 x12 x13 x14 x15 x16 x17 x18 x19 x20 x21 x22 x23 x24 x25 x26 x27 x28 x29 x30).trans h32
theorem sp25 {n : Nat} (a0 : Int) (a1 : Int) (a2 : Int) (a3 : Int) (a4 : Int) (a5 : Bool) (a6 : Bool) (a7 : Int) (a8 : Int) (a9 : List (Int)) (a10 : ByteArray) (a11 : Int) (a12 : Int) (a13 : Bool) (a14 : Int) (a15 : Int) (a16 : Int) (a17 : Int) (a18 : Int) (a19 : Int) (a20 : Bool) (a21 : Bool) (a22 : Int) (a23 : Int) (a24 : List (Int)) (a25 : ByteArray) (a26 : Int) (a27 : Int) (a28 : Bool) (a29 : Int) {y : Bool} (h : F25 n a0 a1 a2 a3 a4 a5 a6 a7 a8 a9 a10 a11 a12 a13 a14 a15 a16 a17 a18 a19 a20 a21 a22 a23 a24 a25 a26 a27 a28 a29 = some y) : SpecF T Try.prog 25 pa25 [.i a0, .i a1, .i a2, .i a3, .i a4, .b a5, .b a6, .i a7, .i a8, .l [.int .i64] a9, .s a10, .i a11, .i a12, .b a13, .i a14, .i a15, .i a16, .i a17, .i a18, .i a19, .b a20, .b a21, .i a22, .i a23, .l [.int .i64] a24, .s a25, .i a26, .i a27, .b a28, .i a29] sr25 (ofB25 y) :=
  fun_ok (X := X25) tok (sfok_of trivial) mixed 25 8 cuts25 rfl toB25_ok ⟨c25_0, trivial⟩ ((e25 n a0 a1 a2 a3 a4 a5 a6 a7 a8 a9 a10 a11 a12 a13 a14 a15 a16 a17 a18 a19 a20 a21 a22 a23 a24 a25 a26 a27 a28 a29).trans h)
theorem ok25 {R : Type} : SFone T Try.prog 25 (run25 : SF R) := by
  intro ls K r h
  simp only [run25] at h
  obtain ⟨a0, ls1, rfl, h1⟩ := gI_ok h; obtain ⟨a1, ls2, rfl, h2⟩ := gI_ok h1; obtain ⟨a2, ls3, rfl, h3⟩ := gI_ok h2; obtain ⟨a3, ls4, rfl, h4⟩ := gI_ok h3; obtain ⟨a4, ls5, rfl, h5⟩ := gI_ok h4; obtain ⟨a5, ls6, rfl, h6⟩ := gB_ok h5; obtain ⟨a6, ls7, rfl, h7⟩ := gB_ok h6; obtain ⟨a7, ls8, rfl, h8⟩ := gI_ok h7; obtain ⟨a8, ls9, rfl, h9⟩ := gI_ok h8; obtain ⟨a9, ls10, rfl, h10⟩ := gL_ok h9; obtain ⟨a10, ls11, rfl, h11⟩ := gS_ok h10; obtain ⟨a11, ls12, rfl, h12⟩ := gI_ok h11; obtain ⟨a12, ls13, rfl, h13⟩ := gI_ok h12; obtain ⟨a13, ls14, rfl, h14⟩ := gB_ok h13; obtain ⟨a14, ls15, rfl, h15⟩ := gI_ok h14; obtain ⟨a15, ls16, rfl, h16⟩ := gI_ok h15; obtain ⟨a16, ls17, rfl, h17⟩ := gI_ok h16; obtain ⟨a17, ls18, rfl, h18⟩ := gI_ok h17; obtain ⟨a18, ls19, rfl, h19⟩ := gI_ok h18; obtain ⟨a19, ls20, rfl, h20⟩ := gI_ok h19; obtain ⟨a20, ls21, rfl, h21⟩ := gB_ok h20; obtain ⟨a21, ls22, rfl, h22⟩ := gB_ok h21; obtain ⟨a22, ls23, rfl, h23⟩ := gI_ok h22; obtain ⟨a23, ls24, rfl, h24⟩ := gI_ok h23; obtain ⟨a24, ls25, rfl, h25⟩ := gL_ok h24; obtain ⟨a25, ls26, rfl, h26⟩ := gS_ok h25; obtain ⟨a26, ls27, rfl, h27⟩ := gI_ok h26; obtain ⟨a27, ls28, rfl, h28⟩ := gI_ok h27; obtain ⟨a28, ls29, rfl, h29⟩ := gB_ok h28; obtain ⟨a29, ls30, rfl, h30⟩ := gI_ok h29; obtain ⟨rfl, h31⟩ := gE_ok h30
  obtain ⟨y, k1, k2⟩ := Option.bind_eq_some_iff.1 h31
  exact ⟨_, k2, sp25 a0 a1 a2 a3 a4 a5 a6 a7 a8 a9 a10 a11 a12 a13 a14 a15 a16 a17 a18 a19 a20 a21 a22 a23 a24 a25 a26 a27 a28 a29 k1⟩

/-! ### garland/garlandref06.list -/
def pa67 : List VP := [.sl false [.int .i64], .i .i64]
def sr67 : RShape := ⟨.b, [], none⟩
def toB67 : List Leaf → Option (Bool) := gB (fun b0 => gE (some b0))
def ofB67 (y : Bool) : List Leaf := [.b y]
theorem toB67_ok : ∀ ls b, toB67 ls = some b → ls = ofB67 b := by
  intro ls b h
  unfold toB67 at h
  obtain ⟨b0, ls1, rfl, h1⟩ := gB_ok h; obtain ⟨rfl, h2⟩ := gE_ok h1
  cases h2; rfl
def run67 {R : Type} : SF R := ⟨pa67, sr67, fun ls K => (gL [.int .i64] (fun a0 => gI (fun a1 => gE (Option.bind (F67 FUEL a0 a1) fun y => K (ofB67 y))))) ls⟩
def sh67_0 : Shape := ⟨[(44, [(0, .sl false [.int .i64]), (1, .i .i64), (5, .i .i64)])], []⟩
def g67_0 (n : Nat) : List Leaf → Option (Bool) := gL [.int .i64] (fun x0 => gI (fun x1 => gI (fun x2 => gE (F67_c0 n x0 x1 x2))))
def sh67_1 : Shape := ⟨[(44, [(0, .sl false [.int .i64]), (1, .i .i64), (5, .i .i64), (6, .i .i64)])], []⟩
def g67_1 (n : Nat) : List Leaf → Option (Bool) := gL [.int .i64] (fun x0 => gI (fun x1 => gI (fun x2 => gI (fun x3 => gE (F67_c1 n x0 x1 x2 x3)))))
def cuts67 : List (List Nat × Cut (Bool)) := [([1, 0, 1, 0], ⟨sh67_0, g67_0⟩), ([1, 0, 1, 0, 0, 1, 0, 0, 1, 1, 0], ⟨sh67_1, g67_1⟩)]
noncomputable def X67 : Px (Bool) := ⟨T, Try.prog, lkF [(50, run50)], mkCuts 67 cuts67, altN, altN_ok⟩
theorem e67_0 (n : Nat) (x0 : List (Int)) (x1 : Int) (x2 : Int) : stepF X67 8 67 (endK sr67 toB67) [1, 0, 1, 0] sh67_0 n [.l [.int .i64] x0, .i x1, .i x2] = F67_c0 (n + 1) x0 x1 x2 := by kernel_rfl
theorem e67_1 (n : Nat) (x0 : List (Int)) (x1 : Int) (x2 : Int) (x3 : Int) : stepF X67 8 67 (endK sr67 toB67) [1, 0, 1, 0, 0, 1, 0, 0, 1, 1, 0] sh67_1 n [.l [.int .i64] x0, .i x1, .i x2, .i x3] = F67_c1 (n + 1) x0 x1 x2 x3 := by kernel_rfl
theorem e67 (n : Nat) (a0 : List (Int)) (a1 : Int) : entF X67 8 67 pa67 (endK sr67 toB67) n [.l [.int .i64] a0, .i a1] = F67 n a0 a1 := by kernel_rfl
theorem c67_0 : CutOK X67 8 67 (endK sr67 toB67) [1, 0, 1, 0] ⟨sh67_0, g67_0⟩ := by
  refine ⟨fun ls => ?_, fun n ls r h => ?_⟩
  · cases h : g67_0 0 ls with
    | none => exact h
    | some r =>
      unfold g67_0 at h; obtain ⟨x0, ls1, rfl, h1⟩ := gL_ok h; obtain ⟨x1, ls2, rfl, h2⟩ := gI_ok h1; obtain ⟨x2, ls3, rfl, h3⟩ := gI_ok h2; obtain ⟨rfl, h4⟩ := gE_ok h3; simp only [F67_c0] at h4; cases h4
  · replace h : g67_0 (n + 1) ls = some r := h
    unfold g67_0 at h
    obtain ⟨x0, ls1, rfl, h1⟩ := gL_ok h; obtain ⟨x1, ls2, rfl, h2⟩ := gI_ok h1; obtain ⟨x2, ls3, rfl, h3⟩ := gI_ok h2; obtain ⟨rfl, h4⟩ := gE_ok h3
    exact (e67_0 n x0 x1 x2).trans h4
theorem c67_1 : CutOK X67 8 67 (endK sr67 toB67) [1, 0, 1, 0, 0, 1, 0, 0, 1, 1, 0] ⟨sh67_1, g67_1⟩ := by
  refine ⟨fun ls => ?_, fun n ls r h => ?_⟩
  · cases h : g67_1 0 ls with
    | none => exact h
    | some r =>
      unfold g67_1 at h; obtain ⟨x0, ls1, rfl, h1⟩ := gL_ok h; obtain ⟨x1, ls2, rfl, h2⟩ := gI_ok h1; obtain ⟨x2, ls3, rfl, h3⟩ := gI_ok h2; obtain ⟨x3, ls4, rfl, h4⟩ := gI_ok h3; obtain ⟨rfl, h5⟩ := gE_ok h4; simp only [F67_c1] at h5; cases h5
  · replace h : g67_1 (n + 1) ls = some r := h
    unfold g67_1 at h
    obtain ⟨x0, ls1, rfl, h1⟩ := gL_ok h; obtain ⟨x1, ls2, rfl, h2⟩ := gI_ok h1; obtain ⟨x2, ls3, rfl, h3⟩ := gI_ok h2; obtain ⟨x3, ls4, rfl, h4⟩ := gI_ok h3; obtain ⟨rfl, h5⟩ := gE_ok h4
    exact (e67_1 n x0 x1 x2 x3).trans h5
theorem sp67 {n : Nat} (a0 : List (Int)) (a1 : Int) {y : Bool} (h : F67 n a0 a1 = some y) : SpecF T Try.prog 67 pa67 [.l [.int .i64] a0, .i a1] sr67 (ofB67 y) :=
  fun_ok (X := X67) tok (sfok_of ⟨ok50, trivial⟩) mixed 67 8 cuts67 rfl toB67_ok ⟨c67_0, c67_1, trivial⟩ ((e67 n a0 a1).trans h)
theorem ok67 {R : Type} : SFone T Try.prog 67 (run67 : SF R) := by
  intro ls K r h
  simp only [run67] at h
  obtain ⟨a0, ls1, rfl, h1⟩ := gL_ok h; obtain ⟨a1, ls2, rfl, h2⟩ := gI_ok h1; obtain ⟨rfl, h3⟩ := gE_ok h2
  obtain ⟨y, k1, k2⟩ := Option.bind_eq_some_iff.1 h3
  exact ⟨_, k2, sp67 a0 a1 k1⟩

/-! ### garland/garlandref06.has -/
def pa58 : List VP := [.agg [.i .u8, .i .i64, .i .i64, .i .i64, .i .i64, .b, .b, .i .i64, .i .i64, .sl false [.int .i64], .s, .i .i64, .i .i64, .b, .i .i64]]
def sr58 : RShape := ⟨.b, [], none⟩
def toB58 : List Leaf → Option (Bool) := gB (fun b0 => gE (some b0))
def ofB58 (y : Bool) : List Leaf := [.b y]
theorem toB58_ok : ∀ ls b, toB58 ls = some b → ls = ofB58 b := by
  intro ls b h
  unfold toB58 at h
  obtain ⟨b0, ls1, rfl, h1⟩ := gB_ok h; obtain ⟨rfl, h2⟩ := gE_ok h1
  cases h2; rfl
def run58 {R : Type} : SF R := ⟨pa58, sr58, fun ls K => (gI (fun a0 => gI (fun a1 => gI (fun a2 => gI (fun a3 => gI (fun a4 => gB (fun a5 => gB (fun a6 => gI (fun a7 => gI (fun a8 => gL [.int .i64] (fun a9 => gS (fun a10 => gI (fun a11 => gI (fun a12 => gB (fun a13 => gI (fun a14 => gE (Option.bind (F58 FUEL a0 a1 a2 a3 a4 a5 a6 a7 a8 a9 a10 a11 a12 a13 a14) fun y => K (ofB58 y)))))))))))))))))) ls⟩
def cuts58 : List (List Nat × Cut (Bool)) := []
noncomputable def X58 : Px (Bool) := ⟨T, Try.prog, lkF [(50, run50), (18, run18), (67, run67)], mkCuts 58 cuts58, altN, altN_ok⟩
theorem e58 (n : Nat) (a0 : Int) (a1 : Int) (a2 : Int) (a3 : Int) (a4 : Int) (a5 : Bool) (a6 : Bool) (a7 : Int) (a8 : Int) (a9 : List (Int)) (a10 : ByteArray) (a11 : Int) (a12 : Int) (a13 : Bool) (a14 : Int) : entF X58 8 58 pa58 (endK sr58 toB58) n [.i a0, .i a1, .i a2, .i a3, .i a4, .b a5, .b a6, .i a7, .i a8, .l [.int .i64] a9, .s a10, .i a11, .i a12, .b a13, .i a14] = F58 n a0 a1 a2 a3 a4 a5 a6 a7 a8 a9 a10 a11 a12 a13 a14 := by kernel_rfl
theorem sp58 {n : Nat} (a0 : Int) (a1 : Int) (a2 : Int) (a3 : Int) (a4 : Int) (a5 : Bool) (a6 : Bool) (a7 : Int) (a8 : Int) (a9 : List (Int)) (a10 : ByteArray) (a11 : Int) (a12 : Int) (a13 : Bool) (a14 : Int) {y : Bool} (h : F58 n a0 a1 a2 a3 a4 a5 a6 a7 a8 a9 a10 a11 a12 a13 a14 = some y) : SpecF T Try.prog 58 pa58 [.i a0, .i a1, .i a2, .i a3, .i a4, .b a5, .b a6, .i a7, .i a8, .l [.int .i64] a9, .s a10, .i a11, .i a12, .b a13, .i a14] sr58 (ofB58 y) :=
  fun_ok (X := X58) tok (sfok_of ⟨ok50, ok18, ok67, trivial⟩) mixed 58 8 cuts58 rfl toB58_ok trivial ((e58 n a0 a1 a2 a3 a4 a5 a6 a7 a8 a9 a10 a11 a12 a13 a14).trans h)
theorem ok58 {R : Type} : SFone T Try.prog 58 (run58 : SF R) := by
  intro ls K r h
  simp only [run58] at h
  obtain ⟨a0, ls1, rfl, h1⟩ := gI_ok h; obtain ⟨a1, ls2, rfl, h2⟩ := gI_ok h1; obtain ⟨a2, ls3, rfl, h3⟩ := gI_ok h2; obtain ⟨a3, ls4, rfl, h4⟩ := gI_ok h3; obtain ⟨a4, ls5, rfl, h5⟩ := gI_ok h4; obtain ⟨a5, ls6, rfl, h6⟩ := gB_ok h5; obtain ⟨a6, ls7, rfl, h7⟩ := gB_ok h6; obtain ⟨a7, ls8, rfl, h8⟩ := gI_ok h7; obtain ⟨a8, ls9, rfl, h9⟩ := gI_ok h8; obtain ⟨a9, ls10, rfl, h10⟩ := gL_ok h9; obtain ⟨a10, ls11, rfl, h11⟩ := gS_ok h10; obtain ⟨a11, ls12, rfl, h12⟩ := gI_ok h11; obtain ⟨a12, ls13, rfl, h13⟩ := gI_ok h12; obtain ⟨a13, ls14, rfl, h14⟩ := gB_ok h13; obtain ⟨a14, ls15, rfl, h15⟩ := gI_ok h14; obtain ⟨rfl, h16⟩ := gE_ok h15
  obtain ⟨y, k1, k2⟩ := Option.bind_eq_some_iff.1 h16
  exact ⟨_, k2, sp58 a0 a1 a2 a3 a4 a5 a6 a7 a8 a9 a10 a11 a12 a13 a14 k1⟩

/-! ### garland/garlandref06.Right -/
def pa20 : List VP := [.agg [.i .u8, .i .i64, .i .i64, .i .i64, .i .i64, .b, .b, .i .i64, .i .i64, .sl false [.int .i64], .s, .i .i64, .i .i64, .b, .i .i64]]
def sr20 : RShape := ⟨.b, [], none⟩
def toB20 : List Leaf → Option (Bool) := gB (fun b0 => gE (some b0))
def ofB20 (y : Bool) : List Leaf := [.b y]
theorem toB20_ok : ∀ ls b, toB20 ls = some b → ls = ofB20 b := by
  intro ls b h
  unfold toB20 at h
  obtain ⟨b0, ls1, rfl, h1⟩ := gB_ok h; obtain ⟨rfl, h2⟩ := gE_ok h1
  cases h2; rfl
def run20 {R : Type} : SF R := ⟨pa20, sr20, fun ls K => (gI (fun a0 => gI (fun a1 => gI (fun a2 => gI (fun a3 => gI (fun a4 => gB (fun a5 => gB (fun a6 => gI (fun a7 => gI (fun a8 => gL [.int .i64] (fun a9 => gS (fun a10 => gI (fun a11 => gI (fun a12 => gB (fun a13 => gI (fun a14 => gE (Option.bind (F20 FUEL a0 a1 a2 a3 a4 a5 a6 a7 a8 a9 a10 a11 a12 a13 a14) fun y => K (ofB20 y)))))))))))))))))) ls⟩
def cuts20 : List (List Nat × Cut (Bool)) := []
noncomputable def X20 : Px (Bool) := ⟨T, Try.prog, lkF [(50, run50), (24, run24), (57, run57), (25, run25), (58, run58)], mkCuts 20 cuts20, altN, altN_ok⟩
theorem e20 (n : Nat) (a0 : Int) (a1 : Int) (a2 : Int) (a3 : Int) (a4 : Int) (a5 : Bool) (a6 : Bool) (a7 : Int) (a8 : Int) (a9 : List (Int)) (a10 : ByteArray) (a11 : Int) (a12 : Int) (a13 : Bool) (a14 : Int) : entF X20 8 20 pa20 (endK sr20 toB20) n [.i a0, .i a1, .i a2, .i a3, .i a4, .b a5, .b a6, .i a7, .i a8, .l [.int .i64] a9, .s a10, .i a11, .i a12, .b a13, .i a14] = F20 n a0 a1 a2 a3 a4 a5 a6 a7 a8 a9 a10 a11 a12 a13 a14 := by kernel_rfl
theorem sp20 {n : Nat} (a0 : Int) (a1 : Int) (a2 : Int) (a3 : Int) (a4 : Int) (a5 : Bool) (a6 : Bool) (a7 : Int) (a8 : Int) (a9 : List (Int)) (a10 : ByteArray) (a11 : Int) (a12 : Int) (a13 : Bool) (a14 : Int) {y : Bool} (h : F20 n a0 a1 a2 a3 a4 a5 a6 a7 a8 a9 a10 a11 a12 a13 a14 = some y) : SpecF T Try.prog 20 pa20 [.i a0, .i a1, .i a2, .i a3, .i a4, .b a5, .b a6, .i a7, .i a8, .l [.int .i64] a9, .s a10, .i a11, .i a12, .b a13, .i a14] sr20 (ofB20 y) :=
  fun_ok (X := X20) tok (sfok_of ⟨ok50, ok24, ok57, ok25, ok58, trivial⟩) mixed 20 8 cuts20 rfl toB20_ok trivial ((e20 n a0 a1 a2 a3 a4 a5 a6 a7 a8 a9 a10 a11 a12 a13 a14).trans h)
theorem ok20 {R : Type} : SFone T Try.prog 20 (run20 : SF R) := by
  intro ls K r h
  simp only [run20] at h
  obtain ⟨a0, ls1, rfl, h1⟩ := gI_ok h; obtain ⟨a1, ls2, rfl, h2⟩ := gI_ok h1; obtain ⟨a2, ls3, rfl, h3⟩ := gI_ok h2; obtain ⟨a3, ls4, rfl, h4⟩ := gI_ok h3; obtain ⟨a4, ls5, rfl, h5⟩ := gI_ok h4; obtain ⟨a5, ls6, rfl, h6⟩ := gB_ok h5; obtain ⟨a6, ls7, rfl, h7⟩ := gB_ok h6; obtain ⟨a7, ls8, rfl, h8⟩ := gI_ok h7; obtain ⟨a8, ls9, rfl, h9⟩ := gI_ok h8; obtain ⟨a9, ls10, rfl, h10⟩ := gL_ok h9; obtain ⟨a10, ls11, rfl, h11⟩ := gS_ok h10; obtain ⟨a11, ls12, rfl, h12⟩ := gI_ok h11; obtain ⟨a12, ls13, rfl, h13⟩ := gI_ok h12; obtain ⟨a13, ls14, rfl, h14⟩ := gB_ok h13; obtain ⟨a14, ls15, rfl, h15⟩ := gI_ok h14; obtain ⟨rfl, h16⟩ := gE_ok h15
  obtain ⟨y, k1, k2⟩ := Option.bind_eq_some_iff.1 h16
  exact ⟨_, k2, sp20 a0 a1 a2 a3 a4 a5 a6 a7 a8 a9 a10 a11 a12 a13 a14 k1⟩

/-! ### garland/garlandref06.Tell -/
def pa27 : List VP := [.agg [.i .u8, .i .i64, .i .i64, .i .i64, .i .i64, .b, .b, .i .i64, .i .i64, .sl false [.int .i64], .s, .i .i64, .i .i64, .b, .i .i64]]
def sr27 : RShape := ⟨.agg [.i .u8, .i .i64, .i .i64, .i .i64, .i .i64, .b, .b, .i .i64, .i .i64, .nil, .s, .i .i64, .i .i64, .b, .i .i64], [], none⟩
def toB27 : List Leaf → Option (Si5b2i2si2bi) := gI (fun b0 => gI (fun b1 => gI (fun b2 => gI (fun b3 => gI (fun b4 => gB (fun b5 => gB (fun b6 => gI (fun b7 => gI (fun b8 => gS (fun b9 => gI (fun b10 => gI (fun b11 => gB (fun b12 => gI (fun b13 => gE (some ⟨b0, b1, b2, b3, b4, b5, b6, b7, b8, b9, b10, b11, b12, b13⟩)))))))))))))))
def ofB27 (y : Si5b2i2si2bi) : List Leaf := [.i y.q0, .i y.q1, .i y.q2, .i y.q3, .i y.q4, .b y.q5, .b y.q6, .i y.q7, .i y.q8, .s y.q9, .i y.q10, .i y.q11, .b y.q12, .i y.q13]
theorem toB27_ok : ∀ ls b, toB27 ls = some b → ls = ofB27 b := by
  intro ls b h
  unfold toB27 at h
  obtain ⟨b0, ls1, rfl, h1⟩ := gI_ok h; obtain ⟨b1, ls2, rfl, h2⟩ := gI_ok h1; obtain ⟨b2, ls3, rfl, h3⟩ := gI_ok h2; obtain ⟨b3, ls4, rfl, h4⟩ := gI_ok h3; obtain ⟨b4, ls5, rfl, h5⟩ := gI_ok h4; obtain ⟨b5, ls6, rfl, h6⟩ := gB_ok h5; obtain ⟨b6, ls7, rfl, h7⟩ := gB_ok h6; obtain ⟨b7, ls8, rfl, h8⟩ := gI_ok h7; obtain ⟨b8, ls9, rfl, h9⟩ := gI_ok h8; obtain ⟨b9, ls10, rfl, h10⟩ := gS_ok h9; obtain ⟨b10, ls11, rfl, h11⟩ := gI_ok h10; obtain ⟨b11, ls12, rfl, h12⟩ := gI_ok h11; obtain ⟨b12, ls13, rfl, h13⟩ := gB_ok h12; obtain ⟨b13, ls14, rfl, h14⟩ := gI_ok h13; obtain ⟨rfl, h15⟩ := gE_ok h14
  cases h15; rfl
def run27 {R : Type} : SF R := ⟨pa27, sr27, fun ls K => (gI (fun a0 => gI (fun a1 => gI (fun a2 => gI (fun a3 => gI (fun a4 => gB (fun a5 => gB (fun a6 => gI (fun a7 => gI (fun a8 => gL [.int .i64] (fun a9 => gS (fun a10 => gI (fun a11 => gI (fun a12 => gB (fun a13 => gI (fun a14 => gE (Option.bind (F27 FUEL a0 a1 a2 a3 a4 a5 a6 a7 a8 a9 a10 a11 a12 a13 a14) fun y => K (ofB27 y)))))))))))))))))) ls⟩
def cuts27 : List (List Nat × Cut (Si5b2i2si2bi)) := []
noncomputable def X27 : Px (Si5b2i2si2bi) := ⟨T, Try.prog, lkF [(22, run22)], mkCuts 27 cuts27, altN, altN_ok⟩
theorem e27 (n : Nat) (a0 : Int) (a1 : Int) (a2 : Int) (a3 : Int) (a4 : Int) (a5 : Bool) (a6 : Bool) (a7 : Int) (a8 : Int) (a9 : List (Int)) (a10 : ByteArray) (a11 : Int) (a12 : Int) (a13 : Bool) (a14 : Int) : entF X27 8 27 pa27 (endK sr27 toB27) n [.i a0, .i a1, .i a2, .i a3, .i a4, .b a5, .b a6, .i a7, .i a8, .l [.int .i64] a9, .s a10, .i a11, .i a12, .b a13, .i a14] = F27 n a0 a1 a2 a3 a4 a5 a6 a7 a8 a9 a10 a11 a12 a13 a14 := by kernel_rfl
theorem sp27 {n : Nat} (a0 : Int) (a1 : Int) (a2 : Int) (a3 : Int) (a4 : Int) (a5 : Bool) (a6 : Bool) (a7 : Int) (a8 : Int) (a9 : List (Int)) (a10 : ByteArray) (a11 : Int) (a12 : Int) (a13 : Bool) (a14 : Int) {y : Si5b2i2si2bi} (h : F27 n a0 a1 a2 a3 a4 a5 a6 a7 a8 a9 a10 a11 a12 a13 a14 = some y) : SpecF T Try.prog 27 pa27 [.i a0, .i a1, .i a2, .i a3, .i a4, .b a5, .b a6, .i a7, .i a8, .l [.int .i64] a9, .s a10, .i a11, .i a12, .b a13, .i a14] sr27 (ofB27 y) :=
  fun_ok (X := X27) tok (sfok_of ⟨ok22, trivial⟩) mixed 27 8 cuts27 rfl toB27_ok trivial ((e27 n a0 a1 a2 a3 a4 a5 a6 a7 a8 a9 a10 a11 a12 a13 a14).trans h)
theorem ok27 {R : Type} : SFone T Try.prog 27 (run27 : SF R) := by
  intro ls K r h
  simp only [run27] at h
  obtain ⟨a0, ls1, rfl, h1⟩ := gI_ok h; obtain ⟨a1, ls2, rfl, h2⟩ := gI_ok h1; obtain ⟨a2, ls3, rfl, h3⟩ := gI_ok h2; obtain ⟨a3, ls4, rfl, h4⟩ := gI_ok h3; obtain ⟨a4, ls5, rfl, h5⟩ := gI_ok h4; obtain ⟨a5, ls6, rfl, h6⟩ := gB_ok h5; obtain ⟨a6, ls7, rfl, h7⟩ := gB_ok h6; obtain ⟨a7, ls8, rfl, h8⟩ := gI_ok h7; obtain ⟨a8, ls9, rfl, h9⟩ := gI_ok h8; obtain ⟨a9, ls10, rfl, h10⟩ := gL_ok h9; obtain ⟨a10, ls11, rfl, h11⟩ := gS_ok h10; obtain ⟨a11, ls12, rfl, h12⟩ := gI_ok h11; obtain ⟨a12, ls13, rfl, h13⟩ := gI_ok h12; obtain ⟨a13, ls14, rfl, h14⟩ := gB_ok h13; obtain ⟨a14, ls15, rfl, h15⟩ := gI_ok h14; obtain ⟨rfl, h16⟩ := gE_ok h15
  obtain ⟨y, k1, k2⟩ := Option.bind_eq_some_iff.1 h16
  exact ⟨_, k2, sp27 a0 a1 a2 a3 a4 a5 a6 a7 a8 a9 a10 a11 a12 a13 a14 k1⟩

/-! ### garland/garlandlaw06.MsgTells -/
def pa3 : List VP := [.agg [.i .u8, .i .i64, .i .i64, .i .i64, .i .i64, .b, .b, .i .i64, .i .i64, .sl false [.int .i64], .s, .i .i64, .i .i64, .b, .i .i64], .agg [.i .u8, .i .i64, .i .i64, .i .i64, .i .i64, .b, .b, .i .i64, .i .i64, .sl false [.int .i64], .s, .i .i64, .i .i64, .b, .i .i64], .agg [.s, .i .i64, .i .i64, .b], .i .i64, .i .i64]
def sr3 : RShape := ⟨.b, [], none⟩
def toB3 : List Leaf → Option (Bool) := gB (fun b0 => gE (some b0))
def ofB3 (y : Bool) : List Leaf := [.b y]
theorem toB3_ok : ∀ ls b, toB3 ls = some b → ls = ofB3 b := by
  intro ls b h
  unfold toB3 at h
  obtain ⟨b0, ls1, rfl, h1⟩ := gB_ok h; obtain ⟨rfl, h2⟩ := gE_ok h1
  cases h2; rfl
def run3 {R : Type} : SF R := ⟨pa3, sr3, fun ls K => (gI (fun a0 => gI (fun a1 => gI (fun a2 => gI (fun a3 => gI (fun a4 => gB (fun a5 => gB (fun a6 => gI (fun a7 => gI (fun a8 => gL [.int .i64] (fun a9 => gS (fun a10 => gI (fun a11 => gI (fun a12 => gB (fun a13 => gI (fun a14 => gI (fun a15 => gI (fun a16 => gI (fun a17 => gI (fun a18 => gI (fun a19 => gB (fun a20 => gB (fun a21 => gI (fun a22 => gI (fun a23 => gL [.int .i64] (fun a24 => gS (fun a25 => gI (fun a26 => gI (fun a27 => gB (fun a28 => gI (fun a29 => gS (fun a30 => gI (fun a31 => gI (fun a32 => gB (fun a33 => gI (fun a34 => gI (fun a35 => gE (Option.bind (F3 FUEL a0 a1 a2 a3 a4 a5 a6 a7 a8 a9 a10 a11 a12 a13 a14 a15 a16 a17 a18 a19 a20 a21 a22 a23 a24 a25 a26 a27 a28 a29 a30 a31 a32 a33 a34 a35) fun y => K (ofB3 y))))))))))))))))))))))))))))))))))))))) ls⟩
def cuts3 : List (List Nat × Cut (Bool)) := []
noncomputable def X3 : Px (Bool) := ⟨T, Try.prog, lkF [(13, run13), (14, run14), (15, run15), (16, run16), (17, run17), (18, run18), (19, run19), (20, run20), (21, run21), (22, run22), (23, run23), (24, run24), (26, run26), (27, run27), (25, run25), (28, run28), (29, run29)], mkCuts 3 cuts3, altN, altN_ok⟩
theorem e3 (n : Nat) (a0 : Int) (a1 : Int) (a2 : Int) (a3 : Int) (a4 : Int) (a5 : Bool) (a6 : Bool) (a7 : Int) (a8 : Int) (a9 : List (Int)) (a10 : ByteArray) (a11 : Int) (a12 : Int) (a13 : Bool) (a14 : Int) (a15 : Int) (a16 : Int) (a17 : Int) (a18 : Int) (a19 : Int) (a20 : Bool) (a21 : Bool) (a22 : Int) (a23 : Int) (a24 : List (Int)) (a25 : ByteArray) (a26 : Int) (a27 : Int) (a28 : Bool) (a29 : Int) (a30 : ByteArray) (a31 : Int) (a32 : Int) (a33 : Bool) (a34 : Int) (a35 : Int) : entF X3 8 3 pa3 (endK sr3 toB3) n [.i a0, .i a1, .i a2, .i a3, .i a4, .b a5, .b a6, .i a7, .i a8, .l [.int .i64] a9, .s a10, .i a11, .i a12, .b a13, .i a14, .i a15, .i a16, .i a17, .i a18, .i a19, .b a20, .b a21, .i a22, .i a23, .l [.int .i64] a24, .s a25, .i a26, .i a27, .b a28, .i a29, .s a30, .i a31, .i a32, .b a33, .i a34, .i a35] = F3 n a0 a1 a2 a3 a4 a5 a6 a7 a8 a9 a10 a11 a12 a13 a14 a15 a16 a17 a18 a19 a20 a21 a22 a23 a24 a25 a26 a27 a28 a29 a30 a31 a32 a33 a34 a35 := by kernel_rfl
theorem sp3 {n : Nat} (a0 : Int) (a1 : Int) (a2 : Int) (a3 : Int) (a4 : Int) (a5 : Bool) (a6 : Bool) (a7 : Int) (a8 : Int) (a9 : List (Int)) (a10 : ByteArray) (a11 : Int) (a12 : Int) (a13 : Bool) (a14 : Int) (a15 : Int) (a16 : Int) (a17 : Int) (a18 : Int) (a19 : Int) (a20 : Bool) (a21 : Bool) (a22 : Int) (a23 : Int) (a24 : List (Int)) (a25 : ByteArray) (a26 : Int) (a27 : Int) (a28 : Bool) (a29 : Int) (a30 : ByteArray) (a31 : Int) (a32 : Int) (a33 : Bool) (a34 : Int) (a35 : Int) {y : Bool} (h : F3 n a0 a1 a2 a3 a4 a5 a6 a7 a8 a9 a10 a11 a12 a13 a14 a15 a16 a17 a18 a19 a20 a21 a22 a23 a24 a25 a26 a27 a28 a29 a30 a31 a32 a33 a34 a35 = some y) : SpecF T Try.prog 3 pa3 [.i a0, .i a1, .i a2, .i a3, .i a4, .b a5, .b a6, .i a7, .i a8, .l [.int .i64] a9, .s a10, .i a11, .i a12, .b a13, .i a14, .i a15, .i a16, .i a17, .i a18, .i a19, .b a20, .b a21, .i a22, .i a23, .l [.int .i64] a24, .s a25, .i a26, .i a27, .b a28, .i a29, .s a30, .i a31, .i a32, .b a33, .i a34, .i a35] sr3 (ofB3 y) :=
  fun_ok (X := X3) tok (sfok_of ⟨ok13, ok14, ok15, ok16, ok17, ok18, ok19, ok20, ok21, ok22, ok23, ok24, ok26, ok27, ok25, ok28, ok29, trivial⟩) mixed 3 8 cuts3 rfl toB3_ok trivial ((e3 n a0 a1 a2 a3 a4 a5 a6 a7 a8 a9 a10 a11 a12 a13 a14 a15 a16 a17 a18 a19 a20 a21 a22 a23 a24 a25 a26 a27 a28 a29 a30 a31 a32 a33 a34 a35).trans h)
theorem ok3 {R : Type} : SFone T Try.prog 3 (run3 : SF R) := by
  intro ls K r h
  simp only [run3] at h
  obtain ⟨a0, ls1, rfl, h1⟩ := gI_ok h; obtain ⟨a1, ls2, rfl, h2⟩ := gI_ok h1; obtain ⟨a2, ls3, rfl, h3⟩ := gI_ok h2; obtain ⟨a3, ls4, rfl, h4⟩ := gI_ok h3; obtain ⟨a4, ls5, rfl, h5⟩ := gI_ok h4; obtain ⟨a5, ls6, rfl, h6⟩ := gB_ok h5; obtain ⟨a6, ls7, rfl, h7⟩ := gB_ok h6; obtain ⟨a7, ls8, rfl, h8⟩ := gI_ok h7; obtain ⟨a8, ls9, rfl, h9⟩ := gI_ok h8; obtain ⟨a9, ls10, rfl, h10⟩ := gL_ok h9; obtain ⟨a10, ls11, rfl, h11⟩ := gS_ok h10; obtain ⟨a11, ls12, rfl, h12⟩ := gI_ok h11; obtain ⟨a12, ls13, rfl, h13⟩ := gI_ok h12; obtain ⟨a13, ls14, rfl, h14⟩ := gB_ok h13; obtain ⟨a14, ls15, rfl, h15⟩ := gI_ok h14; obtain ⟨a15, ls16, rfl, h16⟩ := gI_ok h15; obtain ⟨a16, ls17, rfl, h17⟩ := gI_ok h16; obtain ⟨a17, ls18, rfl, h18⟩ := gI_ok h17; obtain ⟨a18, ls19, rfl, h19⟩ := gI_ok h18; obtain ⟨a19, ls20, rfl, h20⟩ := gI_ok h19; obtain ⟨a20, ls21, rfl, h21⟩ := gB_ok h20; obtain ⟨a21, ls22, rfl, h22⟩ := gB_ok h21; obtain ⟨a22, ls23, rfl, h23⟩ := gI_ok h22; obtain ⟨a23, ls24, rfl, h24⟩ := gI_ok h23; obtain ⟨a24, ls25, rfl, h25⟩ := gL_ok h24; obtain ⟨a25, ls26, rfl, h26⟩ := gS_ok h25; obtain ⟨a26, ls27, rfl, h27⟩ := gI_ok h26; obtain ⟨a27, ls28, rfl, h28⟩ := gI_ok h27; obtain ⟨a28, ls29, rfl, h29⟩ := gB_ok h28; obtain ⟨a29, ls30, rfl, h30⟩ := gI_ok h29; obtain ⟨a30, ls31, rfl, h31⟩ := gS_ok h30; obtain ⟨a31, ls32, rfl, h32⟩ := gI_ok h31; obtain ⟨a32, ls33, rfl, h33⟩ := gI_ok h32; obtain ⟨a33, ls34, rfl, h34⟩ := gB_ok h33; obtain ⟨a34, ls35, rfl, h35⟩ := gI_ok h34; obtain ⟨a35, ls36, rfl, h36⟩ := gI_ok h35; obtain ⟨rfl, h37⟩ := gE_ok h36
  obtain ⟨y, k1, k2⟩ := Option.bind_eq_some_iff.1 h37
  exact ⟨_, k2, sp3 a0 a1 a2 a3 a4 a5 a6 a7 a8 a9 a10 a11 a12 a13 a14 a15 a16 a17 a18 a19 a20 a21 a22 a23 a24 a25 a26 a27 a28 a29 a30 a31 a32 a33 a34 a35 k1⟩

/-! ### garland/garlandlaw06.MsgTold -/
def pa4 : List VP := [.agg [.i .u8, .i .i64, .i .i64, .i .i64, .i .i64, .b, .b, .i .i64, .i .i64, .sl false [.int .i64], .s, .i .i64, .i .i64, .b, .i .i64], .agg [.s, .i .i64, .i .i64, .b]]
def sr4 : RShape := ⟨.b, [], none⟩
def toB4 : List Leaf → Option (Bool) := gB (fun b0 => gE (some b0))
def ofB4 (y : Bool) : List Leaf := [.b y]
theorem toB4_ok : ∀ ls b, toB4 ls = some b → ls = ofB4 b := by
  intro ls b h
  unfold toB4 at h
  obtain ⟨b0, ls1, rfl, h1⟩ := gB_ok h; obtain ⟨rfl, h2⟩ := gE_ok h1
  cases h2; rfl
def run4 {R : Type} : SF R := ⟨pa4, sr4, fun ls K => (gI (fun a0 => gI (fun a1 => gI (fun a2 => gI (fun a3 => gI (fun a4 => gB (fun a5 => gB (fun a6 => gI (fun a7 => gI (fun a8 => gL [.int .i64] (fun a9 => gS (fun a10 => gI (fun a11 => gI (fun a12 => gB (fun a13 => gI (fun a14 => gS (fun a15 => gI (fun a16 => gI (fun a17 => gB (fun a18 => gE (Option.bind (F4 FUEL a0 a1 a2 a3 a4 a5 a6 a7 a8 a9 a10 a11 a12 a13 a14 a15 a16 a17 a18) fun y => K (ofB4 y)))))))))))))))))))))) ls⟩
def cuts4 : List (List Nat × Cut (Bool)) := []
noncomputable def X4 : Px (Bool) := ⟨T, Try.prog, lkF [(13, run13), (14, run14), (20, run20), (26, run26), (21, run21), (25, run25), (23, run23), (19, run19), (18, run18)], mkCuts 4 cuts4, altN, altN_ok⟩
theorem e4 (n : Nat) (a0 : Int) (a1 : Int) (a2 : Int) (a3 : Int) (a4 : Int) (a5 : Bool) (a6 : Bool) (a7 : Int) (a8 : Int) (a9 : List (Int)) (a10 : ByteArray) (a11 : Int) (a12 : Int) (a13 : Bool) (a14 : Int) (a15 : ByteArray) (a16 : Int) (a17 : Int) (a18 : Bool) : entF X4 8 4 pa4 (endK sr4 toB4) n [.i a0, .i a1, .i a2, .i a3, .i a4, .b a5, .b a6, .i a7, .i a8, .l [.int .i64] a9, .s a10, .i a11, .i a12, .b a13, .i a14, .s a15, .i a16, .i a17, .b a18] = F4 n a0 a1 a2 a3 a4 a5 a6 a7 a8 a9 a10 a11 a12 a13 a14 a15 a16 a17 a18 := by kernel_rfl
theorem sp4 {n : Nat} (a0 : Int) (a1 : Int) (a2 : Int) (a3 : Int) (a4 : Int) (a5 : Bool) (a6 : Bool) (a7 : Int) (a8 : Int) (a9 : List (Int)) (a10 : ByteArray) (a11 : Int) (a12 : Int) (a13 : Bool) (a14 : Int) (a15 : ByteArray) (a16 : Int) (a17 : Int) (a18 : Bool) {y : Bool} (h : F4 n a0 a1 a2 a3 a4 a5 a6 a7 a8 a9 a10 a11 a12 a13 a14 a15 a16 a17 a18 = some y) : SpecF T Try.prog 4 pa4 [.i a0, .i a1, .i a2, .i a3, .i a4, .b a5, .b a6, .i a7, .i a8, .l [.int .i64] a9, .s a10, .i a11, .i a12, .b a13, .i a14, .s a15, .i a16, .i a17, .b a18] sr4 (ofB4 y) :=
  fun_ok (X := X4) tok (sfok_of ⟨ok13, ok14, ok20, ok26, ok21, ok25, ok23, ok19, ok18, trivial⟩) mixed 4 8 cuts4 rfl toB4_ok trivial ((e4 n a0 a1 a2 a3 a4 a5 a6 a7 a8 a9 a10 a11 a12 a13 a14 a15 a16 a17 a18).trans h)
theorem ok4 {R : Type} : SFone T Try.prog 4 (run4 : SF R) := by
  intro ls K r h
  simp only [run4] at h
  obtain ⟨a0, ls1, rfl, h1⟩ := gI_ok h; obtain ⟨a1, ls2, rfl, h2⟩ := gI_ok h1; obtain ⟨a2, ls3, rfl, h3⟩ := gI_ok h2; obtain ⟨a3, ls4, rfl, h4⟩ := gI_ok h3; obtain ⟨a4, ls5, rfl, h5⟩ := gI_ok h4; obtain ⟨a5, ls6, rfl, h6⟩ := gB_ok h5; obtain ⟨a6, ls7, rfl, h7⟩ := gB_ok h6; obtain ⟨a7, ls8, rfl, h8⟩ := gI_ok h7; obtain ⟨a8, ls9, rfl, h9⟩ := gI_ok h8; obtain ⟨a9, ls10, rfl, h10⟩ := gL_ok h9; obtain ⟨a10, ls11, rfl, h11⟩ := gS_ok h10; obtain ⟨a11, ls12, rfl, h12⟩ := gI_ok h11; obtain ⟨a12, ls13, rfl, h13⟩ := gI_ok h12; obtain ⟨a13, ls14, rfl, h14⟩ := gB_ok h13; obtain ⟨a14, ls15, rfl, h15⟩ := gI_ok h14; obtain ⟨a15, ls16, rfl, h16⟩ := gS_ok h15; obtain ⟨a16, ls17, rfl, h17⟩ := gI_ok h16; obtain ⟨a17, ls18, rfl, h18⟩ := gI_ok h17; obtain ⟨a18, ls19, rfl, h19⟩ := gB_ok h18; obtain ⟨rfl, h20⟩ := gE_ok h19
  obtain ⟨y, k1, k2⟩ := Option.bind_eq_some_iff.1 h20
  exact ⟨_, k2, sp4 a0 a1 a2 a3 a4 a5 a6 a7 a8 a9 a10 a11 a12 a13 a14 a15 a16 a17 a18 k1⟩

/-! ### garland/garlandlaw06.MsgCalls -/
def pa6 : List VP := [.i .i64, .i .i64, .i .i64, .i .i64]
def sr6 : RShape := ⟨.b, [], none⟩
def toB6 : List Leaf → Option (Bool) := gB (fun b0 => gE (some b0))
def ofB6 (y : Bool) : List Leaf := [.b y]
theorem toB6_ok : ∀ ls b, toB6 ls = some b → ls = ofB6 b := by
  intro ls b h
  unfold toB6 at h
  obtain ⟨b0, ls1, rfl, h1⟩ := gB_ok h; obtain ⟨rfl, h2⟩ := gE_ok h1
  cases h2; rfl
def run6 {R : Type} : SF R := ⟨pa6, sr6, fun ls K => (gI (fun a0 => gI (fun a1 => gI (fun a2 => gI (fun a3 => gE (Option.bind (F6 FUEL a0 a1 a2 a3) fun y => K (ofB6 y))))))) ls⟩
def cuts6 : List (List Nat × Cut (Bool)) := []
noncomputable def X6 : Px (Bool) := ⟨T, Try.prog, lkF [(15, run15), (14, run14), (19, run19)], mkCuts 6 cuts6, altN, altN_ok⟩
theorem e6 (n : Nat) (a0 : Int) (a1 : Int) (a2 : Int) (a3 : Int) : entF X6 8 6 pa6 (endK sr6 toB6) n [.i a0, .i a1, .i a2, .i a3] = F6 n a0 a1 a2 a3 := by kernel_rfl
theorem sp6 {n : Nat} (a0 : Int) (a1 : Int) (a2 : Int) (a3 : Int) {y : Bool} (h : F6 n a0 a1 a2 a3 = some y) : SpecF T Try.prog 6 pa6 [.i a0, .i a1, .i a2, .i a3] sr6 (ofB6 y) :=
  fun_ok (X := X6) tok (sfok_of ⟨ok15, ok14, ok19, trivial⟩) mixed 6 8 cuts6 rfl toB6_ok trivial ((e6 n a0 a1 a2 a3).trans h)
theorem ok6 {R : Type} : SFone T Try.prog 6 (run6 : SF R) := by
  intro ls K r h
  simp only [run6] at h
  obtain ⟨a0, ls1, rfl, h1⟩ := gI_ok h; obtain ⟨a1, ls2, rfl, h2⟩ := gI_ok h1; obtain ⟨a2, ls3, rfl, h3⟩ := gI_ok h2; obtain ⟨a3, ls4, rfl, h4⟩ := gI_ok h3; obtain ⟨rfl, h5⟩ := gE_ok h4
  obtain ⟨y, k1, k2⟩ := Option.bind_eq_some_iff.1 h5
  exact ⟨_, k2, sp6 a0 a1 a2 a3 k1⟩

/-! ### garland/garlandlaw06.MsgLists -/
def pa7 : List VP := [.sl false [.int .i64], .i .i64, .i .i64]
def sr7 : RShape := ⟨.b, [], none⟩
def toB7 : List Leaf → Option (Bool) := gB (fun b0 => gE (some b0))
def ofB7 (y : Bool) : List Leaf := [.b y]
theorem toB7_ok : ∀ ls b, toB7 ls = some b → ls = ofB7 b := by
  intro ls b h
  unfold toB7 at h
  obtain ⟨b0, ls1, rfl, h1⟩ := gB_ok h; obtain ⟨rfl, h2⟩ := gE_ok h1
  cases h2; rfl
def run7 {R : Type} : SF R := ⟨pa7, sr7, fun ls K => (gL [.int .i64] (fun a0 => gI (fun a1 => gI (fun a2 => gE (Option.bind (F7 FUEL a0 a1 a2) fun y => K (ofB7 y)))))) ls⟩
def sh7_0 : Shape := ⟨[(115, [(0, .sl false [.int .i64]), (1, .i .i64), (2, .i .i64), (7, .i .i64), (8, .b), (9, .i .i64)])], []⟩
def g7_0 (n : Nat) : List Leaf → Option (Bool) := gL [.int .i64] (fun x0 => gI (fun x1 => gI (fun x2 => gI (fun x3 => gB (fun x4 => gI (fun x5 => gE (F7_c0 n x0 x1 x2 x3 x4 x5)))))))
def sh7_1 : Shape := ⟨[(115, [(0, .sl false [.int .i64]), (1, .i .i64), (2, .i .i64), (7, .i .i64), (8, .b), (9, .i .i64), (10, .i .i64)])], []⟩
def g7_1 (n : Nat) : List Leaf → Option (Bool) := gL [.int .i64] (fun x0 => gI (fun x1 => gI (fun x2 => gI (fun x3 => gB (fun x4 => gI (fun x5 => gI (fun x6 => gE (F7_c1 n x0 x1 x2 x3 x4 x5 x6))))))))
def cuts7 : List (List Nat × Cut (Bool)) := [([1, 1, 1, 1, 0, 1, 0], ⟨sh7_0, g7_0⟩), ([1, 1, 1, 1, 0, 1, 0, 0, 1, 0, 0, 1, 1, 0], ⟨sh7_1, g7_1⟩)]
noncomputable def X7 : Px (Bool) := ⟨T, Try.prog, lkF [(14, run14), (29, run29), (19, run19), (28, run28)], mkCuts 7 cuts7, altN, altN_ok⟩
theorem e7_0 (n : Nat) (x0 : List (Int)) (x1 : Int) (x2 : Int) (x3 : Int) (x4 : Bool) (x5 : Int) : stepF X7 8 7 (endK sr7 toB7) [1, 1, 1, 1, 0, 1, 0] sh7_0 n [.l [.int .i64] x0, .i x1, .i x2, .i x3, .b x4, .i x5] = F7_c0 (n + 1) x0 x1 x2 x3 x4 x5 := by kernel_rfl
theorem e7_1 (n : Nat) (x0 : List (Int)) (x1 : Int) (x2 : Int) (x3 : Int) (x4 : Bool) (x5 : Int) (x6 : Int) : stepF X7 8 7 (endK sr7 toB7) [1, 1, 1, 1, 0, 1, 0, 0, 1, 0, 0, 1, 1, 0] sh7_1 n [.l [.int .i64] x0, .i x1, .i x2, .i x3, .b x4, .i x5, .i x6] = F7_c1 (n + 1) x0 x1 x2 x3 x4 x5 x6 := by kernel_rfl
theorem e7 (n : Nat) (a0 : List (Int)) (a1 : Int) (a2 : Int) : entF X7 8 7 pa7 (endK sr7 toB7) n [.l [.int .i64] a0, .i a1, .i a2] = F7 n a0 a1 a2 := by kernel_rfl
theorem c7_0 : CutOK X7 8 7 (endK sr7 toB7) [1, 1, 1, 1, 0, 1, 0] ⟨sh7_0, g7_0⟩ := by
  refine ⟨fun ls => ?_, fun n ls r h => ?_⟩
  · cases h : g7_0 0 ls with
    | none => exact h
    | some r =>
      unfold g7_0 at h; obtain ⟨x0, ls1, rfl, h1⟩ := gL_ok h; obtain ⟨x1, ls2, rfl, h2⟩ := gI_ok h1; obtain ⟨x2, ls3, rfl, h3⟩ := gI_ok h2; obtain ⟨x3, ls4, rfl, h4⟩ := gI_ok h3; obtain ⟨x4, ls5, rfl, h5⟩ := gB_ok h4; obtain ⟨x5, ls6, rfl, h6⟩ := gI_ok h5; obtain ⟨rfl, h7⟩ := gE_ok h6; simp only [F7_c0] at h7; cases h7
  · replace h : g7_0 (n + 1) ls = some r := h
    unfold g7_0 at h
    obtain ⟨x0, ls1, rfl, h1⟩ := gL_ok h; obtain ⟨x1, ls2, rfl, h2⟩ := gI_ok h1; obtain ⟨x2, ls3, rfl, h3⟩ := gI_ok h2; obtain ⟨x3, ls4, rfl, h4⟩ := gI_ok h3; obtain ⟨x4, ls5, rfl, h5⟩ := gB_ok h4; obtain ⟨x5, ls6, rfl, h6⟩ := gI_ok h5; obtain ⟨rfl, h7⟩ := gE_ok h6
    exact (e7_0 n x0 x1 x2 x3 x4 x5).trans h7
theorem c7_1 : CutOK X7 8 7 (endK sr7 toB7) [1, 1, 1, 1, 0, 1, 0, 0, 1, 0, 0, 1, 1, 0] ⟨sh7_1, g7_1⟩ := by
  refine ⟨fun ls => ?_, fun n ls r h => ?_⟩
  · cases h : g7_1 0 ls with
    | none => exact h
    | some r =>
      unfold g7_1 at h; obtain ⟨x0, ls1, rfl, h1⟩ := gL_ok h; obtain ⟨x1, ls2, rfl, h2⟩ := gI_ok h1; obtain ⟨x2, ls3, rfl, h3⟩ := gI_ok h2; obtain ⟨x3, ls4, rfl, h4⟩ := gI_ok h3; obtain ⟨x4, ls5, rfl, h5⟩ := gB_ok h4; obtain ⟨x5, ls6, rfl, h6⟩ := gI_ok h5; obtain ⟨x6, ls7, rfl, h7⟩ := gI_ok h6; obtain ⟨rfl, h8⟩ := gE_ok h7; simp only [F7_c1] at h8; cases h8
  · replace h : g7_1 (n + 1) ls = some r := h
    unfold g7_1 at h
    obtain ⟨x0, ls1, rfl, h1⟩ := gL_ok h; obtain ⟨x1, ls2, rfl, h2⟩ := gI_ok h1; obtain ⟨x2, ls3, rfl, h3⟩ := gI_ok h2; obtain ⟨x3, ls4, rfl, h4⟩ := gI_ok h3; obtain ⟨x4, ls5, rfl, h5⟩ := gB_ok h4; obtain ⟨x5, ls6, rfl, h6⟩ := gI_ok h5; obtain ⟨x6, ls7, rfl, h7⟩ := gI_ok h6; obtain ⟨rfl, h8⟩ := gE_ok h7
    exact (e7_1 n x0 x1 x2 x3 x4 x5 x6).trans h8
theorem sp7 {n : Nat} (a0 : List (Int)) (a1 : Int) (a2 : Int) {y : Bool} (h : F7 n a0 a1 a2 = some y) : SpecF T Try.prog 7 pa7 [.l [.int .i64] a0, .i a1, .i a2] sr7 (ofB7 y) :=
  fun_ok (X := X7) tok (sfok_of ⟨ok14, ok29, ok19, ok28, trivial⟩) mixed 7 8 cuts7 rfl toB7_ok ⟨c7_0, c7_1, trivial⟩ ((e7 n a0 a1 a2).trans h)
theorem ok7 {R : Type} : SFone T Try.prog 7 (run7 : SF R) := by
  intro ls K r h
  simp only [run7] at h
  obtain ⟨a0, ls1, rfl, h1⟩ := gL_ok h; obtain ⟨a1, ls2, rfl, h2⟩ := gI_ok h1; obtain ⟨a2, ls3, rfl, h3⟩ := gI_ok h2; obtain ⟨rfl, h4⟩ := gE_ok h3
  obtain ⟨y, k1, k2⟩ := Option.bind_eq_some_iff.1 h4
  exact ⟨_, k2, sp7 a0 a1 a2 k1⟩

/-! ### garland/garlandref19.Great -/
def pa30 : List VP := [.sl false [.str, .int .i64, .int .i64, .bool]]
def sr30 : RShape := ⟨.b, [], none⟩
def toB30 : List Leaf → Option (Bool) := gB (fun b0 => gE (some b0))
def ofB30 (y : Bool) : List Leaf := [.b y]
theorem toB30_ok : ∀ ls b, toB30 ls = some b → ls = ofB30 b := by
  intro ls b h
  unfold toB30 at h
  obtain ⟨b0, ls1, rfl, h1⟩ := gB_ok h; obtain ⟨rfl, h2⟩ := gE_ok h1
  cases h2; rfl
def run30 {R : Type} : SF R := ⟨pa30, sr30, fun ls K => (gL [.str, .int .i64, .int .i64, .bool] (fun a0 => gE (Option.bind (F30 FUEL a0) fun y => K (ofB30 y)))) ls⟩
def sh30_0 : Shape := ⟨[(24, [(0, .sl false [.str, .int .i64, .int .i64, .bool]), (3, .i .i64)])], []⟩
def g30_0 (n : Nat) : List Leaf → Option (Bool) := gL [.str, .int .i64, .int .i64, .bool] (fun x0 => gI (fun x1 => gE (F30_c0 n x0 x1)))
def cuts30 : List (List Nat × Cut (Bool)) := [([1, 0, 1, 0], ⟨sh30_0, g30_0⟩)]
noncomputable def X30 : Px (Bool) := ⟨T, Try.prog, lkF [], mkCuts 30 cuts30, altN, altN_ok⟩
theorem e30_0 (n : Nat) (x0 : List (ByteArray × Int × Int × Bool)) (x1 : Int) : stepF X30 8 30 (endK sr30 toB30) [1, 0, 1, 0] sh30_0 n [.l [.str, .int .i64, .int .i64, .bool] x0, .i x1] = F30_c0 (n + 1) x0 x1 := by kernel_rfl
theorem e30 (n : Nat) (a0 : List (ByteArray × Int × Int × Bool)) : entF X30 8 30 pa30 (endK sr30 toB30) n [.l [.str, .int .i64, .int .i64, .bool] a0] = F30 n a0 := by kernel_rfl
theorem c30_0 : CutOK X30 8 30 (endK sr30 toB30) [1, 0, 1, 0] ⟨sh30_0, g30_0⟩ := by
  refine ⟨fun ls => ?_, fun n ls r h => ?_⟩
  · cases h : g30_0 0 ls with
    | none => exact h
    | some r =>
      unfold g30_0 at h; obtain ⟨x0, ls1, rfl, h1⟩ := gL_ok h; obtain ⟨x1, ls2, rfl, h2⟩ := gI_ok h1; obtain ⟨rfl, h3⟩ := gE_ok h2; simp only [F30_c0] at h3; cases h3
  · replace h : g30_0 (n + 1) ls = some r := h
    unfold g30_0 at h
    obtain ⟨x0, ls1, rfl, h1⟩ := gL_ok h; obtain ⟨x1, ls2, rfl, h2⟩ := gI_ok h1; obtain ⟨rfl, h3⟩ := gE_ok h2
    exact (e30_0 n x0 x1).trans h3
theorem sp30 {n : Nat} (a0 : List (ByteArray × Int × Int × Bool)) {y : Bool} (h : F30 n a0 = some y) : SpecF T Try.prog 30 pa30 [.l [.str, .int .i64, .int .i64, .bool] a0] sr30 (ofB30 y) :=
  fun_ok (X := X30) tok (sfok_of trivial) mixed 30 8 cuts30 rfl toB30_ok ⟨c30_0, trivial⟩ ((e30 n a0).trans h)
theorem ok30 {R : Type} : SFone T Try.prog 30 (run30 : SF R) := by
  intro ls K r h
  simp only [run30] at h
  obtain ⟨a0, ls1, rfl, h1⟩ := gL_ok h; obtain ⟨rfl, h2⟩ := gE_ok h1
  obtain ⟨y, k1, k2⟩ := Option.bind_eq_some_iff.1 h2
  exact ⟨_, k2, sp30 a0 k1⟩

/-! ### garland/garlandlaw20.of -/
def pa60 : List VP := [.s, .i .i64, .i .i64]
def sr60 : RShape := ⟨.agg [.s, .i .i64, .i .i64, .b], [], none⟩
def toB60 : List Leaf → Option (Ssi2b) := gS (fun b0 => gI (fun b1 => gI (fun b2 => gB (fun b3 => gE (some ⟨b0, b1, b2, b3⟩)))))
def ofB60 (y : Ssi2b) : List Leaf := [.s y.q0, .i y.q1, .i y.q2, .b y.q3]
theorem toB60_ok : ∀ ls b, toB60 ls = some b → ls = ofB60 b := by
  intro ls b h
  unfold toB60 at h
  obtain ⟨b0, ls1, rfl, h1⟩ := gS_ok h; obtain ⟨b1, ls2, rfl, h2⟩ := gI_ok h1; obtain ⟨b2, ls3, rfl, h3⟩ := gI_ok h2; obtain ⟨b3, ls4, rfl, h4⟩ := gB_ok h3; obtain ⟨rfl, h5⟩ := gE_ok h4
  cases h5; rfl
def run60 {R : Type} : SF R := ⟨pa60, sr60, fun ls K => (gS (fun a0 => gI (fun a1 => gI (fun a2 => gE (Option.bind (F60 FUEL a0 a1 a2) fun y => K (ofB60 y)))))) ls⟩
def cuts60 : List (List Nat × Cut (Ssi2b)) := []
noncomputable def X60 : Px (Ssi2b) := ⟨T, Try.prog, lkF [], mkCuts 60 cuts60, altN, altN_ok⟩
theorem e60 (n : Nat) (a0 : ByteArray) (a1 : Int) (a2 : Int) : entF X60 8 60 pa60 (endK sr60 toB60) n [.s a0, .i a1, .i a2] = F60 n a0 a1 a2 := by kernel_rfl
theorem sp60 {n : Nat} (a0 : ByteArray) (a1 : Int) (a2 : Int) {y : Ssi2b} (h : F60 n a0 a1 a2 = some y) : SpecF T Try.prog 60 pa60 [.s a0, .i a1, .i a2] sr60 (ofB60 y) :=
  fun_ok (X := X60) tok (sfok_of trivial) mixed 60 8 cuts60 rfl toB60_ok trivial ((e60 n a0 a1 a2).trans h)
theorem ok60 {R : Type} : SFone T Try.prog 60 (run60 : SF R) := by
  intro ls K r h
  simp only [run60] at h
  obtain ⟨a0, ls1, rfl, h1⟩ := gS_ok h; obtain ⟨a1, ls2, rfl, h2⟩ := gI_ok h1; obtain ⟨a2, ls3, rfl, h3⟩ := gI_ok h2; obtain ⟨rfl, h4⟩ := gE_ok h3
  obtain ⟨y, k1, k2⟩ := Option.bind_eq_some_iff.1 h4
  exact ⟨_, k2, sp60 a0 a1 a2 k1⟩

/-! ### garland/keep.Own -/
def pa43 : List VP := [.sl false [.str, .int .i64, .int .i64, .bool]]
def sr43 : RShape := ⟨.row 0, [.row true [.str, .int .i64, .int .i64, .bool]], none⟩
def toB43 : List Leaf → Option ((List (ByteArray × Int × Int × Bool))) := gL [.str, .int .i64, .int .i64, .bool] (fun b0 => gE (some b0))
def ofB43 (y : (List (ByteArray × Int × Int × Bool))) : List Leaf := [.l [.str, .int .i64, .int .i64, .bool] y]
theorem toB43_ok : ∀ ls b, toB43 ls = some b → ls = ofB43 b := by
  intro ls b h
  unfold toB43 at h
  obtain ⟨b0, ls1, rfl, h1⟩ := gL_ok h; obtain ⟨rfl, h2⟩ := gE_ok h1
  cases h2; rfl
def run43 {R : Type} : SF R := ⟨pa43, sr43, fun ls K => (gL [.str, .int .i64, .int .i64, .bool] (fun a0 => gE (Option.bind (F43 FUEL a0) fun y => K (ofB43 y)))) ls⟩
def sh43_0 : Shape := ⟨[(18, [(0, .yield 7), (5, .sl false [.str, .int .i64, .int .i64, .bool]), (6, .i .i64), (7, .i .i64)]), (21, [(3, .ref 0 0)])], [.cells [.row 1], .row true [.str, .int .i64, .int .i64, .bool]]⟩
def g43_0 (n : Nat) : List Leaf → Option ((List (ByteArray × Int × Int × Bool))) := gL [.str, .int .i64, .int .i64, .bool] (fun x0 => gI (fun x1 => gI (fun x2 => gL [.str, .int .i64, .int .i64, .bool] (fun x3 => gE (F43_c0 n x0 x1 x2 x3)))))
def cuts43 : List (List Nat × Cut ((List (ByteArray × Int × Int × Bool)))) := [([1, 1, 1, 0, 1, 0, 142, 1, 0], ⟨sh43_0, g43_0⟩)]
noncomputable def X43 : Px ((List (ByteArray × Int × Int × Bool))) := ⟨T, Try.prog, lkF [], mkCuts 43 cuts43, altN, altN_ok⟩
theorem e43_0 (n : Nat) (x0 : List (ByteArray × Int × Int × Bool)) (x1 : Int) (x2 : Int) (x3 : List (ByteArray × Int × Int × Bool)) : stepF X43 8 43 (endK sr43 toB43) [1, 1, 1, 0, 1, 0, 142, 1, 0] sh43_0 n [.l [.str, .int .i64, .int .i64, .bool] x0, .i x1, .i x2, .l [.str, .int .i64, .int .i64, .bool] x3] = F43_c0 (n + 1) x0 x1 x2 x3 := by kernel_rfl
theorem e43 (n : Nat) (a0 : List (ByteArray × Int × Int × Bool)) : entF X43 8 43 pa43 (endK sr43 toB43) n [.l [.str, .int .i64, .int .i64, .bool] a0] = F43 n a0 := by kernel_rfl
theorem c43_0 : CutOK X43 8 43 (endK sr43 toB43) [1, 1, 1, 0, 1, 0, 142, 1, 0] ⟨sh43_0, g43_0⟩ := by
  refine ⟨fun ls => ?_, fun n ls r h => ?_⟩
  · cases h : g43_0 0 ls with
    | none => exact h
    | some r =>
      unfold g43_0 at h; obtain ⟨x0, ls1, rfl, h1⟩ := gL_ok h; obtain ⟨x1, ls2, rfl, h2⟩ := gI_ok h1; obtain ⟨x2, ls3, rfl, h3⟩ := gI_ok h2; obtain ⟨x3, ls4, rfl, h4⟩ := gL_ok h3; obtain ⟨rfl, h5⟩ := gE_ok h4; simp only [F43_c0] at h5; cases h5
  · replace h : g43_0 (n + 1) ls = some r := h
    unfold g43_0 at h
    obtain ⟨x0, ls1, rfl, h1⟩ := gL_ok h; obtain ⟨x1, ls2, rfl, h2⟩ := gI_ok h1; obtain ⟨x2, ls3, rfl, h3⟩ := gI_ok h2; obtain ⟨x3, ls4, rfl, h4⟩ := gL_ok h3; obtain ⟨rfl, h5⟩ := gE_ok h4
    exact (e43_0 n x0 x1 x2 x3).trans h5
theorem sp43 {n : Nat} (a0 : List (ByteArray × Int × Int × Bool)) {y : (List (ByteArray × Int × Int × Bool))} (h : F43 n a0 = some y) : SpecF T Try.prog 43 pa43 [.l [.str, .int .i64, .int .i64, .bool] a0] sr43 (ofB43 y) :=
  fun_ok (X := X43) tok (sfok_of trivial) mixed 43 8 cuts43 rfl toB43_ok ⟨c43_0, trivial⟩ ((e43 n a0).trans h)
theorem ok43 {R : Type} : SFone T Try.prog 43 (run43 : SF R) := by
  intro ls K r h
  simp only [run43] at h
  obtain ⟨a0, ls1, rfl, h1⟩ := gL_ok h; obtain ⟨rfl, h2⟩ := gE_ok h1
  obtain ⟨y, k1, k2⟩ := Option.bind_eq_some_iff.1 h2
  exact ⟨_, k2, sp43 a0 k1⟩

/-! ### garland/keep.Right -/
def pa41 : List VP := [.sl false [.str, .int .i64, .int .i64, .bool]]
def sr41 : RShape := ⟨.b, [], none⟩
def toB41 : List Leaf → Option (Bool) := gB (fun b0 => gE (some b0))
def ofB41 (y : Bool) : List Leaf := [.b y]
theorem toB41_ok : ∀ ls b, toB41 ls = some b → ls = ofB41 b := by
  intro ls b h
  unfold toB41 at h
  obtain ⟨b0, ls1, rfl, h1⟩ := gB_ok h; obtain ⟨rfl, h2⟩ := gE_ok h1
  cases h2; rfl
def run41 {R : Type} : SF R := ⟨pa41, sr41, fun ls K => (gL [.str, .int .i64, .int .i64, .bool] (fun a0 => gE (Option.bind (F41 FUEL a0) fun y => K (ofB41 y)))) ls⟩
def sh41_0 : Shape := ⟨[(18, [(0, .yield 6), (5, .sl false [.str, .int .i64, .int .i64, .bool]), (6, .i .i64), (7, .i .i64)]), (30, [(1, .ref 0 0), (2, .ref 1 0)])], [.cells [.sl false [.str, .int .i64, .int .i64, .bool]], .cells [.b]]⟩
def g41_0 (n : Nat) : List Leaf → Option (Bool) := gL [.str, .int .i64, .int .i64, .bool] (fun x0 => gI (fun x1 => gI (fun x2 => gL [.str, .int .i64, .int .i64, .bool] (fun x3 => gB (fun x4 => gE (F41_c0 n x0 x1 x2 x3 x4))))))
def cuts41 : List (List Nat × Cut (Bool)) := [([1, 1, 0, 1, 0, 142, 1, 0], ⟨sh41_0, g41_0⟩)]
noncomputable def X41 : Px (Bool) := ⟨T, Try.prog, lkF [(17, run17)], mkCuts 41 cuts41, altN, altN_ok⟩
theorem e41_0 (n : Nat) (x0 : List (ByteArray × Int × Int × Bool)) (x1 : Int) (x2 : Int) (x3 : List (ByteArray × Int × Int × Bool)) (x4 : Bool) : stepF X41 8 41 (endK sr41 toB41) [1, 1, 0, 1, 0, 142, 1, 0] sh41_0 n [.l [.str, .int .i64, .int .i64, .bool] x0, .i x1, .i x2, .l [.str, .int .i64, .int .i64, .bool] x3, .b x4] = F41_c0 (n + 1) x0 x1 x2 x3 x4 := by kernel_rfl
theorem e41 (n : Nat) (a0 : List (ByteArray × Int × Int × Bool)) : entF X41 8 41 pa41 (endK sr41 toB41) n [.l [.str, .int .i64, .int .i64, .bool] a0] = F41 n a0 := by kernel_rfl
theorem c41_0 : CutOK X41 8 41 (endK sr41 toB41) [1, 1, 0, 1, 0, 142, 1, 0] ⟨sh41_0, g41_0⟩ := by
  refine ⟨fun ls => ?_, fun n ls r h => ?_⟩
  · cases h : g41_0 0 ls with
    | none => exact h
    | some r =>
      unfold g41_0 at h; obtain ⟨x0, ls1, rfl, h1⟩ := gL_ok h; obtain ⟨x1, ls2, rfl, h2⟩ := gI_ok h1; obtain ⟨x2, ls3, rfl, h3⟩ := gI_ok h2; obtain ⟨x3, ls4, rfl, h4⟩ := gL_ok h3; obtain ⟨x4, ls5, rfl, h5⟩ := gB_ok h4; obtain ⟨rfl, h6⟩ := gE_ok h5; simp only [F41_c0] at h6; cases h6
  · replace h : g41_0 (n + 1) ls = some r := h
    unfold g41_0 at h
    obtain ⟨x0, ls1, rfl, h1⟩ := gL_ok h; obtain ⟨x1, ls2, rfl, h2⟩ := gI_ok h1; obtain ⟨x2, ls3, rfl, h3⟩ := gI_ok h2; obtain ⟨x3, ls4, rfl, h4⟩ := gL_ok h3; obtain ⟨x4, ls5, rfl, h5⟩ := gB_ok h4; obtain ⟨rfl, h6⟩ := gE_ok h5
    exact (e41_0 n x0 x1 x2 x3 x4).trans h6
theorem sp41 {n : Nat} (a0 : List (ByteArray × Int × Int × Bool)) {y : Bool} (h : F41 n a0 = some y) : SpecF T Try.prog 41 pa41 [.l [.str, .int .i64, .int .i64, .bool] a0] sr41 (ofB41 y) :=
  fun_ok (X := X41) tok (sfok_of ⟨ok17, trivial⟩) mixed 41 8 cuts41 rfl toB41_ok ⟨c41_0, trivial⟩ ((e41 n a0).trans h)
theorem ok41 {R : Type} : SFone T Try.prog 41 (run41 : SF R) := by
  intro ls K r h
  simp only [run41] at h
  obtain ⟨a0, ls1, rfl, h1⟩ := gL_ok h; obtain ⟨rfl, h2⟩ := gE_ok h1
  obtain ⟨y, k1, k2⟩ := Option.bind_eq_some_iff.1 h2
  exact ⟨_, k2, sp41 a0 k1⟩

/-! ### cmp.isNaN[string] -/
def pa73 : List VP := [.s]
def sr73 : RShape := ⟨.b, [], none⟩
def toB73 : List Leaf → Option (Bool) := gB (fun b0 => gE (some b0))
def ofB73 (y : Bool) : List Leaf := [.b y]
theorem toB73_ok : ∀ ls b, toB73 ls = some b → ls = ofB73 b := by
  intro ls b h
  unfold toB73 at h
  obtain ⟨b0, ls1, rfl, h1⟩ := gB_ok h; obtain ⟨rfl, h2⟩ := gE_ok h1
  cases h2; rfl
def run73 {R : Type} : SF R := ⟨pa73, sr73, fun ls K => (gS (fun a0 => gE (Option.bind (F73 FUEL a0) fun y => K (ofB73 y)))) ls⟩
def cuts73 : List (List Nat × Cut (Bool)) := []
noncomputable def X73 : Px (Bool) := ⟨T, Try.prog, lkF [], mkCuts 73 cuts73, altN, altN_ok⟩
theorem e73 (n : Nat) (a0 : ByteArray) : entF X73 8 73 pa73 (endK sr73 toB73) n [.s a0] = F73 n a0 := by kernel_rfl
theorem sp73 {n : Nat} (a0 : ByteArray) {y : Bool} (h : F73 n a0 = some y) : SpecF T Try.prog 73 pa73 [.s a0] sr73 (ofB73 y) :=
  fun_ok (X := X73) tok (sfok_of trivial) mixed 73 8 cuts73 rfl toB73_ok trivial ((e73 n a0).trans h)
theorem ok73 {R : Type} : SFone T Try.prog 73 (run73 : SF R) := by
  intro ls K r h
  simp only [run73] at h
  obtain ⟨a0, ls1, rfl, h1⟩ := gS_ok h; obtain ⟨rfl, h2⟩ := gE_ok h1
  obtain ⟨y, k1, k2⟩ := Option.bind_eq_some_iff.1 h2
  exact ⟨_, k2, sp73 a0 k1⟩

/-! ### cmp.Compare[string] -/
def pa69 : List VP := [.s, .s]
def sr69 : RShape := ⟨.i .i64, [], none⟩
def toB69 : List Leaf → Option (Int) := gI (fun b0 => gE (some b0))
def ofB69 (y : Int) : List Leaf := [.i y]
theorem toB69_ok : ∀ ls b, toB69 ls = some b → ls = ofB69 b := by
  intro ls b h
  unfold toB69 at h
  obtain ⟨b0, ls1, rfl, h1⟩ := gI_ok h; obtain ⟨rfl, h2⟩ := gE_ok h1
  cases h2; rfl
def run69 {R : Type} : SF R := ⟨pa69, sr69, fun ls K => (gS (fun a0 => gS (fun a1 => gE (Option.bind (F69 FUEL a0 a1) fun y => K (ofB69 y))))) ls⟩
def cuts69 : List (List Nat × Cut (Int)) := []
noncomputable def X69 : Px (Int) := ⟨T, Try.prog, lkF [(73, run73)], mkCuts 69 cuts69, altN, altN_ok⟩
theorem e69 (n : Nat) (a0 : ByteArray) (a1 : ByteArray) : entF X69 8 69 pa69 (endK sr69 toB69) n [.s a0, .s a1] = F69 n a0 a1 := by kernel_rfl
theorem sp69 {n : Nat} (a0 : ByteArray) (a1 : ByteArray) {y : Int} (h : F69 n a0 a1 = some y) : SpecF T Try.prog 69 pa69 [.s a0, .s a1] sr69 (ofB69 y) :=
  fun_ok (X := X69) tok (sfok_of ⟨ok73, trivial⟩) mixed 69 8 cuts69 rfl toB69_ok trivial ((e69 n a0 a1).trans h)
theorem ok69 {R : Type} : SFone T Try.prog 69 (run69 : SF R) := by
  intro ls K r h
  simp only [run69] at h
  obtain ⟨a0, ls1, rfl, h1⟩ := gS_ok h; obtain ⟨a1, ls2, rfl, h2⟩ := gS_ok h1; obtain ⟨rfl, h3⟩ := gE_ok h2
  obtain ⟨y, k1, k2⟩ := Option.bind_eq_some_iff.1 h3
  exact ⟨_, k2, sp69 a0 a1 k1⟩

/-! ### garland/keep.place -/
def pa61 : List VP := [.sl false [.str, .int .i64, .int .i64, .bool], .s]
def sr61 : RShape := ⟨.tup [.i .i64, .b], [], none⟩
def toB61 : List Leaf → Option (Int × Bool) := gI (fun b0 => gB (fun b1 => gE (some (b0, b1))))
def ofB61 (y : Int × Bool) : List Leaf := [.i y.1, .b y.2]
theorem toB61_ok : ∀ ls b, toB61 ls = some b → ls = ofB61 b := by
  intro ls b h
  unfold toB61 at h
  obtain ⟨b0, ls1, rfl, h1⟩ := gI_ok h; obtain ⟨b1, ls2, rfl, h2⟩ := gB_ok h1; obtain ⟨rfl, h3⟩ := gE_ok h2
  cases h3; rfl
def run61 {R : Type} : SF R := ⟨pa61, sr61, fun ls K => (gL [.str, .int .i64, .int .i64, .bool] (fun a0 => gS (fun a1 => gE (Option.bind (F61 FUEL a0 a1) fun y => K (ofB61 y))))) ls⟩
def sh61_0 : Shape := ⟨[(46, [(0, .sl false [.str, .int .i64, .int .i64, .bool]), (6, .clos 68 [.ref 0 0]), (7, .i .i64), (8, .i .i64)])], [.cells [.s]]⟩
def g61_0 (n : Nat) : List Leaf → Option (Int × Bool) := gL [.str, .int .i64, .int .i64, .bool] (fun x0 => gI (fun x1 => gI (fun x2 => gS (fun x3 => gE (F61_c0 n x0 x1 x2 x3)))))
def cuts61 : List (List Nat × Cut (Int × Bool)) := [([1, 10], ⟨sh61_0, g61_0⟩)]
noncomputable def X61 : Px (Int × Bool) := ⟨T, Try.prog, lkF [(69, run69)], mkCuts 61 cuts61, altN, altN_ok⟩
theorem e61_0 (n : Nat) (x0 : List (ByteArray × Int × Int × Bool)) (x1 : Int) (x2 : Int) (x3 : ByteArray) : stepF X61 8 61 (endK sr61 toB61) [1, 10] sh61_0 n [.l [.str, .int .i64, .int .i64, .bool] x0, .i x1, .i x2, .s x3] = F61_c0 (n + 1) x0 x1 x2 x3 := by kernel_rfl
theorem e61 (n : Nat) (a0 : List (ByteArray × Int × Int × Bool)) (a1 : ByteArray) : entF X61 8 61 pa61 (endK sr61 toB61) n [.l [.str, .int .i64, .int .i64, .bool] a0, .s a1] = F61 n a0 a1 := by kernel_rfl
theorem c61_0 : CutOK X61 8 61 (endK sr61 toB61) [1, 10] ⟨sh61_0, g61_0⟩ := by
  refine ⟨fun ls => ?_, fun n ls r h => ?_⟩
  · cases h : g61_0 0 ls with
    | none => exact h
    | some r =>
      unfold g61_0 at h; obtain ⟨x0, ls1, rfl, h1⟩ := gL_ok h; obtain ⟨x1, ls2, rfl, h2⟩ := gI_ok h1; obtain ⟨x2, ls3, rfl, h3⟩ := gI_ok h2; obtain ⟨x3, ls4, rfl, h4⟩ := gS_ok h3; obtain ⟨rfl, h5⟩ := gE_ok h4; simp only [F61_c0] at h5; cases h5
  · replace h : g61_0 (n + 1) ls = some r := h
    unfold g61_0 at h
    obtain ⟨x0, ls1, rfl, h1⟩ := gL_ok h; obtain ⟨x1, ls2, rfl, h2⟩ := gI_ok h1; obtain ⟨x2, ls3, rfl, h3⟩ := gI_ok h2; obtain ⟨x3, ls4, rfl, h4⟩ := gS_ok h3; obtain ⟨rfl, h5⟩ := gE_ok h4
    exact (e61_0 n x0 x1 x2 x3).trans h5
theorem sp61 {n : Nat} (a0 : List (ByteArray × Int × Int × Bool)) (a1 : ByteArray) {y : Int × Bool} (h : F61 n a0 a1 = some y) : SpecF T Try.prog 61 pa61 [.l [.str, .int .i64, .int .i64, .bool] a0, .s a1] sr61 (ofB61 y) :=
  fun_ok (X := X61) tok (sfok_of ⟨ok69, trivial⟩) mixed 61 8 cuts61 rfl toB61_ok ⟨c61_0, trivial⟩ ((e61 n a0 a1).trans h)
theorem ok61 {R : Type} : SFone T Try.prog 61 (run61 : SF R) := by
  intro ls K r h
  simp only [run61] at h
  obtain ⟨a0, ls1, rfl, h1⟩ := gL_ok h; obtain ⟨a1, ls2, rfl, h2⟩ := gS_ok h1; obtain ⟨rfl, h3⟩ := gE_ok h2
  obtain ⟨y, k1, k2⟩ := Option.bind_eq_some_iff.1 h3
  exact ⟨_, k2, sp61 a0 a1 k1⟩

/-! ### garland/item.of -/
def pa74 : List VP := [.agg [.s, .i .i64, .i .i64, .b]]
def sr74 : RShape := ⟨.agg [.i .i64, .i .i64, .b], [], none⟩
def toB74 : List Leaf → Option (Int × Int × Bool) := gI (fun b0 => gI (fun b1 => gB (fun b2 => gE (some (b0, b1, b2)))))
def ofB74 (y : Int × Int × Bool) : List Leaf := [.i y.1, .i y.2.1, .b y.2.2]
theorem toB74_ok : ∀ ls b, toB74 ls = some b → ls = ofB74 b := by
  intro ls b h
  unfold toB74 at h
  obtain ⟨b0, ls1, rfl, h1⟩ := gI_ok h; obtain ⟨b1, ls2, rfl, h2⟩ := gI_ok h1; obtain ⟨b2, ls3, rfl, h3⟩ := gB_ok h2; obtain ⟨rfl, h4⟩ := gE_ok h3
  cases h4; rfl
def run74 {R : Type} : SF R := ⟨pa74, sr74, fun ls K => (gS (fun a0 => gI (fun a1 => gI (fun a2 => gB (fun a3 => gE (Option.bind (F74 FUEL a0 a1 a2 a3) fun y => K (ofB74 y))))))) ls⟩
def cuts74 : List (List Nat × Cut (Int × Int × Bool)) := []
noncomputable def X74 : Px (Int × Int × Bool) := ⟨T, Try.prog, lkF [], mkCuts 74 cuts74, altN, altN_ok⟩
theorem e74 (n : Nat) (a0 : ByteArray) (a1 : Int) (a2 : Int) (a3 : Bool) : entF X74 8 74 pa74 (endK sr74 toB74) n [.s a0, .i a1, .i a2, .b a3] = F74 n a0 a1 a2 a3 := by kernel_rfl
theorem sp74 {n : Nat} (a0 : ByteArray) (a1 : Int) (a2 : Int) (a3 : Bool) {y : Int × Int × Bool} (h : F74 n a0 a1 a2 a3 = some y) : SpecF T Try.prog 74 pa74 [.s a0, .i a1, .i a2, .b a3] sr74 (ofB74 y) :=
  fun_ok (X := X74) tok (sfok_of trivial) mixed 74 8 cuts74 rfl toB74_ok trivial ((e74 n a0 a1 a2 a3).trans h)
theorem ok74 {R : Type} : SFone T Try.prog 74 (run74 : SF R) := by
  intro ls K r h
  simp only [run74] at h
  obtain ⟨a0, ls1, rfl, h1⟩ := gS_ok h; obtain ⟨a1, ls2, rfl, h2⟩ := gI_ok h1; obtain ⟨a2, ls3, rfl, h3⟩ := gI_ok h2; obtain ⟨a3, ls4, rfl, h4⟩ := gB_ok h3; obtain ⟨rfl, h5⟩ := gE_ok h4
  obtain ⟨y, k1, k2⟩ := Option.bind_eq_some_iff.1 h5
  exact ⟨_, k2, sp74 a0 a1 a2 a3 k1⟩

/-! ### cmp.isNaN[int] -/
def pa78 : List VP := [.i .i64]
def sr78 : RShape := ⟨.b, [], none⟩
def toB78 : List Leaf → Option (Bool) := gB (fun b0 => gE (some b0))
def ofB78 (y : Bool) : List Leaf := [.b y]
theorem toB78_ok : ∀ ls b, toB78 ls = some b → ls = ofB78 b := by
  intro ls b h
  unfold toB78 at h
  obtain ⟨b0, ls1, rfl, h1⟩ := gB_ok h; obtain ⟨rfl, h2⟩ := gE_ok h1
  cases h2; rfl
def run78 {R : Type} : SF R := ⟨pa78, sr78, fun ls K => (gI (fun a0 => gE (Option.bind (F78 FUEL a0) fun y => K (ofB78 y)))) ls⟩
def cuts78 : List (List Nat × Cut (Bool)) := []
noncomputable def X78 : Px (Bool) := ⟨T, Try.prog, lkF [], mkCuts 78 cuts78, altN, altN_ok⟩
theorem e78 (n : Nat) (a0 : Int) : entF X78 8 78 pa78 (endK sr78 toB78) n [.i a0] = F78 n a0 := by kernel_rfl
theorem sp78 {n : Nat} (a0 : Int) {y : Bool} (h : F78 n a0 = some y) : SpecF T Try.prog 78 pa78 [.i a0] sr78 (ofB78 y) :=
  fun_ok (X := X78) tok (sfok_of trivial) mixed 78 8 cuts78 rfl toB78_ok trivial ((e78 n a0).trans h)
theorem ok78 {R : Type} : SFone T Try.prog 78 (run78 : SF R) := by
  intro ls K r h
  simp only [run78] at h
  obtain ⟨a0, ls1, rfl, h1⟩ := gI_ok h; obtain ⟨rfl, h2⟩ := gE_ok h1
  obtain ⟨y, k1, k2⟩ := Option.bind_eq_some_iff.1 h2
  exact ⟨_, k2, sp78 a0 k1⟩

/-! ### cmp.Compare[int] -/
def pa76 : List VP := [.i .i64, .i .i64]
def sr76 : RShape := ⟨.i .i64, [], none⟩
def toB76 : List Leaf → Option (Int) := gI (fun b0 => gE (some b0))
def ofB76 (y : Int) : List Leaf := [.i y]
theorem toB76_ok : ∀ ls b, toB76 ls = some b → ls = ofB76 b := by
  intro ls b h
  unfold toB76 at h
  obtain ⟨b0, ls1, rfl, h1⟩ := gI_ok h; obtain ⟨rfl, h2⟩ := gE_ok h1
  cases h2; rfl
def run76 {R : Type} : SF R := ⟨pa76, sr76, fun ls K => (gI (fun a0 => gI (fun a1 => gE (Option.bind (F76 FUEL a0 a1) fun y => K (ofB76 y))))) ls⟩
def cuts76 : List (List Nat × Cut (Int)) := []
noncomputable def X76 : Px (Int) := ⟨T, Try.prog, lkF [(78, run78)], mkCuts 76 cuts76, altN, altN_ok⟩
theorem e76 (n : Nat) (a0 : Int) (a1 : Int) : entF X76 8 76 pa76 (endK sr76 toB76) n [.i a0, .i a1] = F76 n a0 a1 := by kernel_rfl
theorem sp76 {n : Nat} (a0 : Int) (a1 : Int) {y : Int} (h : F76 n a0 a1 = some y) : SpecF T Try.prog 76 pa76 [.i a0, .i a1] sr76 (ofB76 y) :=
  fun_ok (X := X76) tok (sfok_of ⟨ok78, trivial⟩) mixed 76 8 cuts76 rfl toB76_ok trivial ((e76 n a0 a1).trans h)
theorem ok76 {R : Type} : SFone T Try.prog 76 (run76 : SF R) := by
  intro ls K r h
  simp only [run76] at h
  obtain ⟨a0, ls1, rfl, h1⟩ := gI_ok h; obtain ⟨a1, ls2, rfl, h2⟩ := gI_ok h1; obtain ⟨rfl, h3⟩ := gE_ok h2
  obtain ⟨y, k1, k2⟩ := Option.bind_eq_some_iff.1 h3
  exact ⟨_, k2, sp76 a0 a1 k1⟩

/-! ### cmp.Or[int] -/
def pa75 : List VP := [.sl false [.int .i64]]
def sr75 : RShape := ⟨.i .i64, [], none⟩
def toB75 : List Leaf → Option (Int) := gI (fun b0 => gE (some b0))
def ofB75 (y : Int) : List Leaf := [.i y]
theorem toB75_ok : ∀ ls b, toB75 ls = some b → ls = ofB75 b := by
  intro ls b h
  unfold toB75 at h
  obtain ⟨b0, ls1, rfl, h1⟩ := gI_ok h; obtain ⟨rfl, h2⟩ := gE_ok h1
  cases h2; rfl
def run75 {R : Type} : SF R := ⟨pa75, sr75, fun ls K => (gL [.int .i64] (fun a0 => gE (Option.bind (F75 FUEL a0) fun y => K (ofB75 y)))) ls⟩
def sh75_0 : Shape := ⟨[(18, [(3, .i .i64), (6, .sl false [.int .i64]), (7, .i .i64), (8, .i .i64)])], []⟩
def g75_0 (n : Nat) : List Leaf → Option (Int) := gI (fun x0 => gL [.int .i64] (fun x1 => gI (fun x2 => gI (fun x3 => gE (F75_c0 n x0 x1 x2 x3)))))
def cuts75 : List (List Nat × Cut (Int)) := [([1, 1, 0, 1, 0], ⟨sh75_0, g75_0⟩)]
noncomputable def X75 : Px (Int) := ⟨T, Try.prog, lkF [], mkCuts 75 cuts75, altN, altN_ok⟩
theorem e75_0 (n : Nat) (x0 : Int) (x1 : List (Int)) (x2 : Int) (x3 : Int) : stepF X75 8 75 (endK sr75 toB75) [1, 1, 0, 1, 0] sh75_0 n [.i x0, .l [.int .i64] x1, .i x2, .i x3] = F75_c0 (n + 1) x0 x1 x2 x3 := by kernel_rfl
theorem e75 (n : Nat) (a0 : List (Int)) : entF X75 8 75 pa75 (endK sr75 toB75) n [.l [.int .i64] a0] = F75 n a0 := by kernel_rfl
theorem c75_0 : CutOK X75 8 75 (endK sr75 toB75) [1, 1, 0, 1, 0] ⟨sh75_0, g75_0⟩ := by
  refine ⟨fun ls => ?_, fun n ls r h => ?_⟩
  · cases h : g75_0 0 ls with
    | none => exact h
    | some r =>
      unfold g75_0 at h; obtain ⟨x0, ls1, rfl, h1⟩ := gI_ok h; obtain ⟨x1, ls2, rfl, h2⟩ := gL_ok h1; obtain ⟨x2, ls3, rfl, h3⟩ := gI_ok h2; obtain ⟨x3, ls4, rfl, h4⟩ := gI_ok h3; obtain ⟨rfl, h5⟩ := gE_ok h4; simp only [F75_c0] at h5; cases h5
  · replace h : g75_0 (n + 1) ls = some r := h
    unfold g75_0 at h
    obtain ⟨x0, ls1, rfl, h1⟩ := gI_ok h; obtain ⟨x1, ls2, rfl, h2⟩ := gL_ok h1; obtain ⟨x2, ls3, rfl, h3⟩ := gI_ok h2; obtain ⟨x3, ls4, rfl, h4⟩ := gI_ok h3; obtain ⟨rfl, h5⟩ := gE_ok h4
    exact (e75_0 n x0 x1 x2 x3).trans h5
theorem sp75 {n : Nat} (a0 : List (Int)) {y : Int} (h : F75 n a0 = some y) : SpecF T Try.prog 75 pa75 [.l [.int .i64] a0] sr75 (ofB75 y) :=
  fun_ok (X := X75) tok (sfok_of trivial) mixed 75 8 cuts75 rfl toB75_ok ⟨c75_0, trivial⟩ ((e75 n a0).trans h)
theorem ok75 {R : Type} : SFone T Try.prog 75 (run75 : SF R) := by
  intro ls K r h
  simp only [run75] at h
  obtain ⟨a0, ls1, rfl, h1⟩ := gL_ok h; obtain ⟨rfl, h2⟩ := gE_ok h1
  obtain ⟨y, k1, k2⟩ := Option.bind_eq_some_iff.1 h2
  exact ⟨_, k2, sp75 a0 k1⟩

/-! ### garland/item.Cmp -/
def pa70 : List VP := [.agg [.s, .i .i64, .i .i64, .b], .agg [.s, .i .i64, .i .i64, .b]]
def sr70 : RShape := ⟨.i .i64, [], none⟩
def toB70 : List Leaf → Option (Int) := gI (fun b0 => gE (some b0))
def ofB70 (y : Int) : List Leaf := [.i y]
theorem toB70_ok : ∀ ls b, toB70 ls = some b → ls = ofB70 b := by
  intro ls b h
  unfold toB70 at h
  obtain ⟨b0, ls1, rfl, h1⟩ := gI_ok h; obtain ⟨rfl, h2⟩ := gE_ok h1
  cases h2; rfl
def run70 {R : Type} : SF R := ⟨pa70, sr70, fun ls K => (gS (fun a0 => gI (fun a1 => gI (fun a2 => gB (fun a3 => gS (fun a4 => gI (fun a5 => gI (fun a6 => gB (fun a7 => gE (Option.bind (F70 FUEL a0 a1 a2 a3 a4 a5 a6 a7) fun y => K (ofB70 y))))))))))) ls⟩
def cuts70 : List (List Nat × Cut (Int)) := []
noncomputable def X70 : Px (Int) := ⟨T, Try.prog, lkF [(74, run74), (76, run76), (75, run75)], mkCuts 70 cuts70, altN, altN_ok⟩
theorem e70 (n : Nat) (a0 : ByteArray) (a1 : Int) (a2 : Int) (a3 : Bool) (a4 : ByteArray) (a5 : Int) (a6 : Int) (a7 : Bool) : entF X70 8 70 pa70 (endK sr70 toB70) n [.s a0, .i a1, .i a2, .b a3, .s a4, .i a5, .i a6, .b a7] = F70 n a0 a1 a2 a3 a4 a5 a6 a7 := by kernel_rfl
theorem sp70 {n : Nat} (a0 : ByteArray) (a1 : Int) (a2 : Int) (a3 : Bool) (a4 : ByteArray) (a5 : Int) (a6 : Int) (a7 : Bool) {y : Int} (h : F70 n a0 a1 a2 a3 a4 a5 a6 a7 = some y) : SpecF T Try.prog 70 pa70 [.s a0, .i a1, .i a2, .b a3, .s a4, .i a5, .i a6, .b a7] sr70 (ofB70 y) :=
  fun_ok (X := X70) tok (sfok_of ⟨ok74, ok76, ok75, trivial⟩) mixed 70 8 cuts70 rfl toB70_ok trivial ((e70 n a0 a1 a2 a3 a4 a5 a6 a7).trans h)
theorem ok70 {R : Type} : SFone T Try.prog 70 (run70 : SF R) := by
  intro ls K r h
  simp only [run70] at h
  obtain ⟨a0, ls1, rfl, h1⟩ := gS_ok h; obtain ⟨a1, ls2, rfl, h2⟩ := gI_ok h1; obtain ⟨a2, ls3, rfl, h3⟩ := gI_ok h2; obtain ⟨a3, ls4, rfl, h4⟩ := gB_ok h3; obtain ⟨a4, ls5, rfl, h5⟩ := gS_ok h4; obtain ⟨a5, ls6, rfl, h6⟩ := gI_ok h5; obtain ⟨a6, ls7, rfl, h7⟩ := gI_ok h6; obtain ⟨a7, ls8, rfl, h8⟩ := gB_ok h7; obtain ⟨rfl, h9⟩ := gE_ok h8
  obtain ⟨y, k1, k2⟩ := Option.bind_eq_some_iff.1 h9
  exact ⟨_, k2, sp70 a0 a1 a2 a3 a4 a5 a6 a7 k1⟩

/-! ### garland/item.Newer -/
def pa62 : List VP := [.agg [.s, .i .i64, .i .i64, .b], .agg [.s, .i .i64, .i .i64, .b]]
def sr62 : RShape := ⟨.b, [], none⟩
def toB62 : List Leaf → Option (Bool) := gB (fun b0 => gE (some b0))
def ofB62 (y : Bool) : List Leaf := [.b y]
theorem toB62_ok : ∀ ls b, toB62 ls = some b → ls = ofB62 b := by
  intro ls b h
  unfold toB62 at h
  obtain ⟨b0, ls1, rfl, h1⟩ := gB_ok h; obtain ⟨rfl, h2⟩ := gE_ok h1
  cases h2; rfl
def run62 {R : Type} : SF R := ⟨pa62, sr62, fun ls K => (gS (fun a0 => gI (fun a1 => gI (fun a2 => gB (fun a3 => gS (fun a4 => gI (fun a5 => gI (fun a6 => gB (fun a7 => gE (Option.bind (F62 FUEL a0 a1 a2 a3 a4 a5 a6 a7) fun y => K (ofB62 y))))))))))) ls⟩
def cuts62 : List (List Nat × Cut (Bool)) := []
noncomputable def X62 : Px (Bool) := ⟨T, Try.prog, lkF [(70, run70)], mkCuts 62 cuts62, altN, altN_ok⟩
theorem e62 (n : Nat) (a0 : ByteArray) (a1 : Int) (a2 : Int) (a3 : Bool) (a4 : ByteArray) (a5 : Int) (a6 : Int) (a7 : Bool) : entF X62 8 62 pa62 (endK sr62 toB62) n [.s a0, .i a1, .i a2, .b a3, .s a4, .i a5, .i a6, .b a7] = F62 n a0 a1 a2 a3 a4 a5 a6 a7 := by kernel_rfl
theorem sp62 {n : Nat} (a0 : ByteArray) (a1 : Int) (a2 : Int) (a3 : Bool) (a4 : ByteArray) (a5 : Int) (a6 : Int) (a7 : Bool) {y : Bool} (h : F62 n a0 a1 a2 a3 a4 a5 a6 a7 = some y) : SpecF T Try.prog 62 pa62 [.s a0, .i a1, .i a2, .b a3, .s a4, .i a5, .i a6, .b a7] sr62 (ofB62 y) :=
  fun_ok (X := X62) tok (sfok_of ⟨ok70, trivial⟩) mixed 62 8 cuts62 rfl toB62_ok trivial ((e62 n a0 a1 a2 a3 a4 a5 a6 a7).trans h)
theorem ok62 {R : Type} : SFone T Try.prog 62 (run62 : SF R) := by
  intro ls K r h
  simp only [run62] at h
  obtain ⟨a0, ls1, rfl, h1⟩ := gS_ok h; obtain ⟨a1, ls2, rfl, h2⟩ := gI_ok h1; obtain ⟨a2, ls3, rfl, h3⟩ := gI_ok h2; obtain ⟨a3, ls4, rfl, h4⟩ := gB_ok h3; obtain ⟨a4, ls5, rfl, h5⟩ := gS_ok h4; obtain ⟨a5, ls6, rfl, h6⟩ := gI_ok h5; obtain ⟨a6, ls7, rfl, h7⟩ := gI_ok h6; obtain ⟨a7, ls8, rfl, h8⟩ := gB_ok h7; obtain ⟨rfl, h9⟩ := gE_ok h8
  obtain ⟨y, k1, k2⟩ := Option.bind_eq_some_iff.1 h9
  exact ⟨_, k2, sp62 a0 a1 a2 a3 a4 a5 a6 a7 k1⟩

/-! ### garland/keep.Put -/
def pa32 : List VP := [.sl false [.str, .int .i64, .int .i64, .bool], .agg [.s, .i .i64, .i .i64, .b]]
def sr32 : RShape := ⟨.tup [.row 0, .i .i64], [.row true [.str, .int .i64, .int .i64, .bool]], none⟩
def toB32 : List Leaf → Option (Int × (List (ByteArray × Int × Int × Bool))) := gI (fun b0 => gL [.str, .int .i64, .int .i64, .bool] (fun b1 => gE (some (b0, b1))))
def ofB32 (y : Int × (List (ByteArray × Int × Int × Bool))) : List Leaf := [.i y.1, .l [.str, .int .i64, .int .i64, .bool] y.2]
theorem toB32_ok : ∀ ls b, toB32 ls = some b → ls = ofB32 b := by
  intro ls b h
  unfold toB32 at h
  obtain ⟨b0, ls1, rfl, h1⟩ := gI_ok h; obtain ⟨b1, ls2, rfl, h2⟩ := gL_ok h1; obtain ⟨rfl, h3⟩ := gE_ok h2
  cases h3; rfl
def run32 {R : Type} : SF R := ⟨pa32, sr32, fun ls K => (gL [.str, .int .i64, .int .i64, .bool] (fun a0 => gS (fun a1 => gI (fun a2 => gI (fun a3 => gB (fun a4 => gE (Option.bind (F32 FUEL a0 a1 a2 a3 a4) fun y => K (ofB32 y)))))))) ls⟩
def cuts32 : List (List Nat × Cut (Int × (List (ByteArray × Int × Int × Bool)))) := []
noncomputable def X32 : Px (Int × (List (ByteArray × Int × Int × Bool))) := ⟨T, Try.prog, lkF [(41, run41), (43, run43), (17, run17), (61, run61), (62, run62)], mkCuts 32 cuts32, altN, altN_ok⟩
theorem e32 (n : Nat) (a0 : List (ByteArray × Int × Int × Bool)) (a1 : ByteArray) (a2 : Int) (a3 : Int) (a4 : Bool) : entF X32 8 32 pa32 (endK sr32 toB32) n [.l [.str, .int .i64, .int .i64, .bool] a0, .s a1, .i a2, .i a3, .b a4] = F32 n a0 a1 a2 a3 a4 := by kernel_rfl
theorem sp32 {n : Nat} (a0 : List (ByteArray × Int × Int × Bool)) (a1 : ByteArray) (a2 : Int) (a3 : Int) (a4 : Bool) {y : Int × (List (ByteArray × Int × Int × Bool))} (h : F32 n a0 a1 a2 a3 a4 = some y) : SpecF T Try.prog 32 pa32 [.l [.str, .int .i64, .int .i64, .bool] a0, .s a1, .i a2, .i a3, .b a4] sr32 (ofB32 y) :=
  fun_ok (X := X32) tok (sfok_of ⟨ok41, ok43, ok17, ok61, ok62, trivial⟩) mixed 32 8 cuts32 rfl toB32_ok trivial ((e32 n a0 a1 a2 a3 a4).trans h)
theorem ok32 {R : Type} : SFone T Try.prog 32 (run32 : SF R) := by
  intro ls K r h
  simp only [run32] at h
  obtain ⟨a0, ls1, rfl, h1⟩ := gL_ok h; obtain ⟨a1, ls2, rfl, h2⟩ := gS_ok h1; obtain ⟨a2, ls3, rfl, h3⟩ := gI_ok h2; obtain ⟨a3, ls4, rfl, h4⟩ := gI_ok h3; obtain ⟨a4, ls5, rfl, h5⟩ := gB_ok h4; obtain ⟨rfl, h6⟩ := gE_ok h5
  obtain ⟨y, k1, k2⟩ := Option.bind_eq_some_iff.1 h6
  exact ⟨_, k2, sp32 a0 a1 a2 a3 a4 k1⟩

/-! ### garland/keep.All -/
def pa34 : List VP := [.sl false [.str, .int .i64, .int .i64, .bool], .sl false [.str, .int .i64, .int .i64, .bool]]
def sr34 : RShape := ⟨.tup [.row 0, .i .i64], [.row true [.str, .int .i64, .int .i64, .bool]], none⟩
def toB34 : List Leaf → Option (Int × (List (ByteArray × Int × Int × Bool))) := gI (fun b0 => gL [.str, .int .i64, .int .i64, .bool] (fun b1 => gE (some (b0, b1))))
def ofB34 (y : Int × (List (ByteArray × Int × Int × Bool))) : List Leaf := [.i y.1, .l [.str, .int .i64, .int .i64, .bool] y.2]
theorem toB34_ok : ∀ ls b, toB34 ls = some b → ls = ofB34 b := by
  intro ls b h
  unfold toB34 at h
  obtain ⟨b0, ls1, rfl, h1⟩ := gI_ok h; obtain ⟨b1, ls2, rfl, h2⟩ := gL_ok h1; obtain ⟨rfl, h3⟩ := gE_ok h2
  cases h3; rfl
def run34 {R : Type} : SF R := ⟨pa34, sr34, fun ls K => (gL [.str, .int .i64, .int .i64, .bool] (fun a0 => gL [.str, .int .i64, .int .i64, .bool] (fun a1 => gE (Option.bind (F34 FUEL a0 a1) fun y => K (ofB34 y))))) ls⟩
def sh34_0 : Shape := ⟨[(18, [(0, .yield 7), (5, .sl false [.str, .int .i64, .int .i64, .bool]), (6, .i .i64), (7, .i .i64)]), (39, [(6, .ref 0 0), (7, .ref 1 0)])], [.cells [.row 2], .cells [.i .i64], .row true [.str, .int .i64, .int .i64, .bool]]⟩
def g34_0 (n : Nat) : List Leaf → Option (Int × (List (ByteArray × Int × Int × Bool))) := gL [.str, .int .i64, .int .i64, .bool] (fun x0 => gI (fun x1 => gI (fun x2 => gI (fun x3 => gL [.str, .int .i64, .int .i64, .bool] (fun x4 => gE (F34_c0 n x0 x1 x2 x3 x4))))))
def cuts34 : List (List Nat × Cut (Int × (List (ByteArray × Int × Int × Bool)))) := [([1, 1, 1, 0, 1, 0, 142, 1, 0], ⟨sh34_0, g34_0⟩)]
noncomputable def X34 : Px (Int × (List (ByteArray × Int × Int × Bool))) := ⟨T, Try.prog, lkF [(43, run43), (41, run41), (32, run32)], mkCuts 34 cuts34, altN, altN_ok⟩
theorem e34_0 (n : Nat) (x0 : List (ByteArray × Int × Int × Bool)) (x1 : Int) (x2 : Int) (x3 : Int) (x4 : List (ByteArray × Int × Int × Bool)) : stepF X34 8 34 (endK sr34 toB34) [1, 1, 1, 0, 1, 0, 142, 1, 0] sh34_0 n [.l [.str, .int .i64, .int .i64, .bool] x0, .i x1, .i x2, .i x3, .l [.str, .int .i64, .int .i64, .bool] x4] = F34_c0 (n + 1) x0 x1 x2 x3 x4 := by kernel_rfl
theorem e34 (n : Nat) (a0 : List (ByteArray × Int × Int × Bool)) (a1 : List (ByteArray × Int × Int × Bool)) : entF X34 8 34 pa34 (endK sr34 toB34) n [.l [.str, .int .i64, .int .i64, .bool] a0, .l [.str, .int .i64, .int .i64, .bool] a1] = F34 n a0 a1 := by kernel_rfl
theorem c34_0 : CutOK X34 8 34 (endK sr34 toB34) [1, 1, 1, 0, 1, 0, 142, 1, 0] ⟨sh34_0, g34_0⟩ := by
  refine ⟨fun ls => ?_, fun n ls r h => ?_⟩
  · cases h : g34_0 0 ls with
    | none => exact h
    | some r =>
      unfold g34_0 at h; obtain ⟨x0, ls1, rfl, h1⟩ := gL_ok h; obtain ⟨x1, ls2, rfl, h2⟩ := gI_ok h1; obtain ⟨x2, ls3, rfl, h3⟩ := gI_ok h2; obtain ⟨x3, ls4, rfl, h4⟩ := gI_ok h3; obtain ⟨x4, ls5, rfl, h5⟩ := gL_ok h4; obtain ⟨rfl, h6⟩ := gE_ok h5; simp only [F34_c0] at h6; cases h6
  · replace h : g34_0 (n + 1) ls = some r := h
    unfold g34_0 at h
    obtain ⟨x0, ls1, rfl, h1⟩ := gL_ok h; obtain ⟨x1, ls2, rfl, h2⟩ := gI_ok h1; obtain ⟨x2, ls3, rfl, h3⟩ := gI_ok h2; obtain ⟨x3, ls4, rfl, h4⟩ := gI_ok h3; obtain ⟨x4, ls5, rfl, h5⟩ := gL_ok h4; obtain ⟨rfl, h6⟩ := gE_ok h5
    exact (e34_0 n x0 x1 x2 x3 x4).trans h6
theorem sp34 {n : Nat} (a0 : List (ByteArray × Int × Int × Bool)) (a1 : List (ByteArray × Int × Int × Bool)) {y : Int × (List (ByteArray × Int × Int × Bool))} (h : F34 n a0 a1 = some y) : SpecF T Try.prog 34 pa34 [.l [.str, .int .i64, .int .i64, .bool] a0, .l [.str, .int .i64, .int .i64, .bool] a1] sr34 (ofB34 y) :=
  fun_ok (X := X34) tok (sfok_of ⟨ok43, ok41, ok32, trivial⟩) mixed 34 8 cuts34 rfl toB34_ok ⟨c34_0, trivial⟩ ((e34 n a0 a1).trans h)
theorem ok34 {R : Type} : SFone T Try.prog 34 (run34 : SF R) := by
  intro ls K r h
  simp only [run34] at h
  obtain ⟨a0, ls1, rfl, h1⟩ := gL_ok h; obtain ⟨a1, ls2, rfl, h2⟩ := gL_ok h1; obtain ⟨rfl, h3⟩ := gE_ok h2
  obtain ⟨y, k1, k2⟩ := Option.bind_eq_some_iff.1 h3
  exact ⟨_, k2, sp34 a0 a1 k1⟩

/-! ### garland/keep.Get -/
def pa37 : List VP := [.sl false [.str, .int .i64, .int .i64, .bool], .s]
def sr37 : RShape := ⟨.tup [.agg [.s, .i .i64, .i .i64, .b], .i .i64], [], none⟩
def toB37 : List Leaf → Option (Ssi2bi) := gS (fun b0 => gI (fun b1 => gI (fun b2 => gB (fun b3 => gI (fun b4 => gE (some ⟨b0, b1, b2, b3, b4⟩))))))
def ofB37 (y : Ssi2bi) : List Leaf := [.s y.q0, .i y.q1, .i y.q2, .b y.q3, .i y.q4]
theorem toB37_ok : ∀ ls b, toB37 ls = some b → ls = ofB37 b := by
  intro ls b h
  unfold toB37 at h
  obtain ⟨b0, ls1, rfl, h1⟩ := gS_ok h; obtain ⟨b1, ls2, rfl, h2⟩ := gI_ok h1; obtain ⟨b2, ls3, rfl, h3⟩ := gI_ok h2; obtain ⟨b3, ls4, rfl, h4⟩ := gB_ok h3; obtain ⟨b4, ls5, rfl, h5⟩ := gI_ok h4; obtain ⟨rfl, h6⟩ := gE_ok h5
  cases h6; rfl
def run37 {R : Type} : SF R := ⟨pa37, sr37, fun ls K => (gL [.str, .int .i64, .int .i64, .bool] (fun a0 => gS (fun a1 => gE (Option.bind (F37 FUEL a0 a1) fun y => K (ofB37 y))))) ls⟩
def cuts37 : List (List Nat × Cut (Ssi2bi)) := []
noncomputable def X37 : Px (Ssi2bi) := ⟨T, Try.prog, lkF [(41, run41), (61, run61)], mkCuts 37 cuts37, altN, altN_ok⟩
theorem e37 (n : Nat) (a0 : List (ByteArray × Int × Int × Bool)) (a1 : ByteArray) : entF X37 8 37 pa37 (endK sr37 toB37) n [.l [.str, .int .i64, .int .i64, .bool] a0, .s a1] = F37 n a0 a1 := by kernel_rfl
theorem sp37 {n : Nat} (a0 : List (ByteArray × Int × Int × Bool)) (a1 : ByteArray) {y : Ssi2bi} (h : F37 n a0 a1 = some y) : SpecF T Try.prog 37 pa37 [.l [.str, .int .i64, .int .i64, .bool] a0, .s a1] sr37 (ofB37 y) :=
  fun_ok (X := X37) tok (sfok_of ⟨ok41, ok61, trivial⟩) mixed 37 8 cuts37 rfl toB37_ok trivial ((e37 n a0 a1).trans h)
theorem ok37 {R : Type} : SFone T Try.prog 37 (run37 : SF R) := by
  intro ls K r h
  simp only [run37] at h
  obtain ⟨a0, ls1, rfl, h1⟩ := gL_ok h; obtain ⟨a1, ls2, rfl, h2⟩ := gS_ok h1; obtain ⟨rfl, h3⟩ := gE_ok h2
  obtain ⟨y, k1, k2⟩ := Option.bind_eq_some_iff.1 h3
  exact ⟨_, k2, sp37 a0 a1 k1⟩

/-! ### garland/keep.Next -/
def pa39 : List VP := [.sl false [.str, .int .i64, .int .i64, .bool], .s]
def sr39 : RShape := ⟨.tup [.agg [.s, .i .i64, .i .i64, .b], .b], [], none⟩
def toB39 : List Leaf → Option (Ssi2b2) := gS (fun b0 => gI (fun b1 => gI (fun b2 => gB (fun b3 => gB (fun b4 => gE (some ⟨b0, b1, b2, b3, b4⟩))))))
def ofB39 (y : Ssi2b2) : List Leaf := [.s y.q0, .i y.q1, .i y.q2, .b y.q3, .b y.q4]
theorem toB39_ok : ∀ ls b, toB39 ls = some b → ls = ofB39 b := by
  intro ls b h
  unfold toB39 at h
  obtain ⟨b0, ls1, rfl, h1⟩ := gS_ok h; obtain ⟨b1, ls2, rfl, h2⟩ := gI_ok h1; obtain ⟨b2, ls3, rfl, h3⟩ := gI_ok h2; obtain ⟨b3, ls4, rfl, h4⟩ := gB_ok h3; obtain ⟨b4, ls5, rfl, h5⟩ := gB_ok h4; obtain ⟨rfl, h6⟩ := gE_ok h5
  cases h6; rfl
def run39 {R : Type} : SF R := ⟨pa39, sr39, fun ls K => (gL [.str, .int .i64, .int .i64, .bool] (fun a0 => gS (fun a1 => gE (Option.bind (F39 FUEL a0 a1) fun y => K (ofB39 y))))) ls⟩
def cuts39 : List (List Nat × Cut (Ssi2b2)) := []
noncomputable def X39 : Px (Ssi2b2) := ⟨T, Try.prog, lkF [(41, run41), (61, run61)], mkCuts 39 cuts39, altN, altN_ok⟩
theorem e39 (n : Nat) (a0 : List (ByteArray × Int × Int × Bool)) (a1 : ByteArray) : entF X39 8 39 pa39 (endK sr39 toB39) n [.l [.str, .int .i64, .int .i64, .bool] a0, .s a1] = F39 n a0 a1 := by kernel_rfl
theorem sp39 {n : Nat} (a0 : List (ByteArray × Int × Int × Bool)) (a1 : ByteArray) {y : Ssi2b2} (h : F39 n a0 a1 = some y) : SpecF T Try.prog 39 pa39 [.l [.str, .int .i64, .int .i64, .bool] a0, .s a1] sr39 (ofB39 y) :=
  fun_ok (X := X39) tok (sfok_of ⟨ok41, ok61, trivial⟩) mixed 39 8 cuts39 rfl toB39_ok trivial ((e39 n a0 a1).trans h)
theorem ok39 {R : Type} : SFone T Try.prog 39 (run39 : SF R) := by
  intro ls K r h
  simp only [run39] at h
  obtain ⟨a0, ls1, rfl, h1⟩ := gL_ok h; obtain ⟨a1, ls2, rfl, h2⟩ := gS_ok h1; obtain ⟨rfl, h3⟩ := gE_ok h2
  obtain ⟨y, k1, k2⟩ := Option.bind_eq_some_iff.1 h3
  exact ⟨_, k2, sp39 a0 a1 k1⟩

/-! ### garland/garlandref19.Items -/
def pa36 : List VP := [.sl false [.str, .int .i64, .int .i64, .bool], .sl false [.str, .int .i64, .int .i64, .bool]]
def sr36 : RShape := ⟨.b, [], none⟩
def toB36 : List Leaf → Option (Bool) := gB (fun b0 => gE (some b0))
def ofB36 (y : Bool) : List Leaf := [.b y]
theorem toB36_ok : ∀ ls b, toB36 ls = some b → ls = ofB36 b := by
  intro ls b h
  unfold toB36 at h
  obtain ⟨b0, ls1, rfl, h1⟩ := gB_ok h; obtain ⟨rfl, h2⟩ := gE_ok h1
  cases h2; rfl
def run36 {R : Type} : SF R := ⟨pa36, sr36, fun ls K => (gL [.str, .int .i64, .int .i64, .bool] (fun a0 => gL [.str, .int .i64, .int .i64, .bool] (fun a1 => gE (Option.bind (F36 FUEL a0 a1) fun y => K (ofB36 y))))) ls⟩
def sh36_0 : Shape := ⟨[(26, [(0, .sl false [.str, .int .i64, .int .i64, .bool]), (1, .sl false [.str, .int .i64, .int .i64, .bool]), (5, .i .i64)])], []⟩
def g36_0 (n : Nat) : List Leaf → Option (Bool) := gL [.str, .int .i64, .int .i64, .bool] (fun x0 => gL [.str, .int .i64, .int .i64, .bool] (fun x1 => gI (fun x2 => gE (F36_c0 n x0 x1 x2))))
def cuts36 : List (List Nat × Cut (Bool)) := [([1, 1, 0, 1, 0], ⟨sh36_0, g36_0⟩)]
noncomputable def X36 : Px (Bool) := ⟨T, Try.prog, lkF [], mkCuts 36 cuts36, altN, altN_ok⟩
theorem e36_0 (n : Nat) (x0 : List (ByteArray × Int × Int × Bool)) (x1 : List (ByteArray × Int × Int × Bool)) (x2 : Int) : stepF X36 8 36 (endK sr36 toB36) [1, 1, 0, 1, 0] sh36_0 n [.l [.str, .int .i64, .int .i64, .bool] x0, .l [.str, .int .i64, .int .i64, .bool] x1, .i x2] = F36_c0 (n + 1) x0 x1 x2 := by kernel_rfl
theorem e36 (n : Nat) (a0 : List (ByteArray × Int × Int × Bool)) (a1 : List (ByteArray × Int × Int × Bool)) : entF X36 8 36 pa36 (endK sr36 toB36) n [.l [.str, .int .i64, .int .i64, .bool] a0, .l [.str, .int .i64, .int .i64, .bool] a1] = F36 n a0 a1 := by kernel_rfl
theorem c36_0 : CutOK X36 8 36 (endK sr36 toB36) [1, 1, 0, 1, 0] ⟨sh36_0, g36_0⟩ := by
  refine ⟨fun ls => ?_, fun n ls r h => ?_⟩
  · cases h : g36_0 0 ls with
    | none => exact h
    | some r =>
      unfold g36_0 at h; obtain ⟨x0, ls1, rfl, h1⟩ := gL_ok h; obtain ⟨x1, ls2, rfl, h2⟩ := gL_ok h1; obtain ⟨x2, ls3, rfl, h3⟩ := gI_ok h2; obtain ⟨rfl, h4⟩ := gE_ok h3; simp only [F36_c0] at h4; cases h4
  · replace h : g36_0 (n + 1) ls = some r := h
    unfold g36_0 at h
    obtain ⟨x0, ls1, rfl, h1⟩ := gL_ok h; obtain ⟨x1, ls2, rfl, h2⟩ := gL_ok h1; obtain ⟨x2, ls3, rfl, h3⟩ := gI_ok h2; obtain ⟨rfl, h4⟩ := gE_ok h3
    exact (e36_0 n x0 x1 x2).trans h4
theorem sp36 {n : Nat} (a0 : List (ByteArray × Int × Int × Bool)) (a1 : List (ByteArray × Int × Int × Bool)) {y : Bool} (h : F36 n a0 a1 = some y) : SpecF T Try.prog 36 pa36 [.l [.str, .int .i64, .int .i64, .bool] a0, .l [.str, .int .i64, .int .i64, .bool] a1] sr36 (ofB36 y) :=
  fun_ok (X := X36) tok (sfok_of trivial) mixed 36 8 cuts36 rfl toB36_ok ⟨c36_0, trivial⟩ ((e36 n a0 a1).trans h)
theorem ok36 {R : Type} : SFone T Try.prog 36 (run36 : SF R) := by
  intro ls K r h
  simp only [run36] at h
  obtain ⟨a0, ls1, rfl, h1⟩ := gL_ok h; obtain ⟨a1, ls2, rfl, h2⟩ := gL_ok h1; obtain ⟨rfl, h3⟩ := gE_ok h2
  obtain ⟨y, k1, k2⟩ := Option.bind_eq_some_iff.1 h3
  exact ⟨_, k2, sp36 a0 a1 k1⟩

/-! ### garland/garlandlaw20.wakes -/
def pa31 : List VP := []
def sr31 : RShape := ⟨.b, [], none⟩
def toB31 : List Leaf → Option (Bool) := gB (fun b0 => gE (some b0))
def ofB31 (y : Bool) : List Leaf := [.b y]
theorem toB31_ok : ∀ ls b, toB31 ls = some b → ls = ofB31 b := by
  intro ls b h
  unfold toB31 at h
  obtain ⟨b0, ls1, rfl, h1⟩ := gB_ok h; obtain ⟨rfl, h2⟩ := gE_ok h1
  cases h2; rfl
def run31 {R : Type} : SF R := ⟨pa31, sr31, fun ls K => (gE (Option.bind (F31 FUEL ) fun y => K (ofB31 y))) ls⟩
def cuts31 : List (List Nat × Cut (Bool)) := []
noncomputable def X31 : Px (Bool) := ⟨T, Try.prog, lkF [(60, run60), (34, run34), (37, run37), (39, run39), (32, run32), (36, run36), (41, run41), (43, run43)], mkCuts 31 cuts31, altN, altN_ok⟩
theorem e31 (n : Nat) : entF X31 8 31 pa31 (endK sr31 toB31) n [] = F31 n  := by kernel_rfl
theorem sp31 {n : Nat} {y : Bool} (h : F31 n  = some y) : SpecF T Try.prog 31 pa31 [] sr31 (ofB31 y) :=
  fun_ok (X := X31) tok (sfok_of ⟨ok60, ok34, ok37, ok39, ok32, ok36, ok41, ok43, trivial⟩) mixed 31 8 cuts31 rfl toB31_ok trivial ((e31 n ).trans h)
theorem ok31 {R : Type} : SFone T Try.prog 31 (run31 : SF R) := by
  intro ls K r h
  simp only [run31] at h
  obtain ⟨rfl, h1⟩ := gE_ok h
  obtain ⟨y, k1, k2⟩ := Option.bind_eq_some_iff.1 h1
  exact ⟨_, k2, sp31  k1⟩

/-! ### garland/garlandref20.Own -/
def pa47 : List VP := [.sl false [.str, .int .i64, .int .i64, .bool]]
def sr47 : RShape := ⟨.row 0, [.row true [.str, .int .i64, .int .i64, .bool]], none⟩
def toB47 : List Leaf → Option ((List (ByteArray × Int × Int × Bool))) := gL [.str, .int .i64, .int .i64, .bool] (fun b0 => gE (some b0))
def ofB47 (y : (List (ByteArray × Int × Int × Bool))) : List Leaf := [.l [.str, .int .i64, .int .i64, .bool] y]
theorem toB47_ok : ∀ ls b, toB47 ls = some b → ls = ofB47 b := by
  intro ls b h
  unfold toB47 at h
  obtain ⟨b0, ls1, rfl, h1⟩ := gL_ok h; obtain ⟨rfl, h2⟩ := gE_ok h1
  cases h2; rfl
def run47 {R : Type} : SF R := ⟨pa47, sr47, fun ls K => (gL [.str, .int .i64, .int .i64, .bool] (fun a0 => gE (Option.bind (F47 FUEL a0) fun y => K (ofB47 y)))) ls⟩
def cuts47 : List (List Nat × Cut ((List (ByteArray × Int × Int × Bool)))) := []
noncomputable def X47 : Px ((List (ByteArray × Int × Int × Bool))) := ⟨T, Try.prog, lkF [], mkCuts 47 cuts47, altN, altN_ok⟩
theorem e47 (n : Nat) (a0 : List (ByteArray × Int × Int × Bool)) : entF X47 8 47 pa47 (endK sr47 toB47) n [.l [.str, .int .i64, .int .i64, .bool] a0] = F47 n a0 := by kernel_rfl
theorem sp47 {n : Nat} (a0 : List (ByteArray × Int × Int × Bool)) {y : (List (ByteArray × Int × Int × Bool))} (h : F47 n a0 = some y) : SpecF T Try.prog 47 pa47 [.l [.str, .int .i64, .int .i64, .bool] a0] sr47 (ofB47 y) :=
  fun_ok (X := X47) tok (sfok_of trivial) mixed 47 8 cuts47 rfl toB47_ok trivial ((e47 n a0).trans h)
theorem ok47 {R : Type} : SFone T Try.prog 47 (run47 : SF R) := by
  intro ls K r h
  simp only [run47] at h
  obtain ⟨a0, ls1, rfl, h1⟩ := gL_ok h; obtain ⟨rfl, h2⟩ := gE_ok h1
  obtain ⟨y, k1, k2⟩ := Option.bind_eq_some_iff.1 h2
  exact ⟨_, k2, sp47 a0 k1⟩

/-! ### garland/garlandref20.Right -/
def pa42 : List VP := [.sl false [.str, .int .i64, .int .i64, .bool]]
def sr42 : RShape := ⟨.b, [], none⟩
def toB42 : List Leaf → Option (Bool) := gB (fun b0 => gE (some b0))
def ofB42 (y : Bool) : List Leaf := [.b y]
theorem toB42_ok : ∀ ls b, toB42 ls = some b → ls = ofB42 b := by
  intro ls b h
  unfold toB42 at h
  obtain ⟨b0, ls1, rfl, h1⟩ := gB_ok h; obtain ⟨rfl, h2⟩ := gE_ok h1
  cases h2; rfl
def run42 {R : Type} : SF R := ⟨pa42, sr42, fun ls K => (gL [.str, .int .i64, .int .i64, .bool] (fun a0 => gE (Option.bind (F42 FUEL a0) fun y => K (ofB42 y)))) ls⟩
def sh42_0 : Shape := ⟨[(37, [(0, .sl false [.str, .int .i64, .int .i64, .bool]), (3, .i .i64)])], []⟩
def g42_0 (n : Nat) : List Leaf → Option (Bool) := gL [.str, .int .i64, .int .i64, .bool] (fun x0 => gI (fun x1 => gE (F42_c0 n x0 x1)))
def cuts42 : List (List Nat × Cut (Bool)) := [([1, 0, 1, 0], ⟨sh42_0, g42_0⟩)]
noncomputable def X42 : Px (Bool) := ⟨T, Try.prog, lkF [(18, run18)], mkCuts 42 cuts42, altN, altN_ok⟩
theorem e42_0 (n : Nat) (x0 : List (ByteArray × Int × Int × Bool)) (x1 : Int) : stepF X42 8 42 (endK sr42 toB42) [1, 0, 1, 0] sh42_0 n [.l [.str, .int .i64, .int .i64, .bool] x0, .i x1] = F42_c0 (n + 1) x0 x1 := by kernel_rfl
theorem e42 (n : Nat) (a0 : List (ByteArray × Int × Int × Bool)) : entF X42 8 42 pa42 (endK sr42 toB42) n [.l [.str, .int .i64, .int .i64, .bool] a0] = F42 n a0 := by kernel_rfl
theorem c42_0 : CutOK X42 8 42 (endK sr42 toB42) [1, 0, 1, 0] ⟨sh42_0, g42_0⟩ := by
  refine ⟨fun ls => ?_, fun n ls r h => ?_⟩
  · cases h : g42_0 0 ls with
    | none => exact h
    | some r =>
      unfold g42_0 at h; obtain ⟨x0, ls1, rfl, h1⟩ := gL_ok h; obtain ⟨x1, ls2, rfl, h2⟩ := gI_ok h1; obtain ⟨rfl, h3⟩ := gE_ok h2; simp only [F42_c0] at h3; cases h3
  · replace h : g42_0 (n + 1) ls = some r := h
    unfold g42_0 at h
    obtain ⟨x0, ls1, rfl, h1⟩ := gL_ok h; obtain ⟨x1, ls2, rfl, h2⟩ := gI_ok h1; obtain ⟨rfl, h3⟩ := gE_ok h2
    exact (e42_0 n x0 x1).trans h3
theorem sp42 {n : Nat} (a0 : List (ByteArray × Int × Int × Bool)) {y : Bool} (h : F42 n a0 = some y) : SpecF T Try.prog 42 pa42 [.l [.str, .int .i64, .int .i64, .bool] a0] sr42 (ofB42 y) :=
  fun_ok (X := X42) tok (sfok_of ⟨ok18, trivial⟩) mixed 42 8 cuts42 rfl toB42_ok ⟨c42_0, trivial⟩ ((e42 n a0).trans h)
theorem ok42 {R : Type} : SFone T Try.prog 42 (run42 : SF R) := by
  intro ls K r h
  simp only [run42] at h
  obtain ⟨a0, ls1, rfl, h1⟩ := gL_ok h; obtain ⟨rfl, h2⟩ := gE_ok h1
  obtain ⟨y, k1, k2⟩ := Option.bind_eq_some_iff.1 h2
  exact ⟨_, k2, sp42 a0 k1⟩

/-! ### garland/garlandref19.Cmp -/
def pa64 : List VP := [.agg [.s, .i .i64, .i .i64, .b], .agg [.s, .i .i64, .i .i64, .b]]
def sr64 : RShape := ⟨.i .i64, [], none⟩
def toB64 : List Leaf → Option (Int) := gI (fun b0 => gE (some b0))
def ofB64 (y : Int) : List Leaf := [.i y]
theorem toB64_ok : ∀ ls b, toB64 ls = some b → ls = ofB64 b := by
  intro ls b h
  unfold toB64 at h
  obtain ⟨b0, ls1, rfl, h1⟩ := gI_ok h; obtain ⟨rfl, h2⟩ := gE_ok h1
  cases h2; rfl
def run64 {R : Type} : SF R := ⟨pa64, sr64, fun ls K => (gS (fun a0 => gI (fun a1 => gI (fun a2 => gB (fun a3 => gS (fun a4 => gI (fun a5 => gI (fun a6 => gB (fun a7 => gE (Option.bind (F64 FUEL a0 a1 a2 a3 a4 a5 a6 a7) fun y => K (ofB64 y))))))))))) ls⟩
def cuts64 : List (List Nat × Cut (Int)) := []
noncomputable def X64 : Px (Int) := ⟨T, Try.prog, lkF [], mkCuts 64 cuts64, altN, altN_ok⟩
theorem e64 (n : Nat) (a0 : ByteArray) (a1 : Int) (a2 : Int) (a3 : Bool) (a4 : ByteArray) (a5 : Int) (a6 : Int) (a7 : Bool) : entF X64 8 64 pa64 (endK sr64 toB64) n [.s a0, .i a1, .i a2, .b a3, .s a4, .i a5, .i a6, .b a7] = F64 n a0 a1 a2 a3 a4 a5 a6 a7 := by kernel_rfl
theorem sp64 {n : Nat} (a0 : ByteArray) (a1 : Int) (a2 : Int) (a3 : Bool) (a4 : ByteArray) (a5 : Int) (a6 : Int) (a7 : Bool) {y : Int} (h : F64 n a0 a1 a2 a3 a4 a5 a6 a7 = some y) : SpecF T Try.prog 64 pa64 [.s a0, .i a1, .i a2, .b a3, .s a4, .i a5, .i a6, .b a7] sr64 (ofB64 y) :=
  fun_ok (X := X64) tok (sfok_of trivial) mixed 64 8 cuts64 rfl toB64_ok trivial ((e64 n a0 a1 a2 a3 a4 a5 a6 a7).trans h)
theorem ok64 {R : Type} : SFone T Try.prog 64 (run64 : SF R) := by
  intro ls K r h
  simp only [run64] at h
  obtain ⟨a0, ls1, rfl, h1⟩ := gS_ok h; obtain ⟨a1, ls2, rfl, h2⟩ := gI_ok h1; obtain ⟨a2, ls3, rfl, h3⟩ := gI_ok h2; obtain ⟨a3, ls4, rfl, h4⟩ := gB_ok h3; obtain ⟨a4, ls5, rfl, h5⟩ := gS_ok h4; obtain ⟨a5, ls6, rfl, h6⟩ := gI_ok h5; obtain ⟨a6, ls7, rfl, h7⟩ := gI_ok h6; obtain ⟨a7, ls8, rfl, h8⟩ := gB_ok h7; obtain ⟨rfl, h9⟩ := gE_ok h8
  obtain ⟨y, k1, k2⟩ := Option.bind_eq_some_iff.1 h9
  exact ⟨_, k2, sp64 a0 a1 a2 a3 a4 a5 a6 a7 k1⟩

/-! ### garland/garlandref19.Newer -/
def pa48 : List VP := [.agg [.s, .i .i64, .i .i64, .b], .agg [.s, .i .i64, .i .i64, .b]]
def sr48 : RShape := ⟨.b, [], none⟩
def toB48 : List Leaf → Option (Bool) := gB (fun b0 => gE (some b0))
def ofB48 (y : Bool) : List Leaf := [.b y]
theorem toB48_ok : ∀ ls b, toB48 ls = some b → ls = ofB48 b := by
  intro ls b h
  unfold toB48 at h
  obtain ⟨b0, ls1, rfl, h1⟩ := gB_ok h; obtain ⟨rfl, h2⟩ := gE_ok h1
  cases h2; rfl
def run48 {R : Type} : SF R := ⟨pa48, sr48, fun ls K => (gS (fun a0 => gI (fun a1 => gI (fun a2 => gB (fun a3 => gS (fun a4 => gI (fun a5 => gI (fun a6 => gB (fun a7 => gE (Option.bind (F48 FUEL a0 a1 a2 a3 a4 a5 a6 a7) fun y => K (ofB48 y))))))))))) ls⟩
def cuts48 : List (List Nat × Cut (Bool)) := []
noncomputable def X48 : Px (Bool) := ⟨T, Try.prog, lkF [(64, run64)], mkCuts 48 cuts48, altN, altN_ok⟩
theorem e48 (n : Nat) (a0 : ByteArray) (a1 : Int) (a2 : Int) (a3 : Bool) (a4 : ByteArray) (a5 : Int) (a6 : Int) (a7 : Bool) : entF X48 8 48 pa48 (endK sr48 toB48) n [.s a0, .i a1, .i a2, .b a3, .s a4, .i a5, .i a6, .b a7] = F48 n a0 a1 a2 a3 a4 a5 a6 a7 := by kernel_rfl
theorem sp48 {n : Nat} (a0 : ByteArray) (a1 : Int) (a2 : Int) (a3 : Bool) (a4 : ByteArray) (a5 : Int) (a6 : Int) (a7 : Bool) {y : Bool} (h : F48 n a0 a1 a2 a3 a4 a5 a6 a7 = some y) : SpecF T Try.prog 48 pa48 [.s a0, .i a1, .i a2, .b a3, .s a4, .i a5, .i a6, .b a7] sr48 (ofB48 y) :=
  fun_ok (X := X48) tok (sfok_of ⟨ok64, trivial⟩) mixed 48 8 cuts48 rfl toB48_ok trivial ((e48 n a0 a1 a2 a3 a4 a5 a6 a7).trans h)
theorem ok48 {R : Type} : SFone T Try.prog 48 (run48 : SF R) := by
  intro ls K r h
  simp only [run48] at h
  obtain ⟨a0, ls1, rfl, h1⟩ := gS_ok h; obtain ⟨a1, ls2, rfl, h2⟩ := gI_ok h1; obtain ⟨a2, ls3, rfl, h3⟩ := gI_ok h2; obtain ⟨a3, ls4, rfl, h4⟩ := gB_ok h3; obtain ⟨a4, ls5, rfl, h5⟩ := gS_ok h4; obtain ⟨a5, ls6, rfl, h6⟩ := gI_ok h5; obtain ⟨a6, ls7, rfl, h7⟩ := gI_ok h6; obtain ⟨a7, ls8, rfl, h8⟩ := gB_ok h7; obtain ⟨rfl, h9⟩ := gE_ok h8
  obtain ⟨y, k1, k2⟩ := Option.bind_eq_some_iff.1 h9
  exact ⟨_, k2, sp48 a0 a1 a2 a3 a4 a5 a6 a7 k1⟩

/-! ### garland/garlandref20.Put -/
def pa33 : List VP := [.sl false [.str, .int .i64, .int .i64, .bool], .agg [.s, .i .i64, .i .i64, .b]]
def sr33 : RShape := ⟨.tup [.row 0, .i .i64], [.row true [.str, .int .i64, .int .i64, .bool]], none⟩
def toB33 : List Leaf → Option (Int × (List (ByteArray × Int × Int × Bool))) := gI (fun b0 => gL [.str, .int .i64, .int .i64, .bool] (fun b1 => gE (some (b0, b1))))
def ofB33 (y : Int × (List (ByteArray × Int × Int × Bool))) : List Leaf := [.i y.1, .l [.str, .int .i64, .int .i64, .bool] y.2]
theorem toB33_ok : ∀ ls b, toB33 ls = some b → ls = ofB33 b := by
  intro ls b h
  unfold toB33 at h
  obtain ⟨b0, ls1, rfl, h1⟩ := gI_ok h; obtain ⟨b1, ls2, rfl, h2⟩ := gL_ok h1; obtain ⟨rfl, h3⟩ := gE_ok h2
  cases h3; rfl
def run33 {R : Type} : SF R := ⟨pa33, sr33, fun ls K => (gL [.str, .int .i64, .int .i64, .bool] (fun a0 => gS (fun a1 => gI (fun a2 => gI (fun a3 => gB (fun a4 => gE (Option.bind (F33 FUEL a0 a1 a2 a3 a4) fun y => K (ofB33 y)))))))) ls⟩
def sh33_0 : Shape := ⟨[(75, [(0, .row 0), (3, .ref 1 0), (6, .i .i64)])], [.row true [.str, .int .i64, .int .i64, .bool], .cells [.s, .i .i64, .i .i64, .b]]⟩
def g33_0 (n : Nat) : List Leaf → Option (Int × (List (ByteArray × Int × Int × Bool))) := gI (fun x0 => gL [.str, .int .i64, .int .i64, .bool] (fun x1 => gS (fun x2 => gI (fun x3 => gI (fun x4 => gB (fun x5 => gE (F33_c0 n x0 x1 x2 x3 x4 x5)))))))
def cuts33 : List (List Nat × Cut (Int × (List (ByteArray × Int × Int × Bool)))) := [([1, 1, 1, 1, 0, 0], ⟨sh33_0, g33_0⟩)]
noncomputable def X33 : Px (Int × (List (ByteArray × Int × Int × Bool))) := ⟨T, Try.prog, lkF [(47, run47), (42, run42), (18, run18), (48, run48)], mkCuts 33 cuts33, altN, altN_ok⟩
theorem e33_0 (n : Nat) (x0 : Int) (x1 : List (ByteArray × Int × Int × Bool)) (x2 : ByteArray) (x3 : Int) (x4 : Int) (x5 : Bool) : stepF X33 8 33 (endK sr33 toB33) [1, 1, 1, 1, 0, 0] sh33_0 n [.i x0, .l [.str, .int .i64, .int .i64, .bool] x1, .s x2, .i x3, .i x4, .b x5] = F33_c0 (n + 1) x0 x1 x2 x3 x4 x5 := by kernel_rfl
theorem e33 (n : Nat) (a0 : List (ByteArray × Int × Int × Bool)) (a1 : ByteArray) (a2 : Int) (a3 : Int) (a4 : Bool) : entF X33 8 33 pa33 (endK sr33 toB33) n [.l [.str, .int .i64, .int .i64, .bool] a0, .s a1, .i a2, .i a3, .b a4] = F33 n a0 a1 a2 a3 a4 := by kernel_rfl
theorem c33_0 : CutOK X33 8 33 (endK sr33 toB33) [1, 1, 1, 1, 0, 0] ⟨sh33_0, g33_0⟩ := by
  refine ⟨fun ls => ?_, fun n ls r h => ?_⟩
  · cases h : g33_0 0 ls with
    | none => exact h
    | some r =>
      unfold g33_0 at h; obtain ⟨x0, ls1, rfl, h1⟩ := gI_ok h; obtain ⟨x1, ls2, rfl, h2⟩ := gL_ok h1; obtain ⟨x2, ls3, rfl, h3⟩ := gS_ok h2; obtain ⟨x3, ls4, rfl, h4⟩ := gI_ok h3; obtain ⟨x4, ls5, rfl, h5⟩ := gI_ok h4; obtain ⟨x5, ls6, rfl, h6⟩ := gB_ok h5; obtain ⟨rfl, h7⟩ := gE_ok h6; simp only [F33_c0] at h7; cases h7
  · replace h : g33_0 (n + 1) ls = some r := h
    unfold g33_0 at h
    obtain ⟨x0, ls1, rfl, h1⟩ := gI_ok h; obtain ⟨x1, ls2, rfl, h2⟩ := gL_ok h1; obtain ⟨x2, ls3, rfl, h3⟩ := gS_ok h2; obtain ⟨x3, ls4, rfl, h4⟩ := gI_ok h3; obtain ⟨x4, ls5, rfl, h5⟩ := gI_ok h4; obtain ⟨x5, ls6, rfl, h6⟩ := gB_ok h5; obtain ⟨rfl, h7⟩ := gE_ok h6
    exact (e33_0 n x0 x1 x2 x3 x4 x5).trans h7
theorem sp33 {n : Nat} (a0 : List (ByteArray × Int × Int × Bool)) (a1 : ByteArray) (a2 : Int) (a3 : Int) (a4 : Bool) {y : Int × (List (ByteArray × Int × Int × Bool))} (h : F33 n a0 a1 a2 a3 a4 = some y) : SpecF T Try.prog 33 pa33 [.l [.str, .int .i64, .int .i64, .bool] a0, .s a1, .i a2, .i a3, .b a4] sr33 (ofB33 y) :=
  fun_ok (X := X33) tok (sfok_of ⟨ok47, ok42, ok18, ok48, trivial⟩) mixed 33 8 cuts33 rfl toB33_ok ⟨c33_0, trivial⟩ ((e33 n a0 a1 a2 a3 a4).trans h)
theorem ok33 {R : Type} : SFone T Try.prog 33 (run33 : SF R) := by
  intro ls K r h
  simp only [run33] at h
  obtain ⟨a0, ls1, rfl, h1⟩ := gL_ok h; obtain ⟨a1, ls2, rfl, h2⟩ := gS_ok h1; obtain ⟨a2, ls3, rfl, h3⟩ := gI_ok h2; obtain ⟨a3, ls4, rfl, h4⟩ := gI_ok h3; obtain ⟨a4, ls5, rfl, h5⟩ := gB_ok h4; obtain ⟨rfl, h6⟩ := gE_ok h5
  obtain ⟨y, k1, k2⟩ := Option.bind_eq_some_iff.1 h6
  exact ⟨_, k2, sp33 a0 a1 a2 a3 a4 k1⟩

/-! ### garland/garlandref20.All -/
def pa35 : List VP := [.sl false [.str, .int .i64, .int .i64, .bool], .sl false [.str, .int .i64, .int .i64, .bool]]
def sr35 : RShape := ⟨.tup [.row 0, .i .i64], [.row true [.str, .int .i64, .int .i64, .bool]], none⟩
def toB35 : List Leaf → Option (Int × (List (ByteArray × Int × Int × Bool))) := gI (fun b0 => gL [.str, .int .i64, .int .i64, .bool] (fun b1 => gE (some (b0, b1))))
def ofB35 (y : Int × (List (ByteArray × Int × Int × Bool))) : List Leaf := [.i y.1, .l [.str, .int .i64, .int .i64, .bool] y.2]
theorem toB35_ok : ∀ ls b, toB35 ls = some b → ls = ofB35 b := by
  intro ls b h
  unfold toB35 at h
  obtain ⟨b0, ls1, rfl, h1⟩ := gI_ok h; obtain ⟨b1, ls2, rfl, h2⟩ := gL_ok h1; obtain ⟨rfl, h3⟩ := gE_ok h2
  cases h3; rfl
def run35 {R : Type} : SF R := ⟨pa35, sr35, fun ls K => (gL [.str, .int .i64, .int .i64, .bool] (fun a0 => gL [.str, .int .i64, .int .i64, .bool] (fun a1 => gE (Option.bind (F35 FUEL a0 a1) fun y => K (ofB35 y))))) ls⟩
def sh35_0 : Shape := ⟨[(33, [(0, .row 0), (1, .sl false [.str, .int .i64, .int .i64, .bool]), (6, .i .i64), (7, .i .i64)])], [.row true [.str, .int .i64, .int .i64, .bool]]⟩
def g35_0 (n : Nat) : List Leaf → Option (Int × (List (ByteArray × Int × Int × Bool))) := gL [.str, .int .i64, .int .i64, .bool] (fun x0 => gI (fun x1 => gI (fun x2 => gL [.str, .int .i64, .int .i64, .bool] (fun x3 => gE (F35_c0 n x0 x1 x2 x3)))))
def cuts35 : List (List Nat × Cut (Int × (List (ByteArray × Int × Int × Bool)))) := [([1, 1, 1, 0, 1, 0], ⟨sh35_0, g35_0⟩)]
noncomputable def X35 : Px (Int × (List (ByteArray × Int × Int × Bool))) := ⟨T, Try.prog, lkF [(47, run47), (33, run33)], mkCuts 35 cuts35, altN, altN_ok⟩
theorem e35_0 (n : Nat) (x0 : List (ByteArray × Int × Int × Bool)) (x1 : Int) (x2 : Int) (x3 : List (ByteArray × Int × Int × Bool)) : stepF X35 8 35 (endK sr35 toB35) [1, 1, 1, 0, 1, 0] sh35_0 n [.l [.str, .int .i64, .int .i64, .bool] x0, .i x1, .i x2, .l [.str, .int .i64, .int .i64, .bool] x3] = F35_c0 (n + 1) x0 x1 x2 x3 := by kernel_rfl
theorem e35 (n : Nat) (a0 : List (ByteArray × Int × Int × Bool)) (a1 : List (ByteArray × Int × Int × Bool)) : entF X35 8 35 pa35 (endK sr35 toB35) n [.l [.str, .int .i64, .int .i64, .bool] a0, .l [.str, .int .i64, .int .i64, .bool] a1] = F35 n a0 a1 := by kernel_rfl
theorem c35_0 : CutOK X35 8 35 (endK sr35 toB35) [1, 1, 1, 0, 1, 0] ⟨sh35_0, g35_0⟩ := by
  refine ⟨fun ls => ?_, fun n ls r h => ?_⟩
  · cases h : g35_0 0 ls with
    | none => exact h
    | some r =>
      unfold g35_0 at h; obtain ⟨x0, ls1, rfl, h1⟩ := gL_ok h; obtain ⟨x1, ls2, rfl, h2⟩ := gI_ok h1; obtain ⟨x2, ls3, rfl, h3⟩ := gI_ok h2; obtain ⟨x3, ls4, rfl, h4⟩ := gL_ok h3; obtain ⟨rfl, h5⟩ := gE_ok h4; simp only [F35_c0] at h5; cases h5
  · replace h : g35_0 (n + 1) ls = some r := h
    unfold g35_0 at h
    obtain ⟨x0, ls1, rfl, h1⟩ := gL_ok h; obtain ⟨x1, ls2, rfl, h2⟩ := gI_ok h1; obtain ⟨x2, ls3, rfl, h3⟩ := gI_ok h2; obtain ⟨x3, ls4, rfl, h4⟩ := gL_ok h3; obtain ⟨rfl, h5⟩ := gE_ok h4
    exact (e35_0 n x0 x1 x2 x3).trans h5
theorem sp35 {n : Nat} (a0 : List (ByteArray × Int × Int × Bool)) (a1 : List (ByteArray × Int × Int × Bool)) {y : Int × (List (ByteArray × Int × Int × Bool))} (h : F35 n a0 a1 = some y) : SpecF T Try.prog 35 pa35 [.l [.str, .int .i64, .int .i64, .bool] a0, .l [.str, .int .i64, .int .i64, .bool] a1] sr35 (ofB35 y) :=
  fun_ok (X := X35) tok (sfok_of ⟨ok47, ok33, trivial⟩) mixed 35 8 cuts35 rfl toB35_ok ⟨c35_0, trivial⟩ ((e35 n a0 a1).trans h)
theorem ok35 {R : Type} : SFone T Try.prog 35 (run35 : SF R) := by
  intro ls K r h
  simp only [run35] at h
  obtain ⟨a0, ls1, rfl, h1⟩ := gL_ok h; obtain ⟨a1, ls2, rfl, h2⟩ := gL_ok h1; obtain ⟨rfl, h3⟩ := gE_ok h2
  obtain ⟨y, k1, k2⟩ := Option.bind_eq_some_iff.1 h3
  exact ⟨_, k2, sp35 a0 a1 k1⟩

/-! ### garland/garlandref20.Get -/
def pa38 : List VP := [.sl false [.str, .int .i64, .int .i64, .bool], .s]
def sr38 : RShape := ⟨.tup [.agg [.s, .i .i64, .i .i64, .b], .i .i64], [], none⟩
def toB38 : List Leaf → Option (Ssi2bi) := gS (fun b0 => gI (fun b1 => gI (fun b2 => gB (fun b3 => gI (fun b4 => gE (some ⟨b0, b1, b2, b3, b4⟩))))))
def ofB38 (y : Ssi2bi) : List Leaf := [.s y.q0, .i y.q1, .i y.q2, .b y.q3, .i y.q4]
theorem toB38_ok : ∀ ls b, toB38 ls = some b → ls = ofB38 b := by
  intro ls b h
  unfold toB38 at h
  obtain ⟨b0, ls1, rfl, h1⟩ := gS_ok h; obtain ⟨b1, ls2, rfl, h2⟩ := gI_ok h1; obtain ⟨b2, ls3, rfl, h3⟩ := gI_ok h2; obtain ⟨b3, ls4, rfl, h4⟩ := gB_ok h3; obtain ⟨b4, ls5, rfl, h5⟩ := gI_ok h4; obtain ⟨rfl, h6⟩ := gE_ok h5
  cases h6; rfl
def run38 {R : Type} : SF R := ⟨pa38, sr38, fun ls K => (gL [.str, .int .i64, .int .i64, .bool] (fun a0 => gS (fun a1 => gE (Option.bind (F38 FUEL a0 a1) fun y => K (ofB38 y))))) ls⟩
def sh38_0 : Shape := ⟨[(29, [(0, .sl false [.str, .int .i64, .int .i64, .bool]), (1, .s), (4, .ref 0 0), (6, .i .i64)])], [.cells [.s, .i .i64, .i .i64, .b]]⟩
def g38_0 (n : Nat) : List Leaf → Option (Ssi2bi) := gL [.str, .int .i64, .int .i64, .bool] (fun x0 => gS (fun x1 => gI (fun x2 => gS (fun x3 => gI (fun x4 => gI (fun x5 => gB (fun x6 => gE (F38_c0 n x0 x1 x2 x3 x4 x5 x6))))))))
def cuts38 : List (List Nat × Cut (Ssi2bi)) := [([1, 0, 1, 0], ⟨sh38_0, g38_0⟩)]
noncomputable def X38 : Px (Ssi2bi) := ⟨T, Try.prog, lkF [(42, run42)], mkCuts 38 cuts38, altN, altN_ok⟩
theorem e38_0 (n : Nat) (x0 : List (ByteArray × Int × Int × Bool)) (x1 : ByteArray) (x2 : Int) (x3 : ByteArray) (x4 : Int) (x5 : Int) (x6 : Bool) : stepF X38 8 38 (endK sr38 toB38) [1, 0, 1, 0] sh38_0 n [.l [.str, .int .i64, .int .i64, .bool] x0, .s x1, .i x2, .s x3, .i x4, .i x5, .b x6] = F38_c0 (n + 1) x0 x1 x2 x3 x4 x5 x6 := by kernel_rfl
theorem e38 (n : Nat) (a0 : List (ByteArray × Int × Int × Bool)) (a1 : ByteArray) : entF X38 8 38 pa38 (endK sr38 toB38) n [.l [.str, .int .i64, .int .i64, .bool] a0, .s a1] = F38 n a0 a1 := by kernel_rfl
theorem c38_0 : CutOK X38 8 38 (endK sr38 toB38) [1, 0, 1, 0] ⟨sh38_0, g38_0⟩ := by
  refine ⟨fun ls => ?_, fun n ls r h => ?_⟩
  · cases h : g38_0 0 ls with
    | none => exact h
    | some r =>
      unfold g38_0 at h; obtain ⟨x0, ls1, rfl, h1⟩ := gL_ok h; obtain ⟨x1, ls2, rfl, h2⟩ := gS_ok h1; obtain ⟨x2, ls3, rfl, h3⟩ := gI_ok h2; obtain ⟨x3, ls4, rfl, h4⟩ := gS_ok h3; obtain ⟨x4, ls5, rfl, h5⟩ := gI_ok h4; obtain ⟨x5, ls6, rfl, h6⟩ := gI_ok h5; obtain ⟨x6, ls7, rfl, h7⟩ := gB_ok h6; obtain ⟨rfl, h8⟩ := gE_ok h7; simp only [F38_c0] at h8; cases h8
  · replace h : g38_0 (n + 1) ls = some r := h
    unfold g38_0 at h
    obtain ⟨x0, ls1, rfl, h1⟩ := gL_ok h; obtain ⟨x1, ls2, rfl, h2⟩ := gS_ok h1; obtain ⟨x2, ls3, rfl, h3⟩ := gI_ok h2; obtain ⟨x3, ls4, rfl, h4⟩ := gS_ok h3; obtain ⟨x4, ls5, rfl, h5⟩ := gI_ok h4; obtain ⟨x5, ls6, rfl, h6⟩ := gI_ok h5; obtain ⟨x6, ls7, rfl, h7⟩ := gB_ok h6; obtain ⟨rfl, h8⟩ := gE_ok h7
    exact (e38_0 n x0 x1 x2 x3 x4 x5 x6).trans h8
theorem sp38 {n : Nat} (a0 : List (ByteArray × Int × Int × Bool)) (a1 : ByteArray) {y : Ssi2bi} (h : F38 n a0 a1 = some y) : SpecF T Try.prog 38 pa38 [.l [.str, .int .i64, .int .i64, .bool] a0, .s a1] sr38 (ofB38 y) :=
  fun_ok (X := X38) tok (sfok_of ⟨ok42, trivial⟩) mixed 38 8 cuts38 rfl toB38_ok ⟨c38_0, trivial⟩ ((e38 n a0 a1).trans h)
theorem ok38 {R : Type} : SFone T Try.prog 38 (run38 : SF R) := by
  intro ls K r h
  simp only [run38] at h
  obtain ⟨a0, ls1, rfl, h1⟩ := gL_ok h; obtain ⟨a1, ls2, rfl, h2⟩ := gS_ok h1; obtain ⟨rfl, h3⟩ := gE_ok h2
  obtain ⟨y, k1, k2⟩ := Option.bind_eq_some_iff.1 h3
  exact ⟨_, k2, sp38 a0 a1 k1⟩

/-! ### garland/garlandref20.Next -/
def pa40 : List VP := [.sl false [.str, .int .i64, .int .i64, .bool], .s]
def sr40 : RShape := ⟨.tup [.agg [.s, .i .i64, .i .i64, .b], .b], [], none⟩
def toB40 : List Leaf → Option (Ssi2b2) := gS (fun b0 => gI (fun b1 => gI (fun b2 => gB (fun b3 => gB (fun b4 => gE (some ⟨b0, b1, b2, b3, b4⟩))))))
def ofB40 (y : Ssi2b2) : List Leaf := [.s y.q0, .i y.q1, .i y.q2, .b y.q3, .b y.q4]
theorem toB40_ok : ∀ ls b, toB40 ls = some b → ls = ofB40 b := by
  intro ls b h
  unfold toB40 at h
  obtain ⟨b0, ls1, rfl, h1⟩ := gS_ok h; obtain ⟨b1, ls2, rfl, h2⟩ := gI_ok h1; obtain ⟨b2, ls3, rfl, h3⟩ := gI_ok h2; obtain ⟨b3, ls4, rfl, h4⟩ := gB_ok h3; obtain ⟨b4, ls5, rfl, h5⟩ := gB_ok h4; obtain ⟨rfl, h6⟩ := gE_ok h5
  cases h6; rfl
def run40 {R : Type} : SF R := ⟨pa40, sr40, fun ls K => (gL [.str, .int .i64, .int .i64, .bool] (fun a0 => gS (fun a1 => gE (Option.bind (F40 FUEL a0 a1) fun y => K (ofB40 y))))) ls⟩
def sh40_0 : Shape := ⟨[(36, [(0, .sl false [.str, .int .i64, .int .i64, .bool]), (1, .s), (4, .ref 0 0), (6, .i .i64)])], [.cells [.s, .i .i64, .i .i64, .b]]⟩
def g40_0 (n : Nat) : List Leaf → Option (Ssi2b2) := gL [.str, .int .i64, .int .i64, .bool] (fun x0 => gS (fun x1 => gI (fun x2 => gS (fun x3 => gI (fun x4 => gI (fun x5 => gB (fun x6 => gE (F40_c0 n x0 x1 x2 x3 x4 x5 x6))))))))
def cuts40 : List (List Nat × Cut (Ssi2b2)) := [([1, 1, 0, 1, 0], ⟨sh40_0, g40_0⟩)]
noncomputable def X40 : Px (Ssi2b2) := ⟨T, Try.prog, lkF [(42, run42)], mkCuts 40 cuts40, altN, altN_ok⟩
theorem e40_0 (n : Nat) (x0 : List (ByteArray × Int × Int × Bool)) (x1 : ByteArray) (x2 : Int) (x3 : ByteArray) (x4 : Int) (x5 : Int) (x6 : Bool) : stepF X40 8 40 (endK sr40 toB40) [1, 1, 0, 1, 0] sh40_0 n [.l [.str, .int .i64, .int .i64, .bool] x0, .s x1, .i x2, .s x3, .i x4, .i x5, .b x6] = F40_c0 (n + 1) x0 x1 x2 x3 x4 x5 x6 := by kernel_rfl
theorem e40 (n : Nat) (a0 : List (ByteArray × Int × Int × Bool)) (a1 : ByteArray) : entF X40 8 40 pa40 (endK sr40 toB40) n [.l [.str, .int .i64, .int .i64, .bool] a0, .s a1] = F40 n a0 a1 := by kernel_rfl
theorem c40_0 : CutOK X40 8 40 (endK sr40 toB40) [1, 1, 0, 1, 0] ⟨sh40_0, g40_0⟩ := by
  refine ⟨fun ls => ?_, fun n ls r h => ?_⟩
  · cases h : g40_0 0 ls with
    | none => exact h
    | some r =>
      unfold g40_0 at h; obtain ⟨x0, ls1, rfl, h1⟩ := gL_ok h; obtain ⟨x1, ls2, rfl, h2⟩ := gS_ok h1; obtain ⟨x2, ls3, rfl, h3⟩ := gI_ok h2; obtain ⟨x3, ls4, rfl, h4⟩ := gS_ok h3; obtain ⟨x4, ls5, rfl, h5⟩ := gI_ok h4; obtain ⟨x5, ls6, rfl, h6⟩ := gI_ok h5; obtain ⟨x6, ls7, rfl, h7⟩ := gB_ok h6; obtain ⟨rfl, h8⟩ := gE_ok h7; simp only [F40_c0] at h8; cases h8
  · replace h : g40_0 (n + 1) ls = some r := h
    unfold g40_0 at h
    obtain ⟨x0, ls1, rfl, h1⟩ := gL_ok h; obtain ⟨x1, ls2, rfl, h2⟩ := gS_ok h1; obtain ⟨x2, ls3, rfl, h3⟩ := gI_ok h2; obtain ⟨x3, ls4, rfl, h4⟩ := gS_ok h3; obtain ⟨x4, ls5, rfl, h5⟩ := gI_ok h4; obtain ⟨x5, ls6, rfl, h6⟩ := gI_ok h5; obtain ⟨x6, ls7, rfl, h7⟩ := gB_ok h6; obtain ⟨rfl, h8⟩ := gE_ok h7
    exact (e40_0 n x0 x1 x2 x3 x4 x5 x6).trans h8
theorem sp40 {n : Nat} (a0 : List (ByteArray × Int × Int × Bool)) (a1 : ByteArray) {y : Ssi2b2} (h : F40 n a0 a1 = some y) : SpecF T Try.prog 40 pa40 [.l [.str, .int .i64, .int .i64, .bool] a0, .s a1] sr40 (ofB40 y) :=
  fun_ok (X := X40) tok (sfok_of ⟨ok42, trivial⟩) mixed 40 8 cuts40 rfl toB40_ok ⟨c40_0, trivial⟩ ((e40 n a0 a1).trans h)
theorem ok40 {R : Type} : SFone T Try.prog 40 (run40 : SF R) := by
  intro ls K r h
  simp only [run40] at h
  obtain ⟨a0, ls1, rfl, h1⟩ := gL_ok h; obtain ⟨a1, ls2, rfl, h2⟩ := gS_ok h1; obtain ⟨rfl, h3⟩ := gE_ok h2
  obtain ⟨y, k1, k2⟩ := Option.bind_eq_some_iff.1 h3
  exact ⟨_, k2, sp40 a0 a1 k1⟩

/-! ### garland/garlandlaw20.KeepTells -/
def pa8 : List VP := [.sl false [.str, .int .i64, .int .i64, .bool], .agg [.s, .i .i64, .i .i64, .b], .sl false [.str, .int .i64, .int .i64, .bool], .s]
def sr8 : RShape := ⟨.b, [], none⟩
def toB8 : List Leaf → Option (Bool) := gB (fun b0 => gE (some b0))
def ofB8 (y : Bool) : List Leaf := [.b y]
theorem toB8_ok : ∀ ls b, toB8 ls = some b → ls = ofB8 b := by
  intro ls b h
  unfold toB8 at h
  obtain ⟨b0, ls1, rfl, h1⟩ := gB_ok h; obtain ⟨rfl, h2⟩ := gE_ok h1
  cases h2; rfl
def run8 {R : Type} : SF R := ⟨pa8, sr8, fun ls K => (gL [.str, .int .i64, .int .i64, .bool] (fun a0 => gS (fun a1 => gI (fun a2 => gI (fun a3 => gB (fun a4 => gL [.str, .int .i64, .int .i64, .bool] (fun a5 => gS (fun a6 => gE (Option.bind (F8 FUEL a0 a1 a2 a3 a4 a5 a6) fun y => K (ofB8 y)))))))))) ls⟩
def cuts8 : List (List Nat × Cut (Bool)) := []
noncomputable def X8 : Px (Bool) := ⟨T, Try.prog, lkF [(30, run30), (31, run31), (32, run32), (33, run33), (34, run34), (35, run35), (36, run36), (37, run37), (38, run38), (39, run39), (40, run40), (41, run41), (42, run42), (43, run43)], mkCuts 8 cuts8, altN, altN_ok⟩
theorem e8 (n : Nat) (a0 : List (ByteArray × Int × Int × Bool)) (a1 : ByteArray) (a2 : Int) (a3 : Int) (a4 : Bool) (a5 : List (ByteArray × Int × Int × Bool)) (a6 : ByteArray) : entF X8 8 8 pa8 (endK sr8 toB8) n [.l [.str, .int .i64, .int .i64, .bool] a0, .s a1, .i a2, .i a3, .b a4, .l [.str, .int .i64, .int .i64, .bool] a5, .s a6] = F8 n a0 a1 a2 a3 a4 a5 a6 := by kernel_rfl
theorem sp8 {n : Nat} (a0 : List (ByteArray × Int × Int × Bool)) (a1 : ByteArray) (a2 : Int) (a3 : Int) (a4 : Bool) (a5 : List (ByteArray × Int × Int × Bool)) (a6 : ByteArray) {y : Bool} (h : F8 n a0 a1 a2 a3 a4 a5 a6 = some y) : SpecF T Try.prog 8 pa8 [.l [.str, .int .i64, .int .i64, .bool] a0, .s a1, .i a2, .i a3, .b a4, .l [.str, .int .i64, .int .i64, .bool] a5, .s a6] sr8 (ofB8 y) :=
  fun_ok (X := X8) tok (sfok_of ⟨ok30, ok31, ok32, ok33, ok34, ok35, ok36, ok37, ok38, ok39, ok40, ok41, ok42, ok43, trivial⟩) mixed 8 8 cuts8 rfl toB8_ok trivial ((e8 n a0 a1 a2 a3 a4 a5 a6).trans h)
theorem ok8 {R : Type} : SFone T Try.prog 8 (run8 : SF R) := by
  intro ls K r h
  simp only [run8] at h
  obtain ⟨a0, ls1, rfl, h1⟩ := gL_ok h; obtain ⟨a1, ls2, rfl, h2⟩ := gS_ok h1; obtain ⟨a2, ls3, rfl, h3⟩ := gI_ok h2; obtain ⟨a3, ls4, rfl, h4⟩ := gI_ok h3; obtain ⟨a4, ls5, rfl, h5⟩ := gB_ok h4; obtain ⟨a5, ls6, rfl, h6⟩ := gL_ok h5; obtain ⟨a6, ls7, rfl, h7⟩ := gS_ok h6; obtain ⟨rfl, h8⟩ := gE_ok h7
  obtain ⟨y, k1, k2⟩ := Option.bind_eq_some_iff.1 h8
  exact ⟨_, k2, sp8 a0 a1 a2 a3 a4 a5 a6 k1⟩

/-! ### garland/garlandref19.Of -/
def pa45 : List VP := [.s, .sl false [.str, .int .i64, .int .i64, .bool]]
def sr45 : RShape := ⟨.row 0, [.row true [.str, .int .i64, .int .i64, .bool]], none⟩
def toB45 : List Leaf → Option ((List (ByteArray × Int × Int × Bool))) := gL [.str, .int .i64, .int .i64, .bool] (fun b0 => gE (some b0))
def ofB45 (y : (List (ByteArray × Int × Int × Bool))) : List Leaf := [.l [.str, .int .i64, .int .i64, .bool] y]
theorem toB45_ok : ∀ ls b, toB45 ls = some b → ls = ofB45 b := by
  intro ls b h
  unfold toB45 at h
  obtain ⟨b0, ls1, rfl, h1⟩ := gL_ok h; obtain ⟨rfl, h2⟩ := gE_ok h1
  cases h2; rfl
def run45 {R : Type} : SF R := ⟨pa45, sr45, fun ls K => (gS (fun a0 => gL [.str, .int .i64, .int .i64, .bool] (fun a1 => gE (Option.bind (F45 FUEL a0 a1) fun y => K (ofB45 y))))) ls⟩
def sh45_0 : Shape := ⟨[(28, [(0, .s), (1, .sl false [.str, .int .i64, .int .i64, .bool]), (5, .row 0), (6, .i .i64)])], [.row true [.str, .int .i64, .int .i64, .bool]]⟩
def g45_0 (n : Nat) : List Leaf → Option ((List (ByteArray × Int × Int × Bool))) := gS (fun x0 => gL [.str, .int .i64, .int .i64, .bool] (fun x1 => gI (fun x2 => gL [.str, .int .i64, .int .i64, .bool] (fun x3 => gE (F45_c0 n x0 x1 x2 x3)))))
def cuts45 : List (List Nat × Cut ((List (ByteArray × Int × Int × Bool)))) := [([1, 1, 0, 1, 0], ⟨sh45_0, g45_0⟩)]
noncomputable def X45 : Px ((List (ByteArray × Int × Int × Bool))) := ⟨T, Try.prog, lkF [], mkCuts 45 cuts45, altN, altN_ok⟩
theorem e45_0 (n : Nat) (x0 : ByteArray) (x1 : List (ByteArray × Int × Int × Bool)) (x2 : Int) (x3 : List (ByteArray × Int × Int × Bool)) : stepF X45 8 45 (endK sr45 toB45) [1, 1, 0, 1, 0] sh45_0 n [.s x0, .l [.str, .int .i64, .int .i64, .bool] x1, .i x2, .l [.str, .int .i64, .int .i64, .bool] x3] = F45_c0 (n + 1) x0 x1 x2 x3 := by kernel_rfl
theorem e45 (n : Nat) (a0 : ByteArray) (a1 : List (ByteArray × Int × Int × Bool)) : entF X45 8 45 pa45 (endK sr45 toB45) n [.s a0, .l [.str, .int .i64, .int .i64, .bool] a1] = F45 n a0 a1 := by kernel_rfl
theorem c45_0 : CutOK X45 8 45 (endK sr45 toB45) [1, 1, 0, 1, 0] ⟨sh45_0, g45_0⟩ := by
  refine ⟨fun ls => ?_, fun n ls r h => ?_⟩
  · cases h : g45_0 0 ls with
    | none => exact h
    | some r =>
      unfold g45_0 at h; obtain ⟨x0, ls1, rfl, h1⟩ := gS_ok h; obtain ⟨x1, ls2, rfl, h2⟩ := gL_ok h1; obtain ⟨x2, ls3, rfl, h3⟩ := gI_ok h2; obtain ⟨x3, ls4, rfl, h4⟩ := gL_ok h3; obtain ⟨rfl, h5⟩ := gE_ok h4; simp only [F45_c0] at h5; cases h5
  · replace h : g45_0 (n + 1) ls = some r := h
    unfold g45_0 at h
    obtain ⟨x0, ls1, rfl, h1⟩ := gS_ok h; obtain ⟨x1, ls2, rfl, h2⟩ := gL_ok h1; obtain ⟨x2, ls3, rfl, h3⟩ := gI_ok h2; obtain ⟨x3, ls4, rfl, h4⟩ := gL_ok h3; obtain ⟨rfl, h5⟩ := gE_ok h4
    exact (e45_0 n x0 x1 x2 x3).trans h5
theorem sp45 {n : Nat} (a0 : ByteArray) (a1 : List (ByteArray × Int × Int × Bool)) {y : (List (ByteArray × Int × Int × Bool))} (h : F45 n a0 a1 = some y) : SpecF T Try.prog 45 pa45 [.s a0, .l [.str, .int .i64, .int .i64, .bool] a1] sr45 (ofB45 y) :=
  fun_ok (X := X45) tok (sfok_of trivial) mixed 45 8 cuts45 rfl toB45_ok ⟨c45_0, trivial⟩ ((e45 n a0 a1).trans h)
theorem ok45 {R : Type} : SFone T Try.prog 45 (run45 : SF R) := by
  intro ls K r h
  simp only [run45] at h
  obtain ⟨a0, ls1, rfl, h1⟩ := gS_ok h; obtain ⟨a1, ls2, rfl, h2⟩ := gL_ok h1; obtain ⟨rfl, h3⟩ := gE_ok h2
  obtain ⟨y, k1, k2⟩ := Option.bind_eq_some_iff.1 h3
  exact ⟨_, k2, sp45 a0 a1 k1⟩

/-! ### garland/garlandref19.Newest -/
def pa44 : List VP := [.sl false [.str, .int .i64, .int .i64, .bool]]
def sr44 : RShape := ⟨.tup [.agg [.s, .i .i64, .i .i64, .b], .b], [], none⟩
def toB44 : List Leaf → Option (Ssi2b2) := gS (fun b0 => gI (fun b1 => gI (fun b2 => gB (fun b3 => gB (fun b4 => gE (some ⟨b0, b1, b2, b3, b4⟩))))))
def ofB44 (y : Ssi2b2) : List Leaf := [.s y.q0, .i y.q1, .i y.q2, .b y.q3, .b y.q4]
theorem toB44_ok : ∀ ls b, toB44 ls = some b → ls = ofB44 b := by
  intro ls b h
  unfold toB44 at h
  obtain ⟨b0, ls1, rfl, h1⟩ := gS_ok h; obtain ⟨b1, ls2, rfl, h2⟩ := gI_ok h1; obtain ⟨b2, ls3, rfl, h3⟩ := gI_ok h2; obtain ⟨b3, ls4, rfl, h4⟩ := gB_ok h3; obtain ⟨b4, ls5, rfl, h5⟩ := gB_ok h4; obtain ⟨rfl, h6⟩ := gE_ok h5
  cases h6; rfl
def run44 {R : Type} : SF R := ⟨pa44, sr44, fun ls K => (gL [.str, .int .i64, .int .i64, .bool] (fun a0 => gE (Option.bind (F44 FUEL a0) fun y => K (ofB44 y)))) ls⟩
def sh44_0 : Shape := ⟨[(36, [(0, .sl false [.str, .int .i64, .int .i64, .bool]), (2, .ref 0 0), (4, .ref 1 0), (5, .b), (6, .i .i64)])], [.cells [.s, .i .i64, .i .i64, .b], .cells [.s, .i .i64, .i .i64, .b]]⟩
def g44_0 (n : Nat) : List Leaf → Option (Ssi2b2) := gL [.str, .int .i64, .int .i64, .bool] (fun x0 => gB (fun x1 => gI (fun x2 => gS (fun x3 => gI (fun x4 => gI (fun x5 => gB (fun x6 => gS (fun x7 => gI (fun x8 => gI (fun x9 => gB (fun x10 => gE (F44_c0 n x0 x1 x2 x3 x4 x5 x6 x7 x8 x9 x10))))))))))))
def cuts44 : List (List Nat × Cut (Ssi2b2)) := [([1, 1, 1, 0, 1, 0], ⟨sh44_0, g44_0⟩)]
noncomputable def X44 : Px (Ssi2b2) := ⟨T, Try.prog, lkF [(18, run18), (48, run48)], mkCuts 44 cuts44, altN, altN_ok⟩
theorem e44_0 (n : Nat) (x0 : List (ByteArray × Int × Int × Bool)) (x1 : Bool) (x2 : Int) (x3 : ByteArray) (x4 : Int) (x5 : Int) (x6 : Bool) (x7 : ByteArray) (x8 : Int) (x9 : Int) (x10 : Bool) : stepF X44 8 44 (endK sr44 toB44) [1, 1, 1, 0, 1, 0] sh44_0 n [.l [.str, .int .i64, .int .i64, .bool] x0, .b x1, .i x2, .s x3, .i x4, .i x5, .b x6, .s x7, .i x8, .i x9, .b x10] = F44_c0 (n + 1) x0 x1 x2 x3 x4 x5 x6 x7 x8 x9 x10 := by kernel_rfl
theorem e44 (n : Nat) (a0 : List (ByteArray × Int × Int × Bool)) : entF X44 8 44 pa44 (endK sr44 toB44) n [.l [.str, .int .i64, .int .i64, .bool] a0] = F44 n a0 := by kernel_rfl
theorem c44_0 : CutOK X44 8 44 (endK sr44 toB44) [1, 1, 1, 0, 1, 0] ⟨sh44_0, g44_0⟩ := by
  refine ⟨fun ls => ?_, fun n ls r h => ?_⟩
  · cases h : g44_0 0 ls with
    | none => exact h
    | some r =>
      unfold g44_0 at h; obtain ⟨x0, ls1, rfl, h1⟩ := gL_ok h; obtain ⟨x1, ls2, rfl, h2⟩ := gB_ok h1; obtain ⟨x2, ls3, rfl, h3⟩ := gI_ok h2; obtain ⟨x3, ls4, rfl, h4⟩ := gS_ok h3; obtain ⟨x4, ls5, rfl, h5⟩ := gI_ok h4; obtain ⟨x5, ls6, rfl, h6⟩ := gI_ok h5; obtain ⟨x6, ls7, rfl, h7⟩ := gB_ok h6; obtain ⟨x7, ls8, rfl, h8⟩ := gS_ok h7; obtain ⟨x8, ls9, rfl, h9⟩ := gI_ok h8; obtain ⟨x9, ls10, rfl, h10⟩ := gI_ok h9; obtain ⟨x10, ls11, rfl, h11⟩ := gB_ok h10; obtain ⟨rfl, h12⟩ := gE_ok h11; simp only [F44_c0] at h12; cases h12
  · replace h : g44_0 (n + 1) ls = some r := h
    unfold g44_0 at h
    obtain ⟨x0, ls1, rfl, h1⟩ := gL_ok h; obtain ⟨x1, ls2, rfl, h2⟩ := gB_ok h1; obtain ⟨x2, ls3, rfl, h3⟩ := gI_ok h2; obtain ⟨x3, ls4, rfl, h4⟩ := gS_ok h3; obtain ⟨x4, ls5, rfl, h5⟩ := gI_ok h4; obtain ⟨x5, ls6, rfl, h6⟩ := gI_ok h5; obtain ⟨x6, ls7, rfl, h7⟩ := gB_ok h6; obtain ⟨x7, ls8, rfl, h8⟩ := gS_ok h7; obtain ⟨x8, ls9, rfl, h9⟩ := gI_ok h8; obtain ⟨x9, ls10, rfl, h10⟩ := gI_ok h9; obtain ⟨x10, ls11, rfl, h11⟩ := gB_ok h10; obtain ⟨rfl, h12⟩ := gE_ok h11
    exact (e44_0 n x0 x1 x2 x3 x4 x5 x6 x7 x8 x9 x10).trans h12
theorem sp44 {n : Nat} (a0 : List (ByteArray × Int × Int × Bool)) {y : Ssi2b2} (h : F44 n a0 = some y) : SpecF T Try.prog 44 pa44 [.l [.str, .int .i64, .int .i64, .bool] a0] sr44 (ofB44 y) :=
  fun_ok (X := X44) tok (sfok_of ⟨ok18, ok48, trivial⟩) mixed 44 8 cuts44 rfl toB44_ok ⟨c44_0, trivial⟩ ((e44 n a0).trans h)
theorem ok44 {R : Type} : SFone T Try.prog 44 (run44 : SF R) := by
  intro ls K r h
  simp only [run44] at h
  obtain ⟨a0, ls1, rfl, h1⟩ := gL_ok h; obtain ⟨rfl, h2⟩ := gE_ok h1
  obtain ⟨y, k1, k2⟩ := Option.bind_eq_some_iff.1 h2
  exact ⟨_, k2, sp44 a0 k1⟩

/-! ### garland/garlandref19.Keys -/
def pa46 : List VP := [.sl false [.str, .int .i64, .int .i64, .bool]]
def sr46 : RShape := ⟨.row 0, [.row true [.str]], none⟩
def toB46 : List Leaf → Option ((List (ByteArray))) := gL [.str] (fun b0 => gE (some b0))
def ofB46 (y : (List (ByteArray))) : List Leaf := [.l [.str] y]
theorem toB46_ok : ∀ ls b, toB46 ls = some b → ls = ofB46 b := by
  intro ls b h
  unfold toB46 at h
  obtain ⟨b0, ls1, rfl, h1⟩ := gL_ok h; obtain ⟨rfl, h2⟩ := gE_ok h1
  cases h2; rfl
def run46 {R : Type} : SF R := ⟨pa46, sr46, fun ls K => (gL [.str, .int .i64, .int .i64, .bool] (fun a0 => gE (Option.bind (F46 FUEL a0) fun y => K (ofB46 y)))) ls⟩
def sh46_0 : Shape := ⟨[(63, [(0, .sl false [.str, .int .i64, .int .i64, .bool]), (3, .row 0), (4, .i .i64)])], [.row true [.str]]⟩
def g46_0 (n : Nat) : List Leaf → Option ((List (ByteArray))) := gL [.str, .int .i64, .int .i64, .bool] (fun x0 => gI (fun x1 => gL [.str] (fun x2 => gE (F46_c0 n x0 x1 x2))))
def sh46_1 : Shape := ⟨[(63, [(0, .sl false [.str, .int .i64, .int .i64, .bool]), (3, .row 0), (4, .i .i64), (5, .i .i64)])], [.row true [.str]]⟩
def g46_1 (n : Nat) : List Leaf → Option ((List (ByteArray))) := gL [.str, .int .i64, .int .i64, .bool] (fun x0 => gI (fun x1 => gI (fun x2 => gL [.str] (fun x3 => gE (F46_c1 n x0 x1 x2 x3)))))
def cuts46 : List (List Nat × Cut ((List (ByteArray)))) := [([1, 1, 0, 1, 0], ⟨sh46_0, g46_0⟩), ([1, 1, 0, 1, 0, 0, 1, 0, 0, 1, 0, 0], ⟨sh46_1, g46_1⟩)]
noncomputable def X46 : Px ((List (ByteArray))) := ⟨T, Try.prog, lkF [], mkCuts 46 cuts46, altN, altN_ok⟩
theorem e46_0 (n : Nat) (x0 : List (ByteArray × Int × Int × Bool)) (x1 : Int) (x2 : List (ByteArray)) : stepF X46 8 46 (endK sr46 toB46) [1, 1, 0, 1, 0] sh46_0 n [.l [.str, .int .i64, .int .i64, .bool] x0, .i x1, .l [.str] x2] = F46_c0 (n + 1) x0 x1 x2 := by kernel_rfl
theorem e46_1 (n : Nat) (x0 : List (ByteArray × Int × Int × Bool)) (x1 : Int) (x2 : Int) (x3 : List (ByteArray)) : stepF X46 8 46 (endK sr46 toB46) [1, 1, 0, 1, 0, 0, 1, 0, 0, 1, 0, 0] sh46_1 n [.l [.str, .int .i64, .int .i64, .bool] x0, .i x1, .i x2, .l [.str] x3] = F46_c1 (n + 1) x0 x1 x2 x3 := by kernel_rfl
theorem e46 (n : Nat) (a0 : List (ByteArray × Int × Int × Bool)) : entF X46 8 46 pa46 (endK sr46 toB46) n [.l [.str, .int .i64, .int .i64, .bool] a0] = F46 n a0 := by kernel_rfl
theorem c46_0 : CutOK X46 8 46 (endK sr46 toB46) [1, 1, 0, 1, 0] ⟨sh46_0, g46_0⟩ := by
  refine ⟨fun ls => ?_, fun n ls r h => ?_⟩
  · cases h : g46_0 0 ls with
    | none => exact h
    | some r =>
      unfold g46_0 at h; obtain ⟨x0, ls1, rfl, h1⟩ := gL_ok h; obtain ⟨x1, ls2, rfl, h2⟩ := gI_ok h1; obtain ⟨x2, ls3, rfl, h3⟩ := gL_ok h2; obtain ⟨rfl, h4⟩ := gE_ok h3; simp only [F46_c0] at h4; cases h4
  · replace h : g46_0 (n + 1) ls = some r := h
    unfold g46_0 at h
    obtain ⟨x0, ls1, rfl, h1⟩ := gL_ok h; obtain ⟨x1, ls2, rfl, h2⟩ := gI_ok h1; obtain ⟨x2, ls3, rfl, h3⟩ := gL_ok h2; obtain ⟨rfl, h4⟩ := gE_ok h3
    exact (e46_0 n x0 x1 x2).trans h4
theorem c46_1 : CutOK X46 8 46 (endK sr46 toB46) [1, 1, 0, 1, 0, 0, 1, 0, 0, 1, 0, 0] ⟨sh46_1, g46_1⟩ := by
  refine ⟨fun ls => ?_, fun n ls r h => ?_⟩
  · cases h : g46_1 0 ls with
    | none => exact h
    | some r =>
      unfold g46_1 at h; obtain ⟨x0, ls1, rfl, h1⟩ := gL_ok h; obtain ⟨x1, ls2, rfl, h2⟩ := gI_ok h1; obtain ⟨x2, ls3, rfl, h3⟩ := gI_ok h2; obtain ⟨x3, ls4, rfl, h4⟩ := gL_ok h3; obtain ⟨rfl, h5⟩ := gE_ok h4; simp only [F46_c1] at h5; cases h5
  · replace h : g46_1 (n + 1) ls = some r := h
    unfold g46_1 at h
    obtain ⟨x0, ls1, rfl, h1⟩ := gL_ok h; obtain ⟨x1, ls2, rfl, h2⟩ := gI_ok h1; obtain ⟨x2, ls3, rfl, h3⟩ := gI_ok h2; obtain ⟨x3, ls4, rfl, h4⟩ := gL_ok h3; obtain ⟨rfl, h5⟩ := gE_ok h4
    exact (e46_1 n x0 x1 x2 x3).trans h5
theorem sp46 {n : Nat} (a0 : List (ByteArray × Int × Int × Bool)) {y : (List (ByteArray))} (h : F46 n a0 = some y) : SpecF T Try.prog 46 pa46 [.l [.str, .int .i64, .int .i64, .bool] a0] sr46 (ofB46 y) :=
  fun_ok (X := X46) tok (sfok_of trivial) mixed 46 8 cuts46 rfl toB46_ok ⟨c46_0, c46_1, trivial⟩ ((e46 n a0).trans h)
theorem ok46 {R : Type} : SFone T Try.prog 46 (run46 : SF R) := by
  intro ls K r h
  simp only [run46] at h
  obtain ⟨a0, ls1, rfl, h1⟩ := gL_ok h; obtain ⟨rfl, h2⟩ := gE_ok h1
  obtain ⟨y, k1, k2⟩ := Option.bind_eq_some_iff.1 h2
  exact ⟨_, k2, sp46 a0 k1⟩

/-! ### garland/garlandlaw20.KeepNewest -/
def pa9 : List VP := [.sl false [.str, .int .i64, .int .i64, .bool]]
def sr9 : RShape := ⟨.b, [], none⟩
def toB9 : List Leaf → Option (Bool) := gB (fun b0 => gE (some b0))
def ofB9 (y : Bool) : List Leaf := [.b y]
theorem toB9_ok : ∀ ls b, toB9 ls = some b → ls = ofB9 b := by
  intro ls b h
  unfold toB9 at h
  obtain ⟨b0, ls1, rfl, h1⟩ := gB_ok h; obtain ⟨rfl, h2⟩ := gE_ok h1
  cases h2; rfl
def run9 {R : Type} : SF R := ⟨pa9, sr9, fun ls K => (gL [.str, .int .i64, .int .i64, .bool] (fun a0 => gE (Option.bind (F9 FUEL a0) fun y => K (ofB9 y)))) ls⟩
def sh9_0 : Shape := ⟨[(134, [(0, .sl false [.str, .int .i64, .int .i64, .bool]), (3, .row 0), (4, .b), (5, .i .i64)])], [.row true [.str, .int .i64, .int .i64, .bool]]⟩
def g9_0 (n : Nat) : List Leaf → Option (Bool) := gL [.str, .int .i64, .int .i64, .bool] (fun x0 => gB (fun x1 => gI (fun x2 => gL [.str, .int .i64, .int .i64, .bool] (fun x3 => gE (F9_c0 n x0 x1 x2 x3)))))
def sh9_1 : Shape := ⟨[(134, [(0, .sl false [.str, .int .i64, .int .i64, .bool]), (6, .row 0), (8, .row 1), (10, .i .i64)])], [.row true [.str, .int .i64, .int .i64, .bool], .row true [.str, .int .i64, .int .i64, .bool]]⟩
def g9_1 (n : Nat) : List Leaf → Option (Bool) := gL [.str, .int .i64, .int .i64, .bool] (fun x0 => gI (fun x1 => gL [.str, .int .i64, .int .i64, .bool] (fun x2 => gL [.str, .int .i64, .int .i64, .bool] (fun x3 => gE (F9_c1 n x0 x1 x2 x3)))))
def cuts9 : List (List Nat × Cut (Bool)) := [([1, 1, 1, 1, 0, 1, 0], ⟨sh9_0, g9_0⟩), ([1, 1, 1, 1, 1, 1, 1, 1, 1, 0, 1, 0], ⟨sh9_1, g9_1⟩)]
noncomputable def X9 : Px (Bool) := ⟨T, Try.prog, lkF [(30, run30), (31, run31), (18, run18), (34, run34), (41, run41), (37, run37), (45, run45), (44, run44), (36, run36), (46, run46)], mkCuts 9 cuts9, altN, altN_ok⟩
theorem e9_0 (n : Nat) (x0 : List (ByteArray × Int × Int × Bool)) (x1 : Bool) (x2 : Int) (x3 : List (ByteArray × Int × Int × Bool)) : stepF X9 8 9 (endK sr9 toB9) [1, 1, 1, 1, 0, 1, 0] sh9_0 n [.l [.str, .int .i64, .int .i64, .bool] x0, .b x1, .i x2, .l [.str, .int .i64, .int .i64, .bool] x3] = F9_c0 (n + 1) x0 x1 x2 x3 := by kernel_rfl
theorem e9_1 (n : Nat) (x0 : List (ByteArray × Int × Int × Bool)) (x1 : Int) (x2 : List (ByteArray × Int × Int × Bool)) (x3 : List (ByteArray × Int × Int × Bool)) : stepF X9 8 9 (endK sr9 toB9) [1, 1, 1, 1, 1, 1, 1, 1, 1, 0, 1, 0] sh9_1 n [.l [.str, .int .i64, .int .i64, .bool] x0, .i x1, .l [.str, .int .i64, .int .i64, .bool] x2, .l [.str, .int .i64, .int .i64, .bool] x3] = F9_c1 (n + 1) x0 x1 x2 x3 := by kernel_rfl
theorem e9 (n : Nat) (a0 : List (ByteArray × Int × Int × Bool)) : entF X9 8 9 pa9 (endK sr9 toB9) n [.l [.str, .int .i64, .int .i64, .bool] a0] = F9 n a0 := by kernel_rfl
theorem c9_0 : CutOK X9 8 9 (endK sr9 toB9) [1, 1, 1, 1, 0, 1, 0] ⟨sh9_0, g9_0⟩ := by
  refine ⟨fun ls => ?_, fun n ls r h => ?_⟩
  · cases h : g9_0 0 ls with
    | none => exact h
    | some r =>
      unfold g9_0 at h; obtain ⟨x0, ls1, rfl, h1⟩ := gL_ok h; obtain ⟨x1, ls2, rfl, h2⟩ := gB_ok h1; obtain ⟨x2, ls3, rfl, h3⟩ := gI_ok h2; obtain ⟨x3, ls4, rfl, h4⟩ := gL_ok h3; obtain ⟨rfl, h5⟩ := gE_ok h4; simp only [F9_c0] at h5; cases h5
  · replace h : g9_0 (n + 1) ls = some r := h
    unfold g9_0 at h
    obtain ⟨x0, ls1, rfl, h1⟩ := gL_ok h; obtain ⟨x1, ls2, rfl, h2⟩ := gB_ok h1; obtain ⟨x2, ls3, rfl, h3⟩ := gI_ok h2; obtain ⟨x3, ls4, rfl, h4⟩ := gL_ok h3; obtain ⟨rfl, h5⟩ := gE_ok h4
    exact (e9_0 n x0 x1 x2 x3).trans h5
theorem c9_1 : CutOK X9 8 9 (endK sr9 toB9) [1, 1, 1, 1, 1, 1, 1, 1, 1, 0, 1, 0] ⟨sh9_1, g9_1⟩ := by
  refine ⟨fun ls => ?_, fun n ls r h => ?_⟩
  · cases h : g9_1 0 ls with
    | none => exact h
    | some r =>
      unfold g9_1 at h; obtain ⟨x0, ls1, rfl, h1⟩ := gL_ok h; obtain ⟨x1, ls2, rfl, h2⟩ := gI_ok h1; obtain ⟨x2, ls3, rfl, h3⟩ := gL_ok h2; obtain ⟨x3, ls4, rfl, h4⟩ := gL_ok h3; obtain ⟨rfl, h5⟩ := gE_ok h4; simp only [F9_c1] at h5; cases h5
  · replace h : g9_1 (n + 1) ls = some r := h
    unfold g9_1 at h
    obtain ⟨x0, ls1, rfl, h1⟩ := gL_ok h; obtain ⟨x1, ls2, rfl, h2⟩ := gI_ok h1; obtain ⟨x2, ls3, rfl, h3⟩ := gL_ok h2; obtain ⟨x3, ls4, rfl, h4⟩ := gL_ok h3; obtain ⟨rfl, h5⟩ := gE_ok h4
    exact (e9_1 n x0 x1 x2 x3).trans h5
theorem sp9 {n : Nat} (a0 : List (ByteArray × Int × Int × Bool)) {y : Bool} (h : F9 n a0 = some y) : SpecF T Try.prog 9 pa9 [.l [.str, .int .i64, .int .i64, .bool] a0] sr9 (ofB9 y) :=
  fun_ok (X := X9) tok (sfok_of ⟨ok30, ok31, ok18, ok34, ok41, ok37, ok45, ok44, ok36, ok46, trivial⟩) mixed 9 8 cuts9 rfl toB9_ok ⟨c9_0, c9_1, trivial⟩ ((e9 n a0).trans h)
theorem ok9 {R : Type} : SFone T Try.prog 9 (run9 : SF R) := by
  intro ls K r h
  simp only [run9] at h
  obtain ⟨a0, ls1, rfl, h1⟩ := gL_ok h; obtain ⟨rfl, h2⟩ := gE_ok h1
  obtain ⟨y, k1, k2⟩ := Option.bind_eq_some_iff.1 h2
  exact ⟨_, k2, sp9 a0 k1⟩

end Go.Proofs.Ythaomidjgadieaa
