/-
  The functions of this program, evaluated; each is as it is evaluated.
-/
import Derived.Test.YtlbdcdflffgehaaEvR
import Derived.Test.YtlbdcdflffgehaaEwY
import Derived.Test.YtlbdcdflffgehaaVsT
import Derived.KernelRfl
namespace Go.Proofs.Ytlbdcdflffgehaa
open Go Go.RowKit
set_option maxRecDepth 100000

theorem mixed : Try.prog.follows .mixedOrders = true := by kernel_rfl


/-! ### garland/garlandref13.Great -/
def pa13 : List VP := [.agg [.i .i64, .sl false [.int .i64], .sl false [.int .i64], .i .i64, .i .i64, .i .i64, .i .i64, .i .i64, .i .i64, .i .i64, .i .i64, .i .i64, .i .i64, .i .i64, .i .i64, .i .i64, .i .i64, .i .i64, .i .i64, .i .i64]]
def sr13 : RShape := ⟨.b, [], none⟩
def toB13 : List Leaf → Option (Bool) := gB (fun b0 => gE (some b0))
def ofB13 (y : Bool) : List Leaf := [.b y]
theorem toB13_ok : ∀ ls b, toB13 ls = some b → ls = ofB13 b := by
  intro ls b h
  unfold toB13 at h
  obtain ⟨b0, ls1, rfl, h1⟩ := gB_ok h; obtain ⟨rfl, h2⟩ := gE_ok h1
  cases h2; rfl
def run13 {R : Type} : SF R := ⟨pa13, sr13, fun ls K => (gI (fun a0 => gL [.int .i64] (fun a1 => gL [.int .i64] (fun a2 => gI (fun a3 => gI (fun a4 => gI (fun a5 => gI (fun a6 => gI (fun a7 => gI (fun a8 => gI (fun a9 => gI (fun a10 => gI (fun a11 => gI (fun a12 => gI (fun a13 => gI (fun a14 => gI (fun a15 => gI (fun a16 => gI (fun a17 => gI (fun a18 => gI (fun a19 => gE (Option.bind (F13 FUEL a0 a1 a2 a3 a4 a5 a6 a7 a8 a9 a10 a11 a12 a13 a14 a15 a16 a17 a18 a19) fun y => K (ofB13 y))))))))))))))))))))))) ls⟩
def cuts13 : List (List Nat × Cut (Bool)) := []
noncomputable def X13 : Px (Bool) := ⟨T, Try.prog, lkF [], mkCuts 13 cuts13, altN, altN_ok⟩
theorem e13 (n : Nat) (a0 : Int) (a1 : List (Int)) (a2 : List (Int)) (a3 : Int) (a4 : Int) (a5 : Int) (a6 : Int) (a7 : Int) (a8 : Int) (a9 : Int) (a10 : Int) (a11 : Int) (a12 : Int) (a13 : Int) (a14 : Int) (a15 : Int) (a16 : Int) (a17 : Int) (a18 : Int) (a19 : Int) : entF X13 8 13 pa13 (endK sr13 toB13) n [.i a0, .l [.int .i64] a1, .l [.int .i64] a2, .i a3, .i a4, .i a5, .i a6, .i a7, .i a8, .i a9, .i a10, .i a11, .i a12, .i a13, .i a14, .i a15, .i a16, .i a17, .i a18, .i a19] = F13 n a0 a1 a2 a3 a4 a5 a6 a7 a8 a9 a10 a11 a12 a13 a14 a15 a16 a17 a18 a19 := by kernel_rfl
theorem sp13 {n : Nat} (a0 : Int) (a1 : List (Int)) (a2 : List (Int)) (a3 : Int) (a4 : Int) (a5 : Int) (a6 : Int) (a7 : Int) (a8 : Int) (a9 : Int) (a10 : Int) (a11 : Int) (a12 : Int) (a13 : Int) (a14 : Int) (a15 : Int) (a16 : Int) (a17 : Int) (a18 : Int) (a19 : Int) {y : Bool} (h : F13 n a0 a1 a2 a3 a4 a5 a6 a7 a8 a9 a10 a11 a12 a13 a14 a15 a16 a17 a18 a19 = some y) : SpecF T Try.prog 13 pa13 [.i a0, .l [.int .i64] a1, .l [.int .i64] a2, .i a3, .i a4, .i a5, .i a6, .i a7, .i a8, .i a9, .i a10, .i a11, .i a12, .i a13, .i a14, .i a15, .i a16, .i a17, .i a18, .i a19] sr13 (ofB13 y) :=
  fun_ok (X := X13) tok (sfok_of trivial) mixed 13 8 cuts13 rfl toB13_ok trivial ((e13 n a0 a1 a2 a3 a4 a5 a6 a7 a8 a9 a10 a11 a12 a13 a14 a15 a16 a17 a18 a19).trans h)
theorem ok13 {R : Type} : SFone T Try.prog 13 (run13 : SF R) := by
  intro ls K r h
  simp only [run13] at h
  obtain ⟨a0, ls1, rfl, h1⟩ := gI_ok h; obtain ⟨a1, ls2, rfl, h2⟩ := gL_ok h1; obtain ⟨a2, ls3, rfl, h3⟩ := gL_ok h2; obtain ⟨a3, ls4, rfl, h4⟩ := gI_ok h3; obtain ⟨a4, ls5, rfl, h5⟩ := gI_ok h4; obtain ⟨a5, ls6, rfl, h6⟩ := gI_ok h5; obtain ⟨a6, ls7, rfl, h7⟩ := gI_ok h6; obtain ⟨a7, ls8, rfl, h8⟩ := gI_ok h7; obtain ⟨a8, ls9, rfl, h9⟩ := gI_ok h8; obtain ⟨a9, ls10, rfl, h10⟩ := gI_ok h9; obtain ⟨a10, ls11, rfl, h11⟩ := gI_ok h10; obtain ⟨a11, ls12, rfl, h12⟩ := gI_ok h11; obtain ⟨a12, ls13, rfl, h13⟩ := gI_ok h12; obtain ⟨a13, ls14, rfl, h14⟩ := gI_ok h13; obtain ⟨a14, ls15, rfl, h15⟩ := gI_ok h14; obtain ⟨a15, ls16, rfl, h16⟩ := gI_ok h15; obtain ⟨a16, ls17, rfl, h17⟩ := gI_ok h16; obtain ⟨a17, ls18, rfl, h18⟩ := gI_ok h17; obtain ⟨a18, ls19, rfl, h19⟩ := gI_ok h18; obtain ⟨a19, ls20, rfl, h20⟩ := gI_ok h19; obtain ⟨rfl, h21⟩ := gE_ok h20
  obtain ⟨y, k1, k2⟩ := Option.bind_eq_some_iff.1 h21
  exact ⟨_, k2, sp13 a0 a1 a2 a3 a4 a5 a6 a7 a8 a9 a10 a11 a12 a13 a14 a15 a16 a17 a18 a19 k1⟩

/-! ### garland/garlandlaw18.great -/
def pa29 : List VP := [.agg [.i .i64, .sl false [.int .i64], .sl false [.int .i64], .i .i64, .i .i64, .i .i64, .i .i64, .i .i64, .i .i64, .i .i64, .i .i64, .i .i64, .i .i64, .i .i64, .i .i64, .i .i64, .i .i64, .i .i64, .i .i64, .i .i64], .agg [.i .u8, .i .i64, .i .i64, .i .i64, .i .i64, .b, .b, .i .i64, .i .i64, .sl false [.int .i64], .s, .i .i64, .i .i64, .b, .i .i64]]
def sr29 : RShape := ⟨.b, [], none⟩
def toB29 : List Leaf → Option (Bool) := gB (fun b0 => gE (some b0))
def ofB29 (y : Bool) : List Leaf := [.b y]
theorem toB29_ok : ∀ ls b, toB29 ls = some b → ls = ofB29 b := by
  intro ls b h
  unfold toB29 at h
  obtain ⟨b0, ls1, rfl, h1⟩ := gB_ok h; obtain ⟨rfl, h2⟩ := gE_ok h1
  cases h2; rfl
def run29 {R : Type} : SF R := ⟨pa29, sr29, fun ls K => (gI (fun a0 => gL [.int .i64] (fun a1 => gL [.int .i64] (fun a2 => gI (fun a3 => gI (fun a4 => gI (fun a5 => gI (fun a6 => gI (fun a7 => gI (fun a8 => gI (fun a9 => gI (fun a10 => gI (fun a11 => gI (fun a12 => gI (fun a13 => gI (fun a14 => gI (fun a15 => gI (fun a16 => gI (fun a17 => gI (fun a18 => gI (fun a19 => gI (fun a20 => gI (fun a21 => gI (fun a22 => gI (fun a23 => gI (fun a24 => gB (fun a25 => gB (fun a26 => gI (fun a27 => gI (fun a28 => gL [.int .i64] (fun a29 => gS (fun a30 => gI (fun a31 => gI (fun a32 => gB (fun a33 => gI (fun a34 => gE (Option.bind (F29 FUEL a0 a1 a2 a3 a4 a5 a6 a7 a8 a9 a10 a11 a12 a13 a14 a15 a16 a17 a18 a19 a20 a21 a22 a23 a24 a25 a26 a27 a28 a29 a30 a31 a32 a33 a34) fun y => K (ofB29 y)))))))))))))))))))))))))))))))))))))) ls⟩
def cuts29 : List (List Nat × Cut (Bool)) := []
noncomputable def X29 : Px (Bool) := ⟨T, Try.prog, lkF [(13, run13)], mkCuts 29 cuts29, altN, altN_ok⟩
theorem e29 (n : Nat) (a0 : Int) (a1 : List (Int)) (a2 : List (Int)) (a3 : Int) (a4 : Int) (a5 : Int) (a6 : Int) (a7 : Int) (a8 : Int) (a9 : Int) (a10 : Int) (a11 : Int) (a12 : Int) (a13 : Int) (a14 : Int) (a15 : Int) (a16 : Int) (a17 : Int) (a18 : Int) (a19 : Int) (a20 : Int) (a21 : Int) (a22 : Int) (a23 : Int) (a24 : Int) (a25 : Bool) (a26 : Bool) (a27 : Int) (a28 : Int) (a29 : List (Int)) (a30 : ByteArray) (a31 : Int) (a32 : Int) (a33 : Bool) (a34 : Int) : entF X29 8 29 pa29 (endK sr29 toB29) n [.i a0, .l [.int .i64] a1, .l [.int .i64] a2, .i a3, .i a4, .i a5, .i a6, .i a7, .i a8, .i a9, .i a10, .i a11, .i a12, .i a13, .i a14, .i a15, .i a16, .i a17, .i a18, .i a19, .i a20, .i a21, .i a22, .i a23, .i a24, .b a25, .b a26, .i a27, .i a28, .l [.int .i64] a29, .s a30, .i a31, .i a32, .b a33, .i a34] = F29 n a0 a1 a2 a3 a4 a5 a6 a7 a8 a9 a10 a11 a12 a13 a14 a15 a16 a17 a18 a19 a20 a21 a22 a23 a24 a25 a26 a27 a28 a29 a30 a31 a32 a33 a34 := by kernel_rfl
theorem sp29 {n : Nat} (a0 : Int) (a1 : List (Int)) (a2 : List (Int)) (a3 : Int) (a4 : Int) (a5 : Int) (a6 : Int) (a7 : Int) (a8 : Int) (a9 : Int) (a10 : Int) (a11 : Int) (a12 : Int) (a13 : Int) (a14 : Int) (a15 : Int) (a16 : Int) (a17 : Int) (a18 : Int) (a19 : Int) (a20 : Int) (a21 : Int) (a22 : Int) (a23 : Int) (a24 : Int) (a25 : Bool) (a26 : Bool) (a27 : Int) (a28 : Int) (a29 : List (Int)) (a30 : ByteArray) (a31 : Int) (a32 : Int) (a33 : Bool) (a34 : Int) {y : Bool} (h : F29 n a0 a1 a2 a3 a4 a5 a6 a7 a8 a9 a10 a11 a12 a13 a14 a15 a16 a17 a18 a19 a20 a21 a22 a23 a24 a25 a26 a27 a28 a29 a30 a31 a32 a33 a34 = some y) : SpecF T Try.prog 29 pa29 [.i a0, .l [.int .i64] a1, .l [.int .i64] a2, .i a3, .i a4, .i a5, .i a6, .i a7, .i a8, .i a9, .i a10, .i a11, .i a12, .i a13, .i a14, .i a15, .i a16, .i a17, .i a18, .i a19, .i a20, .i a21, .i a22, .i a23, .i a24, .b a25, .b a26, .i a27, .i a28, .l [.int .i64] a29, .s a30, .i a31, .i a32, .b a33, .i a34] sr29 (ofB29 y) :=
  fun_ok (X := X29) tok (sfok_of ⟨ok13, trivial⟩) mixed 29 8 cuts29 rfl toB29_ok trivial ((e29 n a0 a1 a2 a3 a4 a5 a6 a7 a8 a9 a10 a11 a12 a13 a14 a15 a16 a17 a18 a19 a20 a21 a22 a23 a24 a25 a26 a27 a28 a29 a30 a31 a32 a33 a34).trans h)
theorem ok29 {R : Type} : SFone T Try.prog 29 (run29 : SF R) := by
  intro ls K r h
  simp only [run29] at h
  obtain ⟨a0, ls1, rfl, h1⟩ := gI_ok h; obtain ⟨a1, ls2, rfl, h2⟩ := gL_ok h1; obtain ⟨a2, ls3, rfl, h3⟩ := gL_ok h2; obtain ⟨a3, ls4, rfl, h4⟩ := gI_ok h3; obtain ⟨a4, ls5, rfl, h5⟩ := gI_ok h4; obtain ⟨a5, ls6, rfl, h6⟩ := gI_ok h5; obtain ⟨a6, ls7, rfl, h7⟩ := gI_ok h6; obtain ⟨a7, ls8, rfl, h8⟩ := gI_ok h7; obtain ⟨a8, ls9, rfl, h9⟩ := gI_ok h8; obtain ⟨a9, ls10, rfl, h10⟩ := gI_ok h9; obtain ⟨a10, ls11, rfl, h11⟩ := gI_ok h10; obtain ⟨a11, ls12, rfl, h12⟩ := gI_ok h11; obtain ⟨a12, ls13, rfl, h13⟩ := gI_ok h12; obtain ⟨a13, ls14, rfl, h14⟩ := gI_ok h13; obtain ⟨a14, ls15, rfl, h15⟩ := gI_ok h14; obtain ⟨a15, ls16, rfl, h16⟩ := gI_ok h15; obtain ⟨a16, ls17, rfl, h17⟩ := gI_ok h16; obtain ⟨a17, ls18, rfl, h18⟩ := gI_ok h17; obtain ⟨a18, ls19, rfl, h19⟩ := gI_ok h18; obtain ⟨a19, ls20, rfl, h20⟩ := gI_ok h19; obtain ⟨a20, ls21, rfl, h21⟩ := gI_ok h20; obtain ⟨a21, ls22, rfl, h22⟩ := gI_ok h21; obtain ⟨a22, ls23, rfl, h23⟩ := gI_ok h22; obtain ⟨a23, ls24, rfl, h24⟩ := gI_ok h23; obtain ⟨a24, ls25, rfl, h25⟩ := gI_ok h24; obtain ⟨a25, ls26, rfl, h26⟩ := gB_ok h25; obtain ⟨a26, ls27, rfl, h27⟩ := gB_ok h26; obtain ⟨a27, ls28, rfl, h28⟩ := gI_ok h27; obtain ⟨a28, ls29, rfl, h29⟩ := gI_ok h28; obtain ⟨a29, ls30, rfl, h30⟩ := gL_ok h29; obtain ⟨a30, ls31, rfl, h31⟩ := gS_ok h30; obtain ⟨a31, ls32, rfl, h32⟩ := gI_ok h31; obtain ⟨a32, ls33, rfl, h33⟩ := gI_ok h32; obtain ⟨a33, ls34, rfl, h34⟩ := gB_ok h33; obtain ⟨a34, ls35, rfl, h35⟩ := gI_ok h34; obtain ⟨rfl, h36⟩ := gE_ok h35
  obtain ⟨y, k1, k2⟩ := Option.bind_eq_some_iff.1 h36
  exact ⟨_, k2, sp29 a0 a1 a2 a3 a4 a5 a6 a7 a8 a9 a10 a11 a12 a13 a14 a15 a16 a17 a18 a19 a20 a21 a22 a23 a24 a25 a26 a27 a28 a29 a30 a31 a32 a33 a34 k1⟩

/-! ### garland/garlandref13.place -/
def pa57 : List VP := [.i .i64]
def sr57 : RShape := ⟨.b, [], none⟩
def toB57 : List Leaf → Option (Bool) := gB (fun b0 => gE (some b0))
def ofB57 (y : Bool) : List Leaf := [.b y]
theorem toB57_ok : ∀ ls b, toB57 ls = some b → ls = ofB57 b := by
  intro ls b h
  unfold toB57 at h
  obtain ⟨b0, ls1, rfl, h1⟩ := gB_ok h; obtain ⟨rfl, h2⟩ := gE_ok h1
  cases h2; rfl
def run57 {R : Type} : SF R := ⟨pa57, sr57, fun ls K => (gI (fun a0 => gE (Option.bind (F57 FUEL a0) fun y => K (ofB57 y)))) ls⟩
def cuts57 : List (List Nat × Cut (Bool)) := []
noncomputable def X57 : Px (Bool) := ⟨T, Try.prog, lkF [], mkCuts 57 cuts57, altN, altN_ok⟩
theorem e57 (n : Nat) (a0 : Int) : entF X57 8 57 pa57 (endK sr57 toB57) n [.i a0] = F57 n a0 := by kernel_rfl
theorem sp57 {n : Nat} (a0 : Int) {y : Bool} (h : F57 n a0 = some y) : SpecF T Try.prog 57 pa57 [.i a0] sr57 (ofB57 y) :=
  fun_ok (X := X57) tok (sfok_of trivial) mixed 57 8 cuts57 rfl toB57_ok trivial ((e57 n a0).trans h)
theorem ok57 {R : Type} : SFone T Try.prog 57 (run57 : SF R) := by
  intro ls K r h
  simp only [run57] at h
  obtain ⟨a0, ls1, rfl, h1⟩ := gI_ok h; obtain ⟨rfl, h2⟩ := gE_ok h1
  obtain ⟨y, k1, k2⟩ := Option.bind_eq_some_iff.1 h2
  exact ⟨_, k2, sp57 a0 k1⟩

/-! ### garland/garlandref12.place -/
def pa90 : List VP := [.i .i64]
def sr90 : RShape := ⟨.b, [], none⟩
def toB90 : List Leaf → Option (Bool) := gB (fun b0 => gE (some b0))
def ofB90 (y : Bool) : List Leaf := [.b y]
theorem toB90_ok : ∀ ls b, toB90 ls = some b → ls = ofB90 b := by
  intro ls b h
  unfold toB90 at h
  obtain ⟨b0, ls1, rfl, h1⟩ := gB_ok h; obtain ⟨rfl, h2⟩ := gE_ok h1
  cases h2; rfl
def run90 {R : Type} : SF R := ⟨pa90, sr90, fun ls K => (gI (fun a0 => gE (Option.bind (F90 FUEL a0) fun y => K (ofB90 y)))) ls⟩
def cuts90 : List (List Nat × Cut (Bool)) := []
noncomputable def X90 : Px (Bool) := ⟨T, Try.prog, lkF [], mkCuts 90 cuts90, altN, altN_ok⟩
theorem e90 (n : Nat) (a0 : Int) : entF X90 8 90 pa90 (endK sr90 toB90) n [.i a0] = F90 n a0 := by kernel_rfl
theorem sp90 {n : Nat} (a0 : Int) {y : Bool} (h : F90 n a0 = some y) : SpecF T Try.prog 90 pa90 [.i a0] sr90 (ofB90 y) :=
  fun_ok (X := X90) tok (sfok_of trivial) mixed 90 8 cuts90 rfl toB90_ok trivial ((e90 n a0).trans h)
theorem ok90 {R : Type} : SFone T Try.prog 90 (run90 : SF R) := by
  intro ls K r h
  simp only [run90] at h
  obtain ⟨a0, ls1, rfl, h1⟩ := gI_ok h; obtain ⟨rfl, h2⟩ := gE_ok h1
  obtain ⟨y, k1, k2⟩ := Option.bind_eq_some_iff.1 h2
  exact ⟨_, k2, sp90 a0 k1⟩

/-! ### garland/garlandref03.Place -/
def pa27 : List VP := [.i .i64]
def sr27 : RShape := ⟨.i .i64, [], none⟩
def toB27 : List Leaf → Option (Int) := gI (fun b0 => gE (some b0))
def ofB27 (y : Int) : List Leaf := [.i y]
theorem toB27_ok : ∀ ls b, toB27 ls = some b → ls = ofB27 b := by
  intro ls b h
  unfold toB27 at h
  obtain ⟨b0, ls1, rfl, h1⟩ := gI_ok h; obtain ⟨rfl, h2⟩ := gE_ok h1
  cases h2; rfl
def run27 {R : Type} : SF R := ⟨pa27, sr27, fun ls K => (gI (fun a0 => gE (Option.bind (F27 FUEL a0) fun y => K (ofB27 y)))) ls⟩
def cuts27 : List (List Nat × Cut (Int)) := []
noncomputable def X27 : Px (Int) := ⟨T, Try.prog, lkF [], mkCuts 27 cuts27, altN, altN_ok⟩
theorem e27 (n : Nat) (a0 : Int) : entF X27 8 27 pa27 (endK sr27 toB27) n [.i a0] = F27 n a0 := by kernel_rfl
theorem sp27 {n : Nat} (a0 : Int) {y : Int} (h : F27 n a0 = some y) : SpecF T Try.prog 27 pa27 [.i a0] sr27 (ofB27 y) :=
  fun_ok (X := X27) tok (sfok_of trivial) mixed 27 8 cuts27 rfl toB27_ok trivial ((e27 n a0).trans h)
theorem ok27 {R : Type} : SFone T Try.prog 27 (run27 : SF R) := by
  intro ls K r h
  simp only [run27] at h
  obtain ⟨a0, ls1, rfl, h1⟩ := gI_ok h; obtain ⟨rfl, h2⟩ := gE_ok h1
  obtain ⟨y, k1, k2⟩ := Option.bind_eq_some_iff.1 h2
  exact ⟨_, k2, sp27 a0 k1⟩

/-! ### garland/garlandref03.Far -/
def pa26 : List VP := [.i .i64, .i .i64]
def sr26 : RShape := ⟨.i .i64, [], none⟩
def toB26 : List Leaf → Option (Int) := gI (fun b0 => gE (some b0))
def ofB26 (y : Int) : List Leaf := [.i y]
theorem toB26_ok : ∀ ls b, toB26 ls = some b → ls = ofB26 b := by
  intro ls b h
  unfold toB26 at h
  obtain ⟨b0, ls1, rfl, h1⟩ := gI_ok h; obtain ⟨rfl, h2⟩ := gE_ok h1
  cases h2; rfl
def run26 {R : Type} : SF R := ⟨pa26, sr26, fun ls K => (gI (fun a0 => gI (fun a1 => gE (Option.bind (F26 FUEL a0 a1) fun y => K (ofB26 y))))) ls⟩
def cuts26 : List (List Nat × Cut (Int)) := []
noncomputable def X26 : Px (Int) := ⟨T, Try.prog, lkF [(27, run27)], mkCuts 26 cuts26, altN, altN_ok⟩
theorem e26 (n : Nat) (a0 : Int) (a1 : Int) : entF X26 8 26 pa26 (endK sr26 toB26) n [.i a0, .i a1] = F26 n a0 a1 := by kernel_rfl
theorem sp26 {n : Nat} (a0 : Int) (a1 : Int) {y : Int} (h : F26 n a0 a1 = some y) : SpecF T Try.prog 26 pa26 [.i a0, .i a1] sr26 (ofB26 y) :=
  fun_ok (X := X26) tok (sfok_of ⟨ok27, trivial⟩) mixed 26 8 cuts26 rfl toB26_ok trivial ((e26 n a0 a1).trans h)
theorem ok26 {R : Type} : SFone T Try.prog 26 (run26 : SF R) := by
  intro ls K r h
  simp only [run26] at h
  obtain ⟨a0, ls1, rfl, h1⟩ := gI_ok h; obtain ⟨a1, ls2, rfl, h2⟩ := gI_ok h1; obtain ⟨rfl, h3⟩ := gE_ok h2
  obtain ⟨y, k1, k2⟩ := Option.bind_eq_some_iff.1 h3
  exact ⟨_, k2, sp26 a0 a1 k1⟩

/-! ### garland/garlandref12.farther -/
def pa91 : List VP := [.i .i64, .i .i64, .i .i64]
def sr91 : RShape := ⟨.b, [], none⟩
def toB91 : List Leaf → Option (Bool) := gB (fun b0 => gE (some b0))
def ofB91 (y : Bool) : List Leaf := [.b y]
theorem toB91_ok : ∀ ls b, toB91 ls = some b → ls = ofB91 b := by
  intro ls b h
  unfold toB91 at h
  obtain ⟨b0, ls1, rfl, h1⟩ := gB_ok h; obtain ⟨rfl, h2⟩ := gE_ok h1
  cases h2; rfl
def run91 {R : Type} : SF R := ⟨pa91, sr91, fun ls K => (gI (fun a0 => gI (fun a1 => gI (fun a2 => gE (Option.bind (F91 FUEL a0 a1 a2) fun y => K (ofB91 y)))))) ls⟩
def cuts91 : List (List Nat × Cut (Bool)) := []
noncomputable def X91 : Px (Bool) := ⟨T, Try.prog, lkF [(26, run26)], mkCuts 91 cuts91, altN, altN_ok⟩
theorem e91 (n : Nat) (a0 : Int) (a1 : Int) (a2 : Int) : entF X91 8 91 pa91 (endK sr91 toB91) n [.i a0, .i a1, .i a2] = F91 n a0 a1 a2 := by kernel_rfl
theorem sp91 {n : Nat} (a0 : Int) (a1 : Int) (a2 : Int) {y : Bool} (h : F91 n a0 a1 a2 = some y) : SpecF T Try.prog 91 pa91 [.i a0, .i a1, .i a2] sr91 (ofB91 y) :=
  fun_ok (X := X91) tok (sfok_of ⟨ok26, trivial⟩) mixed 91 8 cuts91 rfl toB91_ok trivial ((e91 n a0 a1 a2).trans h)
theorem ok91 {R : Type} : SFone T Try.prog 91 (run91 : SF R) := by
  intro ls K r h
  simp only [run91] at h
  obtain ⟨a0, ls1, rfl, h1⟩ := gI_ok h; obtain ⟨a1, ls2, rfl, h2⟩ := gI_ok h1; obtain ⟨a2, ls3, rfl, h3⟩ := gI_ok h2; obtain ⟨rfl, h4⟩ := gE_ok h3
  obtain ⟨y, k1, k2⟩ := Option.bind_eq_some_iff.1 h4
  exact ⟨_, k2, sp91 a0 a1 a2 k1⟩

/-! ### garland/garlandref12.Right -/
def pa58 : List VP := [.i .i64, .sl false [.int .i64]]
def sr58 : RShape := ⟨.b, [], none⟩
def toB58 : List Leaf → Option (Bool) := gB (fun b0 => gE (some b0))
def ofB58 (y : Bool) : List Leaf := [.b y]
theorem toB58_ok : ∀ ls b, toB58 ls = some b → ls = ofB58 b := by
  intro ls b h
  unfold toB58 at h
  obtain ⟨b0, ls1, rfl, h1⟩ := gB_ok h; obtain ⟨rfl, h2⟩ := gE_ok h1
  cases h2; rfl
def run58 {R : Type} : SF R := ⟨pa58, sr58, fun ls K => (gI (fun a0 => gL [.int .i64] (fun a1 => gE (Option.bind (F58 FUEL a0 a1) fun y => K (ofB58 y))))) ls⟩
def sh58_0 : Shape := ⟨[(48, [(0, .i .i64), (1, .sl false [.int .i64]), (5, .i .i64)])], []⟩
def g58_0 (n : Nat) : List Leaf → Option (Bool) := gI (fun x0 => gL [.int .i64] (fun x1 => gI (fun x2 => gE (F58_c0 n x0 x1 x2))))
def cuts58 : List (List Nat × Cut (Bool)) := [([1, 0, 1, 0], ⟨sh58_0, g58_0⟩)]
noncomputable def X58 : Px (Bool) := ⟨T, Try.prog, lkF [(90, run90), (27, run27), (91, run91)], mkCuts 58 cuts58, altN, altN_ok⟩
theorem e58_0 (n : Nat) (x0 : Int) (x1 : List (Int)) (x2 : Int) : stepF X58 8 58 (endK sr58 toB58) [1, 0, 1, 0] sh58_0 n [.i x0, .l [.int .i64] x1, .i x2] = F58_c0 (n + 1) x0 x1 x2 := by kernel_rfl
theorem e58 (n : Nat) (a0 : Int) (a1 : List (Int)) : entF X58 8 58 pa58 (endK sr58 toB58) n [.i a0, .l [.int .i64] a1] = F58 n a0 a1 := by kernel_rfl
theorem c58_0 : CutOK X58 8 58 (endK sr58 toB58) [1, 0, 1, 0] ⟨sh58_0, g58_0⟩ := by
  refine ⟨fun ls => ?_, fun n ls r h => ?_⟩
  · cases h : g58_0 0 ls with
    | none => exact h
    | some r =>
      unfold g58_0 at h; obtain ⟨x0, ls1, rfl, h1⟩ := gI_ok h; obtain ⟨x1, ls2, rfl, h2⟩ := gL_ok h1; obtain ⟨x2, ls3, rfl, h3⟩ := gI_ok h2; obtain ⟨rfl, h4⟩ := gE_ok h3; simp only [F58_c0] at h4; cases h4
  · replace h : g58_0 (n + 1) ls = some r := h
    unfold g58_0 at h
    obtain ⟨x0, ls1, rfl, h1⟩ := gI_ok h; obtain ⟨x1, ls2, rfl, h2⟩ := gL_ok h1; obtain ⟨x2, ls3, rfl, h3⟩ := gI_ok h2; obtain ⟨rfl, h4⟩ := gE_ok h3
    exact (e58_0 n x0 x1 x2).trans h4
theorem sp58 {n : Nat} (a0 : Int) (a1 : List (Int)) {y : Bool} (h : F58 n a0 a1 = some y) : SpecF T Try.prog 58 pa58 [.i a0, .l [.int .i64] a1] sr58 (ofB58 y) :=
  fun_ok (X := X58) tok (sfok_of ⟨ok90, ok27, ok91, trivial⟩) mixed 58 8 cuts58 rfl toB58_ok ⟨c58_0, trivial⟩ ((e58 n a0 a1).trans h)
theorem ok58 {R : Type} : SFone T Try.prog 58 (run58 : SF R) := by
  intro ls K r h
  simp only [run58] at h
  obtain ⟨a0, ls1, rfl, h1⟩ := gI_ok h; obtain ⟨a1, ls2, rfl, h2⟩ := gL_ok h1; obtain ⟨rfl, h3⟩ := gE_ok h2
  obtain ⟨y, k1, k2⟩ := Option.bind_eq_some_iff.1 h3
  exact ⟨_, k2, sp58 a0 a1 k1⟩

/-! ### garland/garlandref13.other -/
def pa59 : List VP := [.agg [.i .i64, .sl false [.int .i64], .sl false [.int .i64], .i .i64, .i .i64, .i .i64, .i .i64, .i .i64, .i .i64, .i .i64, .i .i64, .i .i64, .i .i64, .i .i64, .i .i64, .i .i64, .i .i64, .i .i64, .i .i64, .i .i64], .i .i64]
def sr59 : RShape := ⟨.b, [], none⟩
def toB59 : List Leaf → Option (Bool) := gB (fun b0 => gE (some b0))
def ofB59 (y : Bool) : List Leaf := [.b y]
theorem toB59_ok : ∀ ls b, toB59 ls = some b → ls = ofB59 b := by
  intro ls b h
  unfold toB59 at h
  obtain ⟨b0, ls1, rfl, h1⟩ := gB_ok h; obtain ⟨rfl, h2⟩ := gE_ok h1
  cases h2; rfl
def run59 {R : Type} : SF R := ⟨pa59, sr59, fun ls K => (gI (fun a0 => gL [.int .i64] (fun a1 => gL [.int .i64] (fun a2 => gI (fun a3 => gI (fun a4 => gI (fun a5 => gI (fun a6 => gI (fun a7 => gI (fun a8 => gI (fun a9 => gI (fun a10 => gI (fun a11 => gI (fun a12 => gI (fun a13 => gI (fun a14 => gI (fun a15 => gI (fun a16 => gI (fun a17 => gI (fun a18 => gI (fun a19 => gI (fun a20 => gE (Option.bind (F59 FUEL a0 a1 a2 a3 a4 a5 a6 a7 a8 a9 a10 a11 a12 a13 a14 a15 a16 a17 a18 a19 a20) fun y => K (ofB59 y)))))))))))))))))))))))) ls⟩
def cuts59 : List (List Nat × Cut (Bool)) := []
noncomputable def X59 : Px (Bool) := ⟨T, Try.prog, lkF [(57, run57)], mkCuts 59 cuts59, altN, altN_ok⟩
theorem e59 (n : Nat) (a0 : Int) (a1 : List (Int)) (a2 : List (Int)) (a3 : Int) (a4 : Int) (a5 : Int) (a6 : Int) (a7 : Int) (a8 : Int) (a9 : Int) (a10 : Int) (a11 : Int) (a12 : Int) (a13 : Int) (a14 : Int) (a15 : Int) (a16 : Int) (a17 : Int) (a18 : Int) (a19 : Int) (a20 : Int) : entF X59 8 59 pa59 (endK sr59 toB59) n [.i a0, .l [.int .i64] a1, .l [.int .i64] a2, .i a3, .i a4, .i a5, .i a6, .i a7, .i a8, .i a9, .i a10, .i a11, .i a12, .i a13, .i a14, .i a15, .i a16, .i a17, .i a18, .i a19, .i a20] = F59 n a0 a1 a2 a3 a4 a5 a6 a7 a8 a9 a10 a11 a12 a13 a14 a15 a16 a17 a18 a19 a20 := by kernel_rfl
theorem sp59 {n : Nat} (a0 : Int) (a1 : List (Int)) (a2 : List (Int)) (a3 : Int) (a4 : Int) (a5 : Int) (a6 : Int) (a7 : Int) (a8 : Int) (a9 : Int) (a10 : Int) (a11 : Int) (a12 : Int) (a13 : Int) (a14 : Int) (a15 : Int) (a16 : Int) (a17 : Int) (a18 : Int) (a19 : Int) (a20 : Int) {y : Bool} (h : F59 n a0 a1 a2 a3 a4 a5 a6 a7 a8 a9 a10 a11 a12 a13 a14 a15 a16 a17 a18 a19 a20 = some y) : SpecF T Try.prog 59 pa59 [.i a0, .l [.int .i64] a1, .l [.int .i64] a2, .i a3, .i a4, .i a5, .i a6, .i a7, .i a8, .i a9, .i a10, .i a11, .i a12, .i a13, .i a14, .i a15, .i a16, .i a17, .i a18, .i a19, .i a20] sr59 (ofB59 y) :=
  fun_ok (X := X59) tok (sfok_of ⟨ok57, trivial⟩) mixed 59 8 cuts59 rfl toB59_ok trivial ((e59 n a0 a1 a2 a3 a4 a5 a6 a7 a8 a9 a10 a11 a12 a13 a14 a15 a16 a17 a18 a19 a20).trans h)
theorem ok59 {R : Type} : SFone T Try.prog 59 (run59 : SF R) := by
  intro ls K r h
  simp only [run59] at h
  obtain ⟨a0, ls1, rfl, h1⟩ := gI_ok h; obtain ⟨a1, ls2, rfl, h2⟩ := gL_ok h1; obtain ⟨a2, ls3, rfl, h3⟩ := gL_ok h2; obtain ⟨a3, ls4, rfl, h4⟩ := gI_ok h3; obtain ⟨a4, ls5, rfl, h5⟩ := gI_ok h4; obtain ⟨a5, ls6, rfl, h6⟩ := gI_ok h5; obtain ⟨a6, ls7, rfl, h7⟩ := gI_ok h6; obtain ⟨a7, ls8, rfl, h8⟩ := gI_ok h7; obtain ⟨a8, ls9, rfl, h9⟩ := gI_ok h8; obtain ⟨a9, ls10, rfl, h10⟩ := gI_ok h9; obtain ⟨a10, ls11, rfl, h11⟩ := gI_ok h10; obtain ⟨a11, ls12, rfl, h12⟩ := gI_ok h11; obtain ⟨a12, ls13, rfl, h13⟩ := gI_ok h12; obtain ⟨a13, ls14, rfl, h14⟩ := gI_ok h13; obtain ⟨a14, ls15, rfl, h15⟩ := gI_ok h14; obtain ⟨a15, ls16, rfl, h16⟩ := gI_ok h15; obtain ⟨a16, ls17, rfl, h17⟩ := gI_ok h16; obtain ⟨a17, ls18, rfl, h18⟩ := gI_ok h17; obtain ⟨a18, ls19, rfl, h19⟩ := gI_ok h18; obtain ⟨a19, ls20, rfl, h20⟩ := gI_ok h19; obtain ⟨a20, ls21, rfl, h21⟩ := gI_ok h20; obtain ⟨rfl, h22⟩ := gE_ok h21
  obtain ⟨y, k1, k2⟩ := Option.bind_eq_some_iff.1 h22
  exact ⟨_, k2, sp59 a0 a1 a2 a3 a4 a5 a6 a7 a8 a9 a10 a11 a12 a13 a14 a15 a16 a17 a18 a19 a20 k1⟩

/-! ### garland/garlandref13.Right -/
def pa24 : List VP := [.agg [.i .i64, .sl false [.int .i64], .sl false [.int .i64], .i .i64, .i .i64, .i .i64, .i .i64, .i .i64, .i .i64, .i .i64, .i .i64, .i .i64, .i .i64, .i .i64, .i .i64, .i .i64, .i .i64, .i .i64, .i .i64, .i .i64]]
def sr24 : RShape := ⟨.b, [], none⟩
def toB24 : List Leaf → Option (Bool) := gB (fun b0 => gE (some b0))
def ofB24 (y : Bool) : List Leaf := [.b y]
theorem toB24_ok : ∀ ls b, toB24 ls = some b → ls = ofB24 b := by
  intro ls b h
  unfold toB24 at h
  obtain ⟨b0, ls1, rfl, h1⟩ := gB_ok h; obtain ⟨rfl, h2⟩ := gE_ok h1
  cases h2; rfl
def run24 {R : Type} : SF R := ⟨pa24, sr24, fun ls K => (gI (fun a0 => gL [.int .i64] (fun a1 => gL [.int .i64] (fun a2 => gI (fun a3 => gI (fun a4 => gI (fun a5 => gI (fun a6 => gI (fun a7 => gI (fun a8 => gI (fun a9 => gI (fun a10 => gI (fun a11 => gI (fun a12 => gI (fun a13 => gI (fun a14 => gI (fun a15 => gI (fun a16 => gI (fun a17 => gI (fun a18 => gI (fun a19 => gE (Option.bind (F24 FUEL a0 a1 a2 a3 a4 a5 a6 a7 a8 a9 a10 a11 a12 a13 a14 a15 a16 a17 a18 a19) fun y => K (ofB24 y))))))))))))))))))))))) ls⟩
def sh24_0 : Shape := ⟨[(79, [(1, .ref 0 0), (3, .i .i64)])], [.cells [.i .i64, .sl false [.int .i64], .sl false [.int .i64], .i .i64, .i .i64, .i .i64, .i .i64, .i .i64, .i .i64, .i .i64, .i .i64, .i .i64, .i .i64, .i .i64, .i .i64, .i .i64, .i .i64, .i .i64, .i .i64, .i .i64]]⟩
def g24_0 (n : Nat) : List Leaf → Option (Bool) := gI (fun x0 => gI (fun x1 => gL [.int .i64] (fun x2 => gL [.int .i64] (fun x3 => gI (fun x4 => gI (fun x5 => gI (fun x6 => gI (fun x7 => gI (fun x8 => gI (fun x9 => gI (fun x10 => gI (fun x11 => gI (fun x12 => gI (fun x13 => gI (fun x14 => gI (fun x15 => gI (fun x16 => gI (fun x17 => gI (fun x18 => gI (fun x19 => gI (fun x20 => gE (F24_c0 n x0 x1 x2 x3 x4 x5 x6 x7 x8 x9 x10 x11 x12 x13 x14 x15 x16 x17 x18 x19 x20))))))))))))))))))))))
def sh24_1 : Shape := ⟨[(79, [(1, .ref 0 0), (4, .i .i64)])], [.cells [.i .i64, .sl false [.int .i64], .sl false [.int .i64], .i .i64, .i .i64, .i .i64, .i .i64, .i .i64, .i .i64, .i .i64, .i .i64, .i .i64, .i .i64, .i .i64, .i .i64, .i .i64, .i .i64, .i .i64, .i .i64, .i .i64]]⟩
def g24_1 (n : Nat) : List Leaf → Option (Bool) := gI (fun x0 => gI (fun x1 => gL [.int .i64] (fun x2 => gL [.int .i64] (fun x3 => gI (fun x4 => gI (fun x5 => gI (fun x6 => gI (fun x7 => gI (fun x8 => gI (fun x9 => gI (fun x10 => gI (fun x11 => gI (fun x12 => gI (fun x13 => gI (fun x14 => gI (fun x15 => gI (fun x16 => gI (fun x17 => gI (fun x18 => gI (fun x19 => gI (fun x20 => gE (F24_c1 n x0 x1 x2 x3 x4 x5 x6 x7 x8 x9 x10 x11 x12 x13 x14 x15 x16 x17 x18 x19 x20))))))))))))))))))))))
def cuts24 : List (List Nat × Cut (Bool)) := [([1, 1, 0, 1, 0], ⟨sh24_0, g24_0⟩), ([1, 1, 1, 0, 1, 0], ⟨sh24_1, g24_1⟩)]
noncomputable def X24 : Px (Bool) := ⟨T, Try.prog, lkF [(57, run57), (58, run58), (59, run59)], mkCuts 24 cuts24, altN, altN_ok⟩
theorem e24_0 (n : Nat) (x0 : Int) (x1 : Int) (x2 : List (Int)) (x3 : List (Int)) (x4 : Int) (x5 : Int) (x6 : Int) (x7 : Int) (x8 : Int) (x9 : Int) (x10 : Int) (x11 : Int) (x12 : Int) (x13 : Int) (x14 : Int) (x15 : Int) (x16 : Int) (x17 : Int) (x18 : Int) (x19 : Int) (x20 : Int) : stepF X24 8 24 (endK sr24 toB24) [1, 1, 0, 1, 0] sh24_0 n [.i x0, .i x1, .l [.int .i64] x2, .l [.int .i64] x3, .i x4, .i x5, .i x6, .i x7, .i x8, .i x9, .i x10, .i x11, .i x12, .i x13, .i x14, .i x15, .i x16, .i x17, .i x18, .i x19, .i x20] = F24_c0 (n + 1) x0 x1 x2 x3 x4 x5 x6 x7 x8 x9 x10 x11 x12 x13 x14 x15 x16 x17 x18 x19 x20 := by kernel_rfl
theorem e24_1 (n : Nat) (x0 : Int) (x1 : Int) (x2 : List (Int)) (x3 : List (Int)) (x4 : Int) (x5 : Int) (x6 : Int) (x7 : Int) (x8 : Int) (x9 : Int) (x10 : Int) (x11 : Int) (x12 : Int) (x13 : Int) (x14 : Int) (x15 : Int) (x16 : Int) (x17 : Int) (x18 : Int) (x19 : Int) (x20 : Int) : stepF X24 8 24 (endK sr24 toB24) [1, 1, 1, 0, 1, 0] sh24_1 n [.i x0, .i x1, .l [.int .i64] x2, .l [.int .i64] x3, .i x4, .i x5, .i x6, .i x7, .i x8, .i x9, .i x10, .i x11, .i x12, .i x13, .i x14, .i x15, .i x16, .i x17, .i x18, .i x19, .i x20] = F24_c1 (n + 1) x0 x1 x2 x3 x4 x5 x6 x7 x8 x9 x10 x11 x12 x13 x14 x15 x16 x17 x18 x19 x20 := by kernel_rfl
theorem e24 (n : Nat) (a0 : Int) (a1 : List (Int)) (a2 : List (Int)) (a3 : Int) (a4 : Int) (a5 : Int) (a6 : Int) (a7 : Int) (a8 : Int) (a9 : Int) (a10 : Int) (a11 : Int) (a12 : Int) (a13 : Int) (a14 : Int) (a15 : Int) (a16 : Int) (a17 : Int) (a18 : Int) (a19 : Int) : entF X24 8 24 pa24 (endK sr24 toB24) n [.i a0, .l [.int .i64] a1, .l [.int .i64] a2, .i a3, .i a4, .i a5, .i a6, .i a7, .i a8, .i a9, .i a10, .i a11, .i a12, .i a13, .i a14, .i a15, .i a16, .i a17, .i a18, .i a19] = F24 n a0 a1 a2 a3 a4 a5 a6 a7 a8 a9 a10 a11 a12 a13 a14 a15 a16 a17 a18 a19 := by kernel_rfl
theorem c24_0 : CutOK X24 8 24 (endK sr24 toB24) [1, 1, 0, 1, 0] ⟨sh24_0, g24_0⟩ := by
  refine ⟨fun ls => ?_, fun n ls r h => ?_⟩
  · cases h : g24_0 0 ls with
    | none => exact h
    | some r =>
      unfold g24_0 at h; obtain ⟨x0, ls1, rfl, h1⟩ := gI_ok h; obtain ⟨x1, ls2, rfl, h2⟩ := gI_ok h1; obtain ⟨x2, ls3, rfl, h3⟩ := gL_ok h2; obtain ⟨x3, ls4, rfl, h4⟩ := gL_ok h3; obtain ⟨x4, ls5, rfl, h5⟩ := gI_ok h4; obtain ⟨x5, ls6, rfl, h6⟩ := gI_ok h5; obtain ⟨x6, ls7, rfl, h7⟩ := gI_ok h6; obtain ⟨x7, ls8, rfl, h8⟩ := gI_ok h7; obtain ⟨x8, ls9, rfl, h9⟩ := gI_ok h8; obtain ⟨x9, ls10, rfl, h10⟩ := gI_ok h9; obtain ⟨x10, ls11, rfl, h11⟩ := gI_ok h10; obtain ⟨x11, ls12, rfl, h12⟩ := gI_ok h11; obtain ⟨x12, ls13, rfl, h13⟩ := gI_ok h12; obtain ⟨x13, ls14, rfl, h14⟩ := gI_ok h13; obtain ⟨x14, ls15, rfl, h15⟩ := gI_ok h14; obtain ⟨x15, ls16, rfl, h16⟩ := gI_ok h15; obtain ⟨x16, ls17, rfl, h17⟩ := gI_ok h16; obtain ⟨x17, ls18, rfl, h18⟩ := gI_ok h17; obtain ⟨x18, ls19, rfl, h19⟩ := gI_ok h18; obtain ⟨x19, ls20, rfl, h20⟩ := gI_ok h19; obtain ⟨x20, ls21, rfl, h21⟩ := gI_ok h20; obtain ⟨rfl, h22⟩ := gE_ok h21; simp only [F24_c0] at h22; cases h22
  · replace h : g24_0 (n + 1) ls = some r := h
    unfold g24_0 at h
    obtain ⟨x0, ls1, rfl, h1⟩ := gI_ok h; obtain ⟨x1, ls2, rfl, h2⟩ := gI_ok h1; obtain ⟨x2, ls3, rfl, h3⟩ := gL_ok h2; obtain ⟨x3, ls4, rfl, h4⟩ := gL_ok h3; obtain ⟨x4, ls5, rfl, h5⟩ := gI_ok h4; obtain ⟨x5, ls6, rfl, h6⟩ := gI_ok h5; obtain ⟨x6, ls7, rfl, h7⟩ := gI_ok h6; obtain ⟨x7, ls8, rfl, h8⟩ := gI_ok h7; obtain ⟨x8, ls9, rfl, h9⟩ := gI_ok h8; obtain ⟨x9, ls10, rfl, h10⟩ := gI_ok h9; obtain ⟨x10, ls11, rfl, h11⟩ := gI_ok h10; obtain ⟨x11, ls12, rfl, h12⟩ := gI_ok h11; obtain ⟨x12, ls13, rfl, h13⟩ := gI_ok h12; obtain ⟨x13, ls14, rfl, h14⟩ := gI_ok h13; obtain ⟨x14, ls15, rfl, h15⟩ := gI_ok h14; obtain ⟨x15, ls16, rfl, h16⟩ := gI_ok h15; obtain ⟨x16, ls17, rfl, h17⟩ := gI_ok h16; obtain ⟨x17, ls18, rfl, h18⟩ := gI_ok h17; obtain ⟨x18, ls19, rfl, h19⟩ := gI_ok h18; obtain ⟨x19, ls20, rfl, h20⟩ := gI_ok h19; obtain ⟨x20, ls21, rfl, h21⟩ := gI_ok h20; obtain ⟨rfl, h22⟩ := gE_ok h21
    exact (e24_0 n x0 x1 x2 x3 x4 x5 x6 x7 x8 x9 x10 x11 x12 x13 x14 x15 x16 x17 x18 x19 x20).trans h22
theorem c24_1 : CutOK X24 8 24 (endK sr24 toB24) [1, 1, 1, 0, 1, 0] ⟨sh24_1, g24_1⟩ := by
  refine ⟨fun ls => ?_, fun n ls r h => ?_⟩
  · cases h : g24_1 0 ls with
    | none => exact h
    | some r =>
      unfold g24_1 at h; obtain ⟨x0, ls1, rfl, h1⟩ := gI_ok h; obtain ⟨x1, ls2, rfl, h2⟩ := gI_ok h1; obtain ⟨x2, ls3, rfl, h3⟩ := gL_ok h2; obtain ⟨x3, ls4, rfl, h4⟩ := gL_ok h3; obtain ⟨x4, ls5, rfl, h5⟩ := gI_ok h4; obtain ⟨x5, ls6, rfl, h6⟩ := gI_ok h5; obtain ⟨x6, ls7, rfl, h7⟩ := gI_ok h6; obtain ⟨x7, ls8, rfl, h8⟩ := gI_ok h7; obtain ⟨x8, ls9, rfl, h9⟩ := gI_ok h8; obtain ⟨x9, ls10, rfl, h10⟩ := gI_ok h9; obtain ⟨x10, ls11, rfl, h11⟩ := gI_ok h10; obtain ⟨x11, ls12, rfl, h12⟩ := gI_ok h11; obtain ⟨x12, ls13, rfl, h13⟩ := gI_ok h12; obtain ⟨x13, ls14, rfl, h14⟩ := gI_ok h13; obtain ⟨x14, ls15, rfl, h15⟩ := gI_ok h14; obtain ⟨x15, ls16, rfl, h16⟩ := gI_ok h15; obtain ⟨x16, ls17, rfl, h17⟩ := gI_ok h16; obtain ⟨x17, ls18, rfl, h18⟩ := gI_ok h17; obtain ⟨x18, ls19, rfl, h19⟩ := gI_ok h18; obtain ⟨x19, ls20, rfl, h20⟩ := gI_ok h19; obtain ⟨x20, ls21, rfl, h21⟩ := gI_ok h20; obtain ⟨rfl, h22⟩ := gE_ok h21; simp only [F24_c1] at h22; cases h22
  · replace h : g24_1 (n + 1) ls = some r := h
    unfold g24_1 at h
    obtain ⟨x0, ls1, rfl, h1⟩ := gI_ok h; obtain ⟨x1, ls2, rfl, h2⟩ := gI_ok h1; obtain ⟨x2, ls3, rfl, h3⟩ := gL_ok h2; obtain ⟨x3, ls4, rfl, h4⟩ := gL_ok h3; obtain ⟨x4, ls5, rfl, h5⟩ := gI_ok h4; obtain ⟨x5, ls6, rfl, h6⟩ := gI_ok h5; obtain ⟨x6, ls7, rfl, h7⟩ := gI_ok h6; obtain ⟨x7, ls8, rfl, h8⟩ := gI_ok h7; obtain ⟨x8, ls9, rfl, h9⟩ := gI_ok h8; obtain ⟨x9, ls10, rfl, h10⟩ := gI_ok h9; obtain ⟨x10, ls11, rfl, h11⟩ := gI_ok h10; obtain ⟨x11, ls12, rfl, h12⟩ := gI_ok h11; obtain ⟨x12, ls13, rfl, h13⟩ := gI_ok h12; obtain ⟨x13, ls14, rfl, h14⟩ := gI_ok h13; obtain ⟨x14, ls15, rfl, h15⟩ := gI_ok h14; obtain ⟨x15, ls16, rfl, h16⟩ := gI_ok h15; obtain ⟨x16, ls17, rfl, h17⟩ := gI_ok h16; obtain ⟨x17, ls18, rfl, h18⟩ := gI_ok h17; obtain ⟨x18, ls19, rfl, h19⟩ := gI_ok h18; obtain ⟨x19, ls20, rfl, h20⟩ := gI_ok h19; obtain ⟨x20, ls21, rfl, h21⟩ := gI_ok h20; obtain ⟨rfl, h22⟩ := gE_ok h21
    exact (e24_1 n x0 x1 x2 x3 x4 x5 x6 x7 x8 x9 x10 x11 x12 x13 x14 x15 x16 x17 x18 x19 x20).trans h22
theorem sp24 {n : Nat} (a0 : Int) (a1 : List (Int)) (a2 : List (Int)) (a3 : Int) (a4 : Int) (a5 : Int) (a6 : Int) (a7 : Int) (a8 : Int) (a9 : Int) (a10 : Int) (a11 : Int) (a12 : Int) (a13 : Int) (a14 : Int) (a15 : Int) (a16 : Int) (a17 : Int) (a18 : Int) (a19 : Int) {y : Bool} (h : F24 n a0 a1 a2 a3 a4 a5 a6 a7 a8 a9 a10 a11 a12 a13 a14 a15 a16 a17 a18 a19 = some y) : SpecF T Try.prog 24 pa24 [.i a0, .l [.int .i64] a1, .l [.int .i64] a2, .i a3, .i a4, .i a5, .i a6, .i a7, .i a8, .i a9, .i a10, .i a11, .i a12, .i a13, .i a14, .i a15, .i a16, .i a17, .i a18, .i a19] sr24 (ofB24 y) :=
  fun_ok (X := X24) tok (sfok_of ⟨ok57, ok58, ok59, trivial⟩) mixed 24 8 cuts24 rfl toB24_ok ⟨c24_0, c24_1, trivial⟩ ((e24 n a0 a1 a2 a3 a4 a5 a6 a7 a8 a9 a10 a11 a12 a13 a14 a15 a16 a17 a18 a19).trans h)
theorem ok24 {R : Type} : SFone T Try.prog 24 (run24 : SF R) := by
  intro ls K r h
  simp only [run24] at h
  obtain ⟨a0, ls1, rfl, h1⟩ := gI_ok h; obtain ⟨a1, ls2, rfl, h2⟩ := gL_ok h1; obtain ⟨a2, ls3, rfl, h3⟩ := gL_ok h2; obtain ⟨a3, ls4, rfl, h4⟩ := gI_ok h3; obtain ⟨a4, ls5, rfl, h5⟩ := gI_ok h4; obtain ⟨a5, ls6, rfl, h6⟩ := gI_ok h5; obtain ⟨a6, ls7, rfl, h7⟩ := gI_ok h6; obtain ⟨a7, ls8, rfl, h8⟩ := gI_ok h7; obtain ⟨a8, ls9, rfl, h9⟩ := gI_ok h8; obtain ⟨a9, ls10, rfl, h10⟩ := gI_ok h9; obtain ⟨a10, ls11, rfl, h11⟩ := gI_ok h10; obtain ⟨a11, ls12, rfl, h12⟩ := gI_ok h11; obtain ⟨a12, ls13, rfl, h13⟩ := gI_ok h12; obtain ⟨a13, ls14, rfl, h14⟩ := gI_ok h13; obtain ⟨a14, ls15, rfl, h15⟩ := gI_ok h14; obtain ⟨a15, ls16, rfl, h16⟩ := gI_ok h15; obtain ⟨a16, ls17, rfl, h17⟩ := gI_ok h16; obtain ⟨a17, ls18, rfl, h18⟩ := gI_ok h17; obtain ⟨a18, ls19, rfl, h19⟩ := gI_ok h18; obtain ⟨a19, ls20, rfl, h20⟩ := gI_ok h19; obtain ⟨rfl, h21⟩ := gE_ok h20
  obtain ⟨y, k1, k2⟩ := Option.bind_eq_some_iff.1 h21
  exact ⟨_, k2, sp24 a0 a1 a2 a3 a4 a5 a6 a7 a8 a9 a10 a11 a12 a13 a14 a15 a16 a17 a18 a19 k1⟩

/-! ### garland/garlandref13.New -/
def pa44 : List VP := [.i .i64, .sl false [.int .i64]]
def sr44 : RShape := ⟨.tup [.agg [.i .i64, .row 0, .nil, .i .i64, .i .i64, .i .i64, .i .i64, .i .i64, .i .i64, .i .i64, .i .i64, .i .i64, .i .i64, .i .i64, .i .i64, .i .i64, .i .i64, .i .i64, .i .i64, .i .i64], .i .i64], [.row true [.int .i64]], none⟩
def toB44 : List Leaf → Option (Si19l) := gI (fun b0 => gI (fun b1 => gI (fun b2 => gI (fun b3 => gI (fun b4 => gI (fun b5 => gI (fun b6 => gI (fun b7 => gI (fun b8 => gI (fun b9 => gI (fun b10 => gI (fun b11 => gI (fun b12 => gI (fun b13 => gI (fun b14 => gI (fun b15 => gI (fun b16 => gI (fun b17 => gI (fun b18 => gL [.int .i64] (fun b19 => gE (some ⟨b0, b1, b2, b3, b4, b5, b6, b7, b8, b9, b10, b11, b12, b13, b14, b15, b16, b17, b18, b19⟩)))))))))))))))))))))
def ofB44 (y : Si19l) : List Leaf := [.i y.q0, .i y.q1, .i y.q2, .i y.q3, .i y.q4, .i y.q5, .i y.q6, .i y.q7, .i y.q8, .i y.q9, .i y.q10, .i y.q11, .i y.q12, .i y.q13, .i y.q14, .i y.q15, .i y.q16, .i y.q17, .i y.q18, .l [.int .i64] y.q19]
theorem toB44_ok : ∀ ls b, toB44 ls = some b → ls = ofB44 b := by
  intro ls b h
  unfold toB44 at h
  obtain ⟨b0, ls1, rfl, h1⟩ := gI_ok h; obtain ⟨b1, ls2, rfl, h2⟩ := gI_ok h1; obtain ⟨b2, ls3, rfl, h3⟩ := gI_ok h2; obtain ⟨b3, ls4, rfl, h4⟩ := gI_ok h3; obtain ⟨b4, ls5, rfl, h5⟩ := gI_ok h4; obtain ⟨b5, ls6, rfl, h6⟩ := gI_ok h5; obtain ⟨b6, ls7, rfl, h7⟩ := gI_ok h6; obtain ⟨b7, ls8, rfl, h8⟩ := gI_ok h7; obtain ⟨b8, ls9, rfl, h9⟩ := gI_ok h8; obtain ⟨b9, ls10, rfl, h10⟩ := gI_ok h9; obtain ⟨b10, ls11, rfl, h11⟩ := gI_ok h10; obtain ⟨b11, ls12, rfl, h12⟩ := gI_ok h11; obtain ⟨b12, ls13, rfl, h13⟩ := gI_ok h12; obtain ⟨b13, ls14, rfl, h14⟩ := gI_ok h13; obtain ⟨b14, ls15, rfl, h15⟩ := gI_ok h14; obtain ⟨b15, ls16, rfl, h16⟩ := gI_ok h15; obtain ⟨b16, ls17, rfl, h17⟩ := gI_ok h16; obtain ⟨b17, ls18, rfl, h18⟩ := gI_ok h17; obtain ⟨b18, ls19, rfl, h19⟩ := gI_ok h18; obtain ⟨b19, ls20, rfl, h20⟩ := gL_ok h19; obtain ⟨rfl, h21⟩ := gE_ok h20
  cases h21; rfl
def run44 {R : Type} : SF R := ⟨pa44, sr44, fun ls K => (gI (fun a0 => gL [.int .i64] (fun a1 => gE (Option.bind (F44 FUEL a0 a1) fun y => K (ofB44 y))))) ls⟩
def sh44_0 : Shape := ⟨[(25, [(4, .ref 0 0), (6, .ref 1 0), (7, .i .i64)])], [.cells [.i .i64, .nil, .nil, .i .i64, .i .i64, .i .i64, .i .i64, .i .i64, .i .i64, .i .i64, .i .i64, .i .i64, .i .i64, .i .i64, .i .i64, .i .i64, .i .i64, .i .i64, .i .i64, .i .i64], .cells [.i .i64, .row 2, .nil, .i .i64, .i .i64, .i .i64, .i .i64, .i .i64, .i .i64, .i .i64, .i .i64, .i .i64, .i .i64, .i .i64, .i .i64, .i .i64, .i .i64, .i .i64, .i .i64, .i .i64], .row true [.int .i64]]⟩
def g44_0 (n : Nat) : List Leaf → Option (Si19l) := gI (fun x0 => gI (fun x1 => gI (fun x2 => gI (fun x3 => gI (fun x4 => gI (fun x5 => gI (fun x6 => gI (fun x7 => gI (fun x8 => gI (fun x9 => gI (fun x10 => gI (fun x11 => gI (fun x12 => gI (fun x13 => gI (fun x14 => gI (fun x15 => gI (fun x16 => gI (fun x17 => gI (fun x18 => gI (fun x19 => gI (fun x20 => gI (fun x21 => gI (fun x22 => gI (fun x23 => gI (fun x24 => gI (fun x25 => gI (fun x26 => gI (fun x27 => gI (fun x28 => gI (fun x29 => gI (fun x30 => gI (fun x31 => gI (fun x32 => gI (fun x33 => gI (fun x34 => gI (fun x35 => gI (fun x36 => gL [.int .i64] (fun x37 => gE (F44_c0 n x0 x1 x2 x3 x4 x5 x6 x7 x8 x9 x10 x11 x12 x13 x14 x15 x16 x17 x18 x19 x20 x21 x22 x23 x24 x25 x26 x27 x28 x29 x30 x31 x32 x33 x34 x35 x36 x37)))))))))))))))))))))))))))))))))))))))
def cuts44 : List (List Nat × Cut (Si19l)) := [([1, 1, 0, 1, 0], ⟨sh44_0, g44_0⟩)]
noncomputable def X44 : Px (Si19l) := ⟨T, Try.prog, lkF [(24, run24)], mkCuts 44 cuts44, altN, altN_ok⟩
theorem e44_0 (n : Nat) (x0 : Int) (x1 : Int) (x2 : Int) (x3 : Int) (x4 : Int) (x5 : Int) (x6 : Int) (x7 : Int) (x8 : Int) (x9 : Int) (x10 : Int) (x11 : Int) (x12 : Int) (x13 : Int) (x14 : Int) (x15 : Int) (x16 : Int) (x17 : Int) (x18 : Int) (x19 : Int) (x20 : Int) (x21 : Int) (x22 : Int) (x23 : Int) (x24 : Int) (x25 : Int) (x26 : Int) (x27 : Int) (x28 : Int) (x29 : Int) (x30 : Int) (x31 : Int) (x32 : Int) (x33 : Int) (x34 : Int) (x35 : Int) (x36 : Int) (x37 : List (Int)) : stepF X44 8 44 (endK sr44 toB44) [1, 1, 0, 1, 0] sh44_0 n [.i x0, .i x1, .i x2, .i x3, .i x4, .i x5, .i x6, .i x7, .i x8, .i x9, .i x10, .i x11, .i x12, .i x13, .i x14, .i x15, .i x16, .i x17, .i x18, .i x19, .i x20, .i x21, .i x22, .i x23, .i x24, .i x25, .i x26, .i x27, .i x28, .i x29, .i x30, .i x31, .i x32, .i x33, .i x34, .i x35, .i x36, .l [.int .i64] x37] = F44_c0 (n + 1) x0 x1 x2 x3 x4 x5 x6 x7 x8 x9 x10 x11 x12 x13 x14 x15 x16 x17 x18 x19 x20 x21 x22 x23 x24 x25 x26 x27 x28 x29 x30 x31 x32 x33 x34 x35 x36 x37 := by kernel_rfl
theorem e44 (n : Nat) (a0 : Int) (a1 : List (Int)) : entF X44 8 44 pa44 (endK sr44 toB44) n [.i a0, .l [.int .i64] a1] = F44 n a0 a1 := by kernel_rfl
theorem c44_0 : CutOK X44 8 44 (endK sr44 toB44) [1, 1, 0, 1, 0] ⟨sh44_0, g44_0⟩ := by
  refine ⟨fun ls => ?_, fun n ls r h => ?_⟩
  · cases h : g44_0 0 ls with
    | none => exact h
    | some r =>
      unfold g44_0 at h; obtain ⟨x0, ls1, rfl, h1⟩ := gI_ok h; obtain ⟨x1, ls2, rfl, h2⟩ := gI_ok h1; obtain ⟨x2, ls3, rfl, h3⟩ := gI_ok h2; obtain ⟨x3, ls4, rfl, h4⟩ := gI_ok h3; obtain ⟨x4, ls5, rfl, h5⟩ := gI_ok h4; obtain ⟨x5, ls6, rfl, h6⟩ := gI_ok h5; obtain ⟨x6, ls7, rfl, h7⟩ := gI_ok h6; obtain ⟨x7, ls8, rfl, h8⟩ := gI_ok h7; obtain ⟨x8, ls9, rfl, h9⟩ := gI_ok h8; obtain ⟨x9, ls10, rfl, h10⟩ := gI_ok h9; obtain ⟨x10, ls11, rfl, h11⟩ := gI_ok h10; obtain ⟨x11, ls12, rfl, h12⟩ := gI_ok h11; obtain ⟨x12, ls13, rfl, h13⟩ := gI_ok h12; obtain ⟨x13, ls14, rfl, h14⟩ := gI_ok h13; obtain ⟨x14, ls15, rfl, h15⟩ := gI_ok h14; obtain ⟨x15, ls16, rfl, h16⟩ := gI_ok h15; obtain ⟨x16, ls17, rfl, h17⟩ := gI_ok h16; obtain ⟨x17, ls18, rfl, h18⟩ := gI_ok h17; obtain ⟨x18, ls19, rfl, h19⟩ := gI_ok h18; obtain ⟨x19, ls20, rfl, h20⟩ := gI_ok h19; obtain ⟨x20, ls21, rfl, h21⟩ := gI_ok h20; obtain ⟨x21, ls22, rfl, h22⟩ := gI_ok h21; obtain ⟨x22, ls23, rfl, h23⟩ := gI_ok h22; obtain ⟨x23, ls24, rfl, h24⟩ := gI_ok h23; obtain ⟨x24, ls25, rfl, h25⟩ := gI_ok h24; obtain ⟨x25, ls26, rfl, h26⟩ := gI_ok h25; obtain ⟨x26, ls27, rfl, h27⟩ := gI_ok h26; obtain ⟨x27, ls28, rfl, h28⟩ := gI_ok h27; obtain ⟨x28, ls29, rfl, h29⟩ := gI_ok h28; obtain ⟨x29, ls30, rfl, h30⟩ := gI_ok h29; obtain ⟨x30, ls31, rfl, h31⟩ := gI_ok h30; obtain ⟨x31, ls32, rfl, h32⟩ := gI_ok h31; obtain ⟨x32, ls33, rfl, h33⟩ := gI_ok h32; obtain ⟨x33, ls34, rfl, h34⟩ := gI_ok h33; obtain ⟨x34, ls35, rfl, h35⟩ := gI_ok h34; obtain ⟨x35, ls36, rfl, h36⟩ := gI_ok h35; obtain ⟨x36, ls37, rfl, h37⟩ := gI_ok h36; obtain ⟨x37, ls38, rfl, h38⟩ := gL_ok h37; obtain ⟨rfl, h39⟩ := gE_ok h38; simp only [F44_c0] at h39; cases h39
  · replace h : g44_0 (n + 1) ls = some r := h
    unfold g44_0 at h
    obtain ⟨x0, ls1, rfl, h1⟩ := gI_ok h; obtain ⟨x1, ls2, rfl, h2⟩ := gI_ok h1; obtain ⟨x2, ls3, rfl, h3⟩ := gI_ok h2; obtain ⟨x3, ls4, rfl, h4⟩ := gI_ok h3; obtain ⟨x4, ls5, rfl, h5⟩ := gI_ok h4; obtain ⟨x5, ls6, rfl, h6⟩ := gI_ok h5; obtain ⟨x6, ls7, rfl, h7⟩ := gI_ok h6; obtain ⟨x7, ls8, rfl, h8⟩ := gI_ok h7; obtain ⟨x8, ls9, rfl, h9⟩ := gI_ok h8; obtain ⟨x9, ls10, rfl, h10⟩ := gI_ok h9; obtain ⟨x10, ls11, rfl, h11⟩ := gI_ok h10; obtain ⟨x11, ls12, rfl, h12⟩ := gI_ok h11; obtain ⟨x12, ls13, rfl, h13⟩ := gI_ok h12; obtain ⟨x13, ls14, rfl, h14⟩ := gI_ok h13; obtain ⟨x14, ls15, rfl, h15⟩ := gI_ok h14; obtain ⟨x15, ls16, rfl, h16⟩ := gI_ok h15; obtain ⟨x16, ls17, rfl, h17⟩ := gI_ok h16; obtain ⟨x17, ls18, rfl, h18⟩ := gI_ok h17; obtain ⟨x18, ls19, rfl, h19⟩ := gI_ok h18; obtain ⟨x19, ls20, rfl, h20⟩ := gI_ok h19; obtain ⟨x20, ls21, rfl, h21⟩ := gI_ok h20; obtain ⟨x21, ls22, rfl, h22⟩ := gI_ok h21; obtain ⟨x22, ls23, rfl, h23⟩ := gI_ok h22; obtain ⟨x23, ls24, rfl, h24⟩ := gI_ok h23; obtain ⟨x24, ls25, rfl, h25⟩ := gI_ok h24; obtain ⟨x25, ls26, rfl, h26⟩ := gI_ok h25; obtain ⟨x26, ls27, rfl, h27⟩ := gI_ok h26; obtain ⟨x27, ls28, rfl, h28⟩ := gI_ok h27; obtain ⟨x28, ls29, rfl, h29⟩ := gI_ok h28; obtain ⟨x29, ls30, rfl, h30⟩ := gI_ok h29; obtain ⟨x30, ls31, rfl, h31⟩ := gI_ok h30; obtain ⟨x31, ls32, rfl, h32⟩ := gI_ok h31; obtain ⟨x32, ls33, rfl, h33⟩ := gI_ok h32; obtain ⟨x33, ls34, rfl, h34⟩ := gI_ok h33; obtain ⟨x34, ls35, rfl, h35⟩ := gI_ok h34; obtain ⟨x35, ls36, rfl, h36⟩ := gI_ok h35; obtain ⟨x36, ls37, rfl, h37⟩ := gI_ok h36; obtain ⟨x37, ls38, rfl, h38⟩ := gL_ok h37; obtain ⟨rfl, h39⟩ := gE_ok h38
    exact (e44_0 n x0 x1 x2 x3 x4 x5 x6 x7 x8 x9 x10 x11 x12 x13 x14 x15 x16 x17 x18 x19 x20 x21 x22 x23 x24 x25 x26 x27 x28 x29 x30 x31 x32 x33 x34 x35 x36 x37).trans h39
theorem sp44 {n : Nat} (a0 : Int) (a1 : List (Int)) {y : Si19l} (h : F44 n a0 a1 = some y) : SpecF T Try.prog 44 pa44 [.i a0, .l [.int .i64] a1] sr44 (ofB44 y) :=
  fun_ok (X := X44) tok (sfok_of ⟨ok24, trivial⟩) mixed 44 8 cuts44 rfl toB44_ok ⟨c44_0, trivial⟩ ((e44 n a0 a1).trans h)
theorem ok44 {R : Type} : SFone T Try.prog 44 (run44 : SF R) := by
  intro ls K r h
  simp only [run44] at h
  obtain ⟨a0, ls1, rfl, h1⟩ := gI_ok h; obtain ⟨a1, ls2, rfl, h2⟩ := gL_ok h1; obtain ⟨rfl, h3⟩ := gE_ok h2
  obtain ⟨y, k1, k2⟩ := Option.bind_eq_some_iff.1 h3
  exact ⟨_, k2, sp44 a0 a1 k1⟩

/-! ### garland/view.isPlace -/
def pa71 : List VP := [.i .i64]
def sr71 : RShape := ⟨.b, [], none⟩
def toB71 : List Leaf → Option (Bool) := gB (fun b0 => gE (some b0))
def ofB71 (y : Bool) : List Leaf := [.b y]
theorem toB71_ok : ∀ ls b, toB71 ls = some b → ls = ofB71 b := by
  intro ls b h
  unfold toB71 at h
  obtain ⟨b0, ls1, rfl, h1⟩ := gB_ok h; obtain ⟨rfl, h2⟩ := gE_ok h1
  cases h2; rfl
def run71 {R : Type} : SF R := ⟨pa71, sr71, fun ls K => (gI (fun a0 => gE (Option.bind (F71 FUEL a0) fun y => K (ofB71 y)))) ls⟩
def cuts71 : List (List Nat × Cut (Bool)) := []
noncomputable def X71 : Px (Bool) := ⟨T, Try.prog, lkF [], mkCuts 71 cuts71, altN, altN_ok⟩
theorem e71 (n : Nat) (a0 : Int) : entF X71 8 71 pa71 (endK sr71 toB71) n [.i a0] = F71 n a0 := by kernel_rfl
theorem sp71 {n : Nat} (a0 : Int) {y : Bool} (h : F71 n a0 = some y) : SpecF T Try.prog 71 pa71 [.i a0] sr71 (ofB71 y) :=
  fun_ok (X := X71) tok (sfok_of trivial) mixed 71 8 cuts71 rfl toB71_ok trivial ((e71 n a0).trans h)
theorem ok71 {R : Type} : SFone T Try.prog 71 (run71 : SF R) := by
  intro ls K r h
  simp only [run71] at h
  obtain ⟨a0, ls1, rfl, h1⟩ := gI_ok h; obtain ⟨rfl, h2⟩ := gE_ok h1
  obtain ⟨y, k1, k2⟩ := Option.bind_eq_some_iff.1 h2
  exact ⟨_, k2, sp71 a0 k1⟩

/-! ### garland/view.rightBase -/
def pa72 : List VP := [.sl false [.int .i64]]
def sr72 : RShape := ⟨.b, [], none⟩
def toB72 : List Leaf → Option (Bool) := gB (fun b0 => gE (some b0))
def ofB72 (y : Bool) : List Leaf := [.b y]
theorem toB72_ok : ∀ ls b, toB72 ls = some b → ls = ofB72 b := by
  intro ls b h
  unfold toB72 at h
  obtain ⟨b0, ls1, rfl, h1⟩ := gB_ok h; obtain ⟨rfl, h2⟩ := gE_ok h1
  cases h2; rfl
def run72 {R : Type} : SF R := ⟨pa72, sr72, fun ls K => (gL [.int .i64] (fun a0 => gE (Option.bind (F72 FUEL a0) fun y => K (ofB72 y)))) ls⟩
def sh72_0 : Shape := ⟨[(37, [(0, .sl false [.int .i64]), (13, .sl false [.int .i64]), (14, .i .i64), (15, .i .i64)])], []⟩
def g72_0 (n : Nat) : List Leaf → Option (Bool) := gL [.int .i64] (fun x0 => gL [.int .i64] (fun x1 => gI (fun x2 => gI (fun x3 => gE (F72_c0 n x0 x1 x2 x3)))))
def cuts72 : List (List Nat × Cut (Bool)) := [([1, 1, 0, 1, 0], ⟨sh72_0, g72_0⟩)]
noncomputable def X72 : Px (Bool) := ⟨T, Try.prog, lkF [(71, run71)], mkCuts 72 cuts72, altN, altN_ok⟩
theorem e72_0 (n : Nat) (x0 : List (Int)) (x1 : List (Int)) (x2 : Int) (x3 : Int) : stepF X72 8 72 (endK sr72 toB72) [1, 1, 0, 1, 0] sh72_0 n [.l [.int .i64] x0, .l [.int .i64] x1, .i x2, .i x3] = F72_c0 (n + 1) x0 x1 x2 x3 := by kernel_rfl
theorem e72 (n : Nat) (a0 : List (Int)) : entF X72 8 72 pa72 (endK sr72 toB72) n [.l [.int .i64] a0] = F72 n a0 := by kernel_rfl
theorem c72_0 : CutOK X72 8 72 (endK sr72 toB72) [1, 1, 0, 1, 0] ⟨sh72_0, g72_0⟩ := by
  refine ⟨fun ls => ?_, fun n ls r h => ?_⟩
  · cases h : g72_0 0 ls with
    | none => exact h
    | some r =>
      unfold g72_0 at h; obtain ⟨x0, ls1, rfl, h1⟩ := gL_ok h; obtain ⟨x1, ls2, rfl, h2⟩ := gL_ok h1; obtain ⟨x2, ls3, rfl, h3⟩ := gI_ok h2; obtain ⟨x3, ls4, rfl, h4⟩ := gI_ok h3; obtain ⟨rfl, h5⟩ := gE_ok h4; simp only [F72_c0] at h5; cases h5
  · replace h : g72_0 (n + 1) ls = some r := h
    unfold g72_0 at h
    obtain ⟨x0, ls1, rfl, h1⟩ := gL_ok h; obtain ⟨x1, ls2, rfl, h2⟩ := gL_ok h1; obtain ⟨x2, ls3, rfl, h3⟩ := gI_ok h2; obtain ⟨x3, ls4, rfl, h4⟩ := gI_ok h3; obtain ⟨rfl, h5⟩ := gE_ok h4
    exact (e72_0 n x0 x1 x2 x3).trans h5
theorem sp72 {n : Nat} (a0 : List (Int)) {y : Bool} (h : F72 n a0 = some y) : SpecF T Try.prog 72 pa72 [.l [.int .i64] a0] sr72 (ofB72 y) :=
  fun_ok (X := X72) tok (sfok_of ⟨ok71, trivial⟩) mixed 72 8 cuts72 rfl toB72_ok ⟨c72_0, trivial⟩ ((e72 n a0).trans h)
theorem ok72 {R : Type} : SFone T Try.prog 72 (run72 : SF R) := by
  intro ls K r h
  simp only [run72] at h
  obtain ⟨a0, ls1, rfl, h1⟩ := gL_ok h; obtain ⟨rfl, h2⟩ := gE_ok h1
  obtain ⟨y, k1, k2⟩ := Option.bind_eq_some_iff.1 h2
  exact ⟨_, k2, sp72 a0 k1⟩

/-! ### garland/arc.Place -/
def pa65 : List VP := [.i .i64]
def sr65 : RShape := ⟨.i .i64, [], none⟩
def toB65 : List Leaf → Option (Int) := gI (fun b0 => gE (some b0))
def ofB65 (y : Int) : List Leaf := [.i y]
theorem toB65_ok : ∀ ls b, toB65 ls = some b → ls = ofB65 b := by
  intro ls b h
  unfold toB65 at h
  obtain ⟨b0, ls1, rfl, h1⟩ := gI_ok h; obtain ⟨rfl, h2⟩ := gE_ok h1
  cases h2; rfl
def run65 {R : Type} : SF R := ⟨pa65, sr65, fun ls K => (gI (fun a0 => gE (Option.bind (F65 FUEL a0) fun y => K (ofB65 y)))) ls⟩
def cuts65 : List (List Nat × Cut (Int)) := []
noncomputable def X65 : Px (Int) := ⟨T, Try.prog, lkF [], mkCuts 65 cuts65, altN, altN_ok⟩
theorem e65 (n : Nat) (a0 : Int) : entF X65 8 65 pa65 (endK sr65 toB65) n [.i a0] = F65 n a0 := by kernel_rfl
theorem sp65 {n : Nat} (a0 : Int) {y : Int} (h : F65 n a0 = some y) : SpecF T Try.prog 65 pa65 [.i a0] sr65 (ofB65 y) :=
  fun_ok (X := X65) tok (sfok_of trivial) mixed 65 8 cuts65 rfl toB65_ok trivial ((e65 n a0).trans h)
theorem ok65 {R : Type} : SFone T Try.prog 65 (run65 : SF R) := by
  intro ls K r h
  simp only [run65] at h
  obtain ⟨a0, ls1, rfl, h1⟩ := gI_ok h; obtain ⟨rfl, h2⟩ := gE_ok h1
  obtain ⟨y, k1, k2⟩ := Option.bind_eq_some_iff.1 h2
  exact ⟨_, k2, sp65 a0 k1⟩

/-! ### garland/list.isPlace -/
def pa98 : List VP := [.i .i64]
def sr98 : RShape := ⟨.b, [], none⟩
def toB98 : List Leaf → Option (Bool) := gB (fun b0 => gE (some b0))
def ofB98 (y : Bool) : List Leaf := [.b y]
theorem toB98_ok : ∀ ls b, toB98 ls = some b → ls = ofB98 b := by
  intro ls b h
  unfold toB98 at h
  obtain ⟨b0, ls1, rfl, h1⟩ := gB_ok h; obtain ⟨rfl, h2⟩ := gE_ok h1
  cases h2; rfl
def run98 {R : Type} : SF R := ⟨pa98, sr98, fun ls K => (gI (fun a0 => gE (Option.bind (F98 FUEL a0) fun y => K (ofB98 y)))) ls⟩
def cuts98 : List (List Nat × Cut (Bool)) := []
noncomputable def X98 : Px (Bool) := ⟨T, Try.prog, lkF [], mkCuts 98 cuts98, altN, altN_ok⟩
theorem e98 (n : Nat) (a0 : Int) : entF X98 8 98 pa98 (endK sr98 toB98) n [.i a0] = F98 n a0 := by kernel_rfl
theorem sp98 {n : Nat} (a0 : Int) {y : Bool} (h : F98 n a0 = some y) : SpecF T Try.prog 98 pa98 [.i a0] sr98 (ofB98 y) :=
  fun_ok (X := X98) tok (sfok_of trivial) mixed 98 8 cuts98 rfl toB98_ok trivial ((e98 n a0).trans h)
theorem ok98 {R : Type} : SFone T Try.prog 98 (run98 : SF R) := by
  intro ls K r h
  simp only [run98] at h
  obtain ⟨a0, ls1, rfl, h1⟩ := gI_ok h; obtain ⟨rfl, h2⟩ := gE_ok h1
  obtain ⟨y, k1, k2⟩ := Option.bind_eq_some_iff.1 h2
  exact ⟨_, k2, sp98 a0 k1⟩

/-! ### garland/arc.Far -/
def pa79 : List VP := [.i .i64, .i .i64]
def sr79 : RShape := ⟨.i .i64, [], none⟩
def toB79 : List Leaf → Option (Int) := gI (fun b0 => gE (some b0))
def ofB79 (y : Int) : List Leaf := [.i y]
theorem toB79_ok : ∀ ls b, toB79 ls = some b → ls = ofB79 b := by
  intro ls b h
  unfold toB79 at h
  obtain ⟨b0, ls1, rfl, h1⟩ := gI_ok h; obtain ⟨rfl, h2⟩ := gE_ok h1
  cases h2; rfl
def run79 {R : Type} : SF R := ⟨pa79, sr79, fun ls K => (gI (fun a0 => gI (fun a1 => gE (Option.bind (F79 FUEL a0 a1) fun y => K (ofB79 y))))) ls⟩
def cuts79 : List (List Nat × Cut (Int)) := []
noncomputable def X79 : Px (Int) := ⟨T, Try.prog, lkF [(65, run65)], mkCuts 79 cuts79, altN, altN_ok⟩
theorem e79 (n : Nat) (a0 : Int) (a1 : Int) : entF X79 8 79 pa79 (endK sr79 toB79) n [.i a0, .i a1] = F79 n a0 a1 := by kernel_rfl
theorem sp79 {n : Nat} (a0 : Int) (a1 : Int) {y : Int} (h : F79 n a0 a1 = some y) : SpecF T Try.prog 79 pa79 [.i a0, .i a1] sr79 (ofB79 y) :=
  fun_ok (X := X79) tok (sfok_of ⟨ok65, trivial⟩) mixed 79 8 cuts79 rfl toB79_ok trivial ((e79 n a0 a1).trans h)
theorem ok79 {R : Type} : SFone T Try.prog 79 (run79 : SF R) := by
  intro ls K r h
  simp only [run79] at h
  obtain ⟨a0, ls1, rfl, h1⟩ := gI_ok h; obtain ⟨a1, ls2, rfl, h2⟩ := gI_ok h1; obtain ⟨rfl, h3⟩ := gE_ok h2
  obtain ⟨y, k1, k2⟩ := Option.bind_eq_some_iff.1 h3
  exact ⟨_, k2, sp79 a0 a1 k1⟩

/-! ### garland/list.Right -/
def pa73 : List VP := [.i .i64, .sl false [.int .i64]]
def sr73 : RShape := ⟨.b, [], none⟩
def toB73 : List Leaf → Option (Bool) := gB (fun b0 => gE (some b0))
def ofB73 (y : Bool) : List Leaf := [.b y]
theorem toB73_ok : ∀ ls b, toB73 ls = some b → ls = ofB73 b := by
  intro ls b h
  unfold toB73 at h
  obtain ⟨b0, ls1, rfl, h1⟩ := gB_ok h; obtain ⟨rfl, h2⟩ := gE_ok h1
  cases h2; rfl
def run73 {R : Type} : SF R := ⟨pa73, sr73, fun ls K => (gI (fun a0 => gL [.int .i64] (fun a1 => gE (Option.bind (F73 FUEL a0 a1) fun y => K (ofB73 y))))) ls⟩
def sh73_0 : Shape := ⟨[(21, [(0, .yield 7), (4, .i .i64), (8, .sl false [.int .i64]), (9, .i .i64), (10, .i .i64)]), (29, [(2, .ref 0 0), (4, .ref 1 0)])], [.cells [.i .i64], .cells [.b]]⟩
def g73_0 (n : Nat) : List Leaf → Option (Bool) := gI (fun x0 => gL [.int .i64] (fun x1 => gI (fun x2 => gI (fun x3 => gI (fun x4 => gB (fun x5 => gE (F73_c0 n x0 x1 x2 x3 x4 x5)))))))
def cuts73 : List (List Nat × Cut (Bool)) := [([1, 1, 1, 0, 1, 0, 212, 1, 1, 0], ⟨sh73_0, g73_0⟩)]
noncomputable def X73 : Px (Bool) := ⟨T, Try.prog, lkF [(65, run65), (98, run98), (79, run79)], mkCuts 73 cuts73, altN, altN_ok⟩
theorem e73_0 (n : Nat) (x0 : Int) (x1 : List (Int)) (x2 : Int) (x3 : Int) (x4 : Int) (x5 : Bool) : stepF X73 8 73 (endK sr73 toB73) [1, 1, 1, 0, 1, 0, 212, 1, 1, 0] sh73_0 n [.i x0, .l [.int .i64] x1, .i x2, .i x3, .i x4, .b x5] = F73_c0 (n + 1) x0 x1 x2 x3 x4 x5 := by kernel_rfl
theorem e73 (n : Nat) (a0 : Int) (a1 : List (Int)) : entF X73 8 73 pa73 (endK sr73 toB73) n [.i a0, .l [.int .i64] a1] = F73 n a0 a1 := by kernel_rfl
theorem c73_0 : CutOK X73 8 73 (endK sr73 toB73) [1, 1, 1, 0, 1, 0, 212, 1, 1, 0] ⟨sh73_0, g73_0⟩ := by
  refine ⟨fun ls => ?_, fun n ls r h => ?_⟩
  · cases h : g73_0 0 ls with
    | none => exact h
    | some r =>
      unfold g73_0 at h; obtain ⟨x0, ls1, rfl, h1⟩ := gI_ok h; obtain ⟨x1, ls2, rfl, h2⟩ := gL_ok h1; obtain ⟨x2, ls3, rfl, h3⟩ := gI_ok h2; obtain ⟨x3, ls4, rfl, h4⟩ := gI_ok h3; obtain ⟨x4, ls5, rfl, h5⟩ := gI_ok h4; obtain ⟨x5, ls6, rfl, h6⟩ := gB_ok h5; obtain ⟨rfl, h7⟩ := gE_ok h6; simp only [F73_c0] at h7; cases h7
  · replace h : g73_0 (n + 1) ls = some r := h
    unfold g73_0 at h
    obtain ⟨x0, ls1, rfl, h1⟩ := gI_ok h; obtain ⟨x1, ls2, rfl, h2⟩ := gL_ok h1; obtain ⟨x2, ls3, rfl, h3⟩ := gI_ok h2; obtain ⟨x3, ls4, rfl, h4⟩ := gI_ok h3; obtain ⟨x4, ls5, rfl, h5⟩ := gI_ok h4; obtain ⟨x5, ls6, rfl, h6⟩ := gB_ok h5; obtain ⟨rfl, h7⟩ := gE_ok h6
    exact (e73_0 n x0 x1 x2 x3 x4 x5).trans h7
theorem sp73 {n : Nat} (a0 : Int) (a1 : List (Int)) {y : Bool} (h : F73 n a0 a1 = some y) : SpecF T Try.prog 73 pa73 [.i a0, .l [.int .i64] a1] sr73 (ofB73 y) :=
  fun_ok (X := X73) tok (sfok_of ⟨ok65, ok98, ok79, trivial⟩) mixed 73 8 cuts73 rfl toB73_ok ⟨c73_0, trivial⟩ ((e73 n a0 a1).trans h)
theorem ok73 {R : Type} : SFone T Try.prog 73 (run73 : SF R) := by
  intro ls K r h
  simp only [run73] at h
  obtain ⟨a0, ls1, rfl, h1⟩ := gI_ok h; obtain ⟨a1, ls2, rfl, h2⟩ := gL_ok h1; obtain ⟨rfl, h3⟩ := gE_ok h2
  obtain ⟨y, k1, k2⟩ := Option.bind_eq_some_iff.1 h3
  exact ⟨_, k2, sp73 a0 a1 k1⟩

/-! ### garland/view.Right -/
def pa45 : List VP := [.agg [.i .i64, .sl false [.int .i64], .sl false [.int .i64], .i .i64, .i .i64, .i .i64, .i .i64, .i .i64, .i .i64, .i .i64, .i .i64, .i .i64, .i .i64, .i .i64, .i .i64, .i .i64, .i .i64, .i .i64, .i .i64, .i .i64]]
def sr45 : RShape := ⟨.b, [], none⟩
def toB45 : List Leaf → Option (Bool) := gB (fun b0 => gE (some b0))
def ofB45 (y : Bool) : List Leaf := [.b y]
theorem toB45_ok : ∀ ls b, toB45 ls = some b → ls = ofB45 b := by
  intro ls b h
  unfold toB45 at h
  obtain ⟨b0, ls1, rfl, h1⟩ := gB_ok h; obtain ⟨rfl, h2⟩ := gE_ok h1
  cases h2; rfl
def run45 {R : Type} : SF R := ⟨pa45, sr45, fun ls K => (gI (fun a0 => gL [.int .i64] (fun a1 => gL [.int .i64] (fun a2 => gI (fun a3 => gI (fun a4 => gI (fun a5 => gI (fun a6 => gI (fun a7 => gI (fun a8 => gI (fun a9 => gI (fun a10 => gI (fun a11 => gI (fun a12 => gI (fun a13 => gI (fun a14 => gI (fun a15 => gI (fun a16 => gI (fun a17 => gI (fun a18 => gI (fun a19 => gE (Option.bind (F45 FUEL a0 a1 a2 a3 a4 a5 a6 a7 a8 a9 a10 a11 a12 a13 a14 a15 a16 a17 a18 a19) fun y => K (ofB45 y))))))))))))))))))))))) ls⟩
def sh45_0 : Shape := ⟨[(38, [])], []⟩
def g45_0 (n : Nat) : List Leaf → Option (Bool) := gE (F45_c0 n )
def sh45_1 : Shape := ⟨[(20, [(0, .yield 7), (11, .agg [.i .i64, .i .i64, .i .i64, .i .i64, .i .i64, .i .i64, .i .i64, .i .i64, .i .i64, .i .i64, .i .i64, .i .i64, .i .i64, .i .i64, .i .i64, .i .i64]), (12, .i .i64)]), (38, [(1, .ref 0 0)])], [.cells [.i .i64, .sl false [.int .i64], .sl false [.int .i64], .i .i64, .i .i64, .i .i64, .i .i64, .i .i64, .i .i64, .i .i64, .i .i64, .i .i64, .i .i64, .i .i64, .i .i64, .i .i64, .i .i64, .i .i64, .i .i64, .i .i64]]⟩
def g45_1 (n : Nat) : List Leaf → Option (Bool) := gI (fun x0 => gI (fun x1 => gI (fun x2 => gI (fun x3 => gI (fun x4 => gI (fun x5 => gI (fun x6 => gI (fun x7 => gI (fun x8 => gI (fun x9 => gI (fun x10 => gI (fun x11 => gI (fun x12 => gI (fun x13 => gI (fun x14 => gI (fun x15 => gI (fun x16 => gI (fun x17 => gL [.int .i64] (fun x18 => gL [.int .i64] (fun x19 => gI (fun x20 => gI (fun x21 => gI (fun x22 => gI (fun x23 => gI (fun x24 => gI (fun x25 => gI (fun x26 => gI (fun x27 => gI (fun x28 => gI (fun x29 => gI (fun x30 => gI (fun x31 => gI (fun x32 => gI (fun x33 => gI (fun x34 => gI (fun x35 => gI (fun x36 => gE (F45_c1 n x0 x1 x2 x3 x4 x5 x6 x7 x8 x9 x10 x11 x12 x13 x14 x15 x16 x17 x18 x19 x20 x21 x22 x23 x24 x25 x26 x27 x28 x29 x30 x31 x32 x33 x34 x35 x36))))))))))))))))))))))))))))))))))))))
def cuts45 : List (List Nat × Cut (Bool)) := [([1, 10], ⟨sh45_0, g45_0⟩), ([1, 0, 1, 0, 1, 0, 198, 1, 1, 0], ⟨sh45_1, g45_1⟩)]
noncomputable def X45 : Px (Bool) := ⟨T, Try.prog, lkF [(71, run71), (72, run72), (73, run73)], mkCuts 45 cuts45, altN, altN_ok⟩
theorem e45_0 (n : Nat) : stepF X45 8 45 (endK sr45 toB45) [1, 10] sh45_0 n [] = F45_c0 (n + 1)  := by kernel_rfl
theorem e45_1 (n : Nat) (x0 : Int) (x1 : Int) (x2 : Int) (x3 : Int) (x4 : Int) (x5 : Int) (x6 : Int) (x7 : Int) (x8 : Int) (x9 : Int) (x10 : Int) (x11 : Int) (x12 : Int) (x13 : Int) (x14 : Int) (x15 : Int) (x16 : Int) (x17 : Int) (x18 : List (Int)) (x19 : List (Int)) (x20 : Int) (x21 : Int) (x22 : Int) (x23 : Int) (x24 : Int) (x25 : Int) (x26 : Int) (x27 : Int) (x28 : Int) (x29 : Int) (x30 : Int) (x31 : Int) (x32 : Int) (x33 : Int) (x34 : Int) (x35 : Int) (x36 : Int) : stepF X45 8 45 (endK sr45 toB45) [1, 0, 1, 0, 1, 0, 198, 1, 1, 0] sh45_1 n [.i x0, .i x1, .i x2, .i x3, .i x4, .i x5, .i x6, .i x7, .i x8, .i x9, .i x10, .i x11, .i x12, .i x13, .i x14, .i x15, .i x16, .i x17, .l [.int .i64] x18, .l [.int .i64] x19, .i x20, .i x21, .i x22, .i x23, .i x24, .i x25, .i x26, .i x27, .i x28, .i x29, .i x30, .i x31, .i x32, .i x33, .i x34, .i x35, .i x36] = F45_c1 (n + 1) x0 x1 x2 x3 x4 x5 x6 x7 x8 x9 x10 x11 x12 x13 x14 x15 x16 x17 x18 x19 x20 x21 x22 x23 x24 x25 x26 x27 x28 x29 x30 x31 x32 x33 x34 x35 x36 := by kernel_rfl
theorem e45 (n : Nat) (a0 : Int) (a1 : List (Int)) (a2 : List (Int)) (a3 : Int) (a4 : Int) (a5 : Int) (a6 : Int) (a7 : Int) (a8 : Int) (a9 : Int) (a10 : Int) (a11 : Int) (a12 : Int) (a13 : Int) (a14 : Int) (a15 : Int) (a16 : Int) (a17 : Int) (a18 : Int) (a19 : Int) : entF X45 8 45 pa45 (endK sr45 toB45) n [.i a0, .l [.int .i64] a1, .l [.int .i64] a2, .i a3, .i a4, .i a5, .i a6, .i a7, .i a8, .i a9, .i a10, .i a11, .i a12, .i a13, .i a14, .i a15, .i a16, .i a17, .i a18, .i a19] = F45 n a0 a1 a2 a3 a4 a5 a6 a7 a8 a9 a10 a11 a12 a13 a14 a15 a16 a17 a18 a19 := by kernel_rfl
theorem c45_0 : CutOK X45 8 45 (endK sr45 toB45) [1, 10] ⟨sh45_0, g45_0⟩ := by
  refine ⟨fun ls => ?_, fun n ls r h => ?_⟩
  · cases h : g45_0 0 ls with
    | none => exact h
    | some r =>
      unfold g45_0 at h; obtain ⟨rfl, h1⟩ := gE_ok h; simp only [F45_c0] at h1; cases h1
  · replace h : g45_0 (n + 1) ls = some r := h
    unfold g45_0 at h
    obtain ⟨rfl, h1⟩ := gE_ok h
    exact (e45_0 n ).trans h1
theorem c45_1 : CutOK X45 8 45 (endK sr45 toB45) [1, 0, 1, 0, 1, 0, 198, 1, 1, 0] ⟨sh45_1, g45_1⟩ := by
  refine ⟨fun ls => ?_, fun n ls r h => ?_⟩
  · cases h : g45_1 0 ls with
    | none => exact h
    | some r =>
      unfold g45_1 at h; obtain ⟨x0, ls1, rfl, h1⟩ := gI_ok h; obtain ⟨x1, ls2, rfl, h2⟩ := gI_ok h1; obtain ⟨x2, ls3, rfl, h3⟩ := gI_ok h2; obtain ⟨x3, ls4, rfl, h4⟩ := gI_ok h3; obtain ⟨x4, ls5, rfl, h5⟩ := gI_ok h4; obtain ⟨x5, ls6, rfl, h6⟩ := gI_ok h5; obtain ⟨x6, ls7, rfl, h7⟩ := gI_ok h6; obtain ⟨x7, ls8, rfl, h8⟩ := gI_ok h7; obtain ⟨x8, ls9, rfl, h9⟩ := gI_ok h8; obtain ⟨x9, ls10, rfl, h10⟩ := gI_ok h9; obtain ⟨x10, ls11, rfl, h11⟩ := gI_ok h10; obtain ⟨x11, ls12, rfl, h12⟩ := gI_ok h11; obtain ⟨x12, ls13, rfl, h13⟩ := gI_ok h12; obtain ⟨x13, ls14, rfl, h14⟩ := gI_ok h13; obtain ⟨x14, ls15, rfl, h15⟩ := gI_ok h14; obtain ⟨x15, ls16, rfl, h16⟩ := gI_ok h15; obtain ⟨x16, ls17, rfl, h17⟩ := gI_ok h16; obtain ⟨x17, ls18, rfl, h18⟩ := gI_ok h17; obtain ⟨x18, ls19, rfl, h19⟩ := gL_ok h18; obtain ⟨x19, ls20, rfl, h20⟩ := gL_ok h19; obtain ⟨x20, ls21, rfl, h21⟩ := gI_ok h20; obtain ⟨x21, ls22, rfl, h22⟩ := gI_ok h21; obtain ⟨x22, ls23, rfl, h23⟩ := gI_ok h22; obtain ⟨x23, ls24, rfl, h24⟩ := gI_ok h23; obtain ⟨x24, ls25, rfl, h25⟩ := gI_ok h24; obtain ⟨x25, ls26, rfl, h26⟩ := gI_ok h25; obtain ⟨x26, ls27, rfl, h27⟩ := gI_ok h26; obtain ⟨x27, ls28, rfl, h28⟩ := gI_ok h27; obtain ⟨x28, ls29, rfl, h29⟩ := gI_ok h28; obtain ⟨x29, ls30, rfl, h30⟩ := gI_ok h29; obtain ⟨x30, ls31, rfl, h31⟩ := gI_ok h30; obtain ⟨x31, ls32, rfl, h32⟩ := gI_ok h31; obtain ⟨x32, ls33, rfl, h33⟩ := gI_ok h32; obtain ⟨x33, ls34, rfl, h34⟩ := gI_ok h33; obtain ⟨x34, ls35, rfl, h35⟩ := gI_ok h34; obtain ⟨x35, ls36, rfl, h36⟩ := gI_ok h35; obtain ⟨x36, ls37, rfl, h37⟩ := gI_ok h36; obtain ⟨rfl, h38⟩ := gE_ok h37; simp only [F45_c1] at h38; cases h38
  · replace h : g45_1 (n + 1) ls = some r := h
    unfold g45_1 at h
    obtain ⟨x0, ls1, rfl, h1⟩ := gI_ok h; obtain ⟨x1, ls2, rfl, h2⟩ := gI_ok h1; obtain ⟨x2, ls3, rfl, h3⟩ := gI_ok h2; obtain ⟨x3, ls4, rfl, h4⟩ := gI_ok h3; obtain ⟨x4, ls5, rfl, h5⟩ := gI_ok h4; obtain ⟨x5, ls6, rfl, h6⟩ := gI_ok h5; obtain ⟨x6, ls7, rfl, h7⟩ := gI_ok h6; obtain ⟨x7, ls8, rfl, h8⟩ := gI_ok h7; obtain ⟨x8, ls9, rfl, h9⟩ := gI_ok h8; obtain ⟨x9, ls10, rfl, h10⟩ := gI_ok h9; obtain ⟨x10, ls11, rfl, h11⟩ := gI_ok h10; obtain ⟨x11, ls12, rfl, h12⟩ := gI_ok h11; obtain ⟨x12, ls13, rfl, h13⟩ := gI_ok h12; obtain ⟨x13, ls14, rfl, h14⟩ := gI_ok h13; obtain ⟨x14, ls15, rfl, h15⟩ := gI_ok h14; obtain ⟨x15, ls16, rfl, h16⟩ := gI_ok h15; obtain ⟨x16, ls17, rfl, h17⟩ := gI_ok h16; obtain ⟨x17, ls18, rfl, h18⟩ := gI_ok h17; obtain ⟨x18, ls19, rfl, h19⟩ := gL_ok h18; obtain ⟨x19, ls20, rfl, h20⟩ := gL_ok h19; obtain ⟨x20, ls21, rfl, h21⟩ := gI_ok h20; obtain ⟨x21, ls22, rfl, h22⟩ := gI_ok h21; obtain ⟨x22, ls23, rfl, h23⟩ := gI_ok h22; obtain ⟨x23, ls24, rfl, h24⟩ := gI_ok h23; obtain ⟨x24, ls25, rfl, h25⟩ := gI_ok h24; obtain ⟨x25, ls26, rfl, h26⟩ := gI_ok h25; obtain ⟨x26, ls27, rfl, h27⟩ := gI_ok h26; obtain ⟨x27, ls28, rfl, h28⟩ := gI_ok h27; obtain ⟨x28, ls29, rfl, h29⟩ := gI_ok h28; obtain ⟨x29, ls30, rfl, h30⟩ := gI_ok h29; obtain ⟨x30, ls31, rfl, h31⟩ := gI_ok h30; obtain ⟨x31, ls32, rfl, h32⟩ := gI_ok h31; obtain ⟨x32, ls33, rfl, h33⟩ := gI_ok h32; obtain ⟨x33, ls34, rfl, h34⟩ := gI_ok h33; obtain ⟨x34, ls35, rfl, h35⟩ := gI_ok h34; obtain ⟨x35, ls36, rfl, h36⟩ := gI_ok h35; obtain ⟨x36, ls37, rfl, h37⟩ := gI_ok h36; obtain ⟨rfl, h38⟩ := gE_ok h37
    exact (e45_1 n x0 x1 x2 x3 x4 x5 x6 x7 x8 x9 x10 x11 x12 x13 x14 x15 x16 x17 x18 x19 x20 x21 x22 x23 x24 x25 x26 x27 x28 x29 x30 x31 x32 x33 x34 x35 x36).trans h38
theorem sp45 {n : Nat} (a0 : Int) (a1 : List (Int)) (a2 : List (Int)) (a3 : Int) (a4 : Int) (a5 : Int) (a6 : Int) (a7 : Int) (a8 : Int) (a9 : Int) (a10 : Int) (a11 : Int) (a12 : Int) (a13 : Int) (a14 : Int) (a15 : Int) (a16 : Int) (a17 : Int) (a18 : Int) (a19 : Int) {y : Bool} (h : F45 n a0 a1 a2 a3 a4 a5 a6 a7 a8 a9 a10 a11 a12 a13 a14 a15 a16 a17 a18 a19 = some y) : SpecF T Try.prog 45 pa45 [.i a0, .l [.int .i64] a1, .l [.int .i64] a2, .i a3, .i a4, .i a5, .i a6, .i a7, .i a8, .i a9, .i a10, .i a11, .i a12, .i a13, .i a14, .i a15, .i a16, .i a17, .i a18, .i a19] sr45 (ofB45 y) :=
  fun_ok (X := X45) tok (sfok_of ⟨ok71, ok72, ok73, trivial⟩) mixed 45 8 cuts45 rfl toB45_ok ⟨c45_0, c45_1, trivial⟩ ((e45 n a0 a1 a2 a3 a4 a5 a6 a7 a8 a9 a10 a11 a12 a13 a14 a15 a16 a17 a18 a19).trans h)
theorem ok45 {R : Type} : SFone T Try.prog 45 (run45 : SF R) := by
  intro ls K r h
  simp only [run45] at h
  obtain ⟨a0, ls1, rfl, h1⟩ := gI_ok h; obtain ⟨a1, ls2, rfl, h2⟩ := gL_ok h1; obtain ⟨a2, ls3, rfl, h3⟩ := gL_ok h2; obtain ⟨a3, ls4, rfl, h4⟩ := gI_ok h3; obtain ⟨a4, ls5, rfl, h5⟩ := gI_ok h4; obtain ⟨a5, ls6, rfl, h6⟩ := gI_ok h5; obtain ⟨a6, ls7, rfl, h7⟩ := gI_ok h6; obtain ⟨a7, ls8, rfl, h8⟩ := gI_ok h7; obtain ⟨a8, ls9, rfl, h9⟩ := gI_ok h8; obtain ⟨a9, ls10, rfl, h10⟩ := gI_ok h9; obtain ⟨a10, ls11, rfl, h11⟩ := gI_ok h10; obtain ⟨a11, ls12, rfl, h12⟩ := gI_ok h11; obtain ⟨a12, ls13, rfl, h13⟩ := gI_ok h12; obtain ⟨a13, ls14, rfl, h14⟩ := gI_ok h13; obtain ⟨a14, ls15, rfl, h15⟩ := gI_ok h14; obtain ⟨a15, ls16, rfl, h16⟩ := gI_ok h15; obtain ⟨a16, ls17, rfl, h17⟩ := gI_ok h16; obtain ⟨a17, ls18, rfl, h18⟩ := gI_ok h17; obtain ⟨a18, ls19, rfl, h19⟩ := gI_ok h18; obtain ⟨a19, ls20, rfl, h20⟩ := gI_ok h19; obtain ⟨rfl, h21⟩ := gE_ok h20
  obtain ⟨y, k1, k2⟩ := Option.bind_eq_some_iff.1 h21
  exact ⟨_, k2, sp45 a0 a1 a2 a3 a4 a5 a6 a7 a8 a9 a10 a11 a12 a13 a14 a15 a16 a17 a18 a19 k1⟩

/-! ### garland/list.First -/
def pa75 : List VP := [.sl false [.int .i64]]
def sr75 : RShape := ⟨.tup [.i .i64, .b], [], none⟩
def toB75 : List Leaf → Option (Int × Bool) := gI (fun b0 => gB (fun b1 => gE (some (b0, b1))))
def ofB75 (y : Int × Bool) : List Leaf := [.i y.1, .b y.2]
theorem toB75_ok : ∀ ls b, toB75 ls = some b → ls = ofB75 b := by
  intro ls b h
  unfold toB75 at h
  obtain ⟨b0, ls1, rfl, h1⟩ := gI_ok h; obtain ⟨b1, ls2, rfl, h2⟩ := gB_ok h1; obtain ⟨rfl, h3⟩ := gE_ok h2
  cases h3; rfl
def run75 {R : Type} : SF R := ⟨pa75, sr75, fun ls K => (gL [.int .i64] (fun a0 => gE (Option.bind (F75 FUEL a0) fun y => K (ofB75 y)))) ls⟩
def sh75_0 : Shape := ⟨[(16, [(0, .yield 5), (5, .sl false [.int .i64]), (6, .i .i64), (7, .i .i64)]), (9, [(2, .ref 0 0), (3, .ref 1 0)])], [.cells [.i .i64], .cells [.b]]⟩
def g75_0 (n : Nat) : List Leaf → Option (Int × Bool) := gL [.int .i64] (fun x0 => gI (fun x1 => gI (fun x2 => gI (fun x3 => gB (fun x4 => gE (F75_c0 n x0 x1 x2 x3 x4))))))
def cuts75 : List (List Nat × Cut (Int × Bool)) := [([1, 0, 1, 0, 214, 1, 0], ⟨sh75_0, g75_0⟩)]
noncomputable def X75 : Px (Int × Bool) := ⟨T, Try.prog, lkF [], mkCuts 75 cuts75, altN, altN_ok⟩
theorem e75_0 (n : Nat) (x0 : List (Int)) (x1 : Int) (x2 : Int) (x3 : Int) (x4 : Bool) : stepF X75 8 75 (endK sr75 toB75) [1, 0, 1, 0, 214, 1, 0] sh75_0 n [.l [.int .i64] x0, .i x1, .i x2, .i x3, .b x4] = F75_c0 (n + 1) x0 x1 x2 x3 x4 := by kernel_rfl
theorem e75 (n : Nat) (a0 : List (Int)) : entF X75 8 75 pa75 (endK sr75 toB75) n [.l [.int .i64] a0] = F75 n a0 := by kernel_rfl
theorem c75_0 : CutOK X75 8 75 (endK sr75 toB75) [1, 0, 1, 0, 214, 1, 0] ⟨sh75_0, g75_0⟩ := by
  refine ⟨fun ls => ?_, fun n ls r h => ?_⟩
  · cases h : g75_0 0 ls with
    | none => exact h
    | some r =>
      unfold g75_0 at h; obtain ⟨x0, ls1, rfl, h1⟩ := gL_ok h; obtain ⟨x1, ls2, rfl, h2⟩ := gI_ok h1; obtain ⟨x2, ls3, rfl, h3⟩ := gI_ok h2; obtain ⟨x3, ls4, rfl, h4⟩ := gI_ok h3; obtain ⟨x4, ls5, rfl, h5⟩ := gB_ok h4; obtain ⟨rfl, h6⟩ := gE_ok h5; simp only [F75_c0] at h6; cases h6
  · replace h : g75_0 (n + 1) ls = some r := h
    unfold g75_0 at h
    obtain ⟨x0, ls1, rfl, h1⟩ := gL_ok h; obtain ⟨x1, ls2, rfl, h2⟩ := gI_ok h1; obtain ⟨x2, ls3, rfl, h3⟩ := gI_ok h2; obtain ⟨x3, ls4, rfl, h4⟩ := gI_ok h3; obtain ⟨x4, ls5, rfl, h5⟩ := gB_ok h4; obtain ⟨rfl, h6⟩ := gE_ok h5
    exact (e75_0 n x0 x1 x2 x3 x4).trans h6
theorem sp75 {n : Nat} (a0 : List (Int)) {y : Int × Bool} (h : F75 n a0 = some y) : SpecF T Try.prog 75 pa75 [.l [.int .i64] a0] sr75 (ofB75 y) :=
  fun_ok (X := X75) tok (sfok_of trivial) mixed 75 8 cuts75 rfl toB75_ok ⟨c75_0, trivial⟩ ((e75 n a0).trans h)
theorem ok75 {R : Type} : SFone T Try.prog 75 (run75 : SF R) := by
  intro ls K r h
  simp only [run75] at h
  obtain ⟨a0, ls1, rfl, h1⟩ := gL_ok h; obtain ⟨rfl, h2⟩ := gE_ok h1
  obtain ⟨y, k1, k2⟩ := Option.bind_eq_some_iff.1 h2
  exact ⟨_, k2, sp75 a0 k1⟩

/-! ### garland/view.anchor -/
def pa76 : List VP := [.agg [.i .i64, .sl false [.int .i64], .sl false [.int .i64], .i .i64, .i .i64, .i .i64, .i .i64, .i .i64, .i .i64, .i .i64, .i .i64, .i .i64, .i .i64, .i .i64, .i .i64, .i .i64, .i .i64, .i .i64, .i .i64, .i .i64]]
def sr76 : RShape := ⟨.i .i64, [], none⟩
def toB76 : List Leaf → Option (Int) := gI (fun b0 => gE (some b0))
def ofB76 (y : Int) : List Leaf := [.i y]
theorem toB76_ok : ∀ ls b, toB76 ls = some b → ls = ofB76 b := by
  intro ls b h
  unfold toB76 at h
  obtain ⟨b0, ls1, rfl, h1⟩ := gI_ok h; obtain ⟨rfl, h2⟩ := gE_ok h1
  cases h2; rfl
def run76 {R : Type} : SF R := ⟨pa76, sr76, fun ls K => (gI (fun a0 => gL [.int .i64] (fun a1 => gL [.int .i64] (fun a2 => gI (fun a3 => gI (fun a4 => gI (fun a5 => gI (fun a6 => gI (fun a7 => gI (fun a8 => gI (fun a9 => gI (fun a10 => gI (fun a11 => gI (fun a12 => gI (fun a13 => gI (fun a14 => gI (fun a15 => gI (fun a16 => gI (fun a17 => gI (fun a18 => gI (fun a19 => gE (Option.bind (F76 FUEL a0 a1 a2 a3 a4 a5 a6 a7 a8 a9 a10 a11 a12 a13 a14 a15 a16 a17 a18 a19) fun y => K (ofB76 y))))))))))))))))))))))) ls⟩
def sh76_0 : Shape := ⟨[(35, [(1, .ref 0 0), (3, .i .i64), (7, .sl false [.int .i64]), (8, .i .i64), (9, .i .i64)])], [.cells [.i .i64, .sl false [.int .i64], .sl false [.int .i64], .i .i64, .i .i64, .i .i64, .i .i64, .i .i64, .i .i64, .i .i64, .i .i64, .i .i64, .i .i64, .i .i64, .i .i64, .i .i64, .i .i64, .i .i64, .i .i64, .i .i64]]⟩
def g76_0 (n : Nat) : List Leaf → Option (Int) := gI (fun x0 => gL [.int .i64] (fun x1 => gI (fun x2 => gI (fun x3 => gI (fun x4 => gL [.int .i64] (fun x5 => gL [.int .i64] (fun x6 => gI (fun x7 => gI (fun x8 => gI (fun x9 => gI (fun x10 => gI (fun x11 => gI (fun x12 => gI (fun x13 => gI (fun x14 => gI (fun x15 => gI (fun x16 => gI (fun x17 => gI (fun x18 => gI (fun x19 => gI (fun x20 => gI (fun x21 => gI (fun x22 => gI (fun x23 => gE (F76_c0 n x0 x1 x2 x3 x4 x5 x6 x7 x8 x9 x10 x11 x12 x13 x14 x15 x16 x17 x18 x19 x20 x21 x22 x23)))))))))))))))))))))))))
def cuts76 : List (List Nat × Cut (Int)) := [([1, 1, 0, 1, 0], ⟨sh76_0, g76_0⟩)]
noncomputable def X76 : Px (Int) := ⟨T, Try.prog, lkF [(79, run79)], mkCuts 76 cuts76, altN, altN_ok⟩
theorem e76_0 (n : Nat) (x0 : Int) (x1 : List (Int)) (x2 : Int) (x3 : Int) (x4 : Int) (x5 : List (Int)) (x6 : List (Int)) (x7 : Int) (x8 : Int) (x9 : Int) (x10 : Int) (x11 : Int) (x12 : Int) (x13 : Int) (x14 : Int) (x15 : Int) (x16 : Int) (x17 : Int) (x18 : Int) (x19 : Int) (x20 : Int) (x21 : Int) (x22 : Int) (x23 : Int) : stepF X76 8 76 (endK sr76 toB76) [1, 1, 0, 1, 0] sh76_0 n [.i x0, .l [.int .i64] x1, .i x2, .i x3, .i x4, .l [.int .i64] x5, .l [.int .i64] x6, .i x7, .i x8, .i x9, .i x10, .i x11, .i x12, .i x13, .i x14, .i x15, .i x16, .i x17, .i x18, .i x19, .i x20, .i x21, .i x22, .i x23] = F76_c0 (n + 1) x0 x1 x2 x3 x4 x5 x6 x7 x8 x9 x10 x11 x12 x13 x14 x15 x16 x17 x18 x19 x20 x21 x22 x23 := by kernel_rfl
theorem e76 (n : Nat) (a0 : Int) (a1 : List (Int)) (a2 : List (Int)) (a3 : Int) (a4 : Int) (a5 : Int) (a6 : Int) (a7 : Int) (a8 : Int) (a9 : Int) (a10 : Int) (a11 : Int) (a12 : Int) (a13 : Int) (a14 : Int) (a15 : Int) (a16 : Int) (a17 : Int) (a18 : Int) (a19 : Int) : entF X76 8 76 pa76 (endK sr76 toB76) n [.i a0, .l [.int .i64] a1, .l [.int .i64] a2, .i a3, .i a4, .i a5, .i a6, .i a7, .i a8, .i a9, .i a10, .i a11, .i a12, .i a13, .i a14, .i a15, .i a16, .i a17, .i a18, .i a19] = F76 n a0 a1 a2 a3 a4 a5 a6 a7 a8 a9 a10 a11 a12 a13 a14 a15 a16 a17 a18 a19 := by kernel_rfl
theorem c76_0 : CutOK X76 8 76 (endK sr76 toB76) [1, 1, 0, 1, 0] ⟨sh76_0, g76_0⟩ := by
  refine ⟨fun ls => ?_, fun n ls r h => ?_⟩
  · cases h : g76_0 0 ls with
    | none => exact h
    | some r =>
      unfold g76_0 at h; obtain ⟨x0, ls1, rfl, h1⟩ := gI_ok h; obtain ⟨x1, ls2, rfl, h2⟩ := gL_ok h1; obtain ⟨x2, ls3, rfl, h3⟩ := gI_ok h2; obtain ⟨x3, ls4, rfl, h4⟩ := gI_ok h3; obtain ⟨x4, ls5, rfl, h5⟩ := gI_ok h4; obtain ⟨x5, ls6, rfl, h6⟩ := gL_ok h5; obtain ⟨x6, ls7, rfl, h7⟩ := gL_ok h6; obtain ⟨x7, ls8, rfl, h8⟩ := gI_ok h7; obtain ⟨x8, ls9, rfl, h9⟩ := gI_ok h8; obtain ⟨x9, ls10, rfl, h10⟩ := gI_ok h9; obtain ⟨x10, ls11, rfl, h11⟩ := gI_ok h10; obtain ⟨x11, ls12, rfl, h12⟩ := gI_ok h11; obtain ⟨x12, ls13, rfl, h13⟩ := gI_ok h12; obtain ⟨x13, ls14, rfl, h14⟩ := gI_ok h13; obtain ⟨x14, ls15, rfl, h15⟩ := gI_ok h14; obtain ⟨x15, ls16, rfl, h16⟩ := gI_ok h15; obtain ⟨x16, ls17, rfl, h17⟩ := gI_ok h16; obtain ⟨x17, ls18, rfl, h18⟩ := gI_ok h17; obtain ⟨x18, ls19, rfl, h19⟩ := gI_ok h18; obtain ⟨x19, ls20, rfl, h20⟩ := gI_ok h19; obtain ⟨x20, ls21, rfl, h21⟩ := gI_ok h20; obtain ⟨x21, ls22, rfl, h22⟩ := gI_ok h21; obtain ⟨x22, ls23, rfl, h23⟩ := gI_ok h22; obtain ⟨x23, ls24, rfl, h24⟩ := gI_ok h23; obtain ⟨rfl, h25⟩ := gE_ok h24; simp only [F76_c0] at h25; cases h25
  · replace h : g76_0 (n + 1) ls = some r := h
    unfold g76_0 at h
    obtain ⟨x0, ls1, rfl, h1⟩ := gI_ok h; obtain ⟨x1, ls2, rfl, h2⟩ := gL_ok h1; obtain ⟨x2, ls3, rfl, h3⟩ := gI_ok h2; obtain ⟨x3, ls4, rfl, h4⟩ := gI_ok h3; obtain ⟨x4, ls5, rfl, h5⟩ := gI_ok h4; obtain ⟨x5, ls6, rfl, h6⟩ := gL_ok h5; obtain ⟨x6, ls7, rfl, h7⟩ := gL_ok h6; obtain ⟨x7, ls8, rfl, h8⟩ := gI_ok h7; obtain ⟨x8, ls9, rfl, h9⟩ := gI_ok h8; obtain ⟨x9, ls10, rfl, h10⟩ := gI_ok h9; obtain ⟨x10, ls11, rfl, h11⟩ := gI_ok h10; obtain ⟨x11, ls12, rfl, h12⟩ := gI_ok h11; obtain ⟨x12, ls13, rfl, h13⟩ := gI_ok h12; obtain ⟨x13, ls14, rfl, h14⟩ := gI_ok h13; obtain ⟨x14, ls15, rfl, h15⟩ := gI_ok h14; obtain ⟨x15, ls16, rfl, h16⟩ := gI_ok h15; obtain ⟨x16, ls17, rfl, h17⟩ := gI_ok h16; obtain ⟨x17, ls18, rfl, h18⟩ := gI_ok h17; obtain ⟨x18, ls19, rfl, h19⟩ := gI_ok h18; obtain ⟨x19, ls20, rfl, h20⟩ := gI_ok h19; obtain ⟨x20, ls21, rfl, h21⟩ := gI_ok h20; obtain ⟨x21, ls22, rfl, h22⟩ := gI_ok h21; obtain ⟨x22, ls23, rfl, h23⟩ := gI_ok h22; obtain ⟨x23, ls24, rfl, h24⟩ := gI_ok h23; obtain ⟨rfl, h25⟩ := gE_ok h24
    exact (e76_0 n x0 x1 x2 x3 x4 x5 x6 x7 x8 x9 x10 x11 x12 x13 x14 x15 x16 x17 x18 x19 x20 x21 x22 x23).trans h25
theorem sp76 {n : Nat} (a0 : Int) (a1 : List (Int)) (a2 : List (Int)) (a3 : Int) (a4 : Int) (a5 : Int) (a6 : Int) (a7 : Int) (a8 : Int) (a9 : Int) (a10 : Int) (a11 : Int) (a12 : Int) (a13 : Int) (a14 : Int) (a15 : Int) (a16 : Int) (a17 : Int) (a18 : Int) (a19 : Int) {y : Int} (h : F76 n a0 a1 a2 a3 a4 a5 a6 a7 a8 a9 a10 a11 a12 a13 a14 a15 a16 a17 a18 a19 = some y) : SpecF T Try.prog 76 pa76 [.i a0, .l [.int .i64] a1, .l [.int .i64] a2, .i a3, .i a4, .i a5, .i a6, .i a7, .i a8, .i a9, .i a10, .i a11, .i a12, .i a13, .i a14, .i a15, .i a16, .i a17, .i a18, .i a19] sr76 (ofB76 y) :=
  fun_ok (X := X76) tok (sfok_of ⟨ok79, trivial⟩) mixed 76 8 cuts76 rfl toB76_ok ⟨c76_0, trivial⟩ ((e76 n a0 a1 a2 a3 a4 a5 a6 a7 a8 a9 a10 a11 a12 a13 a14 a15 a16 a17 a18 a19).trans h)
theorem ok76 {R : Type} : SFone T Try.prog 76 (run76 : SF R) := by
  intro ls K r h
  simp only [run76] at h
  obtain ⟨a0, ls1, rfl, h1⟩ := gI_ok h; obtain ⟨a1, ls2, rfl, h2⟩ := gL_ok h1; obtain ⟨a2, ls3, rfl, h3⟩ := gL_ok h2; obtain ⟨a3, ls4, rfl, h4⟩ := gI_ok h3; obtain ⟨a4, ls5, rfl, h5⟩ := gI_ok h4; obtain ⟨a5, ls6, rfl, h6⟩ := gI_ok h5; obtain ⟨a6, ls7, rfl, h7⟩ := gI_ok h6; obtain ⟨a7, ls8, rfl, h8⟩ := gI_ok h7; obtain ⟨a8, ls9, rfl, h9⟩ := gI_ok h8; obtain ⟨a9, ls10, rfl, h10⟩ := gI_ok h9; obtain ⟨a10, ls11, rfl, h11⟩ := gI_ok h10; obtain ⟨a11, ls12, rfl, h12⟩ := gI_ok h11; obtain ⟨a12, ls13, rfl, h13⟩ := gI_ok h12; obtain ⟨a13, ls14, rfl, h14⟩ := gI_ok h13; obtain ⟨a14, ls15, rfl, h15⟩ := gI_ok h14; obtain ⟨a15, ls16, rfl, h16⟩ := gI_ok h15; obtain ⟨a16, ls17, rfl, h17⟩ := gI_ok h16; obtain ⟨a17, ls18, rfl, h18⟩ := gI_ok h17; obtain ⟨a18, ls19, rfl, h19⟩ := gI_ok h18; obtain ⟨a19, ls20, rfl, h20⟩ := gI_ok h19; obtain ⟨rfl, h21⟩ := gE_ok h20
  obtain ⟨y, k1, k2⟩ := Option.bind_eq_some_iff.1 h21
  exact ⟨_, k2, sp76 a0 a1 a2 a3 a4 a5 a6 a7 a8 a9 a10 a11 a12 a13 a14 a15 a16 a17 a18 a19 k1⟩

/-! ### garland/view.First -/
def pa46 : List VP := [.agg [.i .i64, .sl false [.int .i64], .sl false [.int .i64], .i .i64, .i .i64, .i .i64, .i .i64, .i .i64, .i .i64, .i .i64, .i .i64, .i .i64, .i .i64, .i .i64, .i .i64, .i .i64, .i .i64, .i .i64, .i .i64, .i .i64]]
def sr46 : RShape := ⟨.i .i64, [], none⟩
def toB46 : List Leaf → Option (Int) := gI (fun b0 => gE (some b0))
def ofB46 (y : Int) : List Leaf := [.i y]
theorem toB46_ok : ∀ ls b, toB46 ls = some b → ls = ofB46 b := by
  intro ls b h
  unfold toB46 at h
  obtain ⟨b0, ls1, rfl, h1⟩ := gI_ok h; obtain ⟨rfl, h2⟩ := gE_ok h1
  cases h2; rfl
def run46 {R : Type} : SF R := ⟨pa46, sr46, fun ls K => (gI (fun a0 => gL [.int .i64] (fun a1 => gL [.int .i64] (fun a2 => gI (fun a3 => gI (fun a4 => gI (fun a5 => gI (fun a6 => gI (fun a7 => gI (fun a8 => gI (fun a9 => gI (fun a10 => gI (fun a11 => gI (fun a12 => gI (fun a13 => gI (fun a14 => gI (fun a15 => gI (fun a16 => gI (fun a17 => gI (fun a18 => gI (fun a19 => gE (Option.bind (F46 FUEL a0 a1 a2 a3 a4 a5 a6 a7 a8 a9 a10 a11 a12 a13 a14 a15 a16 a17 a18 a19) fun y => K (ofB46 y))))))))))))))))))))))) ls⟩
def cuts46 : List (List Nat × Cut (Int)) := []
noncomputable def X46 : Px (Int) := ⟨T, Try.prog, lkF [(45, run45), (75, run75), (76, run76)], mkCuts 46 cuts46, altN, altN_ok⟩
theorem e46 (n : Nat) (a0 : Int) (a1 : List (Int)) (a2 : List (Int)) (a3 : Int) (a4 : Int) (a5 : Int) (a6 : Int) (a7 : Int) (a8 : Int) (a9 : Int) (a10 : Int) (a11 : Int) (a12 : Int) (a13 : Int) (a14 : Int) (a15 : Int) (a16 : Int) (a17 : Int) (a18 : Int) (a19 : Int) : entF X46 8 46 pa46 (endK sr46 toB46) n [.i a0, .l [.int .i64] a1, .l [.int .i64] a2, .i a3, .i a4, .i a5, .i a6, .i a7, .i a8, .i a9, .i a10, .i a11, .i a12, .i a13, .i a14, .i a15, .i a16, .i a17, .i a18, .i a19] = F46 n a0 a1 a2 a3 a4 a5 a6 a7 a8 a9 a10 a11 a12 a13 a14 a15 a16 a17 a18 a19 := by kernel_rfl
theorem sp46 {n : Nat} (a0 : Int) (a1 : List (Int)) (a2 : List (Int)) (a3 : Int) (a4 : Int) (a5 : Int) (a6 : Int) (a7 : Int) (a8 : Int) (a9 : Int) (a10 : Int) (a11 : Int) (a12 : Int) (a13 : Int) (a14 : Int) (a15 : Int) (a16 : Int) (a17 : Int) (a18 : Int) (a19 : Int) {y : Int} (h : F46 n a0 a1 a2 a3 a4 a5 a6 a7 a8 a9 a10 a11 a12 a13 a14 a15 a16 a17 a18 a19 = some y) : SpecF T Try.prog 46 pa46 [.i a0, .l [.int .i64] a1, .l [.int .i64] a2, .i a3, .i a4, .i a5, .i a6, .i a7, .i a8, .i a9, .i a10, .i a11, .i a12, .i a13, .i a14, .i a15, .i a16, .i a17, .i a18, .i a19] sr46 (ofB46 y) :=
  fun_ok (X := X46) tok (sfok_of ⟨ok45, ok75, ok76, trivial⟩) mixed 46 8 cuts46 rfl toB46_ok trivial ((e46 n a0 a1 a2 a3 a4 a5 a6 a7 a8 a9 a10 a11 a12 a13 a14 a15 a16 a17 a18 a19).trans h)
theorem ok46 {R : Type} : SFone T Try.prog 46 (run46 : SF R) := by
  intro ls K r h
  simp only [run46] at h
  obtain ⟨a0, ls1, rfl, h1⟩ := gI_ok h; obtain ⟨a1, ls2, rfl, h2⟩ := gL_ok h1; obtain ⟨a2, ls3, rfl, h3⟩ := gL_ok h2; obtain ⟨a3, ls4, rfl, h4⟩ := gI_ok h3; obtain ⟨a4, ls5, rfl, h5⟩ := gI_ok h4; obtain ⟨a5, ls6, rfl, h6⟩ := gI_ok h5; obtain ⟨a6, ls7, rfl, h7⟩ := gI_ok h6; obtain ⟨a7, ls8, rfl, h8⟩ := gI_ok h7; obtain ⟨a8, ls9, rfl, h9⟩ := gI_ok h8; obtain ⟨a9, ls10, rfl, h10⟩ := gI_ok h9; obtain ⟨a10, ls11, rfl, h11⟩ := gI_ok h10; obtain ⟨a11, ls12, rfl, h12⟩ := gI_ok h11; obtain ⟨a12, ls13, rfl, h13⟩ := gI_ok h12; obtain ⟨a13, ls14, rfl, h14⟩ := gI_ok h13; obtain ⟨a14, ls15, rfl, h15⟩ := gI_ok h14; obtain ⟨a15, ls16, rfl, h16⟩ := gI_ok h15; obtain ⟨a16, ls17, rfl, h17⟩ := gI_ok h16; obtain ⟨a17, ls18, rfl, h18⟩ := gI_ok h17; obtain ⟨a18, ls19, rfl, h19⟩ := gI_ok h18; obtain ⟨a19, ls20, rfl, h20⟩ := gI_ok h19; obtain ⟨rfl, h21⟩ := gE_ok h20
  obtain ⟨y, k1, k2⟩ := Option.bind_eq_some_iff.1 h21
  exact ⟨_, k2, sp46 a0 a1 a2 a3 a4 a5 a6 a7 a8 a9 a10 a11 a12 a13 a14 a15 a16 a17 a18 a19 k1⟩

/-! ### garland/arc.In -/
def pa77 : List VP := [.i .i64, .i .i64, .i .i64]
def sr77 : RShape := ⟨.b, [], none⟩
def toB77 : List Leaf → Option (Bool) := gB (fun b0 => gE (some b0))
def ofB77 (y : Bool) : List Leaf := [.b y]
theorem toB77_ok : ∀ ls b, toB77 ls = some b → ls = ofB77 b := by
  intro ls b h
  unfold toB77 at h
  obtain ⟨b0, ls1, rfl, h1⟩ := gB_ok h; obtain ⟨rfl, h2⟩ := gE_ok h1
  cases h2; rfl
def run77 {R : Type} : SF R := ⟨pa77, sr77, fun ls K => (gI (fun a0 => gI (fun a1 => gI (fun a2 => gE (Option.bind (F77 FUEL a0 a1 a2) fun y => K (ofB77 y)))))) ls⟩
def cuts77 : List (List Nat × Cut (Bool)) := []
noncomputable def X77 : Px (Bool) := ⟨T, Try.prog, lkF [(79, run79)], mkCuts 77 cuts77, altN, altN_ok⟩
theorem e77 (n : Nat) (a0 : Int) (a1 : Int) (a2 : Int) : entF X77 8 77 pa77 (endK sr77 toB77) n [.i a0, .i a1, .i a2] = F77 n a0 a1 a2 := by kernel_rfl
theorem sp77 {n : Nat} (a0 : Int) (a1 : Int) (a2 : Int) {y : Bool} (h : F77 n a0 a1 a2 = some y) : SpecF T Try.prog 77 pa77 [.i a0, .i a1, .i a2] sr77 (ofB77 y) :=
  fun_ok (X := X77) tok (sfok_of ⟨ok79, trivial⟩) mixed 77 8 cuts77 rfl toB77_ok trivial ((e77 n a0 a1 a2).trans h)
theorem ok77 {R : Type} : SFone T Try.prog 77 (run77 : SF R) := by
  intro ls K r h
  simp only [run77] at h
  obtain ⟨a0, ls1, rfl, h1⟩ := gI_ok h; obtain ⟨a1, ls2, rfl, h2⟩ := gI_ok h1; obtain ⟨a2, ls3, rfl, h3⟩ := gI_ok h2; obtain ⟨rfl, h4⟩ := gE_ok h3
  obtain ⟨y, k1, k2⟩ := Option.bind_eq_some_iff.1 h4
  exact ⟨_, k2, sp77 a0 a1 a2 k1⟩

/-! ### garland/arc.UpTo -/
def pa47 : List VP := [.i .i64, .i .i64, .i .i64]
def sr47 : RShape := ⟨.b, [], none⟩
def toB47 : List Leaf → Option (Bool) := gB (fun b0 => gE (some b0))
def ofB47 (y : Bool) : List Leaf := [.b y]
theorem toB47_ok : ∀ ls b, toB47 ls = some b → ls = ofB47 b := by
  intro ls b h
  unfold toB47 at h
  obtain ⟨b0, ls1, rfl, h1⟩ := gB_ok h; obtain ⟨rfl, h2⟩ := gE_ok h1
  cases h2; rfl
def run47 {R : Type} : SF R := ⟨pa47, sr47, fun ls K => (gI (fun a0 => gI (fun a1 => gI (fun a2 => gE (Option.bind (F47 FUEL a0 a1 a2) fun y => K (ofB47 y)))))) ls⟩
def cuts47 : List (List Nat × Cut (Bool)) := []
noncomputable def X47 : Px (Bool) := ⟨T, Try.prog, lkF [(77, run77), (65, run65)], mkCuts 47 cuts47, altN, altN_ok⟩
theorem e47 (n : Nat) (a0 : Int) (a1 : Int) (a2 : Int) : entF X47 8 47 pa47 (endK sr47 toB47) n [.i a0, .i a1, .i a2] = F47 n a0 a1 a2 := by kernel_rfl
theorem sp47 {n : Nat} (a0 : Int) (a1 : Int) (a2 : Int) {y : Bool} (h : F47 n a0 a1 a2 = some y) : SpecF T Try.prog 47 pa47 [.i a0, .i a1, .i a2] sr47 (ofB47 y) :=
  fun_ok (X := X47) tok (sfok_of ⟨ok77, ok65, trivial⟩) mixed 47 8 cuts47 rfl toB47_ok trivial ((e47 n a0 a1 a2).trans h)
theorem ok47 {R : Type} : SFone T Try.prog 47 (run47 : SF R) := by
  intro ls K r h
  simp only [run47] at h
  obtain ⟨a0, ls1, rfl, h1⟩ := gI_ok h; obtain ⟨a1, ls2, rfl, h2⟩ := gI_ok h1; obtain ⟨a2, ls3, rfl, h3⟩ := gI_ok h2; obtain ⟨rfl, h4⟩ := gE_ok h3
  obtain ⟨y, k1, k2⟩ := Option.bind_eq_some_iff.1 h4
  exact ⟨_, k2, sp47 a0 a1 a2 k1⟩

/-! ### garland/hop.Next -/
def pa15 : List VP := [.agg [.i .i64, .sl false [.int .i64], .sl false [.int .i64], .i .i64, .i .i64, .i .i64, .i .i64, .i .i64, .i .i64, .i .i64, .i .i64, .i .i64, .i .i64, .i .i64, .i .i64, .i .i64, .i .i64, .i .i64, .i .i64, .i .i64], .i .i64, .b]
def sr15 : RShape := ⟨.tup [.i .i64, .b], [], none⟩
def toB15 : List Leaf → Option (Int × Bool) := gI (fun b0 => gB (fun b1 => gE (some (b0, b1))))
def ofB15 (y : Int × Bool) : List Leaf := [.i y.1, .b y.2]
theorem toB15_ok : ∀ ls b, toB15 ls = some b → ls = ofB15 b := by
  intro ls b h
  unfold toB15 at h
  obtain ⟨b0, ls1, rfl, h1⟩ := gI_ok h; obtain ⟨b1, ls2, rfl, h2⟩ := gB_ok h1; obtain ⟨rfl, h3⟩ := gE_ok h2
  cases h3; rfl
def run15 {R : Type} : SF R := ⟨pa15, sr15, fun ls K => (gI (fun a0 => gL [.int .i64] (fun a1 => gL [.int .i64] (fun a2 => gI (fun a3 => gI (fun a4 => gI (fun a5 => gI (fun a6 => gI (fun a7 => gI (fun a8 => gI (fun a9 => gI (fun a10 => gI (fun a11 => gI (fun a12 => gI (fun a13 => gI (fun a14 => gI (fun a15 => gI (fun a16 => gI (fun a17 => gI (fun a18 => gI (fun a19 => gI (fun a20 => gB (fun a21 => gE (Option.bind (F15 FUEL a0 a1 a2 a3 a4 a5 a6 a7 a8 a9 a10 a11 a12 a13 a14 a15 a16 a17 a18 a19 a20 a21) fun y => K (ofB15 y))))))))))))))))))))))))) ls⟩
def sh15_0 : Shape := ⟨[(38, [(0, .yield 10), (1, .ref 0 0), (13, .sl false [.int .i64]), (14, .i .i64), (15, .i .i64)]), (36, [(6, .ref 1 0), (8, .ref 2 0)])], [.cells [.i .i64, .sl false [.int .i64], .sl false [.int .i64], .i .i64, .i .i64, .i .i64, .i .i64, .i .i64, .i .i64, .i .i64, .i .i64, .i .i64, .i .i64, .i .i64, .i .i64, .i .i64, .i .i64, .i .i64, .i .i64, .i .i64], .cells [.i .i64], .cells [.clos 78 [.ref 3 0, .ref 4 0]], .cells [.i .i64], .cells [.i .i64]]⟩
def g15_0 (n : Nat) : List Leaf → Option (Int × Bool) := gL [.int .i64] (fun x0 => gI (fun x1 => gI (fun x2 => gI (fun x3 => gL [.int .i64] (fun x4 => gL [.int .i64] (fun x5 => gI (fun x6 => gI (fun x7 => gI (fun x8 => gI (fun x9 => gI (fun x10 => gI (fun x11 => gI (fun x12 => gI (fun x13 => gI (fun x14 => gI (fun x15 => gI (fun x16 => gI (fun x17 => gI (fun x18 => gI (fun x19 => gI (fun x20 => gI (fun x21 => gI (fun x22 => gI (fun x23 => gI (fun x24 => gI (fun x25 => gE (F15_c0 n x0 x1 x2 x3 x4 x5 x6 x7 x8 x9 x10 x11 x12 x13 x14 x15 x16 x17 x18 x19 x20 x21 x22 x23 x24 x25)))))))))))))))))))))))))))
def sh15_1 : Shape := ⟨[(38, [(0, .yield 10), (25, .agg [.i .i64, .i .i64, .i .i64, .i .i64, .i .i64, .i .i64, .i .i64, .i .i64, .i .i64, .i .i64, .i .i64, .i .i64, .i .i64, .i .i64, .i .i64, .i .i64]), (26, .i .i64)]), (36, [(6, .ref 0 0), (8, .ref 1 0)])], [.cells [.i .i64], .cells [.clos 78 [.ref 2 0, .ref 3 0]], .cells [.i .i64], .cells [.i .i64]]⟩
def g15_1 (n : Nat) : List Leaf → Option (Int × Bool) := gI (fun x0 => gI (fun x1 => gI (fun x2 => gI (fun x3 => gI (fun x4 => gI (fun x5 => gI (fun x6 => gI (fun x7 => gI (fun x8 => gI (fun x9 => gI (fun x10 => gI (fun x11 => gI (fun x12 => gI (fun x13 => gI (fun x14 => gI (fun x15 => gI (fun x16 => gI (fun x17 => gI (fun x18 => gI (fun x19 => gE (F15_c1 n x0 x1 x2 x3 x4 x5 x6 x7 x8 x9 x10 x11 x12 x13 x14 x15 x16 x17 x18 x19)))))))))))))))))))))
def cuts15 : List (List Nat × Cut (Int × Bool)) := [([1, 1, 1, 1, 1, 1, 0, 1, 0, 160, 1, 0, 1, 0], ⟨sh15_0, g15_0⟩), ([1, 1, 1, 1, 1, 1, 0, 1, 0, 160, 1, 1, 1, 0], ⟨sh15_1, g15_1⟩)]
noncomputable def X15 : Px (Int × Bool) := ⟨T, Try.prog, lkF [(45, run45), (46, run46), (47, run47), (77, run77), (79, run79)], mkCuts 15 cuts15, altN, altN_ok⟩
theorem e15_0 (n : Nat) (x0 : List (Int)) (x1 : Int) (x2 : Int) (x3 : Int) (x4 : List (Int)) (x5 : List (Int)) (x6 : Int) (x7 : Int) (x8 : Int) (x9 : Int) (x10 : Int) (x11 : Int) (x12 : Int) (x13 : Int) (x14 : Int) (x15 : Int) (x16 : Int) (x17 : Int) (x18 : Int) (x19 : Int) (x20 : Int) (x21 : Int) (x22 : Int) (x23 : Int) (x24 : Int) (x25 : Int) : stepF X15 8 15 (endK sr15 toB15) [1, 1, 1, 1, 1, 1, 0, 1, 0, 160, 1, 0, 1, 0] sh15_0 n [.l [.int .i64] x0, .i x1, .i x2, .i x3, .l [.int .i64] x4, .l [.int .i64] x5, .i x6, .i x7, .i x8, .i x9, .i x10, .i x11, .i x12, .i x13, .i x14, .i x15, .i x16, .i x17, .i x18, .i x19, .i x20, .i x21, .i x22, .i x23, .i x24, .i x25] = F15_c0 (n + 1) x0 x1 x2 x3 x4 x5 x6 x7 x8 x9 x10 x11 x12 x13 x14 x15 x16 x17 x18 x19 x20 x21 x22 x23 x24 x25 := by kernel_rfl
theorem e15_1 (n : Nat) (x0 : Int) (x1 : Int) (x2 : Int) (x3 : Int) (x4 : Int) (x5 : Int) (x6 : Int) (x7 : Int) (x8 : Int) (x9 : Int) (x10 : Int) (x11 : Int) (x12 : Int) (x13 : Int) (x14 : Int) (x15 : Int) (x16 : Int) (x17 : Int) (x18 : Int) (x19 : Int) : stepF X15 8 15 (endK sr15 toB15) [1, 1, 1, 1, 1, 1, 0, 1, 0, 160, 1, 1, 1, 0] sh15_1 n [.i x0, .i x1, .i x2, .i x3, .i x4, .i x5, .i x6, .i x7, .i x8, .i x9, .i x10, .i x11, .i x12, .i x13, .i x14, .i x15, .i x16, .i x17, .i x18, .i x19] = F15_c1 (n + 1) x0 x1 x2 x3 x4 x5 x6 x7 x8 x9 x10 x11 x12 x13 x14 x15 x16 x17 x18 x19 := by kernel_rfl
theorem e15 (n : Nat) (a0 : Int) (a1 : List (Int)) (a2 : List (Int)) (a3 : Int) (a4 : Int) (a5 : Int) (a6 : Int) (a7 : Int) (a8 : Int) (a9 : Int) (a10 : Int) (a11 : Int) (a12 : Int) (a13 : Int) (a14 : Int) (a15 : Int) (a16 : Int) (a17 : Int) (a18 : Int) (a19 : Int) (a20 : Int) (a21 : Bool) : entF X15 8 15 pa15 (endK sr15 toB15) n [.i a0, .l [.int .i64] a1, .l [.int .i64] a2, .i a3, .i a4, .i a5, .i a6, .i a7, .i a8, .i a9, .i a10, .i a11, .i a12, .i a13, .i a14, .i a15, .i a16, .i a17, .i a18, .i a19, .i a20, .b a21] = F15 n a0 a1 a2 a3 a4 a5 a6 a7 a8 a9 a10 a11 a12 a13 a14 a15 a16 a17 a18 a19 a20 a21 := by kernel_rfl
theorem c15_0 : CutOK X15 8 15 (endK sr15 toB15) [1, 1, 1, 1, 1, 1, 0, 1, 0, 160, 1, 0, 1, 0] ⟨sh15_0, g15_0⟩ := by
  refine ⟨fun ls => ?_, fun n ls r h => ?_⟩
  · cases h : g15_0 0 ls with
    | none => exact h
    | some r =>
      unfold g15_0 at h; obtain ⟨x0, ls1, rfl, h1⟩ := gL_ok h; obtain ⟨x1, ls2, rfl, h2⟩ := gI_ok h1; obtain ⟨x2, ls3, rfl, h3⟩ := gI_ok h2; obtain ⟨x3, ls4, rfl, h4⟩ := gI_ok h3; obtain ⟨x4, ls5, rfl, h5⟩ := gL_ok h4; obtain ⟨x5, ls6, rfl, h6⟩ := gL_ok h5; obtain ⟨x6, ls7, rfl, h7⟩ := gI_ok h6; obtain ⟨x7, ls8, rfl, h8⟩ := gI_ok h7; obtain ⟨x8, ls9, rfl, h9⟩ := gI_ok h8; obtain ⟨x9, ls10, rfl, h10⟩ := gI_ok h9; obtain ⟨x10, ls11, rfl, h11⟩ := gI_ok h10; obtain ⟨x11, ls12, rfl, h12⟩ := gI_ok h11; obtain ⟨x12, ls13, rfl, h13⟩ := gI_ok h12; obtain ⟨x13, ls14, rfl, h14⟩ := gI_ok h13; obtain ⟨x14, ls15, rfl, h15⟩ := gI_ok h14; obtain ⟨x15, ls16, rfl, h16⟩ := gI_ok h15; obtain ⟨x16, ls17, rfl, h17⟩ := gI_ok h16; obtain ⟨x17, ls18, rfl, h18⟩ := gI_ok h17; obtain ⟨x18, ls19, rfl, h19⟩ := gI_ok h18; obtain ⟨x19, ls20, rfl, h20⟩ := gI_ok h19; obtain ⟨x20, ls21, rfl, h21⟩ := gI_ok h20; obtain ⟨x21, ls22, rfl, h22⟩ := gI_ok h21; obtain ⟨x22, ls23, rfl, h23⟩ := gI_ok h22; obtain ⟨x23, ls24, rfl, h24⟩ := gI_ok h23; obtain ⟨x24, ls25, rfl, h25⟩ := gI_ok h24; obtain ⟨x25, ls26, rfl, h26⟩ := gI_ok h25; obtain ⟨rfl, h27⟩ := gE_ok h26; simp only [F15_c0] at h27; cases h27
  · replace h : g15_0 (n + 1) ls = some r := h
    unfold g15_0 at h
    obtain ⟨x0, ls1, rfl, h1⟩ := gL_ok h; obtain ⟨x1, ls2, rfl, h2⟩ := gI_ok h1; obtain ⟨x2, ls3, rfl, h3⟩ := gI_ok h2; obtain ⟨x3, ls4, rfl, h4⟩ := gI_ok h3; obtain ⟨x4, ls5, rfl, h5⟩ := gL_ok h4; obtain ⟨x5, ls6, rfl, h6⟩ := gL_ok h5; obtain ⟨x6, ls7, rfl, h7⟩ := gI_ok h6; obtain ⟨x7, ls8, rfl, h8⟩ := gI_ok h7; obtain ⟨x8, ls9, rfl, h9⟩ := gI_ok h8; obtain ⟨x9, ls10, rfl, h10⟩ := gI_ok h9; obtain ⟨x10, ls11, rfl, h11⟩ := gI_ok h10; obtain ⟨x11, ls12, rfl, h12⟩ := gI_ok h11; obtain ⟨x12, ls13, rfl, h13⟩ := gI_ok h12; obtain ⟨x13, ls14, rfl, h14⟩ := gI_ok h13; obtain ⟨x14, ls15, rfl, h15⟩ := gI_ok h14; obtain ⟨x15, ls16, rfl, h16⟩ := gI_ok h15; obtain ⟨x16, ls17, rfl, h17⟩ := gI_ok h16; obtain ⟨x17, ls18, rfl, h18⟩ := gI_ok h17; obtain ⟨x18, ls19, rfl, h19⟩ := gI_ok h18; obtain ⟨x19, ls20, rfl, h20⟩ := gI_ok h19; obtain ⟨x20, ls21, rfl, h21⟩ := gI_ok h20; obtain ⟨x21, ls22, rfl, h22⟩ := gI_ok h21; obtain ⟨x22, ls23, rfl, h23⟩ := gI_ok h22; obtain ⟨x23, ls24, rfl, h24⟩ := gI_ok h23; obtain ⟨x24, ls25, rfl, h25⟩ := gI_ok h24; obtain ⟨x25, ls26, rfl, h26⟩ := gI_ok h25; obtain ⟨rfl, h27⟩ := gE_ok h26
    exact (e15_0 n x0 x1 x2 x3 x4 x5 x6 x7 x8 x9 x10 x11 x12 x13 x14 x15 x16 x17 x18 x19 x20 x21 x22 x23 x24 x25).trans h27
theorem c15_1 : CutOK X15 8 15 (endK sr15 toB15) [1, 1, 1, 1, 1, 1, 0, 1, 0, 160, 1, 1, 1, 0] ⟨sh15_1, g15_1⟩ := by
  refine ⟨fun ls => ?_, fun n ls r h => ?_⟩
  · cases h : g15_1 0 ls with
    | none => exact h
    | some r =>
      unfold g15_1 at h; obtain ⟨x0, ls1, rfl, h1⟩ := gI_ok h; obtain ⟨x1, ls2, rfl, h2⟩ := gI_ok h1; obtain ⟨x2, ls3, rfl, h3⟩ := gI_ok h2; obtain ⟨x3, ls4, rfl, h4⟩ := gI_ok h3; obtain ⟨x4, ls5, rfl, h5⟩ := gI_ok h4; obtain ⟨x5, ls6, rfl, h6⟩ := gI_ok h5; obtain ⟨x6, ls7, rfl, h7⟩ := gI_ok h6; obtain ⟨x7, ls8, rfl, h8⟩ := gI_ok h7; obtain ⟨x8, ls9, rfl, h9⟩ := gI_ok h8; obtain ⟨x9, ls10, rfl, h10⟩ := gI_ok h9; obtain ⟨x10, ls11, rfl, h11⟩ := gI_ok h10; obtain ⟨x11, ls12, rfl, h12⟩ := gI_ok h11; obtain ⟨x12, ls13, rfl, h13⟩ := gI_ok h12; obtain ⟨x13, ls14, rfl, h14⟩ := gI_ok h13; obtain ⟨x14, ls15, rfl, h15⟩ := gI_ok h14; obtain ⟨x15, ls16, rfl, h16⟩ := gI_ok h15; obtain ⟨x16, ls17, rfl, h17⟩ := gI_ok h16; obtain ⟨x17, ls18, rfl, h18⟩ := gI_ok h17; obtain ⟨x18, ls19, rfl, h19⟩ := gI_ok h18; obtain ⟨x19, ls20, rfl, h20⟩ := gI_ok h19; obtain ⟨rfl, h21⟩ := gE_ok h20; simp only [F15_c1] at h21; cases h21
  · replace h : g15_1 (n + 1) ls = some r := h
    unfold g15_1 at h
    obtain ⟨x0, ls1, rfl, h1⟩ := gI_ok h; obtain ⟨x1, ls2, rfl, h2⟩ := gI_ok h1; obtain ⟨x2, ls3, rfl, h3⟩ := gI_ok h2; obtain ⟨x3, ls4, rfl, h4⟩ := gI_ok h3; obtain ⟨x4, ls5, rfl, h5⟩ := gI_ok h4; obtain ⟨x5, ls6, rfl, h6⟩ := gI_ok h5; obtain ⟨x6, ls7, rfl, h7⟩ := gI_ok h6; obtain ⟨x7, ls8, rfl, h8⟩ := gI_ok h7; obtain ⟨x8, ls9, rfl, h9⟩ := gI_ok h8; obtain ⟨x9, ls10, rfl, h10⟩ := gI_ok h9; obtain ⟨x10, ls11, rfl, h11⟩ := gI_ok h10; obtain ⟨x11, ls12, rfl, h12⟩ := gI_ok h11; obtain ⟨x12, ls13, rfl, h13⟩ := gI_ok h12; obtain ⟨x13, ls14, rfl, h14⟩ := gI_ok h13; obtain ⟨x14, ls15, rfl, h15⟩ := gI_ok h14; obtain ⟨x15, ls16, rfl, h16⟩ := gI_ok h15; obtain ⟨x16, ls17, rfl, h17⟩ := gI_ok h16; obtain ⟨x17, ls18, rfl, h18⟩ := gI_ok h17; obtain ⟨x18, ls19, rfl, h19⟩ := gI_ok h18; obtain ⟨x19, ls20, rfl, h20⟩ := gI_ok h19; obtain ⟨rfl, h21⟩ := gE_ok h20
    exact (e15_1 n x0 x1 x2 x3 x4 x5 x6 x7 x8 x9 x10 x11 x12 x13 x14 x15 x16 x17 x18 x19).trans h21
theorem sp15 {n : Nat} (a0 : Int) (a1 : List (Int)) (a2 : List (Int)) (a3 : Int) (a4 : Int) (a5 : Int) (a6 : Int) (a7 : Int) (a8 : Int) (a9 : Int) (a10 : Int) (a11 : Int) (a12 : Int) (a13 : Int) (a14 : Int) (a15 : Int) (a16 : Int) (a17 : Int) (a18 : Int) (a19 : Int) (a20 : Int) (a21 : Bool) {y : Int × Bool} (h : F15 n a0 a1 a2 a3 a4 a5 a6 a7 a8 a9 a10 a11 a12 a13 a14 a15 a16 a17 a18 a19 a20 a21 = some y) : SpecF T Try.prog 15 pa15 [.i a0, .l [.int .i64] a1, .l [.int .i64] a2, .i a3, .i a4, .i a5, .i a6, .i a7, .i a8, .i a9, .i a10, .i a11, .i a12, .i a13, .i a14, .i a15, .i a16, .i a17, .i a18, .i a19, .i a20, .b a21] sr15 (ofB15 y) :=
  fun_ok (X := X15) tok (sfok_of ⟨ok45, ok46, ok47, ok77, ok79, trivial⟩) mixed 15 8 cuts15 rfl toB15_ok ⟨c15_0, c15_1, trivial⟩ ((e15 n a0 a1 a2 a3 a4 a5 a6 a7 a8 a9 a10 a11 a12 a13 a14 a15 a16 a17 a18 a19 a20 a21).trans h)
theorem ok15 {R : Type} : SFone T Try.prog 15 (run15 : SF R) := by
  intro ls K r h
  simp only [run15] at h
  obtain ⟨a0, ls1, rfl, h1⟩ := gI_ok h; obtain ⟨a1, ls2, rfl, h2⟩ := gL_ok h1; obtain ⟨a2, ls3, rfl, h3⟩ := gL_ok h2; obtain ⟨a3, ls4, rfl, h4⟩ := gI_ok h3; obtain ⟨a4, ls5, rfl, h5⟩ := gI_ok h4; obtain ⟨a5, ls6, rfl, h6⟩ := gI_ok h5; obtain ⟨a6, ls7, rfl, h7⟩ := gI_ok h6; obtain ⟨a7, ls8, rfl, h8⟩ := gI_ok h7; obtain ⟨a8, ls9, rfl, h9⟩ := gI_ok h8; obtain ⟨a9, ls10, rfl, h10⟩ := gI_ok h9; obtain ⟨a10, ls11, rfl, h11⟩ := gI_ok h10; obtain ⟨a11, ls12, rfl, h12⟩ := gI_ok h11; obtain ⟨a12, ls13, rfl, h13⟩ := gI_ok h12; obtain ⟨a13, ls14, rfl, h14⟩ := gI_ok h13; obtain ⟨a14, ls15, rfl, h15⟩ := gI_ok h14; obtain ⟨a15, ls16, rfl, h16⟩ := gI_ok h15; obtain ⟨a16, ls17, rfl, h17⟩ := gI_ok h16; obtain ⟨a17, ls18, rfl, h18⟩ := gI_ok h17; obtain ⟨a18, ls19, rfl, h19⟩ := gI_ok h18; obtain ⟨a19, ls20, rfl, h20⟩ := gI_ok h19; obtain ⟨a20, ls21, rfl, h21⟩ := gI_ok h20; obtain ⟨a21, ls22, rfl, h22⟩ := gB_ok h21; obtain ⟨rfl, h23⟩ := gE_ok h22
  obtain ⟨y, k1, k2⟩ := Option.bind_eq_some_iff.1 h23
  exact ⟨_, k2, sp15 a0 a1 a2 a3 a4 a5 a6 a7 a8 a9 a10 a11 a12 a13 a14 a15 a16 a17 a18 a19 a20 a21 k1⟩

/-! ### garland/look.Begin -/
def pa33 : List VP := [.agg [.i .i64, .sl false [.int .i64], .sl false [.int .i64], .i .i64, .i .i64, .i .i64, .i .i64, .i .i64, .i .i64, .i .i64, .i .i64, .i .i64, .i .i64, .i .i64, .i .i64, .i .i64, .i .i64, .i .i64, .i .i64, .i .i64], .i .i64]
def sr33 : RShape := ⟨.agg [.i .i64, .i .i64, .i .i64, .b, .b, .i .i64], [], none⟩
def toB33 : List Leaf → Option (Si3b2i) := gI (fun b0 => gI (fun b1 => gI (fun b2 => gB (fun b3 => gB (fun b4 => gI (fun b5 => gE (some ⟨b0, b1, b2, b3, b4, b5⟩)))))))
def ofB33 (y : Si3b2i) : List Leaf := [.i y.q0, .i y.q1, .i y.q2, .b y.q3, .b y.q4, .i y.q5]
theorem toB33_ok : ∀ ls b, toB33 ls = some b → ls = ofB33 b := by
  intro ls b h
  unfold toB33 at h
  obtain ⟨b0, ls1, rfl, h1⟩ := gI_ok h; obtain ⟨b1, ls2, rfl, h2⟩ := gI_ok h1; obtain ⟨b2, ls3, rfl, h3⟩ := gI_ok h2; obtain ⟨b3, ls4, rfl, h4⟩ := gB_ok h3; obtain ⟨b4, ls5, rfl, h5⟩ := gB_ok h4; obtain ⟨b5, ls6, rfl, h6⟩ := gI_ok h5; obtain ⟨rfl, h7⟩ := gE_ok h6
  cases h7; rfl
def run33 {R : Type} : SF R := ⟨pa33, sr33, fun ls K => (gI (fun a0 => gL [.int .i64] (fun a1 => gL [.int .i64] (fun a2 => gI (fun a3 => gI (fun a4 => gI (fun a5 => gI (fun a6 => gI (fun a7 => gI (fun a8 => gI (fun a9 => gI (fun a10 => gI (fun a11 => gI (fun a12 => gI (fun a13 => gI (fun a14 => gI (fun a15 => gI (fun a16 => gI (fun a17 => gI (fun a18 => gI (fun a19 => gI (fun a20 => gE (Option.bind (F33 FUEL a0 a1 a2 a3 a4 a5 a6 a7 a8 a9 a10 a11 a12 a13 a14 a15 a16 a17 a18 a19 a20) fun y => K (ofB33 y)))))))))))))))))))))))) ls⟩
def cuts33 : List (List Nat × Cut (Si3b2i)) := []
noncomputable def X33 : Px (Si3b2i) := ⟨T, Try.prog, lkF [(45, run45), (65, run65), (15, run15)], mkCuts 33 cuts33, altN, altN_ok⟩
theorem e33 (n : Nat) (a0 : Int) (a1 : List (Int)) (a2 : List (Int)) (a3 : Int) (a4 : Int) (a5 : Int) (a6 : Int) (a7 : Int) (a8 : Int) (a9 : Int) (a10 : Int) (a11 : Int) (a12 : Int) (a13 : Int) (a14 : Int) (a15 : Int) (a16 : Int) (a17 : Int) (a18 : Int) (a19 : Int) (a20 : Int) : entF X33 8 33 pa33 (endK sr33 toB33) n [.i a0, .l [.int .i64] a1, .l [.int .i64] a2, .i a3, .i a4, .i a5, .i a6, .i a7, .i a8, .i a9, .i a10, .i a11, .i a12, .i a13, .i a14, .i a15, .i a16, .i a17, .i a18, .i a19, .i a20] = F33 n a0 a1 a2 a3 a4 a5 a6 a7 a8 a9 a10 a11 a12 a13 a14 a15 a16 a17 a18 a19 a20 := by kernel_rfl
theorem sp33 {n : Nat} (a0 : Int) (a1 : List (Int)) (a2 : List (Int)) (a3 : Int) (a4 : Int) (a5 : Int) (a6 : Int) (a7 : Int) (a8 : Int) (a9 : Int) (a10 : Int) (a11 : Int) (a12 : Int) (a13 : Int) (a14 : Int) (a15 : Int) (a16 : Int) (a17 : Int) (a18 : Int) (a19 : Int) (a20 : Int) {y : Si3b2i} (h : F33 n a0 a1 a2 a3 a4 a5 a6 a7 a8 a9 a10 a11 a12 a13 a14 a15 a16 a17 a18 a19 a20 = some y) : SpecF T Try.prog 33 pa33 [.i a0, .l [.int .i64] a1, .l [.int .i64] a2, .i a3, .i a4, .i a5, .i a6, .i a7, .i a8, .i a9, .i a10, .i a11, .i a12, .i a13, .i a14, .i a15, .i a16, .i a17, .i a18, .i a19, .i a20] sr33 (ofB33 y) :=
  fun_ok (X := X33) tok (sfok_of ⟨ok45, ok65, ok15, trivial⟩) mixed 33 8 cuts33 rfl toB33_ok trivial ((e33 n a0 a1 a2 a3 a4 a5 a6 a7 a8 a9 a10 a11 a12 a13 a14 a15 a16 a17 a18 a19 a20).trans h)
theorem ok33 {R : Type} : SFone T Try.prog 33 (run33 : SF R) := by
  intro ls K r h
  simp only [run33] at h
  obtain ⟨a0, ls1, rfl, h1⟩ := gI_ok h; obtain ⟨a1, ls2, rfl, h2⟩ := gL_ok h1; obtain ⟨a2, ls3, rfl, h3⟩ := gL_ok h2; obtain ⟨a3, ls4, rfl, h4⟩ := gI_ok h3; obtain ⟨a4, ls5, rfl, h5⟩ := gI_ok h4; obtain ⟨a5, ls6, rfl, h6⟩ := gI_ok h5; obtain ⟨a6, ls7, rfl, h7⟩ := gI_ok h6; obtain ⟨a7, ls8, rfl, h8⟩ := gI_ok h7; obtain ⟨a8, ls9, rfl, h9⟩ := gI_ok h8; obtain ⟨a9, ls10, rfl, h10⟩ := gI_ok h9; obtain ⟨a10, ls11, rfl, h11⟩ := gI_ok h10; obtain ⟨a11, ls12, rfl, h12⟩ := gI_ok h11; obtain ⟨a12, ls13, rfl, h13⟩ := gI_ok h12; obtain ⟨a13, ls14, rfl, h14⟩ := gI_ok h13; obtain ⟨a14, ls15, rfl, h15⟩ := gI_ok h14; obtain ⟨a15, ls16, rfl, h16⟩ := gI_ok h15; obtain ⟨a16, ls17, rfl, h17⟩ := gI_ok h16; obtain ⟨a17, ls18, rfl, h18⟩ := gI_ok h17; obtain ⟨a18, ls19, rfl, h19⟩ := gI_ok h18; obtain ⟨a19, ls20, rfl, h20⟩ := gI_ok h19; obtain ⟨a20, ls21, rfl, h21⟩ := gI_ok h20; obtain ⟨rfl, h22⟩ := gE_ok h21
  obtain ⟨y, k1, k2⟩ := Option.bind_eq_some_iff.1 h22
  exact ⟨_, k2, sp33 a0 a1 a2 a3 a4 a5 a6 a7 a8 a9 a10 a11 a12 a13 a14 a15 a16 a17 a18 a19 a20 k1⟩

/-! ### garland/look.Over -/
def pa41 : List VP := [.agg [.i .i64, .i .i64, .i .i64, .b, .b, .i .i64]]
def sr41 : RShape := ⟨.b, [], none⟩
def toB41 : List Leaf → Option (Bool) := gB (fun b0 => gE (some b0))
def ofB41 (y : Bool) : List Leaf := [.b y]
theorem toB41_ok : ∀ ls b, toB41 ls = some b → ls = ofB41 b := by
  intro ls b h
  unfold toB41 at h
  obtain ⟨b0, ls1, rfl, h1⟩ := gB_ok h; obtain ⟨rfl, h2⟩ := gE_ok h1
  cases h2; rfl
def run41 {R : Type} : SF R := ⟨pa41, sr41, fun ls K => (gI (fun a0 => gI (fun a1 => gI (fun a2 => gB (fun a3 => gB (fun a4 => gI (fun a5 => gE (Option.bind (F41 FUEL a0 a1 a2 a3 a4 a5) fun y => K (ofB41 y))))))))) ls⟩
def cuts41 : List (List Nat × Cut (Bool)) := []
noncomputable def X41 : Px (Bool) := ⟨T, Try.prog, lkF [], mkCuts 41 cuts41, altN, altN_ok⟩
theorem e41 (n : Nat) (a0 : Int) (a1 : Int) (a2 : Int) (a3 : Bool) (a4 : Bool) (a5 : Int) : entF X41 8 41 pa41 (endK sr41 toB41) n [.i a0, .i a1, .i a2, .b a3, .b a4, .i a5] = F41 n a0 a1 a2 a3 a4 a5 := by kernel_rfl
theorem sp41 {n : Nat} (a0 : Int) (a1 : Int) (a2 : Int) (a3 : Bool) (a4 : Bool) (a5 : Int) {y : Bool} (h : F41 n a0 a1 a2 a3 a4 a5 = some y) : SpecF T Try.prog 41 pa41 [.i a0, .i a1, .i a2, .b a3, .b a4, .i a5] sr41 (ofB41 y) :=
  fun_ok (X := X41) tok (sfok_of trivial) mixed 41 8 cuts41 rfl toB41_ok trivial ((e41 n a0 a1 a2 a3 a4 a5).trans h)
theorem ok41 {R : Type} : SFone T Try.prog 41 (run41 : SF R) := by
  intro ls K r h
  simp only [run41] at h
  obtain ⟨a0, ls1, rfl, h1⟩ := gI_ok h; obtain ⟨a1, ls2, rfl, h2⟩ := gI_ok h1; obtain ⟨a2, ls3, rfl, h3⟩ := gI_ok h2; obtain ⟨a3, ls4, rfl, h4⟩ := gB_ok h3; obtain ⟨a4, ls5, rfl, h5⟩ := gB_ok h4; obtain ⟨a5, ls6, rfl, h6⟩ := gI_ok h5; obtain ⟨rfl, h7⟩ := gE_ok h6
  obtain ⟨y, k1, k2⟩ := Option.bind_eq_some_iff.1 h7
  exact ⟨_, k2, sp41 a0 a1 a2 a3 a4 a5 k1⟩

/-! ### garland/look.isPlace -/
def pa70 : List VP := [.i .i64]
def sr70 : RShape := ⟨.b, [], none⟩
def toB70 : List Leaf → Option (Bool) := gB (fun b0 => gE (some b0))
def ofB70 (y : Bool) : List Leaf := [.b y]
theorem toB70_ok : ∀ ls b, toB70 ls = some b → ls = ofB70 b := by
  intro ls b h
  unfold toB70 at h
  obtain ⟨b0, ls1, rfl, h1⟩ := gB_ok h; obtain ⟨rfl, h2⟩ := gE_ok h1
  cases h2; rfl
def run70 {R : Type} : SF R := ⟨pa70, sr70, fun ls K => (gI (fun a0 => gE (Option.bind (F70 FUEL a0) fun y => K (ofB70 y)))) ls⟩
def cuts70 : List (List Nat × Cut (Bool)) := []
noncomputable def X70 : Px (Bool) := ⟨T, Try.prog, lkF [], mkCuts 70 cuts70, altN, altN_ok⟩
theorem e70 (n : Nat) (a0 : Int) : entF X70 8 70 pa70 (endK sr70 toB70) n [.i a0] = F70 n a0 := by kernel_rfl
theorem sp70 {n : Nat} (a0 : Int) {y : Bool} (h : F70 n a0 = some y) : SpecF T Try.prog 70 pa70 [.i a0] sr70 (ofB70 y) :=
  fun_ok (X := X70) tok (sfok_of trivial) mixed 70 8 cuts70 rfl toB70_ok trivial ((e70 n a0).trans h)
theorem ok70 {R : Type} : SFone T Try.prog 70 (run70 : SF R) := by
  intro ls K r h
  simp only [run70] at h
  obtain ⟨a0, ls1, rfl, h1⟩ := gI_ok h; obtain ⟨rfl, h2⟩ := gE_ok h1
  obtain ⟨y, k1, k2⟩ := Option.bind_eq_some_iff.1 h2
  exact ⟨_, k2, sp70 a0 k1⟩

/-! ### garland/look.Right -/
def pa39 : List VP := [.agg [.i .i64, .i .i64, .i .i64, .b, .b, .i .i64]]
def sr39 : RShape := ⟨.b, [], none⟩
def toB39 : List Leaf → Option (Bool) := gB (fun b0 => gE (some b0))
def ofB39 (y : Bool) : List Leaf := [.b y]
theorem toB39_ok : ∀ ls b, toB39 ls = some b → ls = ofB39 b := by
  intro ls b h
  unfold toB39 at h
  obtain ⟨b0, ls1, rfl, h1⟩ := gB_ok h; obtain ⟨rfl, h2⟩ := gE_ok h1
  cases h2; rfl
def run39 {R : Type} : SF R := ⟨pa39, sr39, fun ls K => (gI (fun a0 => gI (fun a1 => gI (fun a2 => gB (fun a3 => gB (fun a4 => gI (fun a5 => gE (Option.bind (F39 FUEL a0 a1 a2 a3 a4 a5) fun y => K (ofB39 y))))))))) ls⟩
def cuts39 : List (List Nat × Cut (Bool)) := []
noncomputable def X39 : Px (Bool) := ⟨T, Try.prog, lkF [(70, run70)], mkCuts 39 cuts39, altN, altN_ok⟩
theorem e39 (n : Nat) (a0 : Int) (a1 : Int) (a2 : Int) (a3 : Bool) (a4 : Bool) (a5 : Int) : entF X39 8 39 pa39 (endK sr39 toB39) n [.i a0, .i a1, .i a2, .b a3, .b a4, .i a5] = F39 n a0 a1 a2 a3 a4 a5 := by kernel_rfl
theorem sp39 {n : Nat} (a0 : Int) (a1 : Int) (a2 : Int) (a3 : Bool) (a4 : Bool) (a5 : Int) {y : Bool} (h : F39 n a0 a1 a2 a3 a4 a5 = some y) : SpecF T Try.prog 39 pa39 [.i a0, .i a1, .i a2, .b a3, .b a4, .i a5] sr39 (ofB39 y) :=
  fun_ok (X := X39) tok (sfok_of ⟨ok70, trivial⟩) mixed 39 8 cuts39 rfl toB39_ok trivial ((e39 n a0 a1 a2 a3 a4 a5).trans h)
theorem ok39 {R : Type} : SFone T Try.prog 39 (run39 : SF R) := by
  intro ls K r h
  simp only [run39] at h
  obtain ⟨a0, ls1, rfl, h1⟩ := gI_ok h; obtain ⟨a1, ls2, rfl, h2⟩ := gI_ok h1; obtain ⟨a2, ls3, rfl, h3⟩ := gI_ok h2; obtain ⟨a3, ls4, rfl, h4⟩ := gB_ok h3; obtain ⟨a4, ls5, rfl, h5⟩ := gB_ok h4; obtain ⟨a5, ls6, rfl, h6⟩ := gI_ok h5; obtain ⟨rfl, h7⟩ := gE_ok h6
  obtain ⟨y, k1, k2⟩ := Option.bind_eq_some_iff.1 h7
  exact ⟨_, k2, sp39 a0 a1 a2 a3 a4 a5 k1⟩

/-! ### garland/look.Ask -/
def pa31 : List VP := [.agg [.i .i64, .i .i64, .i .i64, .b, .b, .i .i64]]
def sr31 : RShape := ⟨.tup [.agg [.i .u8, .i .i64, .i .i64, .i .i64, .i .i64, .b, .b, .i .i64, .i .i64, .nil, .s, .i .i64, .i .i64, .b, .i .i64], .b], [], none⟩
def toB31 : List Leaf → Option (Si5b2i2si2bib) := gI (fun b0 => gI (fun b1 => gI (fun b2 => gI (fun b3 => gI (fun b4 => gB (fun b5 => gB (fun b6 => gI (fun b7 => gI (fun b8 => gS (fun b9 => gI (fun b10 => gI (fun b11 => gB (fun b12 => gI (fun b13 => gB (fun b14 => gE (some ⟨b0, b1, b2, b3, b4, b5, b6, b7, b8, b9, b10, b11, b12, b13, b14⟩))))))))))))))))
def ofB31 (y : Si5b2i2si2bib) : List Leaf := [.i y.q0, .i y.q1, .i y.q2, .i y.q3, .i y.q4, .b y.q5, .b y.q6, .i y.q7, .i y.q8, .s y.q9, .i y.q10, .i y.q11, .b y.q12, .i y.q13, .b y.q14]
theorem toB31_ok : ∀ ls b, toB31 ls = some b → ls = ofB31 b := by
  intro ls b h
  unfold toB31 at h
  obtain ⟨b0, ls1, rfl, h1⟩ := gI_ok h; obtain ⟨b1, ls2, rfl, h2⟩ := gI_ok h1; obtain ⟨b2, ls3, rfl, h3⟩ := gI_ok h2; obtain ⟨b3, ls4, rfl, h4⟩ := gI_ok h3; obtain ⟨b4, ls5, rfl, h5⟩ := gI_ok h4; obtain ⟨b5, ls6, rfl, h6⟩ := gB_ok h5; obtain ⟨b6, ls7, rfl, h7⟩ := gB_ok h6; obtain ⟨b7, ls8, rfl, h8⟩ := gI_ok h7; obtain ⟨b8, ls9, rfl, h9⟩ := gI_ok h8; obtain ⟨b9, ls10, rfl, h10⟩ := gS_ok h9; obtain ⟨b10, ls11, rfl, h11⟩ := gI_ok h10; obtain ⟨b11, ls12, rfl, h12⟩ := gI_ok h11; obtain ⟨b12, ls13, rfl, h13⟩ := gB_ok h12; obtain ⟨b13, ls14, rfl, h14⟩ := gI_ok h13; obtain ⟨b14, ls15, rfl, h15⟩ := gB_ok h14; obtain ⟨rfl, h16⟩ := gE_ok h15
  cases h16; rfl
def run31 {R : Type} : SF R := ⟨pa31, sr31, fun ls K => (gI (fun a0 => gI (fun a1 => gI (fun a2 => gB (fun a3 => gB (fun a4 => gI (fun a5 => gE (Option.bind (F31 FUEL a0 a1 a2 a3 a4 a5) fun y => K (ofB31 y))))))))) ls⟩
def cuts31 : List (List Nat × Cut (Si5b2i2si2bib)) := []
noncomputable def X31 : Px (Si5b2i2si2bib) := ⟨T, Try.prog, lkF [(41, run41), (39, run39)], mkCuts 31 cuts31, altN, altN_ok⟩
theorem e31 (n : Nat) (a0 : Int) (a1 : Int) (a2 : Int) (a3 : Bool) (a4 : Bool) (a5 : Int) : entF X31 8 31 pa31 (endK sr31 toB31) n [.i a0, .i a1, .i a2, .b a3, .b a4, .i a5] = F31 n a0 a1 a2 a3 a4 a5 := by kernel_rfl
theorem sp31 {n : Nat} (a0 : Int) (a1 : Int) (a2 : Int) (a3 : Bool) (a4 : Bool) (a5 : Int) {y : Si5b2i2si2bib} (h : F31 n a0 a1 a2 a3 a4 a5 = some y) : SpecF T Try.prog 31 pa31 [.i a0, .i a1, .i a2, .b a3, .b a4, .i a5] sr31 (ofB31 y) :=
  fun_ok (X := X31) tok (sfok_of ⟨ok41, ok39, trivial⟩) mixed 31 8 cuts31 rfl toB31_ok trivial ((e31 n a0 a1 a2 a3 a4 a5).trans h)
theorem ok31 {R : Type} : SFone T Try.prog 31 (run31 : SF R) := by
  intro ls K r h
  simp only [run31] at h
  obtain ⟨a0, ls1, rfl, h1⟩ := gI_ok h; obtain ⟨a1, ls2, rfl, h2⟩ := gI_ok h1; obtain ⟨a2, ls3, rfl, h3⟩ := gI_ok h2; obtain ⟨a3, ls4, rfl, h4⟩ := gB_ok h3; obtain ⟨a4, ls5, rfl, h5⟩ := gB_ok h4; obtain ⟨a5, ls6, rfl, h6⟩ := gI_ok h5; obtain ⟨rfl, h7⟩ := gE_ok h6
  obtain ⟨y, k1, k2⟩ := Option.bind_eq_some_iff.1 h7
  exact ⟨_, k2, sp31 a0 a1 a2 a3 a4 a5 k1⟩

/-! ### garland/garlandlaw18.tell -/
def pa43 : List VP := [.i .i64, .i .i64, .i .i64, .b]
def sr43 : RShape := ⟨.agg [.i .u8, .i .i64, .i .i64, .i .i64, .i .i64, .b, .b, .i .i64, .i .i64, .nil, .s, .i .i64, .i .i64, .b, .i .i64], [], none⟩
def toB43 : List Leaf → Option (Si5b2i2si2bi) := gI (fun b0 => gI (fun b1 => gI (fun b2 => gI (fun b3 => gI (fun b4 => gB (fun b5 => gB (fun b6 => gI (fun b7 => gI (fun b8 => gS (fun b9 => gI (fun b10 => gI (fun b11 => gB (fun b12 => gI (fun b13 => gE (some ⟨b0, b1, b2, b3, b4, b5, b6, b7, b8, b9, b10, b11, b12, b13⟩)))))))))))))))
def ofB43 (y : Si5b2i2si2bi) : List Leaf := [.i y.q0, .i y.q1, .i y.q2, .i y.q3, .i y.q4, .b y.q5, .b y.q6, .i y.q7, .i y.q8, .s y.q9, .i y.q10, .i y.q11, .b y.q12, .i y.q13]
theorem toB43_ok : ∀ ls b, toB43 ls = some b → ls = ofB43 b := by
  intro ls b h
  unfold toB43 at h
  obtain ⟨b0, ls1, rfl, h1⟩ := gI_ok h; obtain ⟨b1, ls2, rfl, h2⟩ := gI_ok h1; obtain ⟨b2, ls3, rfl, h3⟩ := gI_ok h2; obtain ⟨b3, ls4, rfl, h4⟩ := gI_ok h3; obtain ⟨b4, ls5, rfl, h5⟩ := gI_ok h4; obtain ⟨b5, ls6, rfl, h6⟩ := gB_ok h5; obtain ⟨b6, ls7, rfl, h7⟩ := gB_ok h6; obtain ⟨b7, ls8, rfl, h8⟩ := gI_ok h7; obtain ⟨b8, ls9, rfl, h9⟩ := gI_ok h8; obtain ⟨b9, ls10, rfl, h10⟩ := gS_ok h9; obtain ⟨b10, ls11, rfl, h11⟩ := gI_ok h10; obtain ⟨b11, ls12, rfl, h12⟩ := gI_ok h11; obtain ⟨b12, ls13, rfl, h13⟩ := gB_ok h12; obtain ⟨b13, ls14, rfl, h14⟩ := gI_ok h13; obtain ⟨rfl, h15⟩ := gE_ok h14
  cases h15; rfl
def run43 {R : Type} : SF R := ⟨pa43, sr43, fun ls K => (gI (fun a0 => gI (fun a1 => gI (fun a2 => gB (fun a3 => gE (Option.bind (F43 FUEL a0 a1 a2 a3) fun y => K (ofB43 y))))))) ls⟩
def cuts43 : List (List Nat × Cut (Si5b2i2si2bi)) := []
noncomputable def X43 : Px (Si5b2i2si2bi) := ⟨T, Try.prog, lkF [], mkCuts 43 cuts43, altN, altN_ok⟩
theorem e43 (n : Nat) (a0 : Int) (a1 : Int) (a2 : Int) (a3 : Bool) : entF X43 8 43 pa43 (endK sr43 toB43) n [.i a0, .i a1, .i a2, .b a3] = F43 n a0 a1 a2 a3 := by kernel_rfl
theorem sp43 {n : Nat} (a0 : Int) (a1 : Int) (a2 : Int) (a3 : Bool) {y : Si5b2i2si2bi} (h : F43 n a0 a1 a2 a3 = some y) : SpecF T Try.prog 43 pa43 [.i a0, .i a1, .i a2, .b a3] sr43 (ofB43 y) :=
  fun_ok (X := X43) tok (sfok_of trivial) mixed 43 8 cuts43 rfl toB43_ok trivial ((e43 n a0 a1 a2 a3).trans h)
theorem ok43 {R : Type} : SFone T Try.prog 43 (run43 : SF R) := by
  intro ls K r h
  simp only [run43] at h
  obtain ⟨a0, ls1, rfl, h1⟩ := gI_ok h; obtain ⟨a1, ls2, rfl, h2⟩ := gI_ok h1; obtain ⟨a2, ls3, rfl, h3⟩ := gI_ok h2; obtain ⟨a3, ls4, rfl, h4⟩ := gB_ok h3; obtain ⟨rfl, h5⟩ := gE_ok h4
  obtain ⟨y, k1, k2⟩ := Option.bind_eq_some_iff.1 h5
  exact ⟨_, k2, sp43 a0 a1 a2 a3 k1⟩

/-! ### garland/msg.isKey -/
def pa102 : List VP := [.s]
def sr102 : RShape := ⟨.b, [], none⟩
def toB102 : List Leaf → Option (Bool) := gB (fun b0 => gE (some b0))
def ofB102 (y : Bool) : List Leaf := [.b y]
theorem toB102_ok : ∀ ls b, toB102 ls = some b → ls = ofB102 b := by
  intro ls b h
  unfold toB102 at h
  obtain ⟨b0, ls1, rfl, h1⟩ := gB_ok h; obtain ⟨rfl, h2⟩ := gE_ok h1
  cases h2; rfl
def run102 {R : Type} : SF R := ⟨pa102, sr102, fun ls K => (gS (fun a0 => gE (Option.bind (F102 FUEL a0) fun y => K (ofB102 y)))) ls⟩
def cuts102 : List (List Nat × Cut (Bool)) := []
noncomputable def X102 : Px (Bool) := ⟨T, Try.prog, lkF [], mkCuts 102 cuts102, altN, altN_ok⟩
theorem e102 (n : Nat) (a0 : ByteArray) : entF X102 8 102 pa102 (endK sr102 toB102) n [.s a0] = F102 n a0 := by kernel_rfl
theorem sp102 {n : Nat} (a0 : ByteArray) {y : Bool} (h : F102 n a0 = some y) : SpecF T Try.prog 102 pa102 [.s a0] sr102 (ofB102 y) :=
  fun_ok (X := X102) tok (sfok_of trivial) mixed 102 8 cuts102 rfl toB102_ok trivial ((e102 n a0).trans h)
theorem ok102 {R : Type} : SFone T Try.prog 102 (run102 : SF R) := by
  intro ls K r h
  simp only [run102] at h
  obtain ⟨a0, ls1, rfl, h1⟩ := gS_ok h; obtain ⟨rfl, h2⟩ := gE_ok h1
  obtain ⟨y, k1, k2⟩ := Option.bind_eq_some_iff.1 h2
  exact ⟨_, k2, sp102 a0 k1⟩

/-! ### garland/msg.isValue -/
def pa108 : List VP := [.i .i64]
def sr108 : RShape := ⟨.b, [], none⟩
def toB108 : List Leaf → Option (Bool) := gB (fun b0 => gE (some b0))
def ofB108 (y : Bool) : List Leaf := [.b y]
theorem toB108_ok : ∀ ls b, toB108 ls = some b → ls = ofB108 b := by
  intro ls b h
  unfold toB108 at h
  obtain ⟨b0, ls1, rfl, h1⟩ := gB_ok h; obtain ⟨rfl, h2⟩ := gE_ok h1
  cases h2; rfl
def run108 {R : Type} : SF R := ⟨pa108, sr108, fun ls K => (gI (fun a0 => gE (Option.bind (F108 FUEL a0) fun y => K (ofB108 y)))) ls⟩
def cuts108 : List (List Nat × Cut (Bool)) := []
noncomputable def X108 : Px (Bool) := ⟨T, Try.prog, lkF [], mkCuts 108 cuts108, altN, altN_ok⟩
theorem e108 (n : Nat) (a0 : Int) : entF X108 8 108 pa108 (endK sr108 toB108) n [.i a0] = F108 n a0 := by kernel_rfl
theorem sp108 {n : Nat} (a0 : Int) {y : Bool} (h : F108 n a0 = some y) : SpecF T Try.prog 108 pa108 [.i a0] sr108 (ofB108 y) :=
  fun_ok (X := X108) tok (sfok_of trivial) mixed 108 8 cuts108 rfl toB108_ok trivial ((e108 n a0).trans h)
theorem ok108 {R : Type} : SFone T Try.prog 108 (run108 : SF R) := by
  intro ls K r h
  simp only [run108] at h
  obtain ⟨a0, ls1, rfl, h1⟩ := gI_ok h; obtain ⟨rfl, h2⟩ := gE_ok h1
  obtain ⟨y, k1, k2⟩ := Option.bind_eq_some_iff.1 h2
  exact ⟨_, k2, sp108 a0 k1⟩

/-! ### garland/msg.Pair -/
def pa101 : List VP := [.agg [.s, .i .i64, .i .i64, .b]]
def sr101 : RShape := ⟨.b, [], none⟩
def toB101 : List Leaf → Option (Bool) := gB (fun b0 => gE (some b0))
def ofB101 (y : Bool) : List Leaf := [.b y]
theorem toB101_ok : ∀ ls b, toB101 ls = some b → ls = ofB101 b := by
  intro ls b h
  unfold toB101 at h
  obtain ⟨b0, ls1, rfl, h1⟩ := gB_ok h; obtain ⟨rfl, h2⟩ := gE_ok h1
  cases h2; rfl
def run101 {R : Type} : SF R := ⟨pa101, sr101, fun ls K => (gS (fun a0 => gI (fun a1 => gI (fun a2 => gB (fun a3 => gE (Option.bind (F101 FUEL a0 a1 a2 a3) fun y => K (ofB101 y))))))) ls⟩
def cuts101 : List (List Nat × Cut (Bool)) := []
noncomputable def X101 : Px (Bool) := ⟨T, Try.prog, lkF [(102, run102), (108, run108)], mkCuts 101 cuts101, altN, altN_ok⟩
theorem e101 (n : Nat) (a0 : ByteArray) (a1 : Int) (a2 : Int) (a3 : Bool) : entF X101 8 101 pa101 (endK sr101 toB101) n [.s a0, .i a1, .i a2, .b a3] = F101 n a0 a1 a2 a3 := by kernel_rfl
theorem sp101 {n : Nat} (a0 : ByteArray) (a1 : Int) (a2 : Int) (a3 : Bool) {y : Bool} (h : F101 n a0 a1 a2 a3 = some y) : SpecF T Try.prog 101 pa101 [.s a0, .i a1, .i a2, .b a3] sr101 (ofB101 y) :=
  fun_ok (X := X101) tok (sfok_of ⟨ok102, ok108, trivial⟩) mixed 101 8 cuts101 rfl toB101_ok trivial ((e101 n a0 a1 a2 a3).trans h)
theorem ok101 {R : Type} : SFone T Try.prog 101 (run101 : SF R) := by
  intro ls K r h
  simp only [run101] at h
  obtain ⟨a0, ls1, rfl, h1⟩ := gS_ok h; obtain ⟨a1, ls2, rfl, h2⟩ := gI_ok h1; obtain ⟨a2, ls3, rfl, h3⟩ := gI_ok h2; obtain ⟨a3, ls4, rfl, h4⟩ := gB_ok h3; obtain ⟨rfl, h5⟩ := gE_ok h4
  obtain ⟨y, k1, k2⟩ := Option.bind_eq_some_iff.1 h5
  exact ⟨_, k2, sp101 a0 a1 a2 a3 k1⟩

/-! ### slices.Index[[]int,int] -/
def pa110 : List VP := [.sl false [.int .i64], .i .i64]
def sr110 : RShape := ⟨.i .i64, [], none⟩
def toB110 : List Leaf → Option (Int) := gI (fun b0 => gE (some b0))
def ofB110 (y : Int) : List Leaf := [.i y]
theorem toB110_ok : ∀ ls b, toB110 ls = some b → ls = ofB110 b := by
  intro ls b h
  unfold toB110 at h
  obtain ⟨b0, ls1, rfl, h1⟩ := gI_ok h; obtain ⟨rfl, h2⟩ := gE_ok h1
  cases h2; rfl
def run110 {R : Type} : SF R := ⟨pa110, sr110, fun ls K => (gL [.int .i64] (fun a0 => gI (fun a1 => gE (Option.bind (F110 FUEL a0 a1) fun y => K (ofB110 y))))) ls⟩
def sh110_0 : Shape := ⟨[(19, [(0, .sl false [.int .i64]), (1, .i .i64), (7, .i .i64), (8, .i .i64)])], []⟩
def g110_0 (n : Nat) : List Leaf → Option (Int) := gL [.int .i64] (fun x0 => gI (fun x1 => gI (fun x2 => gI (fun x3 => gE (F110_c0 n x0 x1 x2 x3)))))
def cuts110 : List (List Nat × Cut (Int)) := [([1, 0, 1, 0], ⟨sh110_0, g110_0⟩)]
noncomputable def X110 : Px (Int) := ⟨T, Try.prog, lkF [], mkCuts 110 cuts110, altN, altN_ok⟩
theorem e110_0 (n : Nat) (x0 : List (Int)) (x1 : Int) (x2 : Int) (x3 : Int) : stepF X110 8 110 (endK sr110 toB110) [1, 0, 1, 0] sh110_0 n [.l [.int .i64] x0, .i x1, .i x2, .i x3] = F110_c0 (n + 1) x0 x1 x2 x3 := by kernel_rfl
theorem e110 (n : Nat) (a0 : List (Int)) (a1 : Int) : entF X110 8 110 pa110 (endK sr110 toB110) n [.l [.int .i64] a0, .i a1] = F110 n a0 a1 := by kernel_rfl
theorem c110_0 : CutOK X110 8 110 (endK sr110 toB110) [1, 0, 1, 0] ⟨sh110_0, g110_0⟩ := by
  refine ⟨fun ls => ?_, fun n ls r h => ?_⟩
  · cases h : g110_0 0 ls with
    | none => exact h
    | some r =>
      unfold g110_0 at h; obtain ⟨x0, ls1, rfl, h1⟩ := gL_ok h; obtain ⟨x1, ls2, rfl, h2⟩ := gI_ok h1; obtain ⟨x2, ls3, rfl, h3⟩ := gI_ok h2; obtain ⟨x3, ls4, rfl, h4⟩ := gI_ok h3; obtain ⟨rfl, h5⟩ := gE_ok h4; simp only [F110_c0] at h5; cases h5
  · replace h : g110_0 (n + 1) ls = some r := h
    unfold g110_0 at h
    obtain ⟨x0, ls1, rfl, h1⟩ := gL_ok h; obtain ⟨x1, ls2, rfl, h2⟩ := gI_ok h1; obtain ⟨x2, ls3, rfl, h3⟩ := gI_ok h2; obtain ⟨x3, ls4, rfl, h4⟩ := gI_ok h3; obtain ⟨rfl, h5⟩ := gE_ok h4
    exact (e110_0 n x0 x1 x2 x3).trans h5
theorem sp110 {n : Nat} (a0 : List (Int)) (a1 : Int) {y : Int} (h : F110 n a0 a1 = some y) : SpecF T Try.prog 110 pa110 [.l [.int .i64] a0, .i a1] sr110 (ofB110 y) :=
  fun_ok (X := X110) tok (sfok_of trivial) mixed 110 8 cuts110 rfl toB110_ok ⟨c110_0, trivial⟩ ((e110 n a0 a1).trans h)
theorem ok110 {R : Type} : SFone T Try.prog 110 (run110 : SF R) := by
  intro ls K r h
  simp only [run110] at h
  obtain ⟨a0, ls1, rfl, h1⟩ := gL_ok h; obtain ⟨a1, ls2, rfl, h2⟩ := gI_ok h1; obtain ⟨rfl, h3⟩ := gE_ok h2
  obtain ⟨y, k1, k2⟩ := Option.bind_eq_some_iff.1 h3
  exact ⟨_, k2, sp110 a0 a1 k1⟩

/-! ### slices.Contains[[]int,int] -/
def pa109 : List VP := [.sl false [.int .i64], .i .i64]
def sr109 : RShape := ⟨.b, [], none⟩
def toB109 : List Leaf → Option (Bool) := gB (fun b0 => gE (some b0))
def ofB109 (y : Bool) : List Leaf := [.b y]
theorem toB109_ok : ∀ ls b, toB109 ls = some b → ls = ofB109 b := by
  intro ls b h
  unfold toB109 at h
  obtain ⟨b0, ls1, rfl, h1⟩ := gB_ok h; obtain ⟨rfl, h2⟩ := gE_ok h1
  cases h2; rfl
def run109 {R : Type} : SF R := ⟨pa109, sr109, fun ls K => (gL [.int .i64] (fun a0 => gI (fun a1 => gE (Option.bind (F109 FUEL a0 a1) fun y => K (ofB109 y))))) ls⟩
def cuts109 : List (List Nat × Cut (Bool)) := []
noncomputable def X109 : Px (Bool) := ⟨T, Try.prog, lkF [(110, run110)], mkCuts 109 cuts109, altN, altN_ok⟩
theorem e109 (n : Nat) (a0 : List (Int)) (a1 : Int) : entF X109 8 109 pa109 (endK sr109 toB109) n [.l [.int .i64] a0, .i a1] = F109 n a0 a1 := by kernel_rfl
theorem sp109 {n : Nat} (a0 : List (Int)) (a1 : Int) {y : Bool} (h : F109 n a0 a1 = some y) : SpecF T Try.prog 109 pa109 [.l [.int .i64] a0, .i a1] sr109 (ofB109 y) :=
  fun_ok (X := X109) tok (sfok_of ⟨ok110, trivial⟩) mixed 109 8 cuts109 rfl toB109_ok trivial ((e109 n a0 a1).trans h)
theorem ok109 {R : Type} : SFone T Try.prog 109 (run109 : SF R) := by
  intro ls K r h
  simp only [run109] at h
  obtain ⟨a0, ls1, rfl, h1⟩ := gL_ok h; obtain ⟨a1, ls2, rfl, h2⟩ := gI_ok h1; obtain ⟨rfl, h3⟩ := gE_ok h2
  obtain ⟨y, k1, k2⟩ := Option.bind_eq_some_iff.1 h3
  exact ⟨_, k2, sp109 a0 a1 k1⟩

/-! ### garland/msg.apart -/
def pa103 : List VP := [.i .i64, .sl false [.int .i64]]
def sr103 : RShape := ⟨.b, [], none⟩
def toB103 : List Leaf → Option (Bool) := gB (fun b0 => gE (some b0))
def ofB103 (y : Bool) : List Leaf := [.b y]
theorem toB103_ok : ∀ ls b, toB103 ls = some b → ls = ofB103 b := by
  intro ls b h
  unfold toB103 at h
  obtain ⟨b0, ls1, rfl, h1⟩ := gB_ok h; obtain ⟨rfl, h2⟩ := gE_ok h1
  cases h2; rfl
def run103 {R : Type} : SF R := ⟨pa103, sr103, fun ls K => (gI (fun a0 => gL [.int .i64] (fun a1 => gE (Option.bind (F103 FUEL a0 a1) fun y => K (ofB103 y))))) ls⟩
def sh103_0 : Shape := ⟨[(25, [(0, .i .i64), (1, .sl false [.int .i64]), (7, .sl false [.int .i64]), (8, .i .i64), (9, .i .i64)])], []⟩
def g103_0 (n : Nat) : List Leaf → Option (Bool) := gI (fun x0 => gL [.int .i64] (fun x1 => gL [.int .i64] (fun x2 => gI (fun x3 => gI (fun x4 => gE (F103_c0 n x0 x1 x2 x3 x4))))))
def cuts103 : List (List Nat × Cut (Bool)) := [([1, 0, 1, 0], ⟨sh103_0, g103_0⟩)]
noncomputable def X103 : Px (Bool) := ⟨T, Try.prog, lkF [(109, run109)], mkCuts 103 cuts103, altN, altN_ok⟩
theorem e103_0 (n : Nat) (x0 : Int) (x1 : List (Int)) (x2 : List (Int)) (x3 : Int) (x4 : Int) : stepF X103 8 103 (endK sr103 toB103) [1, 0, 1, 0] sh103_0 n [.i x0, .l [.int .i64] x1, .l [.int .i64] x2, .i x3, .i x4] = F103_c0 (n + 1) x0 x1 x2 x3 x4 := by kernel_rfl
theorem e103 (n : Nat) (a0 : Int) (a1 : List (Int)) : entF X103 8 103 pa103 (endK sr103 toB103) n [.i a0, .l [.int .i64] a1] = F103 n a0 a1 := by kernel_rfl
theorem c103_0 : CutOK X103 8 103 (endK sr103 toB103) [1, 0, 1, 0] ⟨sh103_0, g103_0⟩ := by
  refine ⟨fun ls => ?_, fun n ls r h => ?_⟩
  · cases h : g103_0 0 ls with
    | none => exact h
    | some r =>
      unfold g103_0 at h; obtain ⟨x0, ls1, rfl, h1⟩ := gI_ok h; obtain ⟨x1, ls2, rfl, h2⟩ := gL_ok h1; obtain ⟨x2, ls3, rfl, h3⟩ := gL_ok h2; obtain ⟨x3, ls4, rfl, h4⟩ := gI_ok h3; obtain ⟨x4, ls5, rfl, h5⟩ := gI_ok h4; obtain ⟨rfl, h6⟩ := gE_ok h5; simp only [F103_c0] at h6; cases h6
  · replace h : g103_0 (n + 1) ls = some r := h
    unfold g103_0 at h
    obtain ⟨x0, ls1, rfl, h1⟩ := gI_ok h; obtain ⟨x1, ls2, rfl, h2⟩ := gL_ok h1; obtain ⟨x2, ls3, rfl, h3⟩ := gL_ok h2; obtain ⟨x3, ls4, rfl, h4⟩ := gI_ok h3; obtain ⟨x4, ls5, rfl, h5⟩ := gI_ok h4; obtain ⟨rfl, h6⟩ := gE_ok h5
    exact (e103_0 n x0 x1 x2 x3 x4).trans h6
theorem sp103 {n : Nat} (a0 : Int) (a1 : List (Int)) {y : Bool} (h : F103 n a0 a1 = some y) : SpecF T Try.prog 103 pa103 [.i a0, .l [.int .i64] a1] sr103 (ofB103 y) :=
  fun_ok (X := X103) tok (sfok_of ⟨ok109, trivial⟩) mixed 103 8 cuts103 rfl toB103_ok ⟨c103_0, trivial⟩ ((e103 n a0 a1).trans h)
theorem ok103 {R : Type} : SFone T Try.prog 103 (run103 : SF R) := by
  intro ls K r h
  simp only [run103] at h
  obtain ⟨a0, ls1, rfl, h1⟩ := gI_ok h; obtain ⟨a1, ls2, rfl, h2⟩ := gL_ok h1; obtain ⟨rfl, h3⟩ := gE_ok h2
  obtain ⟨y, k1, k2⟩ := Option.bind_eq_some_iff.1 h3
  exact ⟨_, k2, sp103 a0 a1 k1⟩

/-! ### garland/msg.holds -/
def pa81 : List VP := [.agg [.i .u8, .i .i64, .i .i64, .i .i64, .i .i64, .b, .b, .i .i64, .i .i64, .sl false [.int .i64], .s, .i .i64, .i .i64, .b, .i .i64]]
def sr81 : RShape := ⟨.b, [], none⟩
def toB81 : List Leaf → Option (Bool) := gB (fun b0 => gE (some b0))
def ofB81 (y : Bool) : List Leaf := [.b y]
theorem toB81_ok : ∀ ls b, toB81 ls = some b → ls = ofB81 b := by
  intro ls b h
  unfold toB81 at h
  obtain ⟨b0, ls1, rfl, h1⟩ := gB_ok h; obtain ⟨rfl, h2⟩ := gE_ok h1
  cases h2; rfl
def run81 {R : Type} : SF R := ⟨pa81, sr81, fun ls K => (gI (fun a0 => gI (fun a1 => gI (fun a2 => gI (fun a3 => gI (fun a4 => gB (fun a5 => gB (fun a6 => gI (fun a7 => gI (fun a8 => gL [.int .i64] (fun a9 => gS (fun a10 => gI (fun a11 => gI (fun a12 => gB (fun a13 => gI (fun a14 => gE (Option.bind (F81 FUEL a0 a1 a2 a3 a4 a5 a6 a7 a8 a9 a10 a11 a12 a13 a14) fun y => K (ofB81 y)))))))))))))))))) ls⟩
def cuts81 : List (List Nat × Cut (Bool)) := []
noncomputable def X81 : Px (Bool) := ⟨T, Try.prog, lkF [(101, run101), (102, run102), (103, run103)], mkCuts 81 cuts81, altN, altN_ok⟩
theorem e81 (n : Nat) (a0 : Int) (a1 : Int) (a2 : Int) (a3 : Int) (a4 : Int) (a5 : Bool) (a6 : Bool) (a7 : Int) (a8 : Int) (a9 : List (Int)) (a10 : ByteArray) (a11 : Int) (a12 : Int) (a13 : Bool) (a14 : Int) : entF X81 8 81 pa81 (endK sr81 toB81) n [.i a0, .i a1, .i a2, .i a3, .i a4, .b a5, .b a6, .i a7, .i a8, .l [.int .i64] a9, .s a10, .i a11, .i a12, .b a13, .i a14] = F81 n a0 a1 a2 a3 a4 a5 a6 a7 a8 a9 a10 a11 a12 a13 a14 := by kernel_rfl
theorem sp81 {n : Nat} (a0 : Int) (a1 : Int) (a2 : Int) (a3 : Int) (a4 : Int) (a5 : Bool) (a6 : Bool) (a7 : Int) (a8 : Int) (a9 : List (Int)) (a10 : ByteArray) (a11 : Int) (a12 : Int) (a13 : Bool) (a14 : Int) {y : Bool} (h : F81 n a0 a1 a2 a3 a4 a5 a6 a7 a8 a9 a10 a11 a12 a13 a14 = some y) : SpecF T Try.prog 81 pa81 [.i a0, .i a1, .i a2, .i a3, .i a4, .b a5, .b a6, .i a7, .i a8, .l [.int .i64] a9, .s a10, .i a11, .i a12, .b a13, .i a14] sr81 (ofB81 y) :=
  fun_ok (X := X81) tok (sfok_of ⟨ok101, ok102, ok103, trivial⟩) mixed 81 8 cuts81 rfl toB81_ok trivial ((e81 n a0 a1 a2 a3 a4 a5 a6 a7 a8 a9 a10 a11 a12 a13 a14).trans h)
theorem ok81 {R : Type} : SFone T Try.prog 81 (run81 : SF R) := by
  intro ls K r h
  simp only [run81] at h
  obtain ⟨a0, ls1, rfl, h1⟩ := gI_ok h; obtain ⟨a1, ls2, rfl, h2⟩ := gI_ok h1; obtain ⟨a2, ls3, rfl, h3⟩ := gI_ok h2; obtain ⟨a3, ls4, rfl, h4⟩ := gI_ok h3; obtain ⟨a4, ls5, rfl, h5⟩ := gI_ok h4; obtain ⟨a5, ls6, rfl, h6⟩ := gB_ok h5; obtain ⟨a6, ls7, rfl, h7⟩ := gB_ok h6; obtain ⟨a7, ls8, rfl, h8⟩ := gI_ok h7; obtain ⟨a8, ls9, rfl, h9⟩ := gI_ok h8; obtain ⟨a9, ls10, rfl, h10⟩ := gL_ok h9; obtain ⟨a10, ls11, rfl, h11⟩ := gS_ok h10; obtain ⟨a11, ls12, rfl, h12⟩ := gI_ok h11; obtain ⟨a12, ls13, rfl, h13⟩ := gI_ok h12; obtain ⟨a13, ls14, rfl, h14⟩ := gB_ok h13; obtain ⟨a14, ls15, rfl, h15⟩ := gI_ok h14; obtain ⟨rfl, h16⟩ := gE_ok h15
  obtain ⟨y, k1, k2⟩ := Option.bind_eq_some_iff.1 h16
  exact ⟨_, k2, sp81 a0 a1 a2 a3 a4 a5 a6 a7 a8 a9 a10 a11 a12 a13 a14 k1⟩

/-! ### garland/msg.isPlace -/
def pa83 : List VP := [.i .i64]
def sr83 : RShape := ⟨.b, [], none⟩
def toB83 : List Leaf → Option (Bool) := gB (fun b0 => gE (some b0))
def ofB83 (y : Bool) : List Leaf := [.b y]
theorem toB83_ok : ∀ ls b, toB83 ls = some b → ls = ofB83 b := by
  intro ls b h
  unfold toB83 at h
  obtain ⟨b0, ls1, rfl, h1⟩ := gB_ok h; obtain ⟨rfl, h2⟩ := gE_ok h1
  cases h2; rfl
def run83 {R : Type} : SF R := ⟨pa83, sr83, fun ls K => (gI (fun a0 => gE (Option.bind (F83 FUEL a0) fun y => K (ofB83 y)))) ls⟩
def cuts83 : List (List Nat × Cut (Bool)) := []
noncomputable def X83 : Px (Bool) := ⟨T, Try.prog, lkF [], mkCuts 83 cuts83, altN, altN_ok⟩
theorem e83 (n : Nat) (a0 : Int) : entF X83 8 83 pa83 (endK sr83 toB83) n [.i a0] = F83 n a0 := by kernel_rfl
theorem sp83 {n : Nat} (a0 : Int) {y : Bool} (h : F83 n a0 = some y) : SpecF T Try.prog 83 pa83 [.i a0] sr83 (ofB83 y) :=
  fun_ok (X := X83) tok (sfok_of trivial) mixed 83 8 cuts83 rfl toB83_ok trivial ((e83 n a0).trans h)
theorem ok83 {R : Type} : SFone T Try.prog 83 (run83 : SF R) := by
  intro ls K r h
  simp only [run83] at h
  obtain ⟨a0, ls1, rfl, h1⟩ := gI_ok h; obtain ⟨rfl, h2⟩ := gE_ok h1
  obtain ⟨y, k1, k2⟩ := Option.bind_eq_some_iff.1 h2
  exact ⟨_, k2, sp83 a0 k1⟩

/-! ### garland/msg.Asks -/
def pa88 : List VP := [.agg [.i .u8, .i .i64, .i .i64, .i .i64, .i .i64, .b, .b, .i .i64, .i .i64, .sl false [.int .i64], .s, .i .i64, .i .i64, .b, .i .i64]]
def sr88 : RShape := ⟨.b, [], none⟩
def toB88 : List Leaf → Option (Bool) := gB (fun b0 => gE (some b0))
def ofB88 (y : Bool) : List Leaf := [.b y]
theorem toB88_ok : ∀ ls b, toB88 ls = some b → ls = ofB88 b := by
  intro ls b h
  unfold toB88 at h
  obtain ⟨b0, ls1, rfl, h1⟩ := gB_ok h; obtain ⟨rfl, h2⟩ := gE_ok h1
  cases h2; rfl
def run88 {R : Type} : SF R := ⟨pa88, sr88, fun ls K => (gI (fun a0 => gI (fun a1 => gI (fun a2 => gI (fun a3 => gI (fun a4 => gB (fun a5 => gB (fun a6 => gI (fun a7 => gI (fun a8 => gL [.int .i64] (fun a9 => gS (fun a10 => gI (fun a11 => gI (fun a12 => gB (fun a13 => gI (fun a14 => gE (Option.bind (F88 FUEL a0 a1 a2 a3 a4 a5 a6 a7 a8 a9 a10 a11 a12 a13 a14) fun y => K (ofB88 y)))))))))))))))))) ls⟩
def cuts88 : List (List Nat × Cut (Bool)) := []
noncomputable def X88 : Px (Bool) := ⟨T, Try.prog, lkF [], mkCuts 88 cuts88, altN, altN_ok⟩
theorem e88 (n : Nat) (a0 : Int) (a1 : Int) (a2 : Int) (a3 : Int) (a4 : Int) (a5 : Bool) (a6 : Bool) (a7 : Int) (a8 : Int) (a9 : List (Int)) (a10 : ByteArray) (a11 : Int) (a12 : Int) (a13 : Bool) (a14 : Int) : entF X88 8 88 pa88 (endK sr88 toB88) n [.i a0, .i a1, .i a2, .i a3, .i a4, .b a5, .b a6, .i a7, .i a8, .l [.int .i64] a9, .s a10, .i a11, .i a12, .b a13, .i a14] = F88 n a0 a1 a2 a3 a4 a5 a6 a7 a8 a9 a10 a11 a12 a13 a14 := by kernel_rfl
theorem sp88 {n : Nat} (a0 : Int) (a1 : Int) (a2 : Int) (a3 : Int) (a4 : Int) (a5 : Bool) (a6 : Bool) (a7 : Int) (a8 : Int) (a9 : List (Int)) (a10 : ByteArray) (a11 : Int) (a12 : Int) (a13 : Bool) (a14 : Int) {y : Bool} (h : F88 n a0 a1 a2 a3 a4 a5 a6 a7 a8 a9 a10 a11 a12 a13 a14 = some y) : SpecF T Try.prog 88 pa88 [.i a0, .i a1, .i a2, .i a3, .i a4, .b a5, .b a6, .i a7, .i a8, .l [.int .i64] a9, .s a10, .i a11, .i a12, .b a13, .i a14] sr88 (ofB88 y) :=
  fun_ok (X := X88) tok (sfok_of trivial) mixed 88 8 cuts88 rfl toB88_ok trivial ((e88 n a0 a1 a2 a3 a4 a5 a6 a7 a8 a9 a10 a11 a12 a13 a14).trans h)
theorem ok88 {R : Type} : SFone T Try.prog 88 (run88 : SF R) := by
  intro ls K r h
  simp only [run88] at h
  obtain ⟨a0, ls1, rfl, h1⟩ := gI_ok h; obtain ⟨a1, ls2, rfl, h2⟩ := gI_ok h1; obtain ⟨a2, ls3, rfl, h3⟩ := gI_ok h2; obtain ⟨a3, ls4, rfl, h4⟩ := gI_ok h3; obtain ⟨a4, ls5, rfl, h5⟩ := gI_ok h4; obtain ⟨a5, ls6, rfl, h6⟩ := gB_ok h5; obtain ⟨a6, ls7, rfl, h7⟩ := gB_ok h6; obtain ⟨a7, ls8, rfl, h8⟩ := gI_ok h7; obtain ⟨a8, ls9, rfl, h9⟩ := gI_ok h8; obtain ⟨a9, ls10, rfl, h10⟩ := gL_ok h9; obtain ⟨a10, ls11, rfl, h11⟩ := gS_ok h10; obtain ⟨a11, ls12, rfl, h12⟩ := gI_ok h11; obtain ⟨a12, ls13, rfl, h13⟩ := gI_ok h12; obtain ⟨a13, ls14, rfl, h14⟩ := gB_ok h13; obtain ⟨a14, ls15, rfl, h15⟩ := gI_ok h14; obtain ⟨rfl, h16⟩ := gE_ok h15
  obtain ⟨y, k1, k2⟩ := Option.bind_eq_some_iff.1 h16
  exact ⟨_, k2, sp88 a0 a1 a2 a3 a4 a5 a6 a7 a8 a9 a10 a11 a12 a13 a14 k1⟩

/-! ### garland/msg.Asker -/
def pa85 : List VP := [.agg [.i .u8, .i .i64, .i .i64, .i .i64, .i .i64, .b, .b, .i .i64, .i .i64, .sl false [.int .i64], .s, .i .i64, .i .i64, .b, .i .i64]]
def sr85 : RShape := ⟨.i .i64, [], none⟩
def toB85 : List Leaf → Option (Int) := gI (fun b0 => gE (some b0))
def ofB85 (y : Int) : List Leaf := [.i y]
theorem toB85_ok : ∀ ls b, toB85 ls = some b → ls = ofB85 b := by
  intro ls b h
  unfold toB85 at h
  obtain ⟨b0, ls1, rfl, h1⟩ := gI_ok h; obtain ⟨rfl, h2⟩ := gE_ok h1
  cases h2; rfl
def run85 {R : Type} : SF R := ⟨pa85, sr85, fun ls K => (gI (fun a0 => gI (fun a1 => gI (fun a2 => gI (fun a3 => gI (fun a4 => gB (fun a5 => gB (fun a6 => gI (fun a7 => gI (fun a8 => gL [.int .i64] (fun a9 => gS (fun a10 => gI (fun a11 => gI (fun a12 => gB (fun a13 => gI (fun a14 => gE (Option.bind (F85 FUEL a0 a1 a2 a3 a4 a5 a6 a7 a8 a9 a10 a11 a12 a13 a14) fun y => K (ofB85 y)))))))))))))))))) ls⟩
def cuts85 : List (List Nat × Cut (Int)) := []
noncomputable def X85 : Px (Int) := ⟨T, Try.prog, lkF [(88, run88)], mkCuts 85 cuts85, altN, altN_ok⟩
theorem e85 (n : Nat) (a0 : Int) (a1 : Int) (a2 : Int) (a3 : Int) (a4 : Int) (a5 : Bool) (a6 : Bool) (a7 : Int) (a8 : Int) (a9 : List (Int)) (a10 : ByteArray) (a11 : Int) (a12 : Int) (a13 : Bool) (a14 : Int) : entF X85 8 85 pa85 (endK sr85 toB85) n [.i a0, .i a1, .i a2, .i a3, .i a4, .b a5, .b a6, .i a7, .i a8, .l [.int .i64] a9, .s a10, .i a11, .i a12, .b a13, .i a14] = F85 n a0 a1 a2 a3 a4 a5 a6 a7 a8 a9 a10 a11 a12 a13 a14 := by kernel_rfl
theorem sp85 {n : Nat} (a0 : Int) (a1 : Int) (a2 : Int) (a3 : Int) (a4 : Int) (a5 : Bool) (a6 : Bool) (a7 : Int) (a8 : Int) (a9 : List (Int)) (a10 : ByteArray) (a11 : Int) (a12 : Int) (a13 : Bool) (a14 : Int) {y : Int} (h : F85 n a0 a1 a2 a3 a4 a5 a6 a7 a8 a9 a10 a11 a12 a13 a14 = some y) : SpecF T Try.prog 85 pa85 [.i a0, .i a1, .i a2, .i a3, .i a4, .b a5, .b a6, .i a7, .i a8, .l [.int .i64] a9, .s a10, .i a11, .i a12, .b a13, .i a14] sr85 (ofB85 y) :=
  fun_ok (X := X85) tok (sfok_of ⟨ok88, trivial⟩) mixed 85 8 cuts85 rfl toB85_ok trivial ((e85 n a0 a1 a2 a3 a4 a5 a6 a7 a8 a9 a10 a11 a12 a13 a14).trans h)
theorem ok85 {R : Type} : SFone T Try.prog 85 (run85 : SF R) := by
  intro ls K r h
  simp only [run85] at h
  obtain ⟨a0, ls1, rfl, h1⟩ := gI_ok h; obtain ⟨a1, ls2, rfl, h2⟩ := gI_ok h1; obtain ⟨a2, ls3, rfl, h3⟩ := gI_ok h2; obtain ⟨a3, ls4, rfl, h4⟩ := gI_ok h3; obtain ⟨a4, ls5, rfl, h5⟩ := gI_ok h4; obtain ⟨a5, ls6, rfl, h6⟩ := gB_ok h5; obtain ⟨a6, ls7, rfl, h7⟩ := gB_ok h6; obtain ⟨a7, ls8, rfl, h8⟩ := gI_ok h7; obtain ⟨a8, ls9, rfl, h9⟩ := gI_ok h8; obtain ⟨a9, ls10, rfl, h10⟩ := gL_ok h9; obtain ⟨a10, ls11, rfl, h11⟩ := gS_ok h10; obtain ⟨a11, ls12, rfl, h12⟩ := gI_ok h11; obtain ⟨a12, ls13, rfl, h13⟩ := gI_ok h12; obtain ⟨a13, ls14, rfl, h14⟩ := gB_ok h13; obtain ⟨a14, ls15, rfl, h15⟩ := gI_ok h14; obtain ⟨rfl, h16⟩ := gE_ok h15
  obtain ⟨y, k1, k2⟩ := Option.bind_eq_some_iff.1 h16
  exact ⟨_, k2, sp85 a0 a1 a2 a3 a4 a5 a6 a7 a8 a9 a10 a11 a12 a13 a14 k1⟩

/-! ### garland/msg.isCall -/
def pa84 : List VP := [.i .i64, .i .i64]
def sr84 : RShape := ⟨.b, [], none⟩
def toB84 : List Leaf → Option (Bool) := gB (fun b0 => gE (some b0))
def ofB84 (y : Bool) : List Leaf := [.b y]
theorem toB84_ok : ∀ ls b, toB84 ls = some b → ls = ofB84 b := by
  intro ls b h
  unfold toB84 at h
  obtain ⟨b0, ls1, rfl, h1⟩ := gB_ok h; obtain ⟨rfl, h2⟩ := gE_ok h1
  cases h2; rfl
def run84 {R : Type} : SF R := ⟨pa84, sr84, fun ls K => (gI (fun a0 => gI (fun a1 => gE (Option.bind (F84 FUEL a0 a1) fun y => K (ofB84 y))))) ls⟩
def cuts84 : List (List Nat × Cut (Bool)) := []
noncomputable def X84 : Px (Bool) := ⟨T, Try.prog, lkF [], mkCuts 84 cuts84, altN, altN_ok⟩
theorem e84 (n : Nat) (a0 : Int) (a1 : Int) : entF X84 8 84 pa84 (endK sr84 toB84) n [.i a0, .i a1] = F84 n a0 a1 := by kernel_rfl
theorem sp84 {n : Nat} (a0 : Int) (a1 : Int) {y : Bool} (h : F84 n a0 a1 = some y) : SpecF T Try.prog 84 pa84 [.i a0, .i a1] sr84 (ofB84 y) :=
  fun_ok (X := X84) tok (sfok_of trivial) mixed 84 8 cuts84 rfl toB84_ok trivial ((e84 n a0 a1).trans h)
theorem ok84 {R : Type} : SFone T Try.prog 84 (run84 : SF R) := by
  intro ls K r h
  simp only [run84] at h
  obtain ⟨a0, ls1, rfl, h1⟩ := gI_ok h; obtain ⟨a1, ls2, rfl, h2⟩ := gI_ok h1; obtain ⟨rfl, h3⟩ := gE_ok h2
  obtain ⟨y, k1, k2⟩ := Option.bind_eq_some_iff.1 h3
  exact ⟨_, k2, sp84 a0 a1 k1⟩

/-! ### garland/msg.beside -/
def pa87 : List VP := [.agg [.i .u8, .i .i64, .i .i64, .i .i64, .i .i64, .b, .b, .i .i64, .i .i64, .opq 0, .s, .i .i64, .i .i64, .b, .i .i64]]
def sr87 : RShape := ⟨.agg [.i .u8, .i .i64, .i .i64, .i .i64, .i .i64, .b, .b, .i .i64, .i .i64, .opq 0, .s, .i .i64, .i .i64, .b, .i .i64], [], some (.agg [.i .u8, .i .i64, .i .i64, .i .i64, .i .i64, .b, .b, .i .i64, .i .i64, .nil, .s, .i .i64, .i .i64, .b, .i .i64])⟩
def toB87 : List Leaf → Option (Sbi5b2i2si2bi) := gB (fun b0 => gI (fun b1 => gI (fun b2 => gI (fun b3 => gI (fun b4 => gI (fun b5 => gB (fun b6 => gB (fun b7 => gI (fun b8 => gI (fun b9 => gS (fun b10 => gI (fun b11 => gI (fun b12 => gB (fun b13 => gI (fun b14 => gE (some ⟨b0, b1, b2, b3, b4, b5, b6, b7, b8, b9, b10, b11, b12, b13, b14⟩))))))))))))))))
def ofB87 (y : Sbi5b2i2si2bi) : List Leaf := [.b y.q0, .i y.q1, .i y.q2, .i y.q3, .i y.q4, .i y.q5, .b y.q6, .b y.q7, .i y.q8, .i y.q9, .s y.q10, .i y.q11, .i y.q12, .b y.q13, .i y.q14]
theorem toB87_ok : ∀ ls b, toB87 ls = some b → ls = ofB87 b := by
  intro ls b h
  unfold toB87 at h
  obtain ⟨b0, ls1, rfl, h1⟩ := gB_ok h; obtain ⟨b1, ls2, rfl, h2⟩ := gI_ok h1; obtain ⟨b2, ls3, rfl, h3⟩ := gI_ok h2; obtain ⟨b3, ls4, rfl, h4⟩ := gI_ok h3; obtain ⟨b4, ls5, rfl, h5⟩ := gI_ok h4; obtain ⟨b5, ls6, rfl, h6⟩ := gI_ok h5; obtain ⟨b6, ls7, rfl, h7⟩ := gB_ok h6; obtain ⟨b7, ls8, rfl, h8⟩ := gB_ok h7; obtain ⟨b8, ls9, rfl, h9⟩ := gI_ok h8; obtain ⟨b9, ls10, rfl, h10⟩ := gI_ok h9; obtain ⟨b10, ls11, rfl, h11⟩ := gS_ok h10; obtain ⟨b11, ls12, rfl, h12⟩ := gI_ok h11; obtain ⟨b12, ls13, rfl, h13⟩ := gI_ok h12; obtain ⟨b13, ls14, rfl, h14⟩ := gB_ok h13; obtain ⟨b14, ls15, rfl, h15⟩ := gI_ok h14; obtain ⟨rfl, h16⟩ := gE_ok h15
  cases h16; rfl
def run87 {R : Type} : SF R := ⟨pa87, sr87, fun ls K => (gI (fun a0 => gI (fun a1 => gI (fun a2 => gI (fun a3 => gI (fun a4 => gB (fun a5 => gB (fun a6 => gI (fun a7 => gI (fun a8 => gS (fun a9 => gI (fun a10 => gI (fun a11 => gB (fun a12 => gI (fun a13 => gE (Option.bind (F87 FUEL a0 a1 a2 a3 a4 a5 a6 a7 a8 a9 a10 a11 a12 a13) fun y => K (ofB87 y))))))))))))))))) ls⟩
def cuts87 : List (List Nat × Cut (Sbi5b2i2si2bi)) := []
noncomputable def X87 : Px (Sbi5b2i2si2bi) := ⟨T, Try.prog, lkF [], mkCuts 87 cuts87, altN, altN_ok⟩
theorem e87 (n : Nat) (a0 : Int) (a1 : Int) (a2 : Int) (a3 : Int) (a4 : Int) (a5 : Bool) (a6 : Bool) (a7 : Int) (a8 : Int) (a9 : ByteArray) (a10 : Int) (a11 : Int) (a12 : Bool) (a13 : Int) : entF X87 8 87 pa87 (endK sr87 toB87) n [.i a0, .i a1, .i a2, .i a3, .i a4, .b a5, .b a6, .i a7, .i a8, .s a9, .i a10, .i a11, .b a12, .i a13] = F87 n a0 a1 a2 a3 a4 a5 a6 a7 a8 a9 a10 a11 a12 a13 := by kernel_rfl
theorem sp87 {n : Nat} (a0 : Int) (a1 : Int) (a2 : Int) (a3 : Int) (a4 : Int) (a5 : Bool) (a6 : Bool) (a7 : Int) (a8 : Int) (a9 : ByteArray) (a10 : Int) (a11 : Int) (a12 : Bool) (a13 : Int) {y : Sbi5b2i2si2bi} (h : F87 n a0 a1 a2 a3 a4 a5 a6 a7 a8 a9 a10 a11 a12 a13 = some y) : SpecF T Try.prog 87 pa87 [.i a0, .i a1, .i a2, .i a3, .i a4, .b a5, .b a6, .i a7, .i a8, .s a9, .i a10, .i a11, .b a12, .i a13] sr87 (ofB87 y) :=
  fun_ok (X := X87) tok (sfok_of trivial) mixed 87 8 cuts87 rfl toB87_ok trivial ((e87 n a0 a1 a2 a3 a4 a5 a6 a7 a8 a9 a10 a11 a12 a13).trans h)
theorem ok87 {R : Type} : SFone T Try.prog 87 (run87 : SF R) := by
  intro ls K r h
  simp only [run87] at h
  obtain ⟨a0, ls1, rfl, h1⟩ := gI_ok h; obtain ⟨a1, ls2, rfl, h2⟩ := gI_ok h1; obtain ⟨a2, ls3, rfl, h3⟩ := gI_ok h2; obtain ⟨a3, ls4, rfl, h4⟩ := gI_ok h3; obtain ⟨a4, ls5, rfl, h5⟩ := gI_ok h4; obtain ⟨a5, ls6, rfl, h6⟩ := gB_ok h5; obtain ⟨a6, ls7, rfl, h7⟩ := gB_ok h6; obtain ⟨a7, ls8, rfl, h8⟩ := gI_ok h7; obtain ⟨a8, ls9, rfl, h9⟩ := gI_ok h8; obtain ⟨a9, ls10, rfl, h10⟩ := gS_ok h9; obtain ⟨a10, ls11, rfl, h11⟩ := gI_ok h10; obtain ⟨a11, ls12, rfl, h12⟩ := gI_ok h11; obtain ⟨a12, ls13, rfl, h13⟩ := gB_ok h12; obtain ⟨a13, ls14, rfl, h14⟩ := gI_ok h13; obtain ⟨rfl, h15⟩ := gE_ok h14
  obtain ⟨y, k1, k2⟩ := Option.bind_eq_some_iff.1 h15
  exact ⟨_, k2, sp87 a0 a1 a2 a3 a4 a5 a6 a7 a8 a9 a10 a11 a12 a13 k1⟩

/-! ### slices.Equal[[]int,int] -/
def pa105 : List VP := [.sl false [.int .i64], .sl false [.int .i64]]
def sr105 : RShape := ⟨.b, [], none⟩
def toB105 : List Leaf → Option (Bool) := gB (fun b0 => gE (some b0))
def ofB105 (y : Bool) : List Leaf := [.b y]
theorem toB105_ok : ∀ ls b, toB105 ls = some b → ls = ofB105 b := by
  intro ls b h
  unfold toB105 at h
  obtain ⟨b0, ls1, rfl, h1⟩ := gB_ok h; obtain ⟨rfl, h2⟩ := gE_ok h1
  cases h2; rfl
def run105 {R : Type} : SF R := ⟨pa105, sr105, fun ls K => (gL [.int .i64] (fun a0 => gL [.int .i64] (fun a1 => gE (Option.bind (F105 FUEL a0 a1) fun y => K (ofB105 y))))) ls⟩
def sh105_0 : Shape := ⟨[(26, [(0, .sl false [.int .i64]), (1, .sl false [.int .i64]), (12, .i .i64), (13, .i .i64)])], []⟩
def g105_0 (n : Nat) : List Leaf → Option (Bool) := gL [.int .i64] (fun x0 => gL [.int .i64] (fun x1 => gI (fun x2 => gI (fun x3 => gE (F105_c0 n x0 x1 x2 x3)))))
def cuts105 : List (List Nat × Cut (Bool)) := [([1, 1, 0, 1, 0], ⟨sh105_0, g105_0⟩)]
noncomputable def X105 : Px (Bool) := ⟨T, Try.prog, lkF [], mkCuts 105 cuts105, altN, altN_ok⟩
theorem e105_0 (n : Nat) (x0 : List (Int)) (x1 : List (Int)) (x2 : Int) (x3 : Int) : stepF X105 8 105 (endK sr105 toB105) [1, 1, 0, 1, 0] sh105_0 n [.l [.int .i64] x0, .l [.int .i64] x1, .i x2, .i x3] = F105_c0 (n + 1) x0 x1 x2 x3 := by kernel_rfl
theorem e105 (n : Nat) (a0 : List (Int)) (a1 : List (Int)) : entF X105 8 105 pa105 (endK sr105 toB105) n [.l [.int .i64] a0, .l [.int .i64] a1] = F105 n a0 a1 := by kernel_rfl
theorem c105_0 : CutOK X105 8 105 (endK sr105 toB105) [1, 1, 0, 1, 0] ⟨sh105_0, g105_0⟩ := by
  refine ⟨fun ls => ?_, fun n ls r h => ?_⟩
  · cases h : g105_0 0 ls with
    | none => exact h
    | some r =>
      unfold g105_0 at h; obtain ⟨x0, ls1, rfl, h1⟩ := gL_ok h; obtain ⟨x1, ls2, rfl, h2⟩ := gL_ok h1; obtain ⟨x2, ls3, rfl, h3⟩ := gI_ok h2; obtain ⟨x3, ls4, rfl, h4⟩ := gI_ok h3; obtain ⟨rfl, h5⟩ := gE_ok h4; simp only [F105_c0] at h5; cases h5
  · replace h : g105_0 (n + 1) ls = some r := h
    unfold g105_0 at h
    obtain ⟨x0, ls1, rfl, h1⟩ := gL_ok h; obtain ⟨x1, ls2, rfl, h2⟩ := gL_ok h1; obtain ⟨x2, ls3, rfl, h3⟩ := gI_ok h2; obtain ⟨x3, ls4, rfl, h4⟩ := gI_ok h3; obtain ⟨rfl, h5⟩ := gE_ok h4
    exact (e105_0 n x0 x1 x2 x3).trans h5
theorem sp105 {n : Nat} (a0 : List (Int)) (a1 : List (Int)) {y : Bool} (h : F105 n a0 a1 = some y) : SpecF T Try.prog 105 pa105 [.l [.int .i64] a0, .l [.int .i64] a1] sr105 (ofB105 y) :=
  fun_ok (X := X105) tok (sfok_of trivial) mixed 105 8 cuts105 rfl toB105_ok ⟨c105_0, trivial⟩ ((e105 n a0 a1).trans h)
theorem ok105 {R : Type} : SFone T Try.prog 105 (run105 : SF R) := by
  intro ls K r h
  simp only [run105] at h
  obtain ⟨a0, ls1, rfl, h1⟩ := gL_ok h; obtain ⟨a1, ls2, rfl, h2⟩ := gL_ok h1; obtain ⟨rfl, h3⟩ := gE_ok h2
  obtain ⟨y, k1, k2⟩ := Option.bind_eq_some_iff.1 h3
  exact ⟨_, k2, sp105 a0 a1 k1⟩

/-! ### garland/msg.Same -/
def pa86 : List VP := [.agg [.i .u8, .i .i64, .i .i64, .i .i64, .i .i64, .b, .b, .i .i64, .i .i64, .sl false [.int .i64], .s, .i .i64, .i .i64, .b, .i .i64], .agg [.i .u8, .i .i64, .i .i64, .i .i64, .i .i64, .b, .b, .i .i64, .i .i64, .sl false [.int .i64], .s, .i .i64, .i .i64, .b, .i .i64]]
def sr86 : RShape := ⟨.b, [], none⟩
def toB86 : List Leaf → Option (Bool) := gB (fun b0 => gE (some b0))
def ofB86 (y : Bool) : List Leaf := [.b y]
theorem toB86_ok : ∀ ls b, toB86 ls = some b → ls = ofB86 b := by
  intro ls b h
  unfold toB86 at h
  obtain ⟨b0, ls1, rfl, h1⟩ := gB_ok h; obtain ⟨rfl, h2⟩ := gE_ok h1
  cases h2; rfl
def run86 {R : Type} : SF R := ⟨pa86, sr86, fun ls K => (gI (fun a0 => gI (fun a1 => gI (fun a2 => gI (fun a3 => gI (fun a4 => gB (fun a5 => gB (fun a6 => gI (fun a7 => gI (fun a8 => gL [.int .i64] (fun a9 => gS (fun a10 => gI (fun a11 => gI (fun a12 => gB (fun a13 => gI (fun a14 => gI (fun a15 => gI (fun a16 => gI (fun a17 => gI (fun a18 => gI (fun a19 => gB (fun a20 => gB (fun a21 => gI (fun a22 => gI (fun a23 => gL [.int .i64] (fun a24 => gS (fun a25 => gI (fun a26 => gI (fun a27 => gB (fun a28 => gI (fun a29 => gE (Option.bind (F86 FUEL a0 a1 a2 a3 a4 a5 a6 a7 a8 a9 a10 a11 a12 a13 a14 a15 a16 a17 a18 a19 a20 a21 a22 a23 a24 a25 a26 a27 a28 a29) fun y => K (ofB86 y))))))))))))))))))))))))))))))))) ls⟩
def cuts86 : List (List Nat × Cut (Bool)) := []
noncomputable def X86 : Px (Bool) := ⟨T, Try.prog, lkF [(105, run105)], mkCuts 86 cuts86, altN, altN_ok⟩
theorem e86 (n : Nat) (a0 : Int) (a1 : Int) (a2 : Int) (a3 : Int) (a4 : Int) (a5 : Bool) (a6 : Bool) (a7 : Int) (a8 : Int) (a9 : List (Int)) (a10 : ByteArray) (a11 : Int) (a12 : Int) (a13 : Bool) (a14 : Int) (a15 : Int) (a16 : Int) (a17 : Int) (a18 : Int) (a19 : Int) (a20 : Bool) (a21 : Bool) (a22 : Int) (a23 : Int) (a24 : List (Int)) (a25 : ByteArray) (a26 : Int) (a27 : Int) (a28 : Bool) (a29 : Int) : entF X86 8 86 pa86 (endK sr86 toB86) n [.i a0, .i a1, .i a2, .i a3, .i a4, .b a5, .b a6, .i a7, .i a8, .l [.int .i64] a9, .s a10, .i a11, .i a12, .b a13, .i a14, .i a15, .i a16, .i a17, .i a18, .i a19, .b a20, .b a21, .i a22, .i a23, .l [.int .i64] a24, .s a25, .i a26, .i a27, .b a28, .i a29] = F86 n a0 a1 a2 a3 a4 a5 a6 a7 a8 a9 a10 a11 a12 a13 a14 a15 a16 a17 a18 a19 a20 a21 a22 a23 a24 a25 a26 a27 a28 a29 := by kernel_rfl
theorem sp86 {n : Nat} (a0 : Int) (a1 : Int) (a2 : Int) (a3 : Int) (a4 : Int) (a5 : Bool) (a6 : Bool) (a7 : Int) (a8 : Int) (a9 : List (Int)) (a10 : ByteArray) (a11 : Int) (a12 : Int) (a13 : Bool) (a14 : Int) (a15 : Int) (a16 : Int) (a17 : Int) (a18 : Int) (a19 : Int) (a20 : Bool) (a21 : Bool) (a22 : Int) (a23 : Int) (a24 : List (Int)) (a25 : ByteArray) (a26 : Int) (a27 : Int) (a28 : Bool) (a29 : Int) {y : Bool} (h : F86 n a0 a1 a2 a3 a4 a5 a6 a7 a8 a9 a10 a11 a12 a13 a14 a15 a16 a17 a18 a19 a20 a21 a22 a23 a24 a25 a26 a27 a28 a29 = some y) : SpecF T Try.prog 86 pa86 [.i a0, .i a1, .i a2, .i a3, .i a4, .b a5, .b a6, .i a7, .i a8, .l [.int .i64] a9, .s a10, .i a11, .i a12, .b a13, .i a14, .i a15, .i a16, .i a17, .i a18, .i a19, .b a20, .b a21, .i a22, .i a23, .l [.int .i64] a24, .s a25, .i a26, .i a27, .b a28, .i a29] sr86 (ofB86 y) :=
  fun_ok (X := X86) tok (sfok_of ⟨ok105, trivial⟩) mixed 86 8 cuts86 rfl toB86_ok trivial ((e86 n a0 a1 a2 a3 a4 a5 a6 a7 a8 a9 a10 a11 a12 a13 a14 a15 a16 a17 a18 a19 a20 a21 a22 a23 a24 a25 a26 a27 a28 a29).trans h)
theorem ok86 {R : Type} : SFone T Try.prog 86 (run86 : SF R) := by
  intro ls K r h
  simp only [run86] at h
  obtain ⟨a0, ls1, rfl, h1⟩ := gI_ok h; obtain ⟨a1, ls2, rfl, h2⟩ := gI_ok h1; obtain ⟨a2, ls3, rfl, h3⟩ := gI_ok h2; obtain ⟨a3, ls4, rfl, h4⟩ := gI_ok h3; obtain ⟨a4, ls5, rfl, h5⟩ := gI_ok h4; obtain ⟨a5, ls6, rfl, h6⟩ := gB_ok h5; obtain ⟨a6, ls7, rfl, h7⟩ := gB_ok h6; obtain ⟨a7, ls8, rfl, h8⟩ := gI_ok h7; obtain ⟨a8, ls9, rfl, h9⟩ := gI_ok h8; obtain ⟨a9, ls10, rfl, h10⟩ := gL_ok h9; obtain ⟨a10, ls11, rfl, h11⟩ := gS_ok h10; obtain ⟨a11, ls12, rfl, h12⟩ := gI_ok h11; obtain ⟨a12, ls13, rfl, h13⟩ := gI_ok h12; obtain ⟨a13, ls14, rfl, h14⟩ := gB_ok h13; obtain ⟨a14, ls15, rfl, h15⟩ := gI_ok h14; obtain ⟨a15, ls16, rfl, h16⟩ := gI_ok h15; obtain ⟨a16, ls17, rfl, h17⟩ := gI_ok h16; obtain ⟨a17, ls18, rfl, h18⟩ := gI_ok h17; obtain ⟨a18, ls19, rfl, h19⟩ := gI_ok h18; obtain ⟨a19, ls20, rfl, h20⟩ := gI_ok h19; obtain ⟨a20, ls21, rfl, h21⟩ := gB_ok h20; obtain ⟨a21, ls22, rfl, h22⟩ := gB_ok h21; obtain ⟨a22, ls23, rfl, h23⟩ := gI_ok h22; obtain ⟨a23, ls24, rfl, h24⟩ := gI_ok h23; obtain ⟨a24, ls25, rfl, h25⟩ := gL_ok h24; obtain ⟨a25, ls26, rfl, h26⟩ := gS_ok h25; obtain ⟨a26, ls27, rfl, h27⟩ := gI_ok h26; obtain ⟨a27, ls28, rfl, h28⟩ := gI_ok h27; obtain ⟨a28, ls29, rfl, h29⟩ := gB_ok h28; obtain ⟨a29, ls30, rfl, h30⟩ := gI_ok h29; obtain ⟨rfl, h31⟩ := gE_ok h30
  obtain ⟨y, k1, k2⟩ := Option.bind_eq_some_iff.1 h31
  exact ⟨_, k2, sp86 a0 a1 a2 a3 a4 a5 a6 a7 a8 a9 a10 a11 a12 a13 a14 a15 a16 a17 a18 a19 a20 a21 a22 a23 a24 a25 a26 a27 a28 a29 k1⟩

/-! ### garland/msg.Right -/
def pa54 : List VP := [.agg [.i .u8, .i .i64, .i .i64, .i .i64, .i .i64, .b, .b, .i .i64, .i .i64, .sl false [.int .i64], .s, .i .i64, .i .i64, .b, .i .i64]]
def sr54 : RShape := ⟨.b, [], none⟩
def toB54 : List Leaf → Option (Bool) := gB (fun b0 => gE (some b0))
def ofB54 (y : Bool) : List Leaf := [.b y]
theorem toB54_ok : ∀ ls b, toB54 ls = some b → ls = ofB54 b := by
  intro ls b h
  unfold toB54 at h
  obtain ⟨b0, ls1, rfl, h1⟩ := gB_ok h; obtain ⟨rfl, h2⟩ := gE_ok h1
  cases h2; rfl
def run54 {R : Type} : SF R := ⟨pa54, sr54, fun ls K => (gI (fun a0 => gI (fun a1 => gI (fun a2 => gI (fun a3 => gI (fun a4 => gB (fun a5 => gB (fun a6 => gI (fun a7 => gI (fun a8 => gL [.int .i64] (fun a9 => gS (fun a10 => gI (fun a11 => gI (fun a12 => gB (fun a13 => gI (fun a14 => gE (Option.bind (F54 FUEL a0 a1 a2 a3 a4 a5 a6 a7 a8 a9 a10 a11 a12 a13 a14) fun y => K (ofB54 y)))))))))))))))))) ls⟩
def sh54_0 : Shape := ⟨[(40, [])], []⟩
def g54_0 (n : Nat) : List Leaf → Option (Bool) := gE (F54_c0 n )
def sh54_1 : Shape := ⟨[(55, [(0, .yield 7), (44, .sl false [.int .i64]), (45, .i .i64), (46, .i .i64)]), (40, [(1, .ref 0 0)])], [.cells [.i .u8, .i .i64, .i .i64, .i .i64, .i .i64, .b, .b, .i .i64, .i .i64, .sl false [.int .i64], .s, .i .i64, .i .i64, .b, .i .i64]]⟩
def g54_1 (n : Nat) : List Leaf → Option (Bool) := gL [.int .i64] (fun x0 => gI (fun x1 => gI (fun x2 => gI (fun x3 => gI (fun x4 => gI (fun x5 => gI (fun x6 => gI (fun x7 => gB (fun x8 => gB (fun x9 => gI (fun x10 => gI (fun x11 => gL [.int .i64] (fun x12 => gS (fun x13 => gI (fun x14 => gI (fun x15 => gB (fun x16 => gI (fun x17 => gE (F54_c1 n x0 x1 x2 x3 x4 x5 x6 x7 x8 x9 x10 x11 x12 x13 x14 x15 x16 x17)))))))))))))))))))
def cuts54 : List (List Nat × Cut (Bool)) := [([1, 10], ⟨sh54_0, g54_0⟩), ([1, 0, 1, 0, 1, 0, 208, 1, 1, 0, 1, 1, 1, 1, 1, 0, 1, 1, 0], ⟨sh54_1, g54_1⟩)]
noncomputable def X54 : Px (Bool) := ⟨T, Try.prog, lkF [(81, run81), (83, run83), (85, run85), (84, run84), (87, run87), (86, run86)], mkCuts 54 cuts54, altN, altN_ok⟩
theorem e54_0 (n : Nat) : stepF X54 8 54 (endK sr54 toB54) [1, 10] sh54_0 n [] = F54_c0 (n + 1)  := by kernel_rfl
theorem e54_1 (n : Nat) (x0 : List (Int)) (x1 : Int) (x2 : Int) (x3 : Int) (x4 : Int) (x5 : Int) (x6 : Int) (x7 : Int) (x8 : Bool) (x9 : Bool) (x10 : Int) (x11 : Int) (x12 : List (Int)) (x13 : ByteArray) (x14 : Int) (x15 : Int) (x16 : Bool) (x17 : Int) : stepF X54 8 54 (endK sr54 toB54) [1, 0, 1, 0, 1, 0, 208, 1, 1, 0, 1, 1, 1, 1, 1, 0, 1, 1, 0] sh54_1 n [.l [.int .i64] x0, .i x1, .i x2, .i x3, .i x4, .i x5, .i x6, .i x7, .b x8, .b x9, .i x10, .i x11, .l [.int .i64] x12, .s x13, .i x14, .i x15, .b x16, .i x17] = F54_c1 (n + 1) x0 x1 x2 x3 x4 x5 x6 x7 x8 x9 x10 x11 x12 x13 x14 x15 x16 x17 := by kernel_rfl
theorem e54 (n : Nat) (a0 : Int) (a1 : Int) (a2 : Int) (a3 : Int) (a4 : Int) (a5 : Bool) (a6 : Bool) (a7 : Int) (a8 : Int) (a9 : List (Int)) (a10 : ByteArray) (a11 : Int) (a12 : Int) (a13 : Bool) (a14 : Int) : entF X54 8 54 pa54 (endK sr54 toB54) n [.i a0, .i a1, .i a2, .i a3, .i a4, .b a5, .b a6, .i a7, .i a8, .l [.int .i64] a9, .s a10, .i a11, .i a12, .b a13, .i a14] = F54 n a0 a1 a2 a3 a4 a5 a6 a7 a8 a9 a10 a11 a12 a13 a14 := by kernel_rfl
theorem c54_0 : CutOK X54 8 54 (endK sr54 toB54) [1, 10] ⟨sh54_0, g54_0⟩ := by
  refine ⟨fun ls => ?_, fun n ls r h => ?_⟩
  · cases h : g54_0 0 ls with
    | none => exact h
    | some r =>
      unfold g54_0 at h; obtain ⟨rfl, h1⟩ := gE_ok h; simp only [F54_c0] at h1; cases h1
  · replace h : g54_0 (n + 1) ls = some r := h
    unfold g54_0 at h
    obtain ⟨rfl, h1⟩ := gE_ok h
    exact (e54_0 n ).trans h1
theorem c54_1 : CutOK X54 8 54 (endK sr54 toB54) [1, 0, 1, 0, 1, 0, 208, 1, 1, 0, 1, 1, 1, 1, 1, 0, 1, 1, 0] ⟨sh54_1, g54_1⟩ := by
  refine ⟨fun ls => ?_, fun n ls r h => ?_⟩
  · cases h : g54_1 0 ls with
    | none => exact h
    | some r =>
      unfold g54_1 at h; obtain ⟨x0, ls1, rfl, h1⟩ := gL_ok h; obtain ⟨x1, ls2, rfl, h2⟩ := gI_ok h1; obtain ⟨x2, ls3, rfl, h3⟩ := gI_ok h2; obtain ⟨x3, ls4, rfl, h4⟩ := gI_ok h3; obtain ⟨x4, ls5, rfl, h5⟩ := gI_ok h4; obtain ⟨x5, ls6, rfl, h6⟩ := gI_ok h5; obtain ⟨x6, ls7, rfl, h7⟩ := gI_ok h6; obtain ⟨x7, ls8, rfl, h8⟩ := gI_ok h7; obtain ⟨x8, ls9, rfl, h9⟩ := gB_ok h8; obtain ⟨x9, ls10, rfl, h10⟩ := gB_ok h9; obtain ⟨x10, ls11, rfl, h11⟩ := gI_ok h10; obtain ⟨x11, ls12, rfl, h12⟩ := gI_ok h11; obtain ⟨x12, ls13, rfl, h13⟩ := gL_ok h12; obtain ⟨x13, ls14, rfl, h14⟩ := gS_ok h13; obtain ⟨x14, ls15, rfl, h15⟩ := gI_ok h14; obtain ⟨x15, ls16, rfl, h16⟩ := gI_ok h15; obtain ⟨x16, ls17, rfl, h17⟩ := gB_ok h16; obtain ⟨x17, ls18, rfl, h18⟩ := gI_ok h17; obtain ⟨rfl, h19⟩ := gE_ok h18; simp only [F54_c1] at h19; cases h19
  · replace h : g54_1 (n + 1) ls = some r := h
    unfold g54_1 at h
    obtain ⟨x0, ls1, rfl, h1⟩ := gL_ok h; obtain ⟨x1, ls2, rfl, h2⟩ := gI_ok h1; obtain ⟨x2, ls3, rfl, h3⟩ := gI_ok h2; obtain ⟨x3, ls4, rfl, h4⟩ := gI_ok h3; obtain ⟨x4, ls5, rfl, h5⟩ := gI_ok h4; obtain ⟨x5, ls6, rfl, h6⟩ := gI_ok h5; obtain ⟨x6, ls7, rfl, h7⟩ := gI_ok h6; obtain ⟨x7, ls8, rfl, h8⟩ := gI_ok h7; obtain ⟨x8, ls9, rfl, h9⟩ := gB_ok h8; obtain ⟨x9, ls10, rfl, h10⟩ := gB_ok h9; obtain ⟨x10, ls11, rfl, h11⟩ := gI_ok h10; obtain ⟨x11, ls12, rfl, h12⟩ := gI_ok h11; obtain ⟨x12, ls13, rfl, h13⟩ := gL_ok h12; obtain ⟨x13, ls14, rfl, h14⟩ := gS_ok h13; obtain ⟨x14, ls15, rfl, h15⟩ := gI_ok h14; obtain ⟨x15, ls16, rfl, h16⟩ := gI_ok h15; obtain ⟨x16, ls17, rfl, h17⟩ := gB_ok h16; obtain ⟨x17, ls18, rfl, h18⟩ := gI_ok h17; obtain ⟨rfl, h19⟩ := gE_ok h18
    exact (e54_1 n x0 x1 x2 x3 x4 x5 x6 x7 x8 x9 x10 x11 x12 x13 x14 x15 x16 x17).trans h19
theorem sp54 {n : Nat} (a0 : Int) (a1 : Int) (a2 : Int) (a3 : Int) (a4 : Int) (a5 : Bool) (a6 : Bool) (a7 : Int) (a8 : Int) (a9 : List (Int)) (a10 : ByteArray) (a11 : Int) (a12 : Int) (a13 : Bool) (a14 : Int) {y : Bool} (h : F54 n a0 a1 a2 a3 a4 a5 a6 a7 a8 a9 a10 a11 a12 a13 a14 = some y) : SpecF T Try.prog 54 pa54 [.i a0, .i a1, .i a2, .i a3, .i a4, .b a5, .b a6, .i a7, .i a8, .l [.int .i64] a9, .s a10, .i a11, .i a12, .b a13, .i a14] sr54 (ofB54 y) :=
  fun_ok (X := X54) tok (sfok_of ⟨ok81, ok83, ok85, ok84, ok87, ok86, trivial⟩) mixed 54 8 cuts54 rfl toB54_ok ⟨c54_0, c54_1, trivial⟩ ((e54 n a0 a1 a2 a3 a4 a5 a6 a7 a8 a9 a10 a11 a12 a13 a14).trans h)
theorem ok54 {R : Type} : SFone T Try.prog 54 (run54 : SF R) := by
  intro ls K r h
  simp only [run54] at h
  obtain ⟨a0, ls1, rfl, h1⟩ := gI_ok h; obtain ⟨a1, ls2, rfl, h2⟩ := gI_ok h1; obtain ⟨a2, ls3, rfl, h3⟩ := gI_ok h2; obtain ⟨a3, ls4, rfl, h4⟩ := gI_ok h3; obtain ⟨a4, ls5, rfl, h5⟩ := gI_ok h4; obtain ⟨a5, ls6, rfl, h6⟩ := gB_ok h5; obtain ⟨a6, ls7, rfl, h7⟩ := gB_ok h6; obtain ⟨a7, ls8, rfl, h8⟩ := gI_ok h7; obtain ⟨a8, ls9, rfl, h9⟩ := gI_ok h8; obtain ⟨a9, ls10, rfl, h10⟩ := gL_ok h9; obtain ⟨a10, ls11, rfl, h11⟩ := gS_ok h10; obtain ⟨a11, ls12, rfl, h12⟩ := gI_ok h11; obtain ⟨a12, ls13, rfl, h13⟩ := gI_ok h12; obtain ⟨a13, ls14, rfl, h14⟩ := gB_ok h13; obtain ⟨a14, ls15, rfl, h15⟩ := gI_ok h14; obtain ⟨rfl, h16⟩ := gE_ok h15
  obtain ⟨y, k1, k2⟩ := Option.bind_eq_some_iff.1 h16
  exact ⟨_, k2, sp54 a0 a1 a2 a3 a4 a5 a6 a7 a8 a9 a10 a11 a12 a13 a14 k1⟩

/-! ### garland/look.hopped -/
def pa69 : List VP := [.agg [.i .i64, .i .i64, .i .i64, .b, .b, .i .i64]]
def sr69 : RShape := ⟨.tup [.agg [.i .i64, .i .i64, .i .i64, .b, .b, .i .i64], .b], [], none⟩
def toB69 : List Leaf → Option (Si3b2ib) := gI (fun b0 => gI (fun b1 => gI (fun b2 => gB (fun b3 => gB (fun b4 => gI (fun b5 => gB (fun b6 => gE (some ⟨b0, b1, b2, b3, b4, b5, b6⟩))))))))
def ofB69 (y : Si3b2ib) : List Leaf := [.i y.q0, .i y.q1, .i y.q2, .b y.q3, .b y.q4, .i y.q5, .b y.q6]
theorem toB69_ok : ∀ ls b, toB69 ls = some b → ls = ofB69 b := by
  intro ls b h
  unfold toB69 at h
  obtain ⟨b0, ls1, rfl, h1⟩ := gI_ok h; obtain ⟨b1, ls2, rfl, h2⟩ := gI_ok h1; obtain ⟨b2, ls3, rfl, h3⟩ := gI_ok h2; obtain ⟨b3, ls4, rfl, h4⟩ := gB_ok h3; obtain ⟨b4, ls5, rfl, h5⟩ := gB_ok h4; obtain ⟨b5, ls6, rfl, h6⟩ := gI_ok h5; obtain ⟨b6, ls7, rfl, h7⟩ := gB_ok h6; obtain ⟨rfl, h8⟩ := gE_ok h7
  cases h8; rfl
def run69 {R : Type} : SF R := ⟨pa69, sr69, fun ls K => (gI (fun a0 => gI (fun a1 => gI (fun a2 => gB (fun a3 => gB (fun a4 => gI (fun a5 => gE (Option.bind (F69 FUEL a0 a1 a2 a3 a4 a5) fun y => K (ofB69 y))))))))) ls⟩
def cuts69 : List (List Nat × Cut (Si3b2ib)) := []
noncomputable def X69 : Px (Si3b2ib) := ⟨T, Try.prog, lkF [], mkCuts 69 cuts69, altN, altN_ok⟩
theorem e69 (n : Nat) (a0 : Int) (a1 : Int) (a2 : Int) (a3 : Bool) (a4 : Bool) (a5 : Int) : entF X69 8 69 pa69 (endK sr69 toB69) n [.i a0, .i a1, .i a2, .b a3, .b a4, .i a5] = F69 n a0 a1 a2 a3 a4 a5 := by kernel_rfl
theorem sp69 {n : Nat} (a0 : Int) (a1 : Int) (a2 : Int) (a3 : Bool) (a4 : Bool) (a5 : Int) {y : Si3b2ib} (h : F69 n a0 a1 a2 a3 a4 a5 = some y) : SpecF T Try.prog 69 pa69 [.i a0, .i a1, .i a2, .b a3, .b a4, .i a5] sr69 (ofB69 y) :=
  fun_ok (X := X69) tok (sfok_of trivial) mixed 69 8 cuts69 rfl toB69_ok trivial ((e69 n a0 a1 a2 a3 a4 a5).trans h)
theorem ok69 {R : Type} : SFone T Try.prog 69 (run69 : SF R) := by
  intro ls K r h
  simp only [run69] at h
  obtain ⟨a0, ls1, rfl, h1⟩ := gI_ok h; obtain ⟨a1, ls2, rfl, h2⟩ := gI_ok h1; obtain ⟨a2, ls3, rfl, h3⟩ := gI_ok h2; obtain ⟨a3, ls4, rfl, h4⟩ := gB_ok h3; obtain ⟨a4, ls5, rfl, h5⟩ := gB_ok h4; obtain ⟨a5, ls6, rfl, h6⟩ := gI_ok h5; obtain ⟨rfl, h7⟩ := gE_ok h6
  obtain ⟨y, k1, k2⟩ := Option.bind_eq_some_iff.1 h7
  exact ⟨_, k2, sp69 a0 a1 a2 a3 a4 a5 k1⟩

/-! ### garland/look.Told -/
def pa35 : List VP := [.agg [.i .i64, .sl false [.int .i64], .sl false [.int .i64], .i .i64, .i .i64, .i .i64, .i .i64, .i .i64, .i .i64, .i .i64, .i .i64, .i .i64, .i .i64, .i .i64, .i .i64, .i .i64, .i .i64, .i .i64, .i .i64, .i .i64], .agg [.i .i64, .i .i64, .i .i64, .b, .b, .i .i64], .agg [.i .u8, .i .i64, .i .i64, .i .i64, .i .i64, .b, .b, .i .i64, .i .i64, .sl false [.int .i64], .s, .i .i64, .i .i64, .b, .i .i64]]
def sr35 : RShape := ⟨.agg [.i .i64, .i .i64, .i .i64, .b, .b, .i .i64], [], none⟩
def toB35 : List Leaf → Option (Si3b2i) := gI (fun b0 => gI (fun b1 => gI (fun b2 => gB (fun b3 => gB (fun b4 => gI (fun b5 => gE (some ⟨b0, b1, b2, b3, b4, b5⟩)))))))
def ofB35 (y : Si3b2i) : List Leaf := [.i y.q0, .i y.q1, .i y.q2, .b y.q3, .b y.q4, .i y.q5]
theorem toB35_ok : ∀ ls b, toB35 ls = some b → ls = ofB35 b := by
  intro ls b h
  unfold toB35 at h
  obtain ⟨b0, ls1, rfl, h1⟩ := gI_ok h; obtain ⟨b1, ls2, rfl, h2⟩ := gI_ok h1; obtain ⟨b2, ls3, rfl, h3⟩ := gI_ok h2; obtain ⟨b3, ls4, rfl, h4⟩ := gB_ok h3; obtain ⟨b4, ls5, rfl, h5⟩ := gB_ok h4; obtain ⟨b5, ls6, rfl, h6⟩ := gI_ok h5; obtain ⟨rfl, h7⟩ := gE_ok h6
  cases h7; rfl
def run35 {R : Type} : SF R := ⟨pa35, sr35, fun ls K => (gI (fun a0 => gL [.int .i64] (fun a1 => gL [.int .i64] (fun a2 => gI (fun a3 => gI (fun a4 => gI (fun a5 => gI (fun a6 => gI (fun a7 => gI (fun a8 => gI (fun a9 => gI (fun a10 => gI (fun a11 => gI (fun a12 => gI (fun a13 => gI (fun a14 => gI (fun a15 => gI (fun a16 => gI (fun a17 => gI (fun a18 => gI (fun a19 => gI (fun a20 => gI (fun a21 => gI (fun a22 => gB (fun a23 => gB (fun a24 => gI (fun a25 => gI (fun a26 => gI (fun a27 => gI (fun a28 => gI (fun a29 => gI (fun a30 => gB (fun a31 => gB (fun a32 => gI (fun a33 => gI (fun a34 => gL [.int .i64] (fun a35 => gS (fun a36 => gI (fun a37 => gI (fun a38 => gB (fun a39 => gI (fun a40 => gE (Option.bind (F35 FUEL a0 a1 a2 a3 a4 a5 a6 a7 a8 a9 a10 a11 a12 a13 a14 a15 a16 a17 a18 a19 a20 a21 a22 a23 a24 a25 a26 a27 a28 a29 a30 a31 a32 a33 a34 a35 a36 a37 a38 a39 a40) fun y => K (ofB35 y)))))))))))))))))))))))))))))))))))))))))))) ls⟩
def sh35_0 : Shape := ⟨[(55, [(4, .ref 0 0), (6, .ref 1 0)])], [.cells [.i .i64, .i .i64, .i .i64, .b, .b, .i .i64], .cells [.i .i64, .i .i64, .i .i64, .b, .b, .i .i64]]⟩
def g35_0 (n : Nat) : List Leaf → Option (Si3b2i) := gI (fun x0 => gI (fun x1 => gI (fun x2 => gB (fun x3 => gB (fun x4 => gI (fun x5 => gI (fun x6 => gI (fun x7 => gI (fun x8 => gB (fun x9 => gB (fun x10 => gI (fun x11 => gE (F35_c0 n x0 x1 x2 x3 x4 x5 x6 x7 x8 x9 x10 x11)))))))))))))
def cuts35 : List (List Nat × Cut (Si3b2i)) := [([1, 10], ⟨sh35_0, g35_0⟩)]
noncomputable def X35 : Px (Si3b2i) := ⟨T, Try.prog, lkF [(45, run45), (39, run39), (41, run41), (54, run54), (69, run69), (15, run15)], mkCuts 35 cuts35, altN, altN_ok⟩
theorem e35_0 (n : Nat) (x0 : Int) (x1 : Int) (x2 : Int) (x3 : Bool) (x4 : Bool) (x5 : Int) (x6 : Int) (x7 : Int) (x8 : Int) (x9 : Bool) (x10 : Bool) (x11 : Int) : stepF X35 8 35 (endK sr35 toB35) [1, 10] sh35_0 n [.i x0, .i x1, .i x2, .b x3, .b x4, .i x5, .i x6, .i x7, .i x8, .b x9, .b x10, .i x11] = F35_c0 (n + 1) x0 x1 x2 x3 x4 x5 x6 x7 x8 x9 x10 x11 := by kernel_rfl
theorem e35 (n : Nat) (a0 : Int) (a1 : List (Int)) (a2 : List (Int)) (a3 : Int) (a4 : Int) (a5 : Int) (a6 : Int) (a7 : Int) (a8 : Int) (a9 : Int) (a10 : Int) (a11 : Int) (a12 : Int) (a13 : Int) (a14 : Int) (a15 : Int) (a16 : Int) (a17 : Int) (a18 : Int) (a19 : Int) (a20 : Int) (a21 : Int) (a22 : Int) (a23 : Bool) (a24 : Bool) (a25 : Int) (a26 : Int) (a27 : Int) (a28 : Int) (a29 : Int) (a30 : Int) (a31 : Bool) (a32 : Bool) (a33 : Int) (a34 : Int) (a35 : List (Int)) (a36 : ByteArray) (a37 : Int) (a38 : Int) (a39 : Bool) (a40 : Int) : entF X35 8 35 pa35 (endK sr35 toB35) n [.i a0, .l [.int .i64] a1, .l [.int .i64] a2, .i a3, .i a4, .i a5, .i a6, .i a7, .i a8, .i a9, .i a10, .i a11, .i a12, .i a13, .i a14, .i a15, .i a16, .i a17, .i a18, .i a19, .i a20, .i a21, .i a22, .b a23, .b a24, .i a25, .i a26, .i a27, .i a28, .i a29, .i a30, .b a31, .b a32, .i a33, .i a34, .l [.int .i64] a35, .s a36, .i a37, .i a38, .b a39, .i a40] = F35 n a0 a1 a2 a3 a4 a5 a6 a7 a8 a9 a10 a11 a12 a13 a14 a15 a16 a17 a18 a19 a20 a21 a22 a23 a24 a25 a26 a27 a28 a29 a30 a31 a32 a33 a34 a35 a36 a37 a38 a39 a40 := by kernel_rfl
theorem c35_0 : CutOK X35 8 35 (endK sr35 toB35) [1, 10] ⟨sh35_0, g35_0⟩ := by
  refine ⟨fun ls => ?_, fun n ls r h => ?_⟩
  · cases h : g35_0 0 ls with
    | none => exact h
    | some r =>
      unfold g35_0 at h; obtain ⟨x0, ls1, rfl, h1⟩ := gI_ok h; obtain ⟨x1, ls2, rfl, h2⟩ := gI_ok h1; obtain ⟨x2, ls3, rfl, h3⟩ := gI_ok h2; obtain ⟨x3, ls4, rfl, h4⟩ := gB_ok h3; obtain ⟨x4, ls5, rfl, h5⟩ := gB_ok h4; obtain ⟨x5, ls6, rfl, h6⟩ := gI_ok h5; obtain ⟨x6, ls7, rfl, h7⟩ := gI_ok h6; obtain ⟨x7, ls8, rfl, h8⟩ := gI_ok h7; obtain ⟨x8, ls9, rfl, h9⟩ := gI_ok h8; obtain ⟨x9, ls10, rfl, h10⟩ := gB_ok h9; obtain ⟨x10, ls11, rfl, h11⟩ := gB_ok h10; obtain ⟨x11, ls12, rfl, h12⟩ := gI_ok h11; obtain ⟨rfl, h13⟩ := gE_ok h12; simp only [F35_c0] at h13; cases h13
  · replace h : g35_0 (n + 1) ls = some r := h
    unfold g35_0 at h
    obtain ⟨x0, ls1, rfl, h1⟩ := gI_ok h; obtain ⟨x1, ls2, rfl, h2⟩ := gI_ok h1; obtain ⟨x2, ls3, rfl, h3⟩ := gI_ok h2; obtain ⟨x3, ls4, rfl, h4⟩ := gB_ok h3; obtain ⟨x4, ls5, rfl, h5⟩ := gB_ok h4; obtain ⟨x5, ls6, rfl, h6⟩ := gI_ok h5; obtain ⟨x6, ls7, rfl, h7⟩ := gI_ok h6; obtain ⟨x7, ls8, rfl, h8⟩ := gI_ok h7; obtain ⟨x8, ls9, rfl, h9⟩ := gI_ok h8; obtain ⟨x9, ls10, rfl, h10⟩ := gB_ok h9; obtain ⟨x10, ls11, rfl, h11⟩ := gB_ok h10; obtain ⟨x11, ls12, rfl, h12⟩ := gI_ok h11; obtain ⟨rfl, h13⟩ := gE_ok h12
    exact (e35_0 n x0 x1 x2 x3 x4 x5 x6 x7 x8 x9 x10 x11).trans h13
theorem sp35 {n : Nat} (a0 : Int) (a1 : List (Int)) (a2 : List (Int)) (a3 : Int) (a4 : Int) (a5 : Int) (a6 : Int) (a7 : Int) (a8 : Int) (a9 : Int) (a10 : Int) (a11 : Int) (a12 : Int) (a13 : Int) (a14 : Int) (a15 : Int) (a16 : Int) (a17 : Int) (a18 : Int) (a19 : Int) (a20 : Int) (a21 : Int) (a22 : Int) (a23 : Bool) (a24 : Bool) (a25 : Int) (a26 : Int) (a27 : Int) (a28 : Int) (a29 : Int) (a30 : Int) (a31 : Bool) (a32 : Bool) (a33 : Int) (a34 : Int) (a35 : List (Int)) (a36 : ByteArray) (a37 : Int) (a38 : Int) (a39 : Bool) (a40 : Int) {y : Si3b2i} (h : F35 n a0 a1 a2 a3 a4 a5 a6 a7 a8 a9 a10 a11 a12 a13 a14 a15 a16 a17 a18 a19 a20 a21 a22 a23 a24 a25 a26 a27 a28 a29 a30 a31 a32 a33 a34 a35 a36 a37 a38 a39 a40 = some y) : SpecF T Try.prog 35 pa35 [.i a0, .l [.int .i64] a1, .l [.int .i64] a2, .i a3, .i a4, .i a5, .i a6, .i a7, .i a8, .i a9, .i a10, .i a11, .i a12, .i a13, .i a14, .i a15, .i a16, .i a17, .i a18, .i a19, .i a20, .i a21, .i a22, .b a23, .b a24, .i a25, .i a26, .i a27, .i a28, .i a29, .i a30, .b a31, .b a32, .i a33, .i a34, .l [.int .i64] a35, .s a36, .i a37, .i a38, .b a39, .i a40] sr35 (ofB35 y) :=
  fun_ok (X := X35) tok (sfok_of ⟨ok45, ok39, ok41, ok54, ok69, ok15, trivial⟩) mixed 35 8 cuts35 rfl toB35_ok ⟨c35_0, trivial⟩ ((e35 n a0 a1 a2 a3 a4 a5 a6 a7 a8 a9 a10 a11 a12 a13 a14 a15 a16 a17 a18 a19 a20 a21 a22 a23 a24 a25 a26 a27 a28 a29 a30 a31 a32 a33 a34 a35 a36 a37 a38 a39 a40).trans h)
theorem ok35 {R : Type} : SFone T Try.prog 35 (run35 : SF R) := by
  intro ls K r h
  simp only [run35] at h
  obtain ⟨a0, ls1, rfl, h1⟩ := gI_ok h; obtain ⟨a1, ls2, rfl, h2⟩ := gL_ok h1; obtain ⟨a2, ls3, rfl, h3⟩ := gL_ok h2; obtain ⟨a3, ls4, rfl, h4⟩ := gI_ok h3; obtain ⟨a4, ls5, rfl, h5⟩ := gI_ok h4; obtain ⟨a5, ls6, rfl, h6⟩ := gI_ok h5; obtain ⟨a6, ls7, rfl, h7⟩ := gI_ok h6; obtain ⟨a7, ls8, rfl, h8⟩ := gI_ok h7; obtain ⟨a8, ls9, rfl, h9⟩ := gI_ok h8; obtain ⟨a9, ls10, rfl, h10⟩ := gI_ok h9; obtain ⟨a10, ls11, rfl, h11⟩ := gI_ok h10; obtain ⟨a11, ls12, rfl, h12⟩ := gI_ok h11; obtain ⟨a12, ls13, rfl, h13⟩ := gI_ok h12; obtain ⟨a13, ls14, rfl, h14⟩ := gI_ok h13; obtain ⟨a14, ls15, rfl, h15⟩ := gI_ok h14; obtain ⟨a15, ls16, rfl, h16⟩ := gI_ok h15; obtain ⟨a16, ls17, rfl, h17⟩ := gI_ok h16; obtain ⟨a17, ls18, rfl, h18⟩ := gI_ok h17; obtain ⟨a18, ls19, rfl, h19⟩ := gI_ok h18; obtain ⟨a19, ls20, rfl, h20⟩ := gI_ok h19; obtain ⟨a20, ls21, rfl, h21⟩ := gI_ok h20; obtain ⟨a21, ls22, rfl, h22⟩ := gI_ok h21; obtain ⟨a22, ls23, rfl, h23⟩ := gI_ok h22; obtain ⟨a23, ls24, rfl, h24⟩ := gB_ok h23; obtain ⟨a24, ls25, rfl, h25⟩ := gB_ok h24; obtain ⟨a25, ls26, rfl, h26⟩ := gI_ok h25; obtain ⟨a26, ls27, rfl, h27⟩ := gI_ok h26; obtain ⟨a27, ls28, rfl, h28⟩ := gI_ok h27; obtain ⟨a28, ls29, rfl, h29⟩ := gI_ok h28; obtain ⟨a29, ls30, rfl, h30⟩ := gI_ok h29; obtain ⟨a30, ls31, rfl, h31⟩ := gI_ok h30; obtain ⟨a31, ls32, rfl, h32⟩ := gB_ok h31; obtain ⟨a32, ls33, rfl, h33⟩ := gB_ok h32; obtain ⟨a33, ls34, rfl, h34⟩ := gI_ok h33; obtain ⟨a34, ls35, rfl, h35⟩ := gI_ok h34; obtain ⟨a35, ls36, rfl, h36⟩ := gL_ok h35; obtain ⟨a36, ls37, rfl, h37⟩ := gS_ok h36; obtain ⟨a37, ls38, rfl, h38⟩ := gI_ok h37; obtain ⟨a38, ls39, rfl, h39⟩ := gI_ok h38; obtain ⟨a39, ls40, rfl, h40⟩ := gB_ok h39; obtain ⟨a40, ls41, rfl, h41⟩ := gI_ok h40; obtain ⟨rfl, h42⟩ := gE_ok h41
  obtain ⟨y, k1, k2⟩ := Option.bind_eq_some_iff.1 h42
  exact ⟨_, k2, sp35 a0 a1 a2 a3 a4 a5 a6 a7 a8 a9 a10 a11 a12 a13 a14 a15 a16 a17 a18 a19 a20 a21 a22 a23 a24 a25 a26 a27 a28 a29 a30 a31 a32 a33 a34 a35 a36 a37 a38 a39 a40 k1⟩

/-! ### garland/look.Again -/
def pa37 : List VP := [.agg [.i .i64, .sl false [.int .i64], .sl false [.int .i64], .i .i64, .i .i64, .i .i64, .i .i64, .i .i64, .i .i64, .i .i64, .i .i64, .i .i64, .i .i64, .i .i64, .i .i64, .i .i64, .i .i64, .i .i64, .i .i64, .i .i64], .agg [.i .i64, .i .i64, .i .i64, .b, .b, .i .i64]]
def sr37 : RShape := ⟨.agg [.i .i64, .i .i64, .i .i64, .b, .b, .i .i64], [], none⟩
def toB37 : List Leaf → Option (Si3b2i) := gI (fun b0 => gI (fun b1 => gI (fun b2 => gB (fun b3 => gB (fun b4 => gI (fun b5 => gE (some ⟨b0, b1, b2, b3, b4, b5⟩)))))))
def ofB37 (y : Si3b2i) : List Leaf := [.i y.q0, .i y.q1, .i y.q2, .b y.q3, .b y.q4, .i y.q5]
theorem toB37_ok : ∀ ls b, toB37 ls = some b → ls = ofB37 b := by
  intro ls b h
  unfold toB37 at h
  obtain ⟨b0, ls1, rfl, h1⟩ := gI_ok h; obtain ⟨b1, ls2, rfl, h2⟩ := gI_ok h1; obtain ⟨b2, ls3, rfl, h3⟩ := gI_ok h2; obtain ⟨b3, ls4, rfl, h4⟩ := gB_ok h3; obtain ⟨b4, ls5, rfl, h5⟩ := gB_ok h4; obtain ⟨b5, ls6, rfl, h6⟩ := gI_ok h5; obtain ⟨rfl, h7⟩ := gE_ok h6
  cases h7; rfl
def run37 {R : Type} : SF R := ⟨pa37, sr37, fun ls K => (gI (fun a0 => gL [.int .i64] (fun a1 => gL [.int .i64] (fun a2 => gI (fun a3 => gI (fun a4 => gI (fun a5 => gI (fun a6 => gI (fun a7 => gI (fun a8 => gI (fun a9 => gI (fun a10 => gI (fun a11 => gI (fun a12 => gI (fun a13 => gI (fun a14 => gI (fun a15 => gI (fun a16 => gI (fun a17 => gI (fun a18 => gI (fun a19 => gI (fun a20 => gI (fun a21 => gI (fun a22 => gB (fun a23 => gB (fun a24 => gI (fun a25 => gE (Option.bind (F37 FUEL a0 a1 a2 a3 a4 a5 a6 a7 a8 a9 a10 a11 a12 a13 a14 a15 a16 a17 a18 a19 a20 a21 a22 a23 a24 a25) fun y => K (ofB37 y))))))))))))))))))))))))))))) ls⟩
def sh37_0 : Shape := ⟨[(36, [(3, .ref 0 0), (4, .ref 1 0)])], [.cells [.i .i64, .i .i64, .i .i64, .b, .b, .i .i64], .cells [.i .i64, .i .i64, .i .i64, .b, .b, .i .i64]]⟩
def g37_0 (n : Nat) : List Leaf → Option (Si3b2i) := gI (fun x0 => gI (fun x1 => gI (fun x2 => gB (fun x3 => gB (fun x4 => gI (fun x5 => gI (fun x6 => gI (fun x7 => gI (fun x8 => gB (fun x9 => gB (fun x10 => gI (fun x11 => gE (F37_c0 n x0 x1 x2 x3 x4 x5 x6 x7 x8 x9 x10 x11)))))))))))))
def cuts37 : List (List Nat × Cut (Si3b2i)) := [([1, 10], ⟨sh37_0, g37_0⟩)]
noncomputable def X37 : Px (Si3b2i) := ⟨T, Try.prog, lkF [(45, run45), (39, run39), (41, run41), (69, run69), (15, run15)], mkCuts 37 cuts37, altN, altN_ok⟩
theorem e37_0 (n : Nat) (x0 : Int) (x1 : Int) (x2 : Int) (x3 : Bool) (x4 : Bool) (x5 : Int) (x6 : Int) (x7 : Int) (x8 : Int) (x9 : Bool) (x10 : Bool) (x11 : Int) : stepF X37 8 37 (endK sr37 toB37) [1, 10] sh37_0 n [.i x0, .i x1, .i x2, .b x3, .b x4, .i x5, .i x6, .i x7, .i x8, .b x9, .b x10, .i x11] = F37_c0 (n + 1) x0 x1 x2 x3 x4 x5 x6 x7 x8 x9 x10 x11 := by kernel_rfl
theorem e37 (n : Nat) (a0 : Int) (a1 : List (Int)) (a2 : List (Int)) (a3 : Int) (a4 : Int) (a5 : Int) (a6 : Int) (a7 : Int) (a8 : Int) (a9 : Int) (a10 : Int) (a11 : Int) (a12 : Int) (a13 : Int) (a14 : Int) (a15 : Int) (a16 : Int) (a17 : Int) (a18 : Int) (a19 : Int) (a20 : Int) (a21 : Int) (a22 : Int) (a23 : Bool) (a24 : Bool) (a25 : Int) : entF X37 8 37 pa37 (endK sr37 toB37) n [.i a0, .l [.int .i64] a1, .l [.int .i64] a2, .i a3, .i a4, .i a5, .i a6, .i a7, .i a8, .i a9, .i a10, .i a11, .i a12, .i a13, .i a14, .i a15, .i a16, .i a17, .i a18, .i a19, .i a20, .i a21, .i a22, .b a23, .b a24, .i a25] = F37 n a0 a1 a2 a3 a4 a5 a6 a7 a8 a9 a10 a11 a12 a13 a14 a15 a16 a17 a18 a19 a20 a21 a22 a23 a24 a25 := by kernel_rfl
theorem c37_0 : CutOK X37 8 37 (endK sr37 toB37) [1, 10] ⟨sh37_0, g37_0⟩ := by
  refine ⟨fun ls => ?_, fun n ls r h => ?_⟩
  · cases h : g37_0 0 ls with
    | none => exact h
    | some r =>
      unfold g37_0 at h; obtain ⟨x0, ls1, rfl, h1⟩ := gI_ok h; obtain ⟨x1, ls2, rfl, h2⟩ := gI_ok h1; obtain ⟨x2, ls3, rfl, h3⟩ := gI_ok h2; obtain ⟨x3, ls4, rfl, h4⟩ := gB_ok h3; obtain ⟨x4, ls5, rfl, h5⟩ := gB_ok h4; obtain ⟨x5, ls6, rfl, h6⟩ := gI_ok h5; obtain ⟨x6, ls7, rfl, h7⟩ := gI_ok h6; obtain ⟨x7, ls8, rfl, h8⟩ := gI_ok h7; obtain ⟨x8, ls9, rfl, h9⟩ := gI_ok h8; obtain ⟨x9, ls10, rfl, h10⟩ := gB_ok h9; obtain ⟨x10, ls11, rfl, h11⟩ := gB_ok h10; obtain ⟨x11, ls12, rfl, h12⟩ := gI_ok h11; obtain ⟨rfl, h13⟩ := gE_ok h12; simp only [F37_c0] at h13; cases h13
  · replace h : g37_0 (n + 1) ls = some r := h
    unfold g37_0 at h
    obtain ⟨x0, ls1, rfl, h1⟩ := gI_ok h; obtain ⟨x1, ls2, rfl, h2⟩ := gI_ok h1; obtain ⟨x2, ls3, rfl, h3⟩ := gI_ok h2; obtain ⟨x3, ls4, rfl, h4⟩ := gB_ok h3; obtain ⟨x4, ls5, rfl, h5⟩ := gB_ok h4; obtain ⟨x5, ls6, rfl, h6⟩ := gI_ok h5; obtain ⟨x6, ls7, rfl, h7⟩ := gI_ok h6; obtain ⟨x7, ls8, rfl, h8⟩ := gI_ok h7; obtain ⟨x8, ls9, rfl, h9⟩ := gI_ok h8; obtain ⟨x9, ls10, rfl, h10⟩ := gB_ok h9; obtain ⟨x10, ls11, rfl, h11⟩ := gB_ok h10; obtain ⟨x11, ls12, rfl, h12⟩ := gI_ok h11; obtain ⟨rfl, h13⟩ := gE_ok h12
    exact (e37_0 n x0 x1 x2 x3 x4 x5 x6 x7 x8 x9 x10 x11).trans h13
theorem sp37 {n : Nat} (a0 : Int) (a1 : List (Int)) (a2 : List (Int)) (a3 : Int) (a4 : Int) (a5 : Int) (a6 : Int) (a7 : Int) (a8 : Int) (a9 : Int) (a10 : Int) (a11 : Int) (a12 : Int) (a13 : Int) (a14 : Int) (a15 : Int) (a16 : Int) (a17 : Int) (a18 : Int) (a19 : Int) (a20 : Int) (a21 : Int) (a22 : Int) (a23 : Bool) (a24 : Bool) (a25 : Int) {y : Si3b2i} (h : F37 n a0 a1 a2 a3 a4 a5 a6 a7 a8 a9 a10 a11 a12 a13 a14 a15 a16 a17 a18 a19 a20 a21 a22 a23 a24 a25 = some y) : SpecF T Try.prog 37 pa37 [.i a0, .l [.int .i64] a1, .l [.int .i64] a2, .i a3, .i a4, .i a5, .i a6, .i a7, .i a8, .i a9, .i a10, .i a11, .i a12, .i a13, .i a14, .i a15, .i a16, .i a17, .i a18, .i a19, .i a20, .i a21, .i a22, .b a23, .b a24, .i a25] sr37 (ofB37 y) :=
  fun_ok (X := X37) tok (sfok_of ⟨ok45, ok39, ok41, ok69, ok15, trivial⟩) mixed 37 8 cuts37 rfl toB37_ok ⟨c37_0, trivial⟩ ((e37 n a0 a1 a2 a3 a4 a5 a6 a7 a8 a9 a10 a11 a12 a13 a14 a15 a16 a17 a18 a19 a20 a21 a22 a23 a24 a25).trans h)
theorem ok37 {R : Type} : SFone T Try.prog 37 (run37 : SF R) := by
  intro ls K r h
  simp only [run37] at h
  obtain ⟨a0, ls1, rfl, h1⟩ := gI_ok h; obtain ⟨a1, ls2, rfl, h2⟩ := gL_ok h1; obtain ⟨a2, ls3, rfl, h3⟩ := gL_ok h2; obtain ⟨a3, ls4, rfl, h4⟩ := gI_ok h3; obtain ⟨a4, ls5, rfl, h5⟩ := gI_ok h4; obtain ⟨a5, ls6, rfl, h6⟩ := gI_ok h5; obtain ⟨a6, ls7, rfl, h7⟩ := gI_ok h6; obtain ⟨a7, ls8, rfl, h8⟩ := gI_ok h7; obtain ⟨a8, ls9, rfl, h9⟩ := gI_ok h8; obtain ⟨a9, ls10, rfl, h10⟩ := gI_ok h9; obtain ⟨a10, ls11, rfl, h11⟩ := gI_ok h10; obtain ⟨a11, ls12, rfl, h12⟩ := gI_ok h11; obtain ⟨a12, ls13, rfl, h13⟩ := gI_ok h12; obtain ⟨a13, ls14, rfl, h14⟩ := gI_ok h13; obtain ⟨a14, ls15, rfl, h15⟩ := gI_ok h14; obtain ⟨a15, ls16, rfl, h16⟩ := gI_ok h15; obtain ⟨a16, ls17, rfl, h17⟩ := gI_ok h16; obtain ⟨a17, ls18, rfl, h18⟩ := gI_ok h17; obtain ⟨a18, ls19, rfl, h19⟩ := gI_ok h18; obtain ⟨a19, ls20, rfl, h20⟩ := gI_ok h19; obtain ⟨a20, ls21, rfl, h21⟩ := gI_ok h20; obtain ⟨a21, ls22, rfl, h22⟩ := gI_ok h21; obtain ⟨a22, ls23, rfl, h23⟩ := gI_ok h22; obtain ⟨a23, ls24, rfl, h24⟩ := gB_ok h23; obtain ⟨a24, ls25, rfl, h25⟩ := gB_ok h24; obtain ⟨a25, ls26, rfl, h26⟩ := gI_ok h25; obtain ⟨rfl, h27⟩ := gE_ok h26
  obtain ⟨y, k1, k2⟩ := Option.bind_eq_some_iff.1 h27
  exact ⟨_, k2, sp37 a0 a1 a2 a3 a4 a5 a6 a7 a8 a9 a10 a11 a12 a13 a14 a15 a16 a17 a18 a19 a20 a21 a22 a23 a24 a25 k1⟩

/-! ### garland/garlandlaw18.wakes -/
def pa30 : List VP := []
def sr30 : RShape := ⟨.b, [], none⟩
def toB30 : List Leaf → Option (Bool) := gB (fun b0 => gE (some b0))
def ofB30 (y : Bool) : List Leaf := [.b y]
theorem toB30_ok : ∀ ls b, toB30 ls = some b → ls = ofB30 b := by
  intro ls b h
  unfold toB30 at h
  obtain ⟨b0, ls1, rfl, h1⟩ := gB_ok h; obtain ⟨rfl, h2⟩ := gE_ok h1
  cases h2; rfl
def run30 {R : Type} : SF R := ⟨pa30, sr30, fun ls K => (gE (Option.bind (F30 FUEL ) fun y => K (ofB30 y))) ls⟩
def cuts30 : List (List Nat × Cut (Bool)) := []
noncomputable def X30 : Px (Bool) := ⟨T, Try.prog, lkF [(44, run44), (33, run33), (31, run31), (43, run43), (35, run35), (37, run37), (41, run41), (39, run39)], mkCuts 30 cuts30, altN, altN_ok⟩
theorem e30 (n : Nat) : entF X30 8 30 pa30 (endK sr30 toB30) n [] = F30 n  := by kernel_rfl
theorem sp30 {n : Nat} {y : Bool} (h : F30 n  = some y) : SpecF T Try.prog 30 pa30 [] sr30 (ofB30 y) :=
  fun_ok (X := X30) tok (sfok_of ⟨ok44, ok33, ok31, ok43, ok35, ok37, ok41, ok39, trivial⟩) mixed 30 8 cuts30 rfl toB30_ok trivial ((e30 n ).trans h)
theorem ok30 {R : Type} : SFone T Try.prog 30 (run30 : SF R) := by
  intro ls K r h
  simp only [run30] at h
  obtain ⟨rfl, h1⟩ := gE_ok h
  obtain ⟨y, k1, k2⟩ := Option.bind_eq_some_iff.1 h1
  exact ⟨_, k2, sp30  k1⟩

/-! ### garland/garlandref18.Right -/
def pa40 : List VP := [.agg [.i .i64, .i .i64, .i .i64, .b, .b, .i .i64]]
def sr40 : RShape := ⟨.b, [], none⟩
def toB40 : List Leaf → Option (Bool) := gB (fun b0 => gE (some b0))
def ofB40 (y : Bool) : List Leaf := [.b y]
theorem toB40_ok : ∀ ls b, toB40 ls = some b → ls = ofB40 b := by
  intro ls b h
  unfold toB40 at h
  obtain ⟨b0, ls1, rfl, h1⟩ := gB_ok h; obtain ⟨rfl, h2⟩ := gE_ok h1
  cases h2; rfl
def run40 {R : Type} : SF R := ⟨pa40, sr40, fun ls K => (gI (fun a0 => gI (fun a1 => gI (fun a2 => gB (fun a3 => gB (fun a4 => gI (fun a5 => gE (Option.bind (F40 FUEL a0 a1 a2 a3 a4 a5) fun y => K (ofB40 y))))))))) ls⟩
def cuts40 : List (List Nat × Cut (Bool)) := []
noncomputable def X40 : Px (Bool) := ⟨T, Try.prog, lkF [], mkCuts 40 cuts40, altN, altN_ok⟩
theorem e40 (n : Nat) (a0 : Int) (a1 : Int) (a2 : Int) (a3 : Bool) (a4 : Bool) (a5 : Int) : entF X40 8 40 pa40 (endK sr40 toB40) n [.i a0, .i a1, .i a2, .b a3, .b a4, .i a5] = F40 n a0 a1 a2 a3 a4 a5 := by kernel_rfl
theorem sp40 {n : Nat} (a0 : Int) (a1 : Int) (a2 : Int) (a3 : Bool) (a4 : Bool) (a5 : Int) {y : Bool} (h : F40 n a0 a1 a2 a3 a4 a5 = some y) : SpecF T Try.prog 40 pa40 [.i a0, .i a1, .i a2, .b a3, .b a4, .i a5] sr40 (ofB40 y) :=
  fun_ok (X := X40) tok (sfok_of trivial) mixed 40 8 cuts40 rfl toB40_ok trivial ((e40 n a0 a1 a2 a3 a4 a5).trans h)
theorem ok40 {R : Type} : SFone T Try.prog 40 (run40 : SF R) := by
  intro ls K r h
  simp only [run40] at h
  obtain ⟨a0, ls1, rfl, h1⟩ := gI_ok h; obtain ⟨a1, ls2, rfl, h2⟩ := gI_ok h1; obtain ⟨a2, ls3, rfl, h3⟩ := gI_ok h2; obtain ⟨a3, ls4, rfl, h4⟩ := gB_ok h3; obtain ⟨a4, ls5, rfl, h5⟩ := gB_ok h4; obtain ⟨a5, ls6, rfl, h6⟩ := gI_ok h5; obtain ⟨rfl, h7⟩ := gE_ok h6
  obtain ⟨y, k1, k2⟩ := Option.bind_eq_some_iff.1 h7
  exact ⟨_, k2, sp40 a0 a1 a2 a3 a4 a5 k1⟩

/-! ### garland/garlandref18.Over -/
def pa42 : List VP := [.agg [.i .i64, .i .i64, .i .i64, .b, .b, .i .i64]]
def sr42 : RShape := ⟨.b, [], none⟩
def toB42 : List Leaf → Option (Bool) := gB (fun b0 => gE (some b0))
def ofB42 (y : Bool) : List Leaf := [.b y]
theorem toB42_ok : ∀ ls b, toB42 ls = some b → ls = ofB42 b := by
  intro ls b h
  unfold toB42 at h
  obtain ⟨b0, ls1, rfl, h1⟩ := gB_ok h; obtain ⟨rfl, h2⟩ := gE_ok h1
  cases h2; rfl
def run42 {R : Type} : SF R := ⟨pa42, sr42, fun ls K => (gI (fun a0 => gI (fun a1 => gI (fun a2 => gB (fun a3 => gB (fun a4 => gI (fun a5 => gE (Option.bind (F42 FUEL a0 a1 a2 a3 a4 a5) fun y => K (ofB42 y))))))))) ls⟩
def cuts42 : List (List Nat × Cut (Bool)) := []
noncomputable def X42 : Px (Bool) := ⟨T, Try.prog, lkF [], mkCuts 42 cuts42, altN, altN_ok⟩
theorem e42 (n : Nat) (a0 : Int) (a1 : Int) (a2 : Int) (a3 : Bool) (a4 : Bool) (a5 : Int) : entF X42 8 42 pa42 (endK sr42 toB42) n [.i a0, .i a1, .i a2, .b a3, .b a4, .i a5] = F42 n a0 a1 a2 a3 a4 a5 := by kernel_rfl
theorem sp42 {n : Nat} (a0 : Int) (a1 : Int) (a2 : Int) (a3 : Bool) (a4 : Bool) (a5 : Int) {y : Bool} (h : F42 n a0 a1 a2 a3 a4 a5 = some y) : SpecF T Try.prog 42 pa42 [.i a0, .i a1, .i a2, .b a3, .b a4, .i a5] sr42 (ofB42 y) :=
  fun_ok (X := X42) tok (sfok_of trivial) mixed 42 8 cuts42 rfl toB42_ok trivial ((e42 n a0 a1 a2 a3 a4 a5).trans h)
theorem ok42 {R : Type} : SFone T Try.prog 42 (run42 : SF R) := by
  intro ls K r h
  simp only [run42] at h
  obtain ⟨a0, ls1, rfl, h1⟩ := gI_ok h; obtain ⟨a1, ls2, rfl, h2⟩ := gI_ok h1; obtain ⟨a2, ls3, rfl, h3⟩ := gI_ok h2; obtain ⟨a3, ls4, rfl, h4⟩ := gB_ok h3; obtain ⟨a4, ls5, rfl, h5⟩ := gB_ok h4; obtain ⟨a5, ls6, rfl, h6⟩ := gI_ok h5; obtain ⟨rfl, h7⟩ := gE_ok h6
  obtain ⟨y, k1, k2⟩ := Option.bind_eq_some_iff.1 h7
  exact ⟨_, k2, sp42 a0 a1 a2 a3 a4 a5 k1⟩

/-! ### garland/garlandref18.Ask -/
def pa32 : List VP := [.agg [.i .i64, .i .i64, .i .i64, .b, .b, .i .i64]]
def sr32 : RShape := ⟨.tup [.agg [.i .u8, .i .i64, .i .i64, .i .i64, .i .i64, .b, .b, .i .i64, .i .i64, .nil, .s, .i .i64, .i .i64, .b, .i .i64], .b], [], none⟩
def toB32 : List Leaf → Option (Si5b2i2si2bib) := gI (fun b0 => gI (fun b1 => gI (fun b2 => gI (fun b3 => gI (fun b4 => gB (fun b5 => gB (fun b6 => gI (fun b7 => gI (fun b8 => gS (fun b9 => gI (fun b10 => gI (fun b11 => gB (fun b12 => gI (fun b13 => gB (fun b14 => gE (some ⟨b0, b1, b2, b3, b4, b5, b6, b7, b8, b9, b10, b11, b12, b13, b14⟩))))))))))))))))
def ofB32 (y : Si5b2i2si2bib) : List Leaf := [.i y.q0, .i y.q1, .i y.q2, .i y.q3, .i y.q4, .b y.q5, .b y.q6, .i y.q7, .i y.q8, .s y.q9, .i y.q10, .i y.q11, .b y.q12, .i y.q13, .b y.q14]
theorem toB32_ok : ∀ ls b, toB32 ls = some b → ls = ofB32 b := by
  intro ls b h
  unfold toB32 at h
  obtain ⟨b0, ls1, rfl, h1⟩ := gI_ok h; obtain ⟨b1, ls2, rfl, h2⟩ := gI_ok h1; obtain ⟨b2, ls3, rfl, h3⟩ := gI_ok h2; obtain ⟨b3, ls4, rfl, h4⟩ := gI_ok h3; obtain ⟨b4, ls5, rfl, h5⟩ := gI_ok h4; obtain ⟨b5, ls6, rfl, h6⟩ := gB_ok h5; obtain ⟨b6, ls7, rfl, h7⟩ := gB_ok h6; obtain ⟨b7, ls8, rfl, h8⟩ := gI_ok h7; obtain ⟨b8, ls9, rfl, h9⟩ := gI_ok h8; obtain ⟨b9, ls10, rfl, h10⟩ := gS_ok h9; obtain ⟨b10, ls11, rfl, h11⟩ := gI_ok h10; obtain ⟨b11, ls12, rfl, h12⟩ := gI_ok h11; obtain ⟨b12, ls13, rfl, h13⟩ := gB_ok h12; obtain ⟨b13, ls14, rfl, h14⟩ := gI_ok h13; obtain ⟨b14, ls15, rfl, h15⟩ := gB_ok h14; obtain ⟨rfl, h16⟩ := gE_ok h15
  cases h16; rfl
def run32 {R : Type} : SF R := ⟨pa32, sr32, fun ls K => (gI (fun a0 => gI (fun a1 => gI (fun a2 => gB (fun a3 => gB (fun a4 => gI (fun a5 => gE (Option.bind (F32 FUEL a0 a1 a2 a3 a4 a5) fun y => K (ofB32 y))))))))) ls⟩
def cuts32 : List (List Nat × Cut (Si5b2i2si2bib)) := []
noncomputable def X32 : Px (Si5b2i2si2bib) := ⟨T, Try.prog, lkF [(40, run40), (42, run42)], mkCuts 32 cuts32, altN, altN_ok⟩
theorem e32 (n : Nat) (a0 : Int) (a1 : Int) (a2 : Int) (a3 : Bool) (a4 : Bool) (a5 : Int) : entF X32 8 32 pa32 (endK sr32 toB32) n [.i a0, .i a1, .i a2, .b a3, .b a4, .i a5] = F32 n a0 a1 a2 a3 a4 a5 := by kernel_rfl
theorem sp32 {n : Nat} (a0 : Int) (a1 : Int) (a2 : Int) (a3 : Bool) (a4 : Bool) (a5 : Int) {y : Si5b2i2si2bib} (h : F32 n a0 a1 a2 a3 a4 a5 = some y) : SpecF T Try.prog 32 pa32 [.i a0, .i a1, .i a2, .b a3, .b a4, .i a5] sr32 (ofB32 y) :=
  fun_ok (X := X32) tok (sfok_of ⟨ok40, ok42, trivial⟩) mixed 32 8 cuts32 rfl toB32_ok trivial ((e32 n a0 a1 a2 a3 a4 a5).trans h)
theorem ok32 {R : Type} : SFone T Try.prog 32 (run32 : SF R) := by
  intro ls K r h
  simp only [run32] at h
  obtain ⟨a0, ls1, rfl, h1⟩ := gI_ok h; obtain ⟨a1, ls2, rfl, h2⟩ := gI_ok h1; obtain ⟨a2, ls3, rfl, h3⟩ := gI_ok h2; obtain ⟨a3, ls4, rfl, h4⟩ := gB_ok h3; obtain ⟨a4, ls5, rfl, h5⟩ := gB_ok h4; obtain ⟨a5, ls6, rfl, h6⟩ := gI_ok h5; obtain ⟨rfl, h7⟩ := gE_ok h6
  obtain ⟨y, k1, k2⟩ := Option.bind_eq_some_iff.1 h7
  exact ⟨_, k2, sp32 a0 a1 a2 a3 a4 a5 k1⟩

/-! ### garland/garlandref03.Owner -/
def pa92 : List VP := [.sl false [.int .i64], .i .i64]
def sr92 : RShape := ⟨.tup [.i .i64, .b], [], none⟩
def toB92 : List Leaf → Option (Int × Bool) := gI (fun b0 => gB (fun b1 => gE (some (b0, b1))))
def ofB92 (y : Int × Bool) : List Leaf := [.i y.1, .b y.2]
theorem toB92_ok : ∀ ls b, toB92 ls = some b → ls = ofB92 b := by
  intro ls b h
  unfold toB92 at h
  obtain ⟨b0, ls1, rfl, h1⟩ := gI_ok h; obtain ⟨b1, ls2, rfl, h2⟩ := gB_ok h1; obtain ⟨rfl, h3⟩ := gE_ok h2
  cases h3; rfl
def run92 {R : Type} : SF R := ⟨pa92, sr92, fun ls K => (gL [.int .i64] (fun a0 => gI (fun a1 => gE (Option.bind (F92 FUEL a0 a1) fun y => K (ofB92 y))))) ls⟩
def sh92_0 : Shape := ⟨[(37, [(0, .sl false [.int .i64]), (1, .i .i64), (6, .i .i64), (7, .i .i64)])], []⟩
def g92_0 (n : Nat) : List Leaf → Option (Int × Bool) := gL [.int .i64] (fun x0 => gI (fun x1 => gI (fun x2 => gI (fun x3 => gE (F92_c0 n x0 x1 x2 x3)))))
def cuts92 : List (List Nat × Cut (Int × Bool)) := [([1, 1, 1, 0, 1, 0], ⟨sh92_0, g92_0⟩)]
noncomputable def X92 : Px (Int × Bool) := ⟨T, Try.prog, lkF [(27, run27), (26, run26)], mkCuts 92 cuts92, altN, altN_ok⟩
theorem e92_0 (n : Nat) (x0 : List (Int)) (x1 : Int) (x2 : Int) (x3 : Int) : stepF X92 8 92 (endK sr92 toB92) [1, 1, 1, 0, 1, 0] sh92_0 n [.l [.int .i64] x0, .i x1, .i x2, .i x3] = F92_c0 (n + 1) x0 x1 x2 x3 := by kernel_rfl
theorem e92 (n : Nat) (a0 : List (Int)) (a1 : Int) : entF X92 8 92 pa92 (endK sr92 toB92) n [.l [.int .i64] a0, .i a1] = F92 n a0 a1 := by kernel_rfl
theorem c92_0 : CutOK X92 8 92 (endK sr92 toB92) [1, 1, 1, 0, 1, 0] ⟨sh92_0, g92_0⟩ := by
  refine ⟨fun ls => ?_, fun n ls r h => ?_⟩
  · cases h : g92_0 0 ls with
    | none => exact h
    | some r =>
      unfold g92_0 at h; obtain ⟨x0, ls1, rfl, h1⟩ := gL_ok h; obtain ⟨x1, ls2, rfl, h2⟩ := gI_ok h1; obtain ⟨x2, ls3, rfl, h3⟩ := gI_ok h2; obtain ⟨x3, ls4, rfl, h4⟩ := gI_ok h3; obtain ⟨rfl, h5⟩ := gE_ok h4; simp only [F92_c0] at h5; cases h5
  · replace h : g92_0 (n + 1) ls = some r := h
    unfold g92_0 at h
    obtain ⟨x0, ls1, rfl, h1⟩ := gL_ok h; obtain ⟨x1, ls2, rfl, h2⟩ := gI_ok h1; obtain ⟨x2, ls3, rfl, h3⟩ := gI_ok h2; obtain ⟨x3, ls4, rfl, h4⟩ := gI_ok h3; obtain ⟨rfl, h5⟩ := gE_ok h4
    exact (e92_0 n x0 x1 x2 x3).trans h5
theorem sp92 {n : Nat} (a0 : List (Int)) (a1 : Int) {y : Int × Bool} (h : F92 n a0 a1 = some y) : SpecF T Try.prog 92 pa92 [.l [.int .i64] a0, .i a1] sr92 (ofB92 y) :=
  fun_ok (X := X92) tok (sfok_of ⟨ok27, ok26, trivial⟩) mixed 92 8 cuts92 rfl toB92_ok ⟨c92_0, trivial⟩ ((e92 n a0 a1).trans h)
theorem ok92 {R : Type} : SFone T Try.prog 92 (run92 : SF R) := by
  intro ls K r h
  simp only [run92] at h
  obtain ⟨a0, ls1, rfl, h1⟩ := gL_ok h; obtain ⟨a1, ls2, rfl, h2⟩ := gI_ok h1; obtain ⟨rfl, h3⟩ := gE_ok h2
  obtain ⟨y, k1, k2⟩ := Option.bind_eq_some_iff.1 h3
  exact ⟨_, k2, sp92 a0 a1 k1⟩

/-! ### garland/garlandref13.Anchor -/
def pa60 : List VP := [.agg [.i .i64, .sl false [.int .i64], .sl false [.int .i64], .i .i64, .i .i64, .i .i64, .i .i64, .i .i64, .i .i64, .i .i64, .i .i64, .i .i64, .i .i64, .i .i64, .i .i64, .i .i64, .i .i64, .i .i64, .i .i64, .i .i64]]
def sr60 : RShape := ⟨.i .i64, [], none⟩
def toB60 : List Leaf → Option (Int) := gI (fun b0 => gE (some b0))
def ofB60 (y : Int) : List Leaf := [.i y]
theorem toB60_ok : ∀ ls b, toB60 ls = some b → ls = ofB60 b := by
  intro ls b h
  unfold toB60 at h
  obtain ⟨b0, ls1, rfl, h1⟩ := gI_ok h; obtain ⟨rfl, h2⟩ := gE_ok h1
  cases h2; rfl
def run60 {R : Type} : SF R := ⟨pa60, sr60, fun ls K => (gI (fun a0 => gL [.int .i64] (fun a1 => gL [.int .i64] (fun a2 => gI (fun a3 => gI (fun a4 => gI (fun a5 => gI (fun a6 => gI (fun a7 => gI (fun a8 => gI (fun a9 => gI (fun a10 => gI (fun a11 => gI (fun a12 => gI (fun a13 => gI (fun a14 => gI (fun a15 => gI (fun a16 => gI (fun a17 => gI (fun a18 => gI (fun a19 => gE (Option.bind (F60 FUEL a0 a1 a2 a3 a4 a5 a6 a7 a8 a9 a10 a11 a12 a13 a14 a15 a16 a17 a18 a19) fun y => K (ofB60 y))))))))))))))))))))))) ls⟩
def cuts60 : List (List Nat × Cut (Int)) := []
noncomputable def X60 : Px (Int) := ⟨T, Try.prog, lkF [(24, run24), (92, run92)], mkCuts 60 cuts60, altN, altN_ok⟩
theorem e60 (n : Nat) (a0 : Int) (a1 : List (Int)) (a2 : List (Int)) (a3 : Int) (a4 : Int) (a5 : Int) (a6 : Int) (a7 : Int) (a8 : Int) (a9 : Int) (a10 : Int) (a11 : Int) (a12 : Int) (a13 : Int) (a14 : Int) (a15 : Int) (a16 : Int) (a17 : Int) (a18 : Int) (a19 : Int) : entF X60 8 60 pa60 (endK sr60 toB60) n [.i a0, .l [.int .i64] a1, .l [.int .i64] a2, .i a3, .i a4, .i a5, .i a6, .i a7, .i a8, .i a9, .i a10, .i a11, .i a12, .i a13, .i a14, .i a15, .i a16, .i a17, .i a18, .i a19] = F60 n a0 a1 a2 a3 a4 a5 a6 a7 a8 a9 a10 a11 a12 a13 a14 a15 a16 a17 a18 a19 := by kernel_rfl
theorem sp60 {n : Nat} (a0 : Int) (a1 : List (Int)) (a2 : List (Int)) (a3 : Int) (a4 : Int) (a5 : Int) (a6 : Int) (a7 : Int) (a8 : Int) (a9 : Int) (a10 : Int) (a11 : Int) (a12 : Int) (a13 : Int) (a14 : Int) (a15 : Int) (a16 : Int) (a17 : Int) (a18 : Int) (a19 : Int) {y : Int} (h : F60 n a0 a1 a2 a3 a4 a5 a6 a7 a8 a9 a10 a11 a12 a13 a14 a15 a16 a17 a18 a19 = some y) : SpecF T Try.prog 60 pa60 [.i a0, .l [.int .i64] a1, .l [.int .i64] a2, .i a3, .i a4, .i a5, .i a6, .i a7, .i a8, .i a9, .i a10, .i a11, .i a12, .i a13, .i a14, .i a15, .i a16, .i a17, .i a18, .i a19] sr60 (ofB60 y) :=
  fun_ok (X := X60) tok (sfok_of ⟨ok24, ok92, trivial⟩) mixed 60 8 cuts60 rfl toB60_ok trivial ((e60 n a0 a1 a2 a3 a4 a5 a6 a7 a8 a9 a10 a11 a12 a13 a14 a15 a16 a17 a18 a19).trans h)
theorem ok60 {R : Type} : SFone T Try.prog 60 (run60 : SF R) := by
  intro ls K r h
  simp only [run60] at h
  obtain ⟨a0, ls1, rfl, h1⟩ := gI_ok h; obtain ⟨a1, ls2, rfl, h2⟩ := gL_ok h1; obtain ⟨a2, ls3, rfl, h3⟩ := gL_ok h2; obtain ⟨a3, ls4, rfl, h4⟩ := gI_ok h3; obtain ⟨a4, ls5, rfl, h5⟩ := gI_ok h4; obtain ⟨a5, ls6, rfl, h6⟩ := gI_ok h5; obtain ⟨a6, ls7, rfl, h7⟩ := gI_ok h6; obtain ⟨a7, ls8, rfl, h8⟩ := gI_ok h7; obtain ⟨a8, ls9, rfl, h9⟩ := gI_ok h8; obtain ⟨a9, ls10, rfl, h10⟩ := gI_ok h9; obtain ⟨a10, ls11, rfl, h11⟩ := gI_ok h10; obtain ⟨a11, ls12, rfl, h12⟩ := gI_ok h11; obtain ⟨a12, ls13, rfl, h13⟩ := gI_ok h12; obtain ⟨a13, ls14, rfl, h14⟩ := gI_ok h13; obtain ⟨a14, ls15, rfl, h15⟩ := gI_ok h14; obtain ⟨a15, ls16, rfl, h16⟩ := gI_ok h15; obtain ⟨a16, ls17, rfl, h17⟩ := gI_ok h16; obtain ⟨a17, ls18, rfl, h18⟩ := gI_ok h17; obtain ⟨a18, ls19, rfl, h19⟩ := gI_ok h18; obtain ⟨a19, ls20, rfl, h20⟩ := gI_ok h19; obtain ⟨rfl, h21⟩ := gE_ok h20
  obtain ⟨y, k1, k2⟩ := Option.bind_eq_some_iff.1 h21
  exact ⟨_, k2, sp60 a0 a1 a2 a3 a4 a5 a6 a7 a8 a9 a10 a11 a12 a13 a14 a15 a16 a17 a18 a19 k1⟩

/-! ### garland/garlandref13.First -/
def pa25 : List VP := [.agg [.i .i64, .sl false [.int .i64], .sl false [.int .i64], .i .i64, .i .i64, .i .i64, .i .i64, .i .i64, .i .i64, .i .i64, .i .i64, .i .i64, .i .i64, .i .i64, .i .i64, .i .i64, .i .i64, .i .i64, .i .i64, .i .i64]]
def sr25 : RShape := ⟨.i .i64, [], none⟩
def toB25 : List Leaf → Option (Int) := gI (fun b0 => gE (some b0))
def ofB25 (y : Int) : List Leaf := [.i y]
theorem toB25_ok : ∀ ls b, toB25 ls = some b → ls = ofB25 b := by
  intro ls b h
  unfold toB25 at h
  obtain ⟨b0, ls1, rfl, h1⟩ := gI_ok h; obtain ⟨rfl, h2⟩ := gE_ok h1
  cases h2; rfl
def run25 {R : Type} : SF R := ⟨pa25, sr25, fun ls K => (gI (fun a0 => gL [.int .i64] (fun a1 => gL [.int .i64] (fun a2 => gI (fun a3 => gI (fun a4 => gI (fun a5 => gI (fun a6 => gI (fun a7 => gI (fun a8 => gI (fun a9 => gI (fun a10 => gI (fun a11 => gI (fun a12 => gI (fun a13 => gI (fun a14 => gI (fun a15 => gI (fun a16 => gI (fun a17 => gI (fun a18 => gI (fun a19 => gE (Option.bind (F25 FUEL a0 a1 a2 a3 a4 a5 a6 a7 a8 a9 a10 a11 a12 a13 a14 a15 a16 a17 a18 a19) fun y => K (ofB25 y))))))))))))))))))))))) ls⟩
def cuts25 : List (List Nat × Cut (Int)) := []
noncomputable def X25 : Px (Int) := ⟨T, Try.prog, lkF [(24, run24), (60, run60)], mkCuts 25 cuts25, altN, altN_ok⟩
theorem e25 (n : Nat) (a0 : Int) (a1 : List (Int)) (a2 : List (Int)) (a3 : Int) (a4 : Int) (a5 : Int) (a6 : Int) (a7 : Int) (a8 : Int) (a9 : Int) (a10 : Int) (a11 : Int) (a12 : Int) (a13 : Int) (a14 : Int) (a15 : Int) (a16 : Int) (a17 : Int) (a18 : Int) (a19 : Int) : entF X25 8 25 pa25 (endK sr25 toB25) n [.i a0, .l [.int .i64] a1, .l [.int .i64] a2, .i a3, .i a4, .i a5, .i a6, .i a7, .i a8, .i a9, .i a10, .i a11, .i a12, .i a13, .i a14, .i a15, .i a16, .i a17, .i a18, .i a19] = F25 n a0 a1 a2 a3 a4 a5 a6 a7 a8 a9 a10 a11 a12 a13 a14 a15 a16 a17 a18 a19 := by kernel_rfl
theorem sp25 {n : Nat} (a0 : Int) (a1 : List (Int)) (a2 : List (Int)) (a3 : Int) (a4 : Int) (a5 : Int) (a6 : Int) (a7 : Int) (a8 : Int) (a9 : Int) (a10 : Int) (a11 : Int) (a12 : Int) (a13 : Int) (a14 : Int) (a15 : Int) (a16 : Int) (a17 : Int) (a18 : Int) (a19 : Int) {y : Int} (h : F25 n a0 a1 a2 a3 a4 a5 a6 a7 a8 a9 a10 a11 a12 a13 a14 a15 a16 a17 a18 a19 = some y) : SpecF T Try.prog 25 pa25 [.i a0, .l [.int .i64] a1, .l [.int .i64] a2, .i a3, .i a4, .i a5, .i a6, .i a7, .i a8, .i a9, .i a10, .i a11, .i a12, .i a13, .i a14, .i a15, .i a16, .i a17, .i a18, .i a19] sr25 (ofB25 y) :=
  fun_ok (X := X25) tok (sfok_of ⟨ok24, ok60, trivial⟩) mixed 25 8 cuts25 rfl toB25_ok trivial ((e25 n a0 a1 a2 a3 a4 a5 a6 a7 a8 a9 a10 a11 a12 a13 a14 a15 a16 a17 a18 a19).trans h)
theorem ok25 {R : Type} : SFone T Try.prog 25 (run25 : SF R) := by
  intro ls K r h
  simp only [run25] at h
  obtain ⟨a0, ls1, rfl, h1⟩ := gI_ok h; obtain ⟨a1, ls2, rfl, h2⟩ := gL_ok h1; obtain ⟨a2, ls3, rfl, h3⟩ := gL_ok h2; obtain ⟨a3, ls4, rfl, h4⟩ := gI_ok h3; obtain ⟨a4, ls5, rfl, h5⟩ := gI_ok h4; obtain ⟨a5, ls6, rfl, h6⟩ := gI_ok h5; obtain ⟨a6, ls7, rfl, h7⟩ := gI_ok h6; obtain ⟨a7, ls8, rfl, h8⟩ := gI_ok h7; obtain ⟨a8, ls9, rfl, h9⟩ := gI_ok h8; obtain ⟨a9, ls10, rfl, h10⟩ := gI_ok h9; obtain ⟨a10, ls11, rfl, h11⟩ := gI_ok h10; obtain ⟨a11, ls12, rfl, h12⟩ := gI_ok h11; obtain ⟨a12, ls13, rfl, h13⟩ := gI_ok h12; obtain ⟨a13, ls14, rfl, h14⟩ := gI_ok h13; obtain ⟨a14, ls15, rfl, h15⟩ := gI_ok h14; obtain ⟨a15, ls16, rfl, h16⟩ := gI_ok h15; obtain ⟨a16, ls17, rfl, h17⟩ := gI_ok h16; obtain ⟨a17, ls18, rfl, h18⟩ := gI_ok h17; obtain ⟨a18, ls19, rfl, h19⟩ := gI_ok h18; obtain ⟨a19, ls20, rfl, h20⟩ := gI_ok h19; obtain ⟨rfl, h21⟩ := gE_ok h20
  obtain ⟨y, k1, k2⟩ := Option.bind_eq_some_iff.1 h21
  exact ⟨_, k2, sp25 a0 a1 a2 a3 a4 a5 a6 a7 a8 a9 a10 a11 a12 a13 a14 a15 a16 a17 a18 a19 k1⟩

/-! ### garland/garlandref03.In -/
def pa51 : List VP := [.i .i64, .i .i64, .i .i64]
def sr51 : RShape := ⟨.b, [], none⟩
def toB51 : List Leaf → Option (Bool) := gB (fun b0 => gE (some b0))
def ofB51 (y : Bool) : List Leaf := [.b y]
theorem toB51_ok : ∀ ls b, toB51 ls = some b → ls = ofB51 b := by
  intro ls b h
  unfold toB51 at h
  obtain ⟨b0, ls1, rfl, h1⟩ := gB_ok h; obtain ⟨rfl, h2⟩ := gE_ok h1
  cases h2; rfl
def run51 {R : Type} : SF R := ⟨pa51, sr51, fun ls K => (gI (fun a0 => gI (fun a1 => gI (fun a2 => gE (Option.bind (F51 FUEL a0 a1 a2) fun y => K (ofB51 y)))))) ls⟩
def cuts51 : List (List Nat × Cut (Bool)) := []
noncomputable def X51 : Px (Bool) := ⟨T, Try.prog, lkF [(27, run27), (26, run26)], mkCuts 51 cuts51, altN, altN_ok⟩
theorem e51 (n : Nat) (a0 : Int) (a1 : Int) (a2 : Int) : entF X51 8 51 pa51 (endK sr51 toB51) n [.i a0, .i a1, .i a2] = F51 n a0 a1 a2 := by kernel_rfl
theorem sp51 {n : Nat} (a0 : Int) (a1 : Int) (a2 : Int) {y : Bool} (h : F51 n a0 a1 a2 = some y) : SpecF T Try.prog 51 pa51 [.i a0, .i a1, .i a2] sr51 (ofB51 y) :=
  fun_ok (X := X51) tok (sfok_of ⟨ok27, ok26, trivial⟩) mixed 51 8 cuts51 rfl toB51_ok trivial ((e51 n a0 a1 a2).trans h)
theorem ok51 {R : Type} : SFone T Try.prog 51 (run51 : SF R) := by
  intro ls K r h
  simp only [run51] at h
  obtain ⟨a0, ls1, rfl, h1⟩ := gI_ok h; obtain ⟨a1, ls2, rfl, h2⟩ := gI_ok h1; obtain ⟨a2, ls3, rfl, h3⟩ := gI_ok h2; obtain ⟨rfl, h4⟩ := gE_ok h3
  obtain ⟨y, k1, k2⟩ := Option.bind_eq_some_iff.1 h4
  exact ⟨_, k2, sp51 a0 a1 a2 k1⟩

/-! ### garland/garlandref03.UpTo -/
def pa50 : List VP := [.i .i64, .i .i64, .i .i64]
def sr50 : RShape := ⟨.b, [], none⟩
def toB50 : List Leaf → Option (Bool) := gB (fun b0 => gE (some b0))
def ofB50 (y : Bool) : List Leaf := [.b y]
theorem toB50_ok : ∀ ls b, toB50 ls = some b → ls = ofB50 b := by
  intro ls b h
  unfold toB50 at h
  obtain ⟨b0, ls1, rfl, h1⟩ := gB_ok h; obtain ⟨rfl, h2⟩ := gE_ok h1
  cases h2; rfl
def run50 {R : Type} : SF R := ⟨pa50, sr50, fun ls K => (gI (fun a0 => gI (fun a1 => gI (fun a2 => gE (Option.bind (F50 FUEL a0 a1 a2) fun y => K (ofB50 y)))))) ls⟩
def cuts50 : List (List Nat × Cut (Bool)) := []
noncomputable def X50 : Px (Bool) := ⟨T, Try.prog, lkF [(51, run51), (27, run27)], mkCuts 50 cuts50, altN, altN_ok⟩
theorem e50 (n : Nat) (a0 : Int) (a1 : Int) (a2 : Int) : entF X50 8 50 pa50 (endK sr50 toB50) n [.i a0, .i a1, .i a2] = F50 n a0 a1 a2 := by kernel_rfl
theorem sp50 {n : Nat} (a0 : Int) (a1 : Int) (a2 : Int) {y : Bool} (h : F50 n a0 a1 a2 = some y) : SpecF T Try.prog 50 pa50 [.i a0, .i a1, .i a2] sr50 (ofB50 y) :=
  fun_ok (X := X50) tok (sfok_of ⟨ok51, ok27, trivial⟩) mixed 50 8 cuts50 rfl toB50_ok trivial ((e50 n a0 a1 a2).trans h)
theorem ok50 {R : Type} : SFone T Try.prog 50 (run50 : SF R) := by
  intro ls K r h
  simp only [run50] at h
  obtain ⟨a0, ls1, rfl, h1⟩ := gI_ok h; obtain ⟨a1, ls2, rfl, h2⟩ := gI_ok h1; obtain ⟨a2, ls3, rfl, h3⟩ := gI_ok h2; obtain ⟨rfl, h4⟩ := gE_ok h3
  obtain ⟨y, k1, k2⟩ := Option.bind_eq_some_iff.1 h4
  exact ⟨_, k2, sp50 a0 a1 a2 k1⟩

end Go.Proofs.Ytlbdcdflffgehaa
