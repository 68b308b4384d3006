/-
  The functions of this program, evaluated; each is as it is evaluated.
-/
import Derived.Test.YtlbdcdflffgehaaEvX
namespace Go.Proofs.Ytlbdcdflffgehaa
open Go Go.RowKit
set_option maxRecDepth 100000


/-! ### garland/garlandref06.Same -/
def pa19 : List VP := [.agg [.i .u8, .i .i64, .i .i64, .i .i64, .i .i64, .b, .b, .i .i64, .i .i64, .sl false [.int .i64], .s, .i .i64, .i .i64, .b, .i .i64], .agg [.i .u8, .i .i64, .i .i64, .i .i64, .i .i64, .b, .b, .i .i64, .i .i64, .sl false [.int .i64], .s, .i .i64, .i .i64, .b, .i .i64]]
def sr19 : RShape := ⟨.b, [], none⟩
def toB19 : List Leaf → Option (Bool) := gB (fun b0 => gE (some b0))
def ofB19 (y : Bool) : List Leaf := [.b y]
theorem toB19_ok : ∀ ls b, toB19 ls = some b → ls = ofB19 b := by
  intro ls b h
  unfold toB19 at h
  obtain ⟨b0, ls1, rfl, h1⟩ := gB_ok h; obtain ⟨rfl, h2⟩ := gE_ok h1
  cases h2; rfl
def run19 {R : Type} : SF R := ⟨pa19, sr19, fun ls K => (gI (fun a0 => gI (fun a1 => gI (fun a2 => gI (fun a3 => gI (fun a4 => gB (fun a5 => gB (fun a6 => gI (fun a7 => gI (fun a8 => gL [.int .i64] (fun a9 => gS (fun a10 => gI (fun a11 => gI (fun a12 => gB (fun a13 => gI (fun a14 => gI (fun a15 => gI (fun a16 => gI (fun a17 => gI (fun a18 => gI (fun a19 => gB (fun a20 => gB (fun a21 => gI (fun a22 => gI (fun a23 => gL [.int .i64] (fun a24 => gS (fun a25 => gI (fun a26 => gI (fun a27 => gB (fun a28 => gI (fun a29 => gE (Option.bind (F19 FUEL a0 a1 a2 a3 a4 a5 a6 a7 a8 a9 a10 a11 a12 a13 a14 a15 a16 a17 a18 a19 a20 a21 a22 a23 a24 a25 a26 a27 a28 a29) fun y => K (ofB19 y))))))))))))))))))))))))))))))))) ls⟩
def sh19_0 : Shape := ⟨[(106, [(2, .ref 0 0), (3, .ref 1 0), (5, .i .i64)])], [.cells [.i .u8, .i .i64, .i .i64, .i .i64, .i .i64, .b, .b, .i .i64, .i .i64, .sl false [.int .i64], .s, .i .i64, .i .i64, .b, .i .i64], .cells [.i .u8, .i .i64, .i .i64, .i .i64, .i .i64, .b, .b, .i .i64, .i .i64, .sl false [.int .i64], .s, .i .i64, .i .i64, .b, .i .i64]]⟩
def g19_0 (n : Nat) : List Leaf → Option (Bool) := gI (fun x0 => gI (fun x1 => gI (fun x2 => gI (fun x3 => gI (fun x4 => gI (fun x5 => gB (fun x6 => gB (fun x7 => gI (fun x8 => gI (fun x9 => gL [.int .i64] (fun x10 => gS (fun x11 => gI (fun x12 => gI (fun x13 => gB (fun x14 => gI (fun x15 => gI (fun x16 => gI (fun x17 => gI (fun x18 => gI (fun x19 => gI (fun x20 => gB (fun x21 => gB (fun x22 => gI (fun x23 => gI (fun x24 => gL [.int .i64] (fun x25 => gS (fun x26 => gI (fun x27 => gI (fun x28 => gB (fun x29 => gI (fun x30 => gE (F19_c0 n x0 x1 x2 x3 x4 x5 x6 x7 x8 x9 x10 x11 x12 x13 x14 x15 x16 x17 x18 x19 x20 x21 x22 x23 x24 x25 x26 x27 x28 x29 x30))))))))))))))))))))))))))))))))
def cuts19 : List (List Nat × Cut (Bool)) := [([1, 1, 0, 1, 0], ⟨sh19_0, g19_0⟩)]
noncomputable def X19 : Px (Bool) := ⟨T, Try.prog, lkF [], mkCuts 19 cuts19, altN, altN_ok⟩
theorem e19_0 (n : Nat) (x0 : Int) (x1 : Int) (x2 : Int) (x3 : Int) (x4 : Int) (x5 : Int) (x6 : Bool) (x7 : Bool) (x8 : Int) (x9 : Int) (x10 : List (Int)) (x11 : ByteArray) (x12 : Int) (x13 : Int) (x14 : Bool) (x15 : Int) (x16 : Int) (x17 : Int) (x18 : Int) (x19 : Int) (x20 : Int) (x21 : Bool) (x22 : Bool) (x23 : Int) (x24 : Int) (x25 : List (Int)) (x26 : ByteArray) (x27 : Int) (x28 : Int) (x29 : Bool) (x30 : Int) : stepF X19 8 19 (endK sr19 toB19) [1, 1, 0, 1, 0] sh19_0 n [.i x0, .i x1, .i x2, .i x3, .i x4, .i x5, .b x6, .b x7, .i x8, .i x9, .l [.int .i64] x10, .s x11, .i x12, .i x13, .b x14, .i x15, .i x16, .i x17, .i x18, .i x19, .i x20, .b x21, .b x22, .i x23, .i x24, .l [.int .i64] x25, .s x26, .i x27, .i x28, .b x29, .i x30] = F19_c0 (n + 1) x0 x1 x2 x3 x4 x5 x6 x7 x8 x9 x10 x11 x12 x13 x14 x15 x16 x17 x18 x19 x20 x21 x22 x23 x24 x25 x26 x27 x28 x29 x30 := by kernel_rfl
theorem e19 (n : Nat) (a0 : Int) (a1 : Int) (a2 : Int) (a3 : Int) (a4 : Int) (a5 : Bool) (a6 : Bool) (a7 : Int) (a8 : Int) (a9 : List (Int)) (a10 : ByteArray) (a11 : Int) (a12 : Int) (a13 : Bool) (a14 : Int) (a15 : Int) (a16 : Int) (a17 : Int) (a18 : Int) (a19 : Int) (a20 : Bool) (a21 : Bool) (a22 : Int) (a23 : Int) (a24 : List (Int)) (a25 : ByteArray) (a26 : Int) (a27 : Int) (a28 : Bool) (a29 : Int) : entF X19 8 19 pa19 (endK sr19 toB19) n [.i a0, .i a1, .i a2, .i a3, .i a4, .b a5, .b a6, .i a7, .i a8, .l [.int .i64] a9, .s a10, .i a11, .i a12, .b a13, .i a14, .i a15, .i a16, .i a17, .i a18, .i a19, .b a20, .b a21, .i a22, .i a23, .l [.int .i64] a24, .s a25, .i a26, .i a27, .b a28, .i a29] = F19 n a0 a1 a2 a3 a4 a5 a6 a7 a8 a9 a10 a11 a12 a13 a14 a15 a16 a17 a18 a19 a20 a21 a22 a23 a24 a25 a26 a27 a28 a29 := by kernel_rfl
theorem c19_0 : CutOK X19 8 19 (endK sr19 toB19) [1, 1, 0, 1, 0] ⟨sh19_0, g19_0⟩ := by
  refine ⟨fun ls => ?_, fun n ls r h => ?_⟩
  · cases h : g19_0 0 ls with
    | none => exact h
    | some r =>
      unfold g19_0 at h; obtain ⟨x0, ls1, rfl, h1⟩ := gI_ok h; obtain ⟨x1, ls2, rfl, h2⟩ := gI_ok h1; obtain ⟨x2, ls3, rfl, h3⟩ := gI_ok h2; obtain ⟨x3, ls4, rfl, h4⟩ := gI_ok h3; obtain ⟨x4, ls5, rfl, h5⟩ := gI_ok h4; obtain ⟨x5, ls6, rfl, h6⟩ := gI_ok h5; obtain ⟨x6, ls7, rfl, h7⟩ := gB_ok h6; obtain ⟨x7, ls8, rfl, h8⟩ := gB_ok h7; obtain ⟨x8, ls9, rfl, h9⟩ := gI_ok h8; obtain ⟨x9, ls10, rfl, h10⟩ := gI_ok h9; obtain ⟨x10, ls11, rfl, h11⟩ := gL_ok h10; obtain ⟨x11, ls12, rfl, h12⟩ := gS_ok h11; obtain ⟨x12, ls13, rfl, h13⟩ := gI_ok h12; obtain ⟨x13, ls14, rfl, h14⟩ := gI_ok h13; obtain ⟨x14, ls15, rfl, h15⟩ := gB_ok h14; obtain ⟨x15, ls16, rfl, h16⟩ := gI_ok h15; obtain ⟨x16, ls17, rfl, h17⟩ := gI_ok h16; obtain ⟨x17, ls18, rfl, h18⟩ := gI_ok h17; obtain ⟨x18, ls19, rfl, h19⟩ := gI_ok h18; obtain ⟨x19, ls20, rfl, h20⟩ := gI_ok h19; obtain ⟨x20, ls21, rfl, h21⟩ := gI_ok h20; obtain ⟨x21, ls22, rfl, h22⟩ := gB_ok h21; obtain ⟨x22, ls23, rfl, h23⟩ := gB_ok h22; obtain ⟨x23, ls24, rfl, h24⟩ := gI_ok h23; obtain ⟨x24, ls25, rfl, h25⟩ := gI_ok h24; obtain ⟨x25, ls26, rfl, h26⟩ := gL_ok h25; obtain ⟨x26, ls27, rfl, h27⟩ := gS_ok h26; obtain ⟨x27, ls28, rfl, h28⟩ := gI_ok h27; obtain ⟨x28, ls29, rfl, h29⟩ := gI_ok h28; obtain ⟨x29, ls30, rfl, h30⟩ := gB_ok h29; obtain ⟨x30, ls31, rfl, h31⟩ := gI_ok h30; obtain ⟨rfl, h32⟩ := gE_ok h31; simp only [F19_c0] at h32; cases h32
  · replace h : g19_0 (n + 1) ls = some r := h
    unfold g19_0 at h
    obtain ⟨x0, ls1, rfl, h1⟩ := gI_ok h; obtain ⟨x1, ls2, rfl, h2⟩ := gI_ok h1; obtain ⟨x2, ls3, rfl, h3⟩ := gI_ok h2; obtain ⟨x3, ls4, rfl, h4⟩ := gI_ok h3; obtain ⟨x4, ls5, rfl, h5⟩ := gI_ok h4; obtain ⟨x5, ls6, rfl, h6⟩ := gI_ok h5; obtain ⟨x6, ls7, rfl, h7⟩ := gB_ok h6; obtain ⟨x7, ls8, rfl, h8⟩ := gB_ok h7; obtain ⟨x8, ls9, rfl, h9⟩ := gI_ok h8; obtain ⟨x9, ls10, rfl, h10⟩ := gI_ok h9; obtain ⟨x10, ls11, rfl, h11⟩ := gL_ok h10; obtain ⟨x11, ls12, rfl, h12⟩ := gS_ok h11; obtain ⟨x12, ls13, rfl, h13⟩ := gI_ok h12; obtain ⟨x13, ls14, rfl, h14⟩ := gI_ok h13; obtain ⟨x14, ls15, rfl, h15⟩ := gB_ok h14; obtain ⟨x15, ls16, rfl, h16⟩ := gI_ok h15; obtain ⟨x16, ls17, rfl, h17⟩ := gI_ok h16; obtain ⟨x17, ls18, rfl, h18⟩ := gI_ok h17; obtain ⟨x18, ls19, rfl, h19⟩ := gI_ok h18; obtain ⟨x19, ls20, rfl, h20⟩ := gI_ok h19; obtain ⟨x20, ls21, rfl, h21⟩ := gI_ok h20; obtain ⟨x21, ls22, rfl, h22⟩ := gB_ok h21; obtain ⟨x22, ls23, rfl, h23⟩ := gB_ok h22; obtain ⟨x23, ls24, rfl, h24⟩ := gI_ok h23; obtain ⟨x24, ls25, rfl, h25⟩ := gI_ok h24; obtain ⟨x25, ls26, rfl, h26⟩ := gL_ok h25; obtain ⟨x26, ls27, rfl, h27⟩ := gS_ok h26; obtain ⟨x27, ls28, rfl, h28⟩ := gI_ok h27; obtain ⟨x28, ls29, rfl, h29⟩ := gI_ok h28; obtain ⟨x29, ls30, rfl, h30⟩ := gB_ok h29; obtain ⟨x30, ls31, rfl, h31⟩ := gI_ok h30; obtain ⟨rfl, h32⟩ := gE_ok h31
    exact (e19_0 n x0 x1 x2 x3 x4 x5 x6 x7 x8 x9 x10 x11 x12 x13 x14 x15 x16 x17 x18 x19 x20 x21 x22 x23 x24 x25 x26 x27 x28 x29 x30).trans h32
theorem sp19 {n : Nat} (a0 : Int) (a1 : Int) (a2 : Int) (a3 : Int) (a4 : Int) (a5 : Bool) (a6 : Bool) (a7 : Int) (a8 : Int) (a9 : List (Int)) (a10 : ByteArray) (a11 : Int) (a12 : Int) (a13 : Bool) (a14 : Int) (a15 : Int) (a16 : Int) (a17 : Int) (a18 : Int) (a19 : Int) (a20 : Bool) (a21 : Bool) (a22 : Int) (a23 : Int) (a24 : List (Int)) (a25 : ByteArray) (a26 : Int) (a27 : Int) (a28 : Bool) (a29 : Int) {y : Bool} (h : F19 n a0 a1 a2 a3 a4 a5 a6 a7 a8 a9 a10 a11 a12 a13 a14 a15 a16 a17 a18 a19 a20 a21 a22 a23 a24 a25 a26 a27 a28 a29 = some y) : SpecF T Try.prog 19 pa19 [.i a0, .i a1, .i a2, .i a3, .i a4, .b a5, .b a6, .i a7, .i a8, .l [.int .i64] a9, .s a10, .i a11, .i a12, .b a13, .i a14, .i a15, .i a16, .i a17, .i a18, .i a19, .b a20, .b a21, .i a22, .i a23, .l [.int .i64] a24, .s a25, .i a26, .i a27, .b a28, .i a29] sr19 (ofB19 y) :=
  fun_ok (X := X19) tok (sfok_of trivial) mixed 19 8 cuts19 rfl toB19_ok ⟨c19_0, trivial⟩ ((e19 n a0 a1 a2 a3 a4 a5 a6 a7 a8 a9 a10 a11 a12 a13 a14 a15 a16 a17 a18 a19 a20 a21 a22 a23 a24 a25 a26 a27 a28 a29).trans h)
theorem ok19 {R : Type} : SFone T Try.prog 19 (run19 : SF R) := by
  intro ls K r h
  simp only [run19] at h
  obtain ⟨a0, ls1, rfl, h1⟩ := gI_ok h; obtain ⟨a1, ls2, rfl, h2⟩ := gI_ok h1; obtain ⟨a2, ls3, rfl, h3⟩ := gI_ok h2; obtain ⟨a3, ls4, rfl, h4⟩ := gI_ok h3; obtain ⟨a4, ls5, rfl, h5⟩ := gI_ok h4; obtain ⟨a5, ls6, rfl, h6⟩ := gB_ok h5; obtain ⟨a6, ls7, rfl, h7⟩ := gB_ok h6; obtain ⟨a7, ls8, rfl, h8⟩ := gI_ok h7; obtain ⟨a8, ls9, rfl, h9⟩ := gI_ok h8; obtain ⟨a9, ls10, rfl, h10⟩ := gL_ok h9; obtain ⟨a10, ls11, rfl, h11⟩ := gS_ok h10; obtain ⟨a11, ls12, rfl, h12⟩ := gI_ok h11; obtain ⟨a12, ls13, rfl, h13⟩ := gI_ok h12; obtain ⟨a13, ls14, rfl, h14⟩ := gB_ok h13; obtain ⟨a14, ls15, rfl, h15⟩ := gI_ok h14; obtain ⟨a15, ls16, rfl, h16⟩ := gI_ok h15; obtain ⟨a16, ls17, rfl, h17⟩ := gI_ok h16; obtain ⟨a17, ls18, rfl, h18⟩ := gI_ok h17; obtain ⟨a18, ls19, rfl, h19⟩ := gI_ok h18; obtain ⟨a19, ls20, rfl, h20⟩ := gI_ok h19; obtain ⟨a20, ls21, rfl, h21⟩ := gB_ok h20; obtain ⟨a21, ls22, rfl, h22⟩ := gB_ok h21; obtain ⟨a22, ls23, rfl, h23⟩ := gI_ok h22; obtain ⟨a23, ls24, rfl, h24⟩ := gI_ok h23; obtain ⟨a24, ls25, rfl, h25⟩ := gL_ok h24; obtain ⟨a25, ls26, rfl, h26⟩ := gS_ok h25; obtain ⟨a26, ls27, rfl, h27⟩ := gI_ok h26; obtain ⟨a27, ls28, rfl, h28⟩ := gI_ok h27; obtain ⟨a28, ls29, rfl, h29⟩ := gB_ok h28; obtain ⟨a29, ls30, rfl, h30⟩ := gI_ok h29; obtain ⟨rfl, h31⟩ := gE_ok h30
  obtain ⟨y, k1, k2⟩ := Option.bind_eq_some_iff.1 h31
  exact ⟨_, k2, sp19 a0 a1 a2 a3 a4 a5 a6 a7 a8 a9 a10 a11 a12 a13 a14 a15 a16 a17 a18 a19 a20 a21 a22 a23 a24 a25 a26 a27 a28 a29 k1⟩

/-! ### garland/garlandref06.Pair -/
def pa93 : List VP := [.agg [.s, .i .i64, .i .i64, .b]]
def sr93 : RShape := ⟨.b, [], none⟩
def toB93 : List Leaf → Option (Bool) := gB (fun b0 => gE (some b0))
def ofB93 (y : Bool) : List Leaf := [.b y]
theorem toB93_ok : ∀ ls b, toB93 ls = some b → ls = ofB93 b := by
  intro ls b h
  unfold toB93 at h
  obtain ⟨b0, ls1, rfl, h1⟩ := gB_ok h; obtain ⟨rfl, h2⟩ := gE_ok h1
  cases h2; rfl
def run93 {R : Type} : SF R := ⟨pa93, sr93, fun ls K => (gS (fun a0 => gI (fun a1 => gI (fun a2 => gB (fun a3 => gE (Option.bind (F93 FUEL a0 a1 a2 a3) fun y => K (ofB93 y))))))) ls⟩
def cuts93 : List (List Nat × Cut (Bool)) := []
noncomputable def X93 : Px (Bool) := ⟨T, Try.prog, lkF [], mkCuts 93 cuts93, altN, altN_ok⟩
theorem e93 (n : Nat) (a0 : ByteArray) (a1 : Int) (a2 : Int) (a3 : Bool) : entF X93 8 93 pa93 (endK sr93 toB93) n [.s a0, .i a1, .i a2, .b a3] = F93 n a0 a1 a2 a3 := by kernel_rfl
theorem sp93 {n : Nat} (a0 : ByteArray) (a1 : Int) (a2 : Int) (a3 : Bool) {y : Bool} (h : F93 n a0 a1 a2 a3 = some y) : SpecF T Try.prog 93 pa93 [.s a0, .i a1, .i a2, .b a3] sr93 (ofB93 y) :=
  fun_ok (X := X93) tok (sfok_of trivial) mixed 93 8 cuts93 rfl toB93_ok trivial ((e93 n a0 a1 a2 a3).trans h)
theorem ok93 {R : Type} : SFone T Try.prog 93 (run93 : SF R) := by
  intro ls K r h
  simp only [run93] at h
  obtain ⟨a0, ls1, rfl, h1⟩ := gS_ok h; obtain ⟨a1, ls2, rfl, h2⟩ := gI_ok h1; obtain ⟨a2, ls3, rfl, h3⟩ := gI_ok h2; obtain ⟨a3, ls4, rfl, h4⟩ := gB_ok h3; obtain ⟨rfl, h5⟩ := gE_ok h4
  obtain ⟨y, k1, k2⟩ := Option.bind_eq_some_iff.1 h5
  exact ⟨_, k2, sp93 a0 a1 a2 a3 k1⟩

/-! ### garland/garlandref06.list -/
def pa94 : List VP := [.sl false [.int .i64], .i .i64]
def sr94 : RShape := ⟨.b, [], none⟩
def toB94 : List Leaf → Option (Bool) := gB (fun b0 => gE (some b0))
def ofB94 (y : Bool) : List Leaf := [.b y]
theorem toB94_ok : ∀ ls b, toB94 ls = some b → ls = ofB94 b := by
  intro ls b h
  unfold toB94 at h
  obtain ⟨b0, ls1, rfl, h1⟩ := gB_ok h; obtain ⟨rfl, h2⟩ := gE_ok h1
  cases h2; rfl
def run94 {R : Type} : SF R := ⟨pa94, sr94, fun ls K => (gL [.int .i64] (fun a0 => gI (fun a1 => gE (Option.bind (F94 FUEL a0 a1) fun y => K (ofB94 y))))) ls⟩
def sh94_0 : Shape := ⟨[(44, [(0, .sl false [.int .i64]), (1, .i .i64), (5, .i .i64)])], []⟩
def g94_0 (n : Nat) : List Leaf → Option (Bool) := gL [.int .i64] (fun x0 => gI (fun x1 => gI (fun x2 => gE (F94_c0 n x0 x1 x2))))
def sh94_1 : Shape := ⟨[(44, [(0, .sl false [.int .i64]), (1, .i .i64), (5, .i .i64), (6, .i .i64)])], []⟩
def g94_1 (n : Nat) : List Leaf → Option (Bool) := gL [.int .i64] (fun x0 => gI (fun x1 => gI (fun x2 => gI (fun x3 => gE (F94_c1 n x0 x1 x2 x3)))))
def cuts94 : List (List Nat × Cut (Bool)) := [([1, 0, 1, 0], ⟨sh94_0, g94_0⟩), ([1, 0, 1, 0, 0, 1, 0, 0, 1, 1, 0], ⟨sh94_1, g94_1⟩)]
noncomputable def X94 : Px (Bool) := ⟨T, Try.prog, lkF [(61, run61)], mkCuts 94 cuts94, altN, altN_ok⟩
theorem e94_0 (n : Nat) (x0 : List (Int)) (x1 : Int) (x2 : Int) : stepF X94 8 94 (endK sr94 toB94) [1, 0, 1, 0] sh94_0 n [.l [.int .i64] x0, .i x1, .i x2] = F94_c0 (n + 1) x0 x1 x2 := by kernel_rfl
theorem e94_1 (n : Nat) (x0 : List (Int)) (x1 : Int) (x2 : Int) (x3 : Int) : stepF X94 8 94 (endK sr94 toB94) [1, 0, 1, 0, 0, 1, 0, 0, 1, 1, 0] sh94_1 n [.l [.int .i64] x0, .i x1, .i x2, .i x3] = F94_c1 (n + 1) x0 x1 x2 x3 := by kernel_rfl
theorem e94 (n : Nat) (a0 : List (Int)) (a1 : Int) : entF X94 8 94 pa94 (endK sr94 toB94) n [.l [.int .i64] a0, .i a1] = F94 n a0 a1 := by kernel_rfl
theorem c94_0 : CutOK X94 8 94 (endK sr94 toB94) [1, 0, 1, 0] ⟨sh94_0, g94_0⟩ := by
  refine ⟨fun ls => ?_, fun n ls r h => ?_⟩
  · cases h : g94_0 0 ls with
    | none => exact h
    | some r =>
      unfold g94_0 at h; obtain ⟨x0, ls1, rfl, h1⟩ := gL_ok h; obtain ⟨x1, ls2, rfl, h2⟩ := gI_ok h1; obtain ⟨x2, ls3, rfl, h3⟩ := gI_ok h2; obtain ⟨rfl, h4⟩ := gE_ok h3; simp only [F94_c0] at h4; cases h4
  · replace h : g94_0 (n + 1) ls = some r := h
    unfold g94_0 at h
    obtain ⟨x0, ls1, rfl, h1⟩ := gL_ok h; obtain ⟨x1, ls2, rfl, h2⟩ := gI_ok h1; obtain ⟨x2, ls3, rfl, h3⟩ := gI_ok h2; obtain ⟨rfl, h4⟩ := gE_ok h3
    exact (e94_0 n x0 x1 x2).trans h4
theorem c94_1 : CutOK X94 8 94 (endK sr94 toB94) [1, 0, 1, 0, 0, 1, 0, 0, 1, 1, 0] ⟨sh94_1, g94_1⟩ := by
  refine ⟨fun ls => ?_, fun n ls r h => ?_⟩
  · cases h : g94_1 0 ls with
    | none => exact h
    | some r =>
      unfold g94_1 at h; obtain ⟨x0, ls1, rfl, h1⟩ := gL_ok h; obtain ⟨x1, ls2, rfl, h2⟩ := gI_ok h1; obtain ⟨x2, ls3, rfl, h3⟩ := gI_ok h2; obtain ⟨x3, ls4, rfl, h4⟩ := gI_ok h3; obtain ⟨rfl, h5⟩ := gE_ok h4; simp only [F94_c1] at h5; cases h5
  · replace h : g94_1 (n + 1) ls = some r := h
    unfold g94_1 at h
    obtain ⟨x0, ls1, rfl, h1⟩ := gL_ok h; obtain ⟨x1, ls2, rfl, h2⟩ := gI_ok h1; obtain ⟨x2, ls3, rfl, h3⟩ := gI_ok h2; obtain ⟨x3, ls4, rfl, h4⟩ := gI_ok h3; obtain ⟨rfl, h5⟩ := gE_ok h4
    exact (e94_1 n x0 x1 x2 x3).trans h5
theorem sp94 {n : Nat} (a0 : List (Int)) (a1 : Int) {y : Bool} (h : F94 n a0 a1 = some y) : SpecF T Try.prog 94 pa94 [.l [.int .i64] a0, .i a1] sr94 (ofB94 y) :=
  fun_ok (X := X94) tok (sfok_of ⟨ok61, trivial⟩) mixed 94 8 cuts94 rfl toB94_ok ⟨c94_0, c94_1, trivial⟩ ((e94 n a0 a1).trans h)
theorem ok94 {R : Type} : SFone T Try.prog 94 (run94 : SF R) := by
  intro ls K r h
  simp only [run94] at h
  obtain ⟨a0, ls1, rfl, h1⟩ := gL_ok h; obtain ⟨a1, ls2, rfl, h2⟩ := gI_ok h1; obtain ⟨rfl, h3⟩ := gE_ok h2
  obtain ⟨y, k1, k2⟩ := Option.bind_eq_some_iff.1 h3
  exact ⟨_, k2, sp94 a0 a1 k1⟩

/-! ### garland/garlandref06.has -/
def pa64 : List VP := [.agg [.i .u8, .i .i64, .i .i64, .i .i64, .i .i64, .b, .b, .i .i64, .i .i64, .sl false [.int .i64], .s, .i .i64, .i .i64, .b, .i .i64]]
def sr64 : RShape := ⟨.b, [], none⟩
def toB64 : List Leaf → Option (Bool) := gB (fun b0 => gE (some b0))
def ofB64 (y : Bool) : List Leaf := [.b y]
theorem toB64_ok : ∀ ls b, toB64 ls = some b → ls = ofB64 b := by
  intro ls b h
  unfold toB64 at h
  obtain ⟨b0, ls1, rfl, h1⟩ := gB_ok h; obtain ⟨rfl, h2⟩ := gE_ok h1
  cases h2; rfl
def run64 {R : Type} : SF R := ⟨pa64, sr64, fun ls K => (gI (fun a0 => gI (fun a1 => gI (fun a2 => gI (fun a3 => gI (fun a4 => gB (fun a5 => gB (fun a6 => gI (fun a7 => gI (fun a8 => gL [.int .i64] (fun a9 => gS (fun a10 => gI (fun a11 => gI (fun a12 => gB (fun a13 => gI (fun a14 => gE (Option.bind (F64 FUEL a0 a1 a2 a3 a4 a5 a6 a7 a8 a9 a10 a11 a12 a13 a14) fun y => K (ofB64 y)))))))))))))))))) ls⟩
def cuts64 : List (List Nat × Cut (Bool)) := []
noncomputable def X64 : Px (Bool) := ⟨T, Try.prog, lkF [(61, run61), (93, run93), (94, run94)], mkCuts 64 cuts64, altN, altN_ok⟩
theorem e64 (n : Nat) (a0 : Int) (a1 : Int) (a2 : Int) (a3 : Int) (a4 : Int) (a5 : Bool) (a6 : Bool) (a7 : Int) (a8 : Int) (a9 : List (Int)) (a10 : ByteArray) (a11 : Int) (a12 : Int) (a13 : Bool) (a14 : Int) : entF X64 8 64 pa64 (endK sr64 toB64) n [.i a0, .i a1, .i a2, .i a3, .i a4, .b a5, .b a6, .i a7, .i a8, .l [.int .i64] a9, .s a10, .i a11, .i a12, .b a13, .i a14] = F64 n a0 a1 a2 a3 a4 a5 a6 a7 a8 a9 a10 a11 a12 a13 a14 := by kernel_rfl
theorem sp64 {n : Nat} (a0 : Int) (a1 : Int) (a2 : Int) (a3 : Int) (a4 : Int) (a5 : Bool) (a6 : Bool) (a7 : Int) (a8 : Int) (a9 : List (Int)) (a10 : ByteArray) (a11 : Int) (a12 : Int) (a13 : Bool) (a14 : Int) {y : Bool} (h : F64 n a0 a1 a2 a3 a4 a5 a6 a7 a8 a9 a10 a11 a12 a13 a14 = some y) : SpecF T Try.prog 64 pa64 [.i a0, .i a1, .i a2, .i a3, .i a4, .b a5, .b a6, .i a7, .i a8, .l [.int .i64] a9, .s a10, .i a11, .i a12, .b a13, .i a14] sr64 (ofB64 y) :=
  fun_ok (X := X64) tok (sfok_of ⟨ok61, ok93, ok94, trivial⟩) mixed 64 8 cuts64 rfl toB64_ok trivial ((e64 n a0 a1 a2 a3 a4 a5 a6 a7 a8 a9 a10 a11 a12 a13 a14).trans h)
theorem ok64 {R : Type} : SFone T Try.prog 64 (run64 : SF R) := by
  intro ls K r h
  simp only [run64] at h
  obtain ⟨a0, ls1, rfl, h1⟩ := gI_ok h; obtain ⟨a1, ls2, rfl, h2⟩ := gI_ok h1; obtain ⟨a2, ls3, rfl, h3⟩ := gI_ok h2; obtain ⟨a3, ls4, rfl, h4⟩ := gI_ok h3; obtain ⟨a4, ls5, rfl, h5⟩ := gI_ok h4; obtain ⟨a5, ls6, rfl, h6⟩ := gB_ok h5; obtain ⟨a6, ls7, rfl, h7⟩ := gB_ok h6; obtain ⟨a7, ls8, rfl, h8⟩ := gI_ok h7; obtain ⟨a8, ls9, rfl, h9⟩ := gI_ok h8; obtain ⟨a9, ls10, rfl, h10⟩ := gL_ok h9; obtain ⟨a10, ls11, rfl, h11⟩ := gS_ok h10; obtain ⟨a11, ls12, rfl, h12⟩ := gI_ok h11; obtain ⟨a12, ls13, rfl, h13⟩ := gI_ok h12; obtain ⟨a13, ls14, rfl, h14⟩ := gB_ok h13; obtain ⟨a14, ls15, rfl, h15⟩ := gI_ok h14; obtain ⟨rfl, h16⟩ := gE_ok h15
  obtain ⟨y, k1, k2⟩ := Option.bind_eq_some_iff.1 h16
  exact ⟨_, k2, sp64 a0 a1 a2 a3 a4 a5 a6 a7 a8 a9 a10 a11 a12 a13 a14 k1⟩

/-! ### garland/garlandref06.Right -/
def pa28 : List VP := [.agg [.i .u8, .i .i64, .i .i64, .i .i64, .i .i64, .b, .b, .i .i64, .i .i64, .sl false [.int .i64], .s, .i .i64, .i .i64, .b, .i .i64]]
def sr28 : RShape := ⟨.b, [], none⟩
def toB28 : List Leaf → Option (Bool) := gB (fun b0 => gE (some b0))
def ofB28 (y : Bool) : List Leaf := [.b y]
theorem toB28_ok : ∀ ls b, toB28 ls = some b → ls = ofB28 b := by
  intro ls b h
  unfold toB28 at h
  obtain ⟨b0, ls1, rfl, h1⟩ := gB_ok h; obtain ⟨rfl, h2⟩ := gE_ok h1
  cases h2; rfl
def run28 {R : Type} : SF R := ⟨pa28, sr28, fun ls K => (gI (fun a0 => gI (fun a1 => gI (fun a2 => gI (fun a3 => gI (fun a4 => gB (fun a5 => gB (fun a6 => gI (fun a7 => gI (fun a8 => gL [.int .i64] (fun a9 => gS (fun a10 => gI (fun a11 => gI (fun a12 => gB (fun a13 => gI (fun a14 => gE (Option.bind (F28 FUEL a0 a1 a2 a3 a4 a5 a6 a7 a8 a9 a10 a11 a12 a13 a14) fun y => K (ofB28 y)))))))))))))))))) ls⟩
def cuts28 : List (List Nat × Cut (Bool)) := []
noncomputable def X28 : Px (Bool) := ⟨T, Try.prog, lkF [(61, run61), (62, run62), (63, run63), (19, run19), (64, run64)], mkCuts 28 cuts28, altN, altN_ok⟩
theorem e28 (n : Nat) (a0 : Int) (a1 : Int) (a2 : Int) (a3 : Int) (a4 : Int) (a5 : Bool) (a6 : Bool) (a7 : Int) (a8 : Int) (a9 : List (Int)) (a10 : ByteArray) (a11 : Int) (a12 : Int) (a13 : Bool) (a14 : Int) : entF X28 8 28 pa28 (endK sr28 toB28) n [.i a0, .i a1, .i a2, .i a3, .i a4, .b a5, .b a6, .i a7, .i a8, .l [.int .i64] a9, .s a10, .i a11, .i a12, .b a13, .i a14] = F28 n a0 a1 a2 a3 a4 a5 a6 a7 a8 a9 a10 a11 a12 a13 a14 := by kernel_rfl
theorem sp28 {n : Nat} (a0 : Int) (a1 : Int) (a2 : Int) (a3 : Int) (a4 : Int) (a5 : Bool) (a6 : Bool) (a7 : Int) (a8 : Int) (a9 : List (Int)) (a10 : ByteArray) (a11 : Int) (a12 : Int) (a13 : Bool) (a14 : Int) {y : Bool} (h : F28 n a0 a1 a2 a3 a4 a5 a6 a7 a8 a9 a10 a11 a12 a13 a14 = some y) : SpecF T Try.prog 28 pa28 [.i a0, .i a1, .i a2, .i a3, .i a4, .b a5, .b a6, .i a7, .i a8, .l [.int .i64] a9, .s a10, .i a11, .i a12, .b a13, .i a14] sr28 (ofB28 y) :=
  fun_ok (X := X28) tok (sfok_of ⟨ok61, ok62, ok63, ok19, ok64, trivial⟩) mixed 28 8 cuts28 rfl toB28_ok trivial ((e28 n a0 a1 a2 a3 a4 a5 a6 a7 a8 a9 a10 a11 a12 a13 a14).trans h)
theorem ok28 {R : Type} : SFone T Try.prog 28 (run28 : SF R) := by
  intro ls K r h
  simp only [run28] at h
  obtain ⟨a0, ls1, rfl, h1⟩ := gI_ok h; obtain ⟨a1, ls2, rfl, h2⟩ := gI_ok h1; obtain ⟨a2, ls3, rfl, h3⟩ := gI_ok h2; obtain ⟨a3, ls4, rfl, h4⟩ := gI_ok h3; obtain ⟨a4, ls5, rfl, h5⟩ := gI_ok h4; obtain ⟨a5, ls6, rfl, h6⟩ := gB_ok h5; obtain ⟨a6, ls7, rfl, h7⟩ := gB_ok h6; obtain ⟨a7, ls8, rfl, h8⟩ := gI_ok h7; obtain ⟨a8, ls9, rfl, h9⟩ := gI_ok h8; obtain ⟨a9, ls10, rfl, h10⟩ := gL_ok h9; obtain ⟨a10, ls11, rfl, h11⟩ := gS_ok h10; obtain ⟨a11, ls12, rfl, h12⟩ := gI_ok h11; obtain ⟨a12, ls13, rfl, h13⟩ := gI_ok h12; obtain ⟨a13, ls14, rfl, h14⟩ := gB_ok h13; obtain ⟨a14, ls15, rfl, h15⟩ := gI_ok h14; obtain ⟨rfl, h16⟩ := gE_ok h15
  obtain ⟨y, k1, k2⟩ := Option.bind_eq_some_iff.1 h16
  exact ⟨_, k2, sp28 a0 a1 a2 a3 a4 a5 a6 a7 a8 a9 a10 a11 a12 a13 a14 k1⟩

/-! ### garland/garlandref06.Tell -/
def pa56 : List VP := [.agg [.i .u8, .i .i64, .i .i64, .i .i64, .i .i64, .b, .b, .i .i64, .i .i64, .sl false [.int .i64], .s, .i .i64, .i .i64, .b, .i .i64]]
def sr56 : RShape := ⟨.agg [.i .u8, .i .i64, .i .i64, .i .i64, .i .i64, .b, .b, .i .i64, .i .i64, .nil, .s, .i .i64, .i .i64, .b, .i .i64], [], none⟩
def toB56 : List Leaf → Option (Si5b2i2si2bi) := gI (fun b0 => gI (fun b1 => gI (fun b2 => gI (fun b3 => gI (fun b4 => gB (fun b5 => gB (fun b6 => gI (fun b7 => gI (fun b8 => gS (fun b9 => gI (fun b10 => gI (fun b11 => gB (fun b12 => gI (fun b13 => gE (some ⟨b0, b1, b2, b3, b4, b5, b6, b7, b8, b9, b10, b11, b12, b13⟩)))))))))))))))
def ofB56 (y : Si5b2i2si2bi) : List Leaf := [.i y.q0, .i y.q1, .i y.q2, .i y.q3, .i y.q4, .b y.q5, .b y.q6, .i y.q7, .i y.q8, .s y.q9, .i y.q10, .i y.q11, .b y.q12, .i y.q13]
theorem toB56_ok : ∀ ls b, toB56 ls = some b → ls = ofB56 b := by
  intro ls b h
  unfold toB56 at h
  obtain ⟨b0, ls1, rfl, h1⟩ := gI_ok h; obtain ⟨b1, ls2, rfl, h2⟩ := gI_ok h1; obtain ⟨b2, ls3, rfl, h3⟩ := gI_ok h2; obtain ⟨b3, ls4, rfl, h4⟩ := gI_ok h3; obtain ⟨b4, ls5, rfl, h5⟩ := gI_ok h4; obtain ⟨b5, ls6, rfl, h6⟩ := gB_ok h5; obtain ⟨b6, ls7, rfl, h7⟩ := gB_ok h6; obtain ⟨b7, ls8, rfl, h8⟩ := gI_ok h7; obtain ⟨b8, ls9, rfl, h9⟩ := gI_ok h8; obtain ⟨b9, ls10, rfl, h10⟩ := gS_ok h9; obtain ⟨b10, ls11, rfl, h11⟩ := gI_ok h10; obtain ⟨b11, ls12, rfl, h12⟩ := gI_ok h11; obtain ⟨b12, ls13, rfl, h13⟩ := gB_ok h12; obtain ⟨b13, ls14, rfl, h14⟩ := gI_ok h13; obtain ⟨rfl, h15⟩ := gE_ok h14
  cases h15; rfl
def run56 {R : Type} : SF R := ⟨pa56, sr56, fun ls K => (gI (fun a0 => gI (fun a1 => gI (fun a2 => gI (fun a3 => gI (fun a4 => gB (fun a5 => gB (fun a6 => gI (fun a7 => gI (fun a8 => gL [.int .i64] (fun a9 => gS (fun a10 => gI (fun a11 => gI (fun a12 => gB (fun a13 => gI (fun a14 => gE (Option.bind (F56 FUEL a0 a1 a2 a3 a4 a5 a6 a7 a8 a9 a10 a11 a12 a13 a14) fun y => K (ofB56 y)))))))))))))))))) ls⟩
def cuts56 : List (List Nat × Cut (Si5b2i2si2bi)) := []
noncomputable def X56 : Px (Si5b2i2si2bi) := ⟨T, Try.prog, lkF [(89, run89)], mkCuts 56 cuts56, altN, altN_ok⟩
theorem e56 (n : Nat) (a0 : Int) (a1 : Int) (a2 : Int) (a3 : Int) (a4 : Int) (a5 : Bool) (a6 : Bool) (a7 : Int) (a8 : Int) (a9 : List (Int)) (a10 : ByteArray) (a11 : Int) (a12 : Int) (a13 : Bool) (a14 : Int) : entF X56 8 56 pa56 (endK sr56 toB56) n [.i a0, .i a1, .i a2, .i a3, .i a4, .b a5, .b a6, .i a7, .i a8, .l [.int .i64] a9, .s a10, .i a11, .i a12, .b a13, .i a14] = F56 n a0 a1 a2 a3 a4 a5 a6 a7 a8 a9 a10 a11 a12 a13 a14 := by kernel_rfl
theorem sp56 {n : Nat} (a0 : Int) (a1 : Int) (a2 : Int) (a3 : Int) (a4 : Int) (a5 : Bool) (a6 : Bool) (a7 : Int) (a8 : Int) (a9 : List (Int)) (a10 : ByteArray) (a11 : Int) (a12 : Int) (a13 : Bool) (a14 : Int) {y : Si5b2i2si2bi} (h : F56 n a0 a1 a2 a3 a4 a5 a6 a7 a8 a9 a10 a11 a12 a13 a14 = some y) : SpecF T Try.prog 56 pa56 [.i a0, .i a1, .i a2, .i a3, .i a4, .b a5, .b a6, .i a7, .i a8, .l [.int .i64] a9, .s a10, .i a11, .i a12, .b a13, .i a14] sr56 (ofB56 y) :=
  fun_ok (X := X56) tok (sfok_of ⟨ok89, trivial⟩) mixed 56 8 cuts56 rfl toB56_ok trivial ((e56 n a0 a1 a2 a3 a4 a5 a6 a7 a8 a9 a10 a11 a12 a13 a14).trans h)
theorem ok56 {R : Type} : SFone T Try.prog 56 (run56 : SF R) := by
  intro ls K r h
  simp only [run56] at h
  obtain ⟨a0, ls1, rfl, h1⟩ := gI_ok h; obtain ⟨a1, ls2, rfl, h2⟩ := gI_ok h1; obtain ⟨a2, ls3, rfl, h3⟩ := gI_ok h2; obtain ⟨a3, ls4, rfl, h4⟩ := gI_ok h3; obtain ⟨a4, ls5, rfl, h5⟩ := gI_ok h4; obtain ⟨a5, ls6, rfl, h6⟩ := gB_ok h5; obtain ⟨a6, ls7, rfl, h7⟩ := gB_ok h6; obtain ⟨a7, ls8, rfl, h8⟩ := gI_ok h7; obtain ⟨a8, ls9, rfl, h9⟩ := gI_ok h8; obtain ⟨a9, ls10, rfl, h10⟩ := gL_ok h9; obtain ⟨a10, ls11, rfl, h11⟩ := gS_ok h10; obtain ⟨a11, ls12, rfl, h12⟩ := gI_ok h11; obtain ⟨a12, ls13, rfl, h13⟩ := gI_ok h12; obtain ⟨a13, ls14, rfl, h14⟩ := gB_ok h13; obtain ⟨a14, ls15, rfl, h15⟩ := gI_ok h14; obtain ⟨rfl, h16⟩ := gE_ok h15
  obtain ⟨y, k1, k2⟩ := Option.bind_eq_some_iff.1 h16
  exact ⟨_, k2, sp56 a0 a1 a2 a3 a4 a5 a6 a7 a8 a9 a10 a11 a12 a13 a14 k1⟩

/-! ### garland/garlandref16.Answer -/
def pa21 : List VP := [.agg [.i .i64, .sl false [.int .i64], .sl false [.int .i64], .i .i64, .i .i64, .i .i64, .i .i64, .i .i64, .i .i64, .i .i64, .i .i64, .i .i64, .i .i64, .i .i64, .i .i64, .i .i64, .i .i64, .i .i64, .i .i64, .i .i64], .agg [.i .u8, .i .i64, .i .i64, .i .i64, .i .i64, .b, .b, .i .i64, .i .i64, .sl false [.int .i64], .s, .i .i64, .i .i64, .b, .i .i64]]
def sr21 : RShape := ⟨.agg [.i .u8, .i .i64, .i .i64, .i .i64, .i .i64, .b, .b, .i .i64, .i .i64, .nil, .s, .i .i64, .i .i64, .b, .i .i64], [], none⟩
def toB21 : List Leaf → Option (Si5b2i2si2bi) := gI (fun b0 => gI (fun b1 => gI (fun b2 => gI (fun b3 => gI (fun b4 => gB (fun b5 => gB (fun b6 => gI (fun b7 => gI (fun b8 => gS (fun b9 => gI (fun b10 => gI (fun b11 => gB (fun b12 => gI (fun b13 => gE (some ⟨b0, b1, b2, b3, b4, b5, b6, b7, b8, b9, b10, b11, b12, b13⟩)))))))))))))))
def ofB21 (y : Si5b2i2si2bi) : List Leaf := [.i y.q0, .i y.q1, .i y.q2, .i y.q3, .i y.q4, .b y.q5, .b y.q6, .i y.q7, .i y.q8, .s y.q9, .i y.q10, .i y.q11, .b y.q12, .i y.q13]
theorem toB21_ok : ∀ ls b, toB21 ls = some b → ls = ofB21 b := by
  intro ls b h
  unfold toB21 at h
  obtain ⟨b0, ls1, rfl, h1⟩ := gI_ok h; obtain ⟨b1, ls2, rfl, h2⟩ := gI_ok h1; obtain ⟨b2, ls3, rfl, h3⟩ := gI_ok h2; obtain ⟨b3, ls4, rfl, h4⟩ := gI_ok h3; obtain ⟨b4, ls5, rfl, h5⟩ := gI_ok h4; obtain ⟨b5, ls6, rfl, h6⟩ := gB_ok h5; obtain ⟨b6, ls7, rfl, h7⟩ := gB_ok h6; obtain ⟨b7, ls8, rfl, h8⟩ := gI_ok h7; obtain ⟨b8, ls9, rfl, h9⟩ := gI_ok h8; obtain ⟨b9, ls10, rfl, h10⟩ := gS_ok h9; obtain ⟨b10, ls11, rfl, h11⟩ := gI_ok h10; obtain ⟨b11, ls12, rfl, h12⟩ := gI_ok h11; obtain ⟨b12, ls13, rfl, h13⟩ := gB_ok h12; obtain ⟨b13, ls14, rfl, h14⟩ := gI_ok h13; obtain ⟨rfl, h15⟩ := gE_ok h14
  cases h15; rfl
def run21 {R : Type} : SF R := ⟨pa21, sr21, fun ls K => (gI (fun a0 => gL [.int .i64] (fun a1 => gL [.int .i64] (fun a2 => gI (fun a3 => gI (fun a4 => gI (fun a5 => gI (fun a6 => gI (fun a7 => gI (fun a8 => gI (fun a9 => gI (fun a10 => gI (fun a11 => gI (fun a12 => gI (fun a13 => gI (fun a14 => gI (fun a15 => gI (fun a16 => gI (fun a17 => gI (fun a18 => gI (fun a19 => gI (fun a20 => gI (fun a21 => gI (fun a22 => gI (fun a23 => gI (fun a24 => gB (fun a25 => gB (fun a26 => gI (fun a27 => gI (fun a28 => gL [.int .i64] (fun a29 => gS (fun a30 => gI (fun a31 => gI (fun a32 => gB (fun a33 => gI (fun a34 => gE (Option.bind (F21 FUEL a0 a1 a2 a3 a4 a5 a6 a7 a8 a9 a10 a11 a12 a13 a14 a15 a16 a17 a18 a19 a20 a21 a22 a23 a24 a25 a26 a27 a28 a29 a30 a31 a32 a33 a34) fun y => K (ofB21 y)))))))))))))))))))))))))))))))))))))) ls⟩
def cuts21 : List (List Nat × Cut (Si5b2i2si2bi)) := []
noncomputable def X21 : Px (Si5b2i2si2bi) := ⟨T, Try.prog, lkF [(24, run24), (28, run28), (56, run56), (16, run16)], mkCuts 21 cuts21, altN, altN_ok⟩
theorem e21 (n : Nat) (a0 : Int) (a1 : List (Int)) (a2 : List (Int)) (a3 : Int) (a4 : Int) (a5 : Int) (a6 : Int) (a7 : Int) (a8 : Int) (a9 : Int) (a10 : Int) (a11 : Int) (a12 : Int) (a13 : Int) (a14 : Int) (a15 : Int) (a16 : Int) (a17 : Int) (a18 : Int) (a19 : Int) (a20 : Int) (a21 : Int) (a22 : Int) (a23 : Int) (a24 : Int) (a25 : Bool) (a26 : Bool) (a27 : Int) (a28 : Int) (a29 : List (Int)) (a30 : ByteArray) (a31 : Int) (a32 : Int) (a33 : Bool) (a34 : Int) : entF X21 8 21 pa21 (endK sr21 toB21) n [.i a0, .l [.int .i64] a1, .l [.int .i64] a2, .i a3, .i a4, .i a5, .i a6, .i a7, .i a8, .i a9, .i a10, .i a11, .i a12, .i a13, .i a14, .i a15, .i a16, .i a17, .i a18, .i a19, .i a20, .i a21, .i a22, .i a23, .i a24, .b a25, .b a26, .i a27, .i a28, .l [.int .i64] a29, .s a30, .i a31, .i a32, .b a33, .i a34] = F21 n a0 a1 a2 a3 a4 a5 a6 a7 a8 a9 a10 a11 a12 a13 a14 a15 a16 a17 a18 a19 a20 a21 a22 a23 a24 a25 a26 a27 a28 a29 a30 a31 a32 a33 a34 := by kernel_rfl
theorem sp21 {n : Nat} (a0 : Int) (a1 : List (Int)) (a2 : List (Int)) (a3 : Int) (a4 : Int) (a5 : Int) (a6 : Int) (a7 : Int) (a8 : Int) (a9 : Int) (a10 : Int) (a11 : Int) (a12 : Int) (a13 : Int) (a14 : Int) (a15 : Int) (a16 : Int) (a17 : Int) (a18 : Int) (a19 : Int) (a20 : Int) (a21 : Int) (a22 : Int) (a23 : Int) (a24 : Int) (a25 : Bool) (a26 : Bool) (a27 : Int) (a28 : Int) (a29 : List (Int)) (a30 : ByteArray) (a31 : Int) (a32 : Int) (a33 : Bool) (a34 : Int) {y : Si5b2i2si2bi} (h : F21 n a0 a1 a2 a3 a4 a5 a6 a7 a8 a9 a10 a11 a12 a13 a14 a15 a16 a17 a18 a19 a20 a21 a22 a23 a24 a25 a26 a27 a28 a29 a30 a31 a32 a33 a34 = some y) : SpecF T Try.prog 21 pa21 [.i a0, .l [.int .i64] a1, .l [.int .i64] a2, .i a3, .i a4, .i a5, .i a6, .i a7, .i a8, .i a9, .i a10, .i a11, .i a12, .i a13, .i a14, .i a15, .i a16, .i a17, .i a18, .i a19, .i a20, .i a21, .i a22, .i a23, .i a24, .b a25, .b a26, .i a27, .i a28, .l [.int .i64] a29, .s a30, .i a31, .i a32, .b a33, .i a34] sr21 (ofB21 y) :=
  fun_ok (X := X21) tok (sfok_of ⟨ok24, ok28, ok56, ok16, trivial⟩) mixed 21 8 cuts21 rfl toB21_ok trivial ((e21 n a0 a1 a2 a3 a4 a5 a6 a7 a8 a9 a10 a11 a12 a13 a14 a15 a16 a17 a18 a19 a20 a21 a22 a23 a24 a25 a26 a27 a28 a29 a30 a31 a32 a33 a34).trans h)
theorem ok21 {R : Type} : SFone T Try.prog 21 (run21 : SF R) := by
  intro ls K r h
  simp only [run21] at h
  obtain ⟨a0, ls1, rfl, h1⟩ := gI_ok h; obtain ⟨a1, ls2, rfl, h2⟩ := gL_ok h1; obtain ⟨a2, ls3, rfl, h3⟩ := gL_ok h2; obtain ⟨a3, ls4, rfl, h4⟩ := gI_ok h3; obtain ⟨a4, ls5, rfl, h5⟩ := gI_ok h4; obtain ⟨a5, ls6, rfl, h6⟩ := gI_ok h5; obtain ⟨a6, ls7, rfl, h7⟩ := gI_ok h6; obtain ⟨a7, ls8, rfl, h8⟩ := gI_ok h7; obtain ⟨a8, ls9, rfl, h9⟩ := gI_ok h8; obtain ⟨a9, ls10, rfl, h10⟩ := gI_ok h9; obtain ⟨a10, ls11, rfl, h11⟩ := gI_ok h10; obtain ⟨a11, ls12, rfl, h12⟩ := gI_ok h11; obtain ⟨a12, ls13, rfl, h13⟩ := gI_ok h12; obtain ⟨a13, ls14, rfl, h14⟩ := gI_ok h13; obtain ⟨a14, ls15, rfl, h15⟩ := gI_ok h14; obtain ⟨a15, ls16, rfl, h16⟩ := gI_ok h15; obtain ⟨a16, ls17, rfl, h17⟩ := gI_ok h16; obtain ⟨a17, ls18, rfl, h18⟩ := gI_ok h17; obtain ⟨a18, ls19, rfl, h19⟩ := gI_ok h18; obtain ⟨a19, ls20, rfl, h20⟩ := gI_ok h19; obtain ⟨a20, ls21, rfl, h21⟩ := gI_ok h20; obtain ⟨a21, ls22, rfl, h22⟩ := gI_ok h21; obtain ⟨a22, ls23, rfl, h23⟩ := gI_ok h22; obtain ⟨a23, ls24, rfl, h24⟩ := gI_ok h23; obtain ⟨a24, ls25, rfl, h25⟩ := gI_ok h24; obtain ⟨a25, ls26, rfl, h26⟩ := gB_ok h25; obtain ⟨a26, ls27, rfl, h27⟩ := gB_ok h26; obtain ⟨a27, ls28, rfl, h28⟩ := gI_ok h27; obtain ⟨a28, ls29, rfl, h29⟩ := gI_ok h28; obtain ⟨a29, ls30, rfl, h30⟩ := gL_ok h29; obtain ⟨a30, ls31, rfl, h31⟩ := gS_ok h30; obtain ⟨a31, ls32, rfl, h32⟩ := gI_ok h31; obtain ⟨a32, ls33, rfl, h33⟩ := gI_ok h32; obtain ⟨a33, ls34, rfl, h34⟩ := gB_ok h33; obtain ⟨a34, ls35, rfl, h35⟩ := gI_ok h34; obtain ⟨rfl, h36⟩ := gE_ok h35
  obtain ⟨y, k1, k2⟩ := Option.bind_eq_some_iff.1 h36
  exact ⟨_, k2, sp21 a0 a1 a2 a3 a4 a5 a6 a7 a8 a9 a10 a11 a12 a13 a14 a15 a16 a17 a18 a19 a20 a21 a22 a23 a24 a25 a26 a27 a28 a29 a30 a31 a32 a33 a34 k1⟩

/-! ### garland/garlandref16.Closer -/
def pa23 : List VP := [.i .i64, .i .i64, .i .i64]
def sr23 : RShape := ⟨.b, [], none⟩
def toB23 : List Leaf → Option (Bool) := gB (fun b0 => gE (some b0))
def ofB23 (y : Bool) : List Leaf := [.b y]
theorem toB23_ok : ∀ ls b, toB23 ls = some b → ls = ofB23 b := by
  intro ls b h
  unfold toB23 at h
  obtain ⟨b0, ls1, rfl, h1⟩ := gB_ok h; obtain ⟨rfl, h2⟩ := gE_ok h1
  cases h2; rfl
def run23 {R : Type} : SF R := ⟨pa23, sr23, fun ls K => (gI (fun a0 => gI (fun a1 => gI (fun a2 => gE (Option.bind (F23 FUEL a0 a1 a2) fun y => K (ofB23 y)))))) ls⟩
def cuts23 : List (List Nat × Cut (Bool)) := []
noncomputable def X23 : Px (Bool) := ⟨T, Try.prog, lkF [(53, run53)], mkCuts 23 cuts23, altN, altN_ok⟩
theorem e23 (n : Nat) (a0 : Int) (a1 : Int) (a2 : Int) : entF X23 8 23 pa23 (endK sr23 toB23) n [.i a0, .i a1, .i a2] = F23 n a0 a1 a2 := by kernel_rfl
theorem sp23 {n : Nat} (a0 : Int) (a1 : Int) (a2 : Int) {y : Bool} (h : F23 n a0 a1 a2 = some y) : SpecF T Try.prog 23 pa23 [.i a0, .i a1, .i a2] sr23 (ofB23 y) :=
  fun_ok (X := X23) tok (sfok_of ⟨ok53, trivial⟩) mixed 23 8 cuts23 rfl toB23_ok trivial ((e23 n a0 a1 a2).trans h)
theorem ok23 {R : Type} : SFone T Try.prog 23 (run23 : SF R) := by
  intro ls K r h
  simp only [run23] at h
  obtain ⟨a0, ls1, rfl, h1⟩ := gI_ok h; obtain ⟨a1, ls2, rfl, h2⟩ := gI_ok h1; obtain ⟨a2, ls3, rfl, h3⟩ := gI_ok h2; obtain ⟨rfl, h4⟩ := gE_ok h3
  obtain ⟨y, k1, k2⟩ := Option.bind_eq_some_iff.1 h4
  exact ⟨_, k2, sp23 a0 a1 a2 k1⟩

/-! ### garland/garlandlaw16.HopTells -/
def pa3 : List VP := [.agg [.i .i64, .sl false [.int .i64], .sl false [.int .i64], .i .i64, .i .i64, .i .i64, .i .i64, .i .i64, .i .i64, .i .i64, .i .i64, .i .i64, .i .i64, .i .i64, .i .i64, .i .i64, .i .i64, .i .i64, .i .i64, .i .i64], .agg [.i .u8, .i .i64, .i .i64, .i .i64, .i .i64, .b, .b, .i .i64, .i .i64, .sl false [.int .i64], .s, .i .i64, .i .i64, .b, .i .i64], .i .i64, .b, .i .i64, .i .i64]
def sr3 : RShape := ⟨.b, [], none⟩
def toB3 : List Leaf → Option (Bool) := gB (fun b0 => gE (some b0))
def ofB3 (y : Bool) : List Leaf := [.b y]
theorem toB3_ok : ∀ ls b, toB3 ls = some b → ls = ofB3 b := by
  intro ls b h
  unfold toB3 at h
  obtain ⟨b0, ls1, rfl, h1⟩ := gB_ok h; obtain ⟨rfl, h2⟩ := gE_ok h1
  cases h2; rfl
def run3 {R : Type} : SF R := ⟨pa3, sr3, fun ls K => (gI (fun a0 => gL [.int .i64] (fun a1 => gL [.int .i64] (fun a2 => gI (fun a3 => gI (fun a4 => gI (fun a5 => gI (fun a6 => gI (fun a7 => gI (fun a8 => gI (fun a9 => gI (fun a10 => gI (fun a11 => gI (fun a12 => gI (fun a13 => gI (fun a14 => gI (fun a15 => gI (fun a16 => gI (fun a17 => gI (fun a18 => gI (fun a19 => gI (fun a20 => gI (fun a21 => gI (fun a22 => gI (fun a23 => gI (fun a24 => gB (fun a25 => gB (fun a26 => gI (fun a27 => gI (fun a28 => gL [.int .i64] (fun a29 => gS (fun a30 => gI (fun a31 => gI (fun a32 => gB (fun a33 => gI (fun a34 => gI (fun a35 => gB (fun a36 => gI (fun a37 => gI (fun a38 => gE (Option.bind (F3 FUEL a0 a1 a2 a3 a4 a5 a6 a7 a8 a9 a10 a11 a12 a13 a14 a15 a16 a17 a18 a19 a20 a21 a22 a23 a24 a25 a26 a27 a28 a29 a30 a31 a32 a33 a34 a35 a36 a37 a38) fun y => K (ofB3 y)))))))))))))))))))))))))))))))))))))))))) ls⟩
def cuts3 : List (List Nat × Cut (Bool)) := []
noncomputable def X3 : Px (Bool) := ⟨T, Try.prog, lkF [(13, run13), (14, run14), (15, run15), (16, run16), (17, run17), (18, run18), (20, run20), (21, run21), (19, run19), (22, run22), (23, run23)], mkCuts 3 cuts3, altN, altN_ok⟩
theorem e3 (n : Nat) (a0 : Int) (a1 : List (Int)) (a2 : List (Int)) (a3 : Int) (a4 : Int) (a5 : Int) (a6 : Int) (a7 : Int) (a8 : Int) (a9 : Int) (a10 : Int) (a11 : Int) (a12 : Int) (a13 : Int) (a14 : Int) (a15 : Int) (a16 : Int) (a17 : Int) (a18 : Int) (a19 : Int) (a20 : Int) (a21 : Int) (a22 : Int) (a23 : Int) (a24 : Int) (a25 : Bool) (a26 : Bool) (a27 : Int) (a28 : Int) (a29 : List (Int)) (a30 : ByteArray) (a31 : Int) (a32 : Int) (a33 : Bool) (a34 : Int) (a35 : Int) (a36 : Bool) (a37 : Int) (a38 : Int) : entF X3 8 3 pa3 (endK sr3 toB3) n [.i a0, .l [.int .i64] a1, .l [.int .i64] a2, .i a3, .i a4, .i a5, .i a6, .i a7, .i a8, .i a9, .i a10, .i a11, .i a12, .i a13, .i a14, .i a15, .i a16, .i a17, .i a18, .i a19, .i a20, .i a21, .i a22, .i a23, .i a24, .b a25, .b a26, .i a27, .i a28, .l [.int .i64] a29, .s a30, .i a31, .i a32, .b a33, .i a34, .i a35, .b a36, .i a37, .i a38] = F3 n a0 a1 a2 a3 a4 a5 a6 a7 a8 a9 a10 a11 a12 a13 a14 a15 a16 a17 a18 a19 a20 a21 a22 a23 a24 a25 a26 a27 a28 a29 a30 a31 a32 a33 a34 a35 a36 a37 a38 := by kernel_rfl
theorem sp3 {n : Nat} (a0 : Int) (a1 : List (Int)) (a2 : List (Int)) (a3 : Int) (a4 : Int) (a5 : Int) (a6 : Int) (a7 : Int) (a8 : Int) (a9 : Int) (a10 : Int) (a11 : Int) (a12 : Int) (a13 : Int) (a14 : Int) (a15 : Int) (a16 : Int) (a17 : Int) (a18 : Int) (a19 : Int) (a20 : Int) (a21 : Int) (a22 : Int) (a23 : Int) (a24 : Int) (a25 : Bool) (a26 : Bool) (a27 : Int) (a28 : Int) (a29 : List (Int)) (a30 : ByteArray) (a31 : Int) (a32 : Int) (a33 : Bool) (a34 : Int) (a35 : Int) (a36 : Bool) (a37 : Int) (a38 : Int) {y : Bool} (h : F3 n a0 a1 a2 a3 a4 a5 a6 a7 a8 a9 a10 a11 a12 a13 a14 a15 a16 a17 a18 a19 a20 a21 a22 a23 a24 a25 a26 a27 a28 a29 a30 a31 a32 a33 a34 a35 a36 a37 a38 = some y) : SpecF T Try.prog 3 pa3 [.i a0, .l [.int .i64] a1, .l [.int .i64] a2, .i a3, .i a4, .i a5, .i a6, .i a7, .i a8, .i a9, .i a10, .i a11, .i a12, .i a13, .i a14, .i a15, .i a16, .i a17, .i a18, .i a19, .i a20, .i a21, .i a22, .i a23, .i a24, .b a25, .b a26, .i a27, .i a28, .l [.int .i64] a29, .s a30, .i a31, .i a32, .b a33, .i a34, .i a35, .b a36, .i a37, .i a38] sr3 (ofB3 y) :=
  fun_ok (X := X3) tok (sfok_of ⟨ok13, ok14, ok15, ok16, ok17, ok18, ok20, ok21, ok19, ok22, ok23, trivial⟩) mixed 3 8 cuts3 rfl toB3_ok trivial ((e3 n a0 a1 a2 a3 a4 a5 a6 a7 a8 a9 a10 a11 a12 a13 a14 a15 a16 a17 a18 a19 a20 a21 a22 a23 a24 a25 a26 a27 a28 a29 a30 a31 a32 a33 a34 a35 a36 a37 a38).trans h)
theorem ok3 {R : Type} : SFone T Try.prog 3 (run3 : SF R) := by
  intro ls K r h
  simp only [run3] at h
  obtain ⟨a0, ls1, rfl, h1⟩ := gI_ok h; obtain ⟨a1, ls2, rfl, h2⟩ := gL_ok h1; obtain ⟨a2, ls3, rfl, h3⟩ := gL_ok h2; obtain ⟨a3, ls4, rfl, h4⟩ := gI_ok h3; obtain ⟨a4, ls5, rfl, h5⟩ := gI_ok h4; obtain ⟨a5, ls6, rfl, h6⟩ := gI_ok h5; obtain ⟨a6, ls7, rfl, h7⟩ := gI_ok h6; obtain ⟨a7, ls8, rfl, h8⟩ := gI_ok h7; obtain ⟨a8, ls9, rfl, h9⟩ := gI_ok h8; obtain ⟨a9, ls10, rfl, h10⟩ := gI_ok h9; obtain ⟨a10, ls11, rfl, h11⟩ := gI_ok h10; obtain ⟨a11, ls12, rfl, h12⟩ := gI_ok h11; obtain ⟨a12, ls13, rfl, h13⟩ := gI_ok h12; obtain ⟨a13, ls14, rfl, h14⟩ := gI_ok h13; obtain ⟨a14, ls15, rfl, h15⟩ := gI_ok h14; obtain ⟨a15, ls16, rfl, h16⟩ := gI_ok h15; obtain ⟨a16, ls17, rfl, h17⟩ := gI_ok h16; obtain ⟨a17, ls18, rfl, h18⟩ := gI_ok h17; obtain ⟨a18, ls19, rfl, h19⟩ := gI_ok h18; obtain ⟨a19, ls20, rfl, h20⟩ := gI_ok h19; obtain ⟨a20, ls21, rfl, h21⟩ := gI_ok h20; obtain ⟨a21, ls22, rfl, h22⟩ := gI_ok h21; obtain ⟨a22, ls23, rfl, h23⟩ := gI_ok h22; obtain ⟨a23, ls24, rfl, h24⟩ := gI_ok h23; obtain ⟨a24, ls25, rfl, h25⟩ := gI_ok h24; obtain ⟨a25, ls26, rfl, h26⟩ := gB_ok h25; obtain ⟨a26, ls27, rfl, h27⟩ := gB_ok h26; obtain ⟨a27, ls28, rfl, h28⟩ := gI_ok h27; obtain ⟨a28, ls29, rfl, h29⟩ := gI_ok h28; obtain ⟨a29, ls30, rfl, h30⟩ := gL_ok h29; obtain ⟨a30, ls31, rfl, h31⟩ := gS_ok h30; obtain ⟨a31, ls32, rfl, h32⟩ := gI_ok h31; obtain ⟨a32, ls33, rfl, h33⟩ := gI_ok h32; obtain ⟨a33, ls34, rfl, h34⟩ := gB_ok h33; obtain ⟨a34, ls35, rfl, h35⟩ := gI_ok h34; obtain ⟨a35, ls36, rfl, h36⟩ := gI_ok h35; obtain ⟨a36, ls37, rfl, h37⟩ := gB_ok h36; obtain ⟨a37, ls38, rfl, h38⟩ := gI_ok h37; obtain ⟨a38, ls39, rfl, h39⟩ := gI_ok h38; obtain ⟨rfl, h40⟩ := gE_ok h39
  obtain ⟨y, k1, k2⟩ := Option.bind_eq_some_iff.1 h40
  exact ⟨_, k2, sp3 a0 a1 a2 a3 a4 a5 a6 a7 a8 a9 a10 a11 a12 a13 a14 a15 a16 a17 a18 a19 a20 a21 a22 a23 a24 a25 a26 a27 a28 a29 a30 a31 a32 a33 a34 a35 a36 a37 a38 k1⟩

/-! ### garland/garlandlaw16.HopCloser -/
def pa4 : List VP := [.agg [.i .i64, .sl false [.int .i64], .sl false [.int .i64], .i .i64, .i .i64, .i .i64, .i .i64, .i .i64, .i .i64, .i .i64, .i .i64, .i .i64, .i .i64, .i .i64, .i .i64, .i .i64, .i .i64, .i .i64, .i .i64, .i .i64], .i .i64, .b]
def sr4 : RShape := ⟨.b, [], none⟩
def toB4 : List Leaf → Option (Bool) := gB (fun b0 => gE (some b0))
def ofB4 (y : Bool) : List Leaf := [.b y]
theorem toB4_ok : ∀ ls b, toB4 ls = some b → ls = ofB4 b := by
  intro ls b h
  unfold toB4 at h
  obtain ⟨b0, ls1, rfl, h1⟩ := gB_ok h; obtain ⟨rfl, h2⟩ := gE_ok h1
  cases h2; rfl
def run4 {R : Type} : SF R := ⟨pa4, sr4, fun ls K => (gI (fun a0 => gL [.int .i64] (fun a1 => gL [.int .i64] (fun a2 => gI (fun a3 => gI (fun a4 => gI (fun a5 => gI (fun a6 => gI (fun a7 => gI (fun a8 => gI (fun a9 => gI (fun a10 => gI (fun a11 => gI (fun a12 => gI (fun a13 => gI (fun a14 => gI (fun a15 => gI (fun a16 => gI (fun a17 => gI (fun a18 => gI (fun a19 => gI (fun a20 => gB (fun a21 => gE (Option.bind (F4 FUEL a0 a1 a2 a3 a4 a5 a6 a7 a8 a9 a10 a11 a12 a13 a14 a15 a16 a17 a18 a19 a20 a21) fun y => K (ofB4 y))))))))))))))))))))))))) ls⟩
def cuts4 : List (List Nat × Cut (Bool)) := []
noncomputable def X4 : Px (Bool) := ⟨T, Try.prog, lkF [(24, run24), (14, run14), (15, run15), (25, run25), (26, run26), (17, run17), (22, run22)], mkCuts 4 cuts4, altN, altN_ok⟩
theorem e4 (n : Nat) (a0 : Int) (a1 : List (Int)) (a2 : List (Int)) (a3 : Int) (a4 : Int) (a5 : Int) (a6 : Int) (a7 : Int) (a8 : Int) (a9 : Int) (a10 : Int) (a11 : Int) (a12 : Int) (a13 : Int) (a14 : Int) (a15 : Int) (a16 : Int) (a17 : Int) (a18 : Int) (a19 : Int) (a20 : Int) (a21 : Bool) : entF X4 8 4 pa4 (endK sr4 toB4) n [.i a0, .l [.int .i64] a1, .l [.int .i64] a2, .i a3, .i a4, .i a5, .i a6, .i a7, .i a8, .i a9, .i a10, .i a11, .i a12, .i a13, .i a14, .i a15, .i a16, .i a17, .i a18, .i a19, .i a20, .b a21] = F4 n a0 a1 a2 a3 a4 a5 a6 a7 a8 a9 a10 a11 a12 a13 a14 a15 a16 a17 a18 a19 a20 a21 := by kernel_rfl
theorem sp4 {n : Nat} (a0 : Int) (a1 : List (Int)) (a2 : List (Int)) (a3 : Int) (a4 : Int) (a5 : Int) (a6 : Int) (a7 : Int) (a8 : Int) (a9 : Int) (a10 : Int) (a11 : Int) (a12 : Int) (a13 : Int) (a14 : Int) (a15 : Int) (a16 : Int) (a17 : Int) (a18 : Int) (a19 : Int) (a20 : Int) (a21 : Bool) {y : Bool} (h : F4 n a0 a1 a2 a3 a4 a5 a6 a7 a8 a9 a10 a11 a12 a13 a14 a15 a16 a17 a18 a19 a20 a21 = some y) : SpecF T Try.prog 4 pa4 [.i a0, .l [.int .i64] a1, .l [.int .i64] a2, .i a3, .i a4, .i a5, .i a6, .i a7, .i a8, .i a9, .i a10, .i a11, .i a12, .i a13, .i a14, .i a15, .i a16, .i a17, .i a18, .i a19, .i a20, .b a21] sr4 (ofB4 y) :=
  fun_ok (X := X4) tok (sfok_of ⟨ok24, ok14, ok15, ok25, ok26, ok17, ok22, trivial⟩) mixed 4 8 cuts4 rfl toB4_ok trivial ((e4 n a0 a1 a2 a3 a4 a5 a6 a7 a8 a9 a10 a11 a12 a13 a14 a15 a16 a17 a18 a19 a20 a21).trans h)
theorem ok4 {R : Type} : SFone T Try.prog 4 (run4 : SF R) := by
  intro ls K r h
  simp only [run4] at h
  obtain ⟨a0, ls1, rfl, h1⟩ := gI_ok h; obtain ⟨a1, ls2, rfl, h2⟩ := gL_ok h1; obtain ⟨a2, ls3, rfl, h3⟩ := gL_ok h2; obtain ⟨a3, ls4, rfl, h4⟩ := gI_ok h3; obtain ⟨a4, ls5, rfl, h5⟩ := gI_ok h4; obtain ⟨a5, ls6, rfl, h6⟩ := gI_ok h5; obtain ⟨a6, ls7, rfl, h7⟩ := gI_ok h6; obtain ⟨a7, ls8, rfl, h8⟩ := gI_ok h7; obtain ⟨a8, ls9, rfl, h9⟩ := gI_ok h8; obtain ⟨a9, ls10, rfl, h10⟩ := gI_ok h9; obtain ⟨a10, ls11, rfl, h11⟩ := gI_ok h10; obtain ⟨a11, ls12, rfl, h12⟩ := gI_ok h11; obtain ⟨a12, ls13, rfl, h13⟩ := gI_ok h12; obtain ⟨a13, ls14, rfl, h14⟩ := gI_ok h13; obtain ⟨a14, ls15, rfl, h15⟩ := gI_ok h14; obtain ⟨a15, ls16, rfl, h16⟩ := gI_ok h15; obtain ⟨a16, ls17, rfl, h17⟩ := gI_ok h16; obtain ⟨a17, ls18, rfl, h18⟩ := gI_ok h17; obtain ⟨a18, ls19, rfl, h19⟩ := gI_ok h18; obtain ⟨a19, ls20, rfl, h20⟩ := gI_ok h19; obtain ⟨a20, ls21, rfl, h21⟩ := gI_ok h20; obtain ⟨a21, ls22, rfl, h22⟩ := gB_ok h21; obtain ⟨rfl, h23⟩ := gE_ok h22
  obtain ⟨y, k1, k2⟩ := Option.bind_eq_some_iff.1 h23
  exact ⟨_, k2, sp4 a0 a1 a2 a3 a4 a5 a6 a7 a8 a9 a10 a11 a12 a13 a14 a15 a16 a17 a18 a19 a20 a21 k1⟩

/-! ### garland/garlandlaw16.HopEnds -/
def pa5 : List VP := [.sl false [.int .i64, .sl [.int .i64], .sl [.int .i64], .int .i64, .int .i64, .int .i64, .int .i64, .int .i64, .int .i64, .int .i64, .int .i64, .int .i64, .int .i64, .int .i64, .int .i64, .int .i64, .int .i64, .int .i64, .int .i64, .int .i64], .i .i64, .i .i64, .b]
def sr5 : RShape := ⟨.b, [], none⟩
def toB5 : List Leaf → Option (Bool) := gB (fun b0 => gE (some b0))
def ofB5 (y : Bool) : List Leaf := [.b y]
theorem toB5_ok : ∀ ls b, toB5 ls = some b → ls = ofB5 b := by
  intro ls b h
  unfold toB5 at h
  obtain ⟨b0, ls1, rfl, h1⟩ := gB_ok h; obtain ⟨rfl, h2⟩ := gE_ok h1
  cases h2; rfl
def run5 {R : Type} : SF R := ⟨pa5, sr5, fun ls K => (gL [.int .i64, .sl [.int .i64], .sl [.int .i64], .int .i64, .int .i64, .int .i64, .int .i64, .int .i64, .int .i64, .int .i64, .int .i64, .int .i64, .int .i64, .int .i64, .int .i64, .int .i64, .int .i64, .int .i64, .int .i64, .int .i64] (fun a0 => gI (fun a1 => gI (fun a2 => gB (fun a3 => gE (Option.bind (F5 FUEL a0 a1 a2 a3) fun y => K (ofB5 y))))))) ls⟩
def sh5_0 : Shape := ⟨[(110, [(0, .sl false [.int .i64, .sl [.int .i64], .sl [.int .i64], .int .i64, .int .i64, .int .i64, .int .i64, .int .i64, .int .i64, .int .i64, .int .i64, .int .i64, .int .i64, .int .i64, .int .i64, .int .i64, .int .i64, .int .i64, .int .i64, .int .i64]), (1, .i .i64), (2, .i .i64), (3, .b), (9, .i .i64)])], []⟩
def g5_0 (n : Nat) : List Leaf → Option (Bool) := gL [.int .i64, .sl [.int .i64], .sl [.int .i64], .int .i64, .int .i64, .int .i64, .int .i64, .int .i64, .int .i64, .int .i64, .int .i64, .int .i64, .int .i64, .int .i64, .int .i64, .int .i64, .int .i64, .int .i64, .int .i64, .int .i64] (fun x0 => gI (fun x1 => gI (fun x2 => gB (fun x3 => gI (fun x4 => gE (F5_c0 n x0 x1 x2 x3 x4))))))
def sh5_1 : Shape := ⟨[(110, [(0, .sl false [.int .i64, .sl [.int .i64], .sl [.int .i64], .int .i64, .int .i64, .int .i64, .int .i64, .int .i64, .int .i64, .int .i64, .int .i64, .int .i64, .int .i64, .int .i64, .int .i64, .int .i64, .int .i64, .int .i64, .int .i64, .int .i64]), (1, .i .i64), (2, .i .i64), (3, .b), (9, .i .i64), (10, .i .i64)])], []⟩
def g5_1 (n : Nat) : List Leaf → Option (Bool) := gL [.int .i64, .sl [.int .i64], .sl [.int .i64], .int .i64, .int .i64, .int .i64, .int .i64, .int .i64, .int .i64, .int .i64, .int .i64, .int .i64, .int .i64, .int .i64, .int .i64, .int .i64, .int .i64, .int .i64, .int .i64, .int .i64] (fun x0 => gI (fun x1 => gI (fun x2 => gB (fun x3 => gI (fun x4 => gI (fun x5 => gE (F5_c1 n x0 x1 x2 x3 x4 x5)))))))
def sh5_2 : Shape := ⟨[(110, [(0, .sl false [.int .i64, .sl [.int .i64], .sl [.int .i64], .int .i64, .int .i64, .int .i64, .int .i64, .int .i64, .int .i64, .int .i64, .int .i64, .int .i64, .int .i64, .int .i64, .int .i64, .int .i64, .int .i64, .int .i64, .int .i64, .int .i64]), (1, .i .i64), (2, .i .i64), (3, .b), (11, .i .i64)])], []⟩
def g5_2 (n : Nat) : List Leaf → Option (Bool) := gL [.int .i64, .sl [.int .i64], .sl [.int .i64], .int .i64, .int .i64, .int .i64, .int .i64, .int .i64, .int .i64, .int .i64, .int .i64, .int .i64, .int .i64, .int .i64, .int .i64, .int .i64, .int .i64, .int .i64, .int .i64, .int .i64] (fun x0 => gI (fun x1 => gI (fun x2 => gB (fun x3 => gI (fun x4 => gE (F5_c2 n x0 x1 x2 x3 x4))))))
def sh5_3 : Shape := ⟨[(110, [(0, .sl false [.int .i64, .sl [.int .i64], .sl [.int .i64], .int .i64, .int .i64, .int .i64, .int .i64, .int .i64, .int .i64, .int .i64, .int .i64, .int .i64, .int .i64, .int .i64, .int .i64, .int .i64, .int .i64, .int .i64, .int .i64, .int .i64]), (1, .i .i64), (3, .b), (11, .i .i64), (12, .i .i64), (14, .i .i64), (15, .i .i64)])], []⟩
def g5_3 (n : Nat) : List Leaf → Option (Bool) := gL [.int .i64, .sl [.int .i64], .sl [.int .i64], .int .i64, .int .i64, .int .i64, .int .i64, .int .i64, .int .i64, .int .i64, .int .i64, .int .i64, .int .i64, .int .i64, .int .i64, .int .i64, .int .i64, .int .i64, .int .i64, .int .i64] (fun x0 => gI (fun x1 => gB (fun x2 => gI (fun x3 => gI (fun x4 => gI (fun x5 => gI (fun x6 => gE (F5_c3 n x0 x1 x2 x3 x4 x5 x6))))))))
def cuts5 : List (List Nat × Cut (Bool)) := [([1, 1, 0, 1, 0], ⟨sh5_0, g5_0⟩), ([1, 1, 0, 1, 0, 0, 1, 0, 0, 1, 1, 0], ⟨sh5_1, g5_1⟩), ([1, 1, 1, 1, 0, 1, 0], ⟨sh5_2, g5_2⟩), ([1, 1, 1, 1, 0, 1, 0, 0, 1, 0, 0, 1, 1, 1, 1, 0, 1, 0], ⟨sh5_3, g5_3⟩)]
noncomputable def X5 : Px (Bool) := ⟨T, Try.prog, lkF [(14, run14), (24, run24), (15, run15), (22, run22)], mkCuts 5 cuts5, altN, altN_ok⟩
theorem e5_0 (n : Nat) (x0 : List (Int × (List (Int)) × (List (Int)) × Int × Int × Int × Int × Int × Int × Int × Int × Int × Int × Int × Int × Int × Int × Int × Int × Int)) (x1 : Int) (x2 : Int) (x3 : Bool) (x4 : Int) : stepF X5 8 5 (endK sr5 toB5) [1, 1, 0, 1, 0] sh5_0 n [.l [.int .i64, .sl [.int .i64], .sl [.int .i64], .int .i64, .int .i64, .int .i64, .int .i64, .int .i64, .int .i64, .int .i64, .int .i64, .int .i64, .int .i64, .int .i64, .int .i64, .int .i64, .int .i64, .int .i64, .int .i64, .int .i64] x0, .i x1, .i x2, .b x3, .i x4] = F5_c0 (n + 1) x0 x1 x2 x3 x4 := by kernel_rfl
theorem e5_1 (n : Nat) (x0 : List (Int × (List (Int)) × (List (Int)) × Int × Int × Int × Int × Int × Int × Int × Int × Int × Int × Int × Int × Int × Int × Int × Int × Int)) (x1 : Int) (x2 : Int) (x3 : Bool) (x4 : Int) (x5 : Int) : stepF X5 8 5 (endK sr5 toB5) [1, 1, 0, 1, 0, 0, 1, 0, 0, 1, 1, 0] sh5_1 n [.l [.int .i64, .sl [.int .i64], .sl [.int .i64], .int .i64, .int .i64, .int .i64, .int .i64, .int .i64, .int .i64, .int .i64, .int .i64, .int .i64, .int .i64, .int .i64, .int .i64, .int .i64, .int .i64, .int .i64, .int .i64, .int .i64] x0, .i x1, .i x2, .b x3, .i x4, .i x5] = F5_c1 (n + 1) x0 x1 x2 x3 x4 x5 := by kernel_rfl
theorem e5_2 (n : Nat) (x0 : List (Int × (List (Int)) × (List (Int)) × Int × Int × Int × Int × Int × Int × Int × Int × Int × Int × Int × Int × Int × Int × Int × Int × Int)) (x1 : Int) (x2 : Int) (x3 : Bool) (x4 : Int) : stepF X5 8 5 (endK sr5 toB5) [1, 1, 1, 1, 0, 1, 0] sh5_2 n [.l [.int .i64, .sl [.int .i64], .sl [.int .i64], .int .i64, .int .i64, .int .i64, .int .i64, .int .i64, .int .i64, .int .i64, .int .i64, .int .i64, .int .i64, .int .i64, .int .i64, .int .i64, .int .i64, .int .i64, .int .i64, .int .i64] x0, .i x1, .i x2, .b x3, .i x4] = F5_c2 (n + 1) x0 x1 x2 x3 x4 := by kernel_rfl
theorem e5_3 (n : Nat) (x0 : List (Int × (List (Int)) × (List (Int)) × Int × Int × Int × Int × Int × Int × Int × Int × Int × Int × Int × Int × Int × Int × Int × Int × Int)) (x1 : Int) (x2 : Bool) (x3 : Int) (x4 : Int) (x5 : Int) (x6 : Int) : stepF X5 8 5 (endK sr5 toB5) [1, 1, 1, 1, 0, 1, 0, 0, 1, 0, 0, 1, 1, 1, 1, 0, 1, 0] sh5_3 n [.l [.int .i64, .sl [.int .i64], .sl [.int .i64], .int .i64, .int .i64, .int .i64, .int .i64, .int .i64, .int .i64, .int .i64, .int .i64, .int .i64, .int .i64, .int .i64, .int .i64, .int .i64, .int .i64, .int .i64, .int .i64, .int .i64] x0, .i x1, .b x2, .i x3, .i x4, .i x5, .i x6] = F5_c3 (n + 1) x0 x1 x2 x3 x4 x5 x6 := by kernel_rfl
theorem e5 (n : Nat) (a0 : List (Int × (List (Int)) × (List (Int)) × Int × Int × Int × Int × Int × Int × Int × Int × Int × Int × Int × Int × Int × Int × Int × Int × Int)) (a1 : Int) (a2 : Int) (a3 : Bool) : entF X5 8 5 pa5 (endK sr5 toB5) n [.l [.int .i64, .sl [.int .i64], .sl [.int .i64], .int .i64, .int .i64, .int .i64, .int .i64, .int .i64, .int .i64, .int .i64, .int .i64, .int .i64, .int .i64, .int .i64, .int .i64, .int .i64, .int .i64, .int .i64, .int .i64, .int .i64] a0, .i a1, .i a2, .b a3] = F5 n a0 a1 a2 a3 := by kernel_rfl
theorem c5_0 : CutOK X5 8 5 (endK sr5 toB5) [1, 1, 0, 1, 0] ⟨sh5_0, g5_0⟩ := by
  refine ⟨fun ls => ?_, fun n ls r h => ?_⟩
  · cases h : g5_0 0 ls with
    | none => exact h
    | some r =>
      unfold g5_0 at h; obtain ⟨x0, ls1, rfl, h1⟩ := gL_ok h; obtain ⟨x1, ls2, rfl, h2⟩ := gI_ok h1; obtain ⟨x2, ls3, rfl, h3⟩ := gI_ok h2; obtain ⟨x3, ls4, rfl, h4⟩ := gB_ok h3; obtain ⟨x4, ls5, rfl, h5⟩ := gI_ok h4; obtain ⟨rfl, h6⟩ := gE_ok h5; simp only [F5_c0] at h6; cases h6
  · replace h : g5_0 (n + 1) ls = some r := h
    unfold g5_0 at h
    obtain ⟨x0, ls1, rfl, h1⟩ := gL_ok h; obtain ⟨x1, ls2, rfl, h2⟩ := gI_ok h1; obtain ⟨x2, ls3, rfl, h3⟩ := gI_ok h2; obtain ⟨x3, ls4, rfl, h4⟩ := gB_ok h3; obtain ⟨x4, ls5, rfl, h5⟩ := gI_ok h4; obtain ⟨rfl, h6⟩ := gE_ok h5
    exact (e5_0 n x0 x1 x2 x3 x4).trans h6
theorem c5_1 : CutOK X5 8 5 (endK sr5 toB5) [1, 1, 0, 1, 0, 0, 1, 0, 0, 1, 1, 0] ⟨sh5_1, g5_1⟩ := by
  refine ⟨fun ls => ?_, fun n ls r h => ?_⟩
  · cases h : g5_1 0 ls with
    | none => exact h
    | some r =>
      unfold g5_1 at h; obtain ⟨x0, ls1, rfl, h1⟩ := gL_ok h; obtain ⟨x1, ls2, rfl, h2⟩ := gI_ok h1; obtain ⟨x2, ls3, rfl, h3⟩ := gI_ok h2; obtain ⟨x3, ls4, rfl, h4⟩ := gB_ok h3; obtain ⟨x4, ls5, rfl, h5⟩ := gI_ok h4; obtain ⟨x5, ls6, rfl, h6⟩ := gI_ok h5; obtain ⟨rfl, h7⟩ := gE_ok h6; simp only [F5_c1] at h7; cases h7
  · replace h : g5_1 (n + 1) ls = some r := h
    unfold g5_1 at h
    obtain ⟨x0, ls1, rfl, h1⟩ := gL_ok h; obtain ⟨x1, ls2, rfl, h2⟩ := gI_ok h1; obtain ⟨x2, ls3, rfl, h3⟩ := gI_ok h2; obtain ⟨x3, ls4, rfl, h4⟩ := gB_ok h3; obtain ⟨x4, ls5, rfl, h5⟩ := gI_ok h4; obtain ⟨x5, ls6, rfl, h6⟩ := gI_ok h5; obtain ⟨rfl, h7⟩ := gE_ok h6
    exact (e5_1 n x0 x1 x2 x3 x4 x5).trans h7
theorem c5_2 : CutOK X5 8 5 (endK sr5 toB5) [1, 1, 1, 1, 0, 1, 0] ⟨sh5_2, g5_2⟩ := by
  refine ⟨fun ls => ?_, fun n ls r h => ?_⟩
  · cases h : g5_2 0 ls with
    | none => exact h
    | some r =>
      unfold g5_2 at h; obtain ⟨x0, ls1, rfl, h1⟩ := gL_ok h; obtain ⟨x1, ls2, rfl, h2⟩ := gI_ok h1; obtain ⟨x2, ls3, rfl, h3⟩ := gI_ok h2; obtain ⟨x3, ls4, rfl, h4⟩ := gB_ok h3; obtain ⟨x4, ls5, rfl, h5⟩ := gI_ok h4; obtain ⟨rfl, h6⟩ := gE_ok h5; simp only [F5_c2] at h6; cases h6
  · replace h : g5_2 (n + 1) ls = some r := h
    unfold g5_2 at h
    obtain ⟨x0, ls1, rfl, h1⟩ := gL_ok h; obtain ⟨x1, ls2, rfl, h2⟩ := gI_ok h1; obtain ⟨x2, ls3, rfl, h3⟩ := gI_ok h2; obtain ⟨x3, ls4, rfl, h4⟩ := gB_ok h3; obtain ⟨x4, ls5, rfl, h5⟩ := gI_ok h4; obtain ⟨rfl, h6⟩ := gE_ok h5
    exact (e5_2 n x0 x1 x2 x3 x4).trans h6
theorem c5_3 : CutOK X5 8 5 (endK sr5 toB5) [1, 1, 1, 1, 0, 1, 0, 0, 1, 0, 0, 1, 1, 1, 1, 0, 1, 0] ⟨sh5_3, g5_3⟩ := by
  refine ⟨fun ls => ?_, fun n ls r h => ?_⟩
  · cases h : g5_3 0 ls with
    | none => exact h
    | some r =>
      unfold g5_3 at h; obtain ⟨x0, ls1, rfl, h1⟩ := gL_ok h; obtain ⟨x1, ls2, rfl, h2⟩ := gI_ok h1; obtain ⟨x2, ls3, rfl, h3⟩ := gB_ok h2; obtain ⟨x3, ls4, rfl, h4⟩ := gI_ok h3; obtain ⟨x4, ls5, rfl, h5⟩ := gI_ok h4; obtain ⟨x5, ls6, rfl, h6⟩ := gI_ok h5; obtain ⟨x6, ls7, rfl, h7⟩ := gI_ok h6; obtain ⟨rfl, h8⟩ := gE_ok h7; simp only [F5_c3] at h8; cases h8
  · replace h : g5_3 (n + 1) ls = some r := h
    unfold g5_3 at h
    obtain ⟨x0, ls1, rfl, h1⟩ := gL_ok h; obtain ⟨x1, ls2, rfl, h2⟩ := gI_ok h1; obtain ⟨x2, ls3, rfl, h3⟩ := gB_ok h2; obtain ⟨x3, ls4, rfl, h4⟩ := gI_ok h3; obtain ⟨x4, ls5, rfl, h5⟩ := gI_ok h4; obtain ⟨x5, ls6, rfl, h6⟩ := gI_ok h5; obtain ⟨x6, ls7, rfl, h7⟩ := gI_ok h6; obtain ⟨rfl, h8⟩ := gE_ok h7
    exact (e5_3 n x0 x1 x2 x3 x4 x5 x6).trans h8
theorem sp5 {n : Nat} (a0 : List (Int × (List (Int)) × (List (Int)) × Int × Int × Int × Int × Int × Int × Int × Int × Int × Int × Int × Int × Int × Int × Int × Int × Int)) (a1 : Int) (a2 : Int) (a3 : Bool) {y : Bool} (h : F5 n a0 a1 a2 a3 = some y) : SpecF T Try.prog 5 pa5 [.l [.int .i64, .sl [.int .i64], .sl [.int .i64], .int .i64, .int .i64, .int .i64, .int .i64, .int .i64, .int .i64, .int .i64, .int .i64, .int .i64, .int .i64, .int .i64, .int .i64, .int .i64, .int .i64, .int .i64, .int .i64, .int .i64] a0, .i a1, .i a2, .b a3] sr5 (ofB5 y) :=
  fun_ok (X := X5) tok (sfok_of ⟨ok14, ok24, ok15, ok22, trivial⟩) mixed 5 8 cuts5 rfl toB5_ok ⟨c5_0, c5_1, c5_2, c5_3, trivial⟩ ((e5 n a0 a1 a2 a3).trans h)
theorem ok5 {R : Type} : SFone T Try.prog 5 (run5 : SF R) := by
  intro ls K r h
  simp only [run5] at h
  obtain ⟨a0, ls1, rfl, h1⟩ := gL_ok h; obtain ⟨a1, ls2, rfl, h2⟩ := gI_ok h1; obtain ⟨a2, ls3, rfl, h3⟩ := gI_ok h2; obtain ⟨a3, ls4, rfl, h4⟩ := gB_ok h3; obtain ⟨rfl, h5⟩ := gE_ok h4
  obtain ⟨y, k1, k2⟩ := Option.bind_eq_some_iff.1 h5
  exact ⟨_, k2, sp5 a0 a1 a2 a3 k1⟩

/-! ### garland/garlandlaw16.HopKnows -/
def pa6 : List VP := [.agg [.i .i64, .sl false [.int .i64], .sl false [.int .i64], .i .i64, .i .i64, .i .i64, .i .i64, .i .i64, .i .i64, .i .i64, .i .i64, .i .i64, .i .i64, .i .i64, .i .i64, .i .i64, .i .i64, .i .i64, .i .i64, .i .i64], .i .i64]
def sr6 : RShape := ⟨.b, [], none⟩
def toB6 : List Leaf → Option (Bool) := gB (fun b0 => gE (some b0))
def ofB6 (y : Bool) : List Leaf := [.b y]
theorem toB6_ok : ∀ ls b, toB6 ls = some b → ls = ofB6 b := by
  intro ls b h
  unfold toB6 at h
  obtain ⟨b0, ls1, rfl, h1⟩ := gB_ok h; obtain ⟨rfl, h2⟩ := gE_ok h1
  cases h2; rfl
def run6 {R : Type} : SF R := ⟨pa6, sr6, fun ls K => (gI (fun a0 => gL [.int .i64] (fun a1 => gL [.int .i64] (fun a2 => gI (fun a3 => gI (fun a4 => gI (fun a5 => gI (fun a6 => gI (fun a7 => gI (fun a8 => gI (fun a9 => gI (fun a10 => gI (fun a11 => gI (fun a12 => gI (fun a13 => gI (fun a14 => gI (fun a15 => gI (fun a16 => gI (fun a17 => gI (fun a18 => gI (fun a19 => gI (fun a20 => gE (Option.bind (F6 FUEL a0 a1 a2 a3 a4 a5 a6 a7 a8 a9 a10 a11 a12 a13 a14 a15 a16 a17 a18 a19 a20) fun y => K (ofB6 y)))))))))))))))))))))))) ls⟩
def sh6_0 : Shape := ⟨[(93, [(1, .i .i64), (2, .ref 0 0), (5, .i .i64), (6, .b), (9, .row 1), (10, .i .i64)])], [.cells [.i .i64, .sl false [.int .i64], .sl false [.int .i64], .i .i64, .i .i64, .i .i64, .i .i64, .i .i64, .i .i64, .i .i64, .i .i64, .i .i64, .i .i64, .i .i64, .i .i64, .i .i64, .i .i64, .i .i64, .i .i64, .i .i64], .row true [.int .i64]]⟩
def g6_0 (n : Nat) : List Leaf → Option (Bool) := gI (fun x0 => gI (fun x1 => gB (fun x2 => gI (fun x3 => gI (fun x4 => gL [.int .i64] (fun x5 => gL [.int .i64] (fun x6 => gI (fun x7 => gI (fun x8 => gI (fun x9 => gI (fun x10 => gI (fun x11 => gI (fun x12 => gI (fun x13 => gI (fun x14 => gI (fun x15 => gI (fun x16 => gI (fun x17 => gI (fun x18 => gI (fun x19 => gI (fun x20 => gI (fun x21 => gI (fun x22 => gI (fun x23 => gL [.int .i64] (fun x24 => gE (F6_c0 n x0 x1 x2 x3 x4 x5 x6 x7 x8 x9 x10 x11 x12 x13 x14 x15 x16 x17 x18 x19 x20 x21 x22 x23 x24))))))))))))))))))))))))))
def cuts6 : List (List Nat × Cut (Bool)) := [([1, 1, 1, 1, 1, 1, 0, 1, 0], ⟨sh6_0, g6_0⟩)]
noncomputable def X6 : Px (Bool) := ⟨T, Try.prog, lkF [(24, run24), (14, run14), (15, run15), (25, run25), (22, run22), (27, run27)], mkCuts 6 cuts6, altN, altN_ok⟩
theorem e6_0 (n : Nat) (x0 : Int) (x1 : Int) (x2 : Bool) (x3 : Int) (x4 : Int) (x5 : List (Int)) (x6 : List (Int)) (x7 : Int) (x8 : Int) (x9 : Int) (x10 : Int) (x11 : Int) (x12 : Int) (x13 : Int) (x14 : Int) (x15 : Int) (x16 : Int) (x17 : Int) (x18 : Int) (x19 : Int) (x20 : Int) (x21 : Int) (x22 : Int) (x23 : Int) (x24 : List (Int)) : stepF X6 8 6 (endK sr6 toB6) [1, 1, 1, 1, 1, 1, 0, 1, 0] sh6_0 n [.i x0, .i x1, .b x2, .i x3, .i x4, .l [.int .i64] x5, .l [.int .i64] x6, .i x7, .i x8, .i x9, .i x10, .i x11, .i x12, .i x13, .i x14, .i x15, .i x16, .i x17, .i x18, .i x19, .i x20, .i x21, .i x22, .i x23, .l [.int .i64] x24] = F6_c0 (n + 1) x0 x1 x2 x3 x4 x5 x6 x7 x8 x9 x10 x11 x12 x13 x14 x15 x16 x17 x18 x19 x20 x21 x22 x23 x24 := by kernel_rfl
theorem e6 (n : Nat) (a0 : Int) (a1 : List (Int)) (a2 : List (Int)) (a3 : Int) (a4 : Int) (a5 : Int) (a6 : Int) (a7 : Int) (a8 : Int) (a9 : Int) (a10 : Int) (a11 : Int) (a12 : Int) (a13 : Int) (a14 : Int) (a15 : Int) (a16 : Int) (a17 : Int) (a18 : Int) (a19 : Int) (a20 : Int) : entF X6 8 6 pa6 (endK sr6 toB6) n [.i a0, .l [.int .i64] a1, .l [.int .i64] a2, .i a3, .i a4, .i a5, .i a6, .i a7, .i a8, .i a9, .i a10, .i a11, .i a12, .i a13, .i a14, .i a15, .i a16, .i a17, .i a18, .i a19, .i a20] = F6 n a0 a1 a2 a3 a4 a5 a6 a7 a8 a9 a10 a11 a12 a13 a14 a15 a16 a17 a18 a19 a20 := by kernel_rfl
theorem c6_0 : CutOK X6 8 6 (endK sr6 toB6) [1, 1, 1, 1, 1, 1, 0, 1, 0] ⟨sh6_0, g6_0⟩ := by
  refine ⟨fun ls => ?_, fun n ls r h => ?_⟩
  · cases h : g6_0 0 ls with
    | none => exact h
    | some r =>
      unfold g6_0 at h; obtain ⟨x0, ls1, rfl, h1⟩ := gI_ok h; obtain ⟨x1, ls2, rfl, h2⟩ := gI_ok h1; obtain ⟨x2, ls3, rfl, h3⟩ := gB_ok h2; obtain ⟨x3, ls4, rfl, h4⟩ := gI_ok h3; obtain ⟨x4, ls5, rfl, h5⟩ := gI_ok h4; obtain ⟨x5, ls6, rfl, h6⟩ := gL_ok h5; obtain ⟨x6, ls7, rfl, h7⟩ := gL_ok h6; obtain ⟨x7, ls8, rfl, h8⟩ := gI_ok h7; obtain ⟨x8, ls9, rfl, h9⟩ := gI_ok h8; obtain ⟨x9, ls10, rfl, h10⟩ := gI_ok h9; obtain ⟨x10, ls11, rfl, h11⟩ := gI_ok h10; obtain ⟨x11, ls12, rfl, h12⟩ := gI_ok h11; obtain ⟨x12, ls13, rfl, h13⟩ := gI_ok h12; obtain ⟨x13, ls14, rfl, h14⟩ := gI_ok h13; obtain ⟨x14, ls15, rfl, h15⟩ := gI_ok h14; obtain ⟨x15, ls16, rfl, h16⟩ := gI_ok h15; obtain ⟨x16, ls17, rfl, h17⟩ := gI_ok h16; obtain ⟨x17, ls18, rfl, h18⟩ := gI_ok h17; obtain ⟨x18, ls19, rfl, h19⟩ := gI_ok h18; obtain ⟨x19, ls20, rfl, h20⟩ := gI_ok h19; obtain ⟨x20, ls21, rfl, h21⟩ := gI_ok h20; obtain ⟨x21, ls22, rfl, h22⟩ := gI_ok h21; obtain ⟨x22, ls23, rfl, h23⟩ := gI_ok h22; obtain ⟨x23, ls24, rfl, h24⟩ := gI_ok h23; obtain ⟨x24, ls25, rfl, h25⟩ := gL_ok h24; obtain ⟨rfl, h26⟩ := gE_ok h25; simp only [F6_c0] at h26; cases h26
  · replace h : g6_0 (n + 1) ls = some r := h
    unfold g6_0 at h
    obtain ⟨x0, ls1, rfl, h1⟩ := gI_ok h; obtain ⟨x1, ls2, rfl, h2⟩ := gI_ok h1; obtain ⟨x2, ls3, rfl, h3⟩ := gB_ok h2; obtain ⟨x3, ls4, rfl, h4⟩ := gI_ok h3; obtain ⟨x4, ls5, rfl, h5⟩ := gI_ok h4; obtain ⟨x5, ls6, rfl, h6⟩ := gL_ok h5; obtain ⟨x6, ls7, rfl, h7⟩ := gL_ok h6; obtain ⟨x7, ls8, rfl, h8⟩ := gI_ok h7; obtain ⟨x8, ls9, rfl, h9⟩ := gI_ok h8; obtain ⟨x9, ls10, rfl, h10⟩ := gI_ok h9; obtain ⟨x10, ls11, rfl, h11⟩ := gI_ok h10; obtain ⟨x11, ls12, rfl, h12⟩ := gI_ok h11; obtain ⟨x12, ls13, rfl, h13⟩ := gI_ok h12; obtain ⟨x13, ls14, rfl, h14⟩ := gI_ok h13; obtain ⟨x14, ls15, rfl, h15⟩ := gI_ok h14; obtain ⟨x15, ls16, rfl, h16⟩ := gI_ok h15; obtain ⟨x16, ls17, rfl, h17⟩ := gI_ok h16; obtain ⟨x17, ls18, rfl, h18⟩ := gI_ok h17; obtain ⟨x18, ls19, rfl, h19⟩ := gI_ok h18; obtain ⟨x19, ls20, rfl, h20⟩ := gI_ok h19; obtain ⟨x20, ls21, rfl, h21⟩ := gI_ok h20; obtain ⟨x21, ls22, rfl, h22⟩ := gI_ok h21; obtain ⟨x22, ls23, rfl, h23⟩ := gI_ok h22; obtain ⟨x23, ls24, rfl, h24⟩ := gI_ok h23; obtain ⟨x24, ls25, rfl, h25⟩ := gL_ok h24; obtain ⟨rfl, h26⟩ := gE_ok h25
    exact (e6_0 n x0 x1 x2 x3 x4 x5 x6 x7 x8 x9 x10 x11 x12 x13 x14 x15 x16 x17 x18 x19 x20 x21 x22 x23 x24).trans h26
theorem sp6 {n : Nat} (a0 : Int) (a1 : List (Int)) (a2 : List (Int)) (a3 : Int) (a4 : Int) (a5 : Int) (a6 : Int) (a7 : Int) (a8 : Int) (a9 : Int) (a10 : Int) (a11 : Int) (a12 : Int) (a13 : Int) (a14 : Int) (a15 : Int) (a16 : Int) (a17 : Int) (a18 : Int) (a19 : Int) (a20 : Int) {y : Bool} (h : F6 n a0 a1 a2 a3 a4 a5 a6 a7 a8 a9 a10 a11 a12 a13 a14 a15 a16 a17 a18 a19 a20 = some y) : SpecF T Try.prog 6 pa6 [.i a0, .l [.int .i64] a1, .l [.int .i64] a2, .i a3, .i a4, .i a5, .i a6, .i a7, .i a8, .i a9, .i a10, .i a11, .i a12, .i a13, .i a14, .i a15, .i a16, .i a17, .i a18, .i a19, .i a20] sr6 (ofB6 y) :=
  fun_ok (X := X6) tok (sfok_of ⟨ok24, ok14, ok15, ok25, ok22, ok27, trivial⟩) mixed 6 8 cuts6 rfl toB6_ok ⟨c6_0, trivial⟩ ((e6 n a0 a1 a2 a3 a4 a5 a6 a7 a8 a9 a10 a11 a12 a13 a14 a15 a16 a17 a18 a19 a20).trans h)
theorem ok6 {R : Type} : SFone T Try.prog 6 (run6 : SF R) := by
  intro ls K r h
  simp only [run6] at h
  obtain ⟨a0, ls1, rfl, h1⟩ := gI_ok h; obtain ⟨a1, ls2, rfl, h2⟩ := gL_ok h1; obtain ⟨a2, ls3, rfl, h3⟩ := gL_ok h2; obtain ⟨a3, ls4, rfl, h4⟩ := gI_ok h3; obtain ⟨a4, ls5, rfl, h5⟩ := gI_ok h4; obtain ⟨a5, ls6, rfl, h6⟩ := gI_ok h5; obtain ⟨a6, ls7, rfl, h7⟩ := gI_ok h6; obtain ⟨a7, ls8, rfl, h8⟩ := gI_ok h7; obtain ⟨a8, ls9, rfl, h9⟩ := gI_ok h8; obtain ⟨a9, ls10, rfl, h10⟩ := gI_ok h9; obtain ⟨a10, ls11, rfl, h11⟩ := gI_ok h10; obtain ⟨a11, ls12, rfl, h12⟩ := gI_ok h11; obtain ⟨a12, ls13, rfl, h13⟩ := gI_ok h12; obtain ⟨a13, ls14, rfl, h14⟩ := gI_ok h13; obtain ⟨a14, ls15, rfl, h15⟩ := gI_ok h14; obtain ⟨a15, ls16, rfl, h16⟩ := gI_ok h15; obtain ⟨a16, ls17, rfl, h17⟩ := gI_ok h16; obtain ⟨a17, ls18, rfl, h18⟩ := gI_ok h17; obtain ⟨a18, ls19, rfl, h19⟩ := gI_ok h18; obtain ⟨a19, ls20, rfl, h20⟩ := gI_ok h19; obtain ⟨a20, ls21, rfl, h21⟩ := gI_ok h20; obtain ⟨rfl, h22⟩ := gE_ok h21
  obtain ⟨y, k1, k2⟩ := Option.bind_eq_some_iff.1 h22
  exact ⟨_, k2, sp6 a0 a1 a2 a3 a4 a5 a6 a7 a8 a9 a10 a11 a12 a13 a14 a15 a16 a17 a18 a19 a20 k1⟩

/-! ### garland/garlandlaw16.HopAnswers -/
def pa7 : List VP := [.agg [.i .i64, .sl false [.int .i64], .sl false [.int .i64], .i .i64, .i .i64, .i .i64, .i .i64, .i .i64, .i .i64, .i .i64, .i .i64, .i .i64, .i .i64, .i .i64, .i .i64, .i .i64, .i .i64, .i .i64, .i .i64, .i .i64], .agg [.i .u8, .i .i64, .i .i64, .i .i64, .i .i64, .b, .b, .i .i64, .i .i64, .sl false [.int .i64], .s, .i .i64, .i .i64, .b, .i .i64]]
def sr7 : RShape := ⟨.b, [], none⟩
def toB7 : List Leaf → Option (Bool) := gB (fun b0 => gE (some b0))
def ofB7 (y : Bool) : List Leaf := [.b y]
theorem toB7_ok : ∀ ls b, toB7 ls = some b → ls = ofB7 b := by
  intro ls b h
  unfold toB7 at h
  obtain ⟨b0, ls1, rfl, h1⟩ := gB_ok h; obtain ⟨rfl, h2⟩ := gE_ok h1
  cases h2; rfl
def run7 {R : Type} : SF R := ⟨pa7, sr7, fun ls K => (gI (fun a0 => gL [.int .i64] (fun a1 => gL [.int .i64] (fun a2 => gI (fun a3 => gI (fun a4 => gI (fun a5 => gI (fun a6 => gI (fun a7 => gI (fun a8 => gI (fun a9 => gI (fun a10 => gI (fun a11 => gI (fun a12 => gI (fun a13 => gI (fun a14 => gI (fun a15 => gI (fun a16 => gI (fun a17 => gI (fun a18 => gI (fun a19 => gI (fun a20 => gI (fun a21 => gI (fun a22 => gI (fun a23 => gI (fun a24 => gB (fun a25 => gB (fun a26 => gI (fun a27 => gI (fun a28 => gL [.int .i64] (fun a29 => gS (fun a30 => gI (fun a31 => gI (fun a32 => gB (fun a33 => gI (fun a34 => gE (Option.bind (F7 FUEL a0 a1 a2 a3 a4 a5 a6 a7 a8 a9 a10 a11 a12 a13 a14 a15 a16 a17 a18 a19 a20 a21 a22 a23 a24 a25 a26 a27 a28 a29 a30 a31 a32 a33 a34) fun y => K (ofB7 y)))))))))))))))))))))))))))))))))))))) ls⟩
def cuts7 : List (List Nat × Cut (Bool)) := []
noncomputable def X7 : Px (Bool) := ⟨T, Try.prog, lkF [(24, run24), (14, run14), (20, run20), (28, run28), (19, run19), (15, run15)], mkCuts 7 cuts7, altN, altN_ok⟩
theorem e7 (n : Nat) (a0 : Int) (a1 : List (Int)) (a2 : List (Int)) (a3 : Int) (a4 : Int) (a5 : Int) (a6 : Int) (a7 : Int) (a8 : Int) (a9 : Int) (a10 : Int) (a11 : Int) (a12 : Int) (a13 : Int) (a14 : Int) (a15 : Int) (a16 : Int) (a17 : Int) (a18 : Int) (a19 : Int) (a20 : Int) (a21 : Int) (a22 : Int) (a23 : Int) (a24 : Int) (a25 : Bool) (a26 : Bool) (a27 : Int) (a28 : Int) (a29 : List (Int)) (a30 : ByteArray) (a31 : Int) (a32 : Int) (a33 : Bool) (a34 : Int) : entF X7 8 7 pa7 (endK sr7 toB7) n [.i a0, .l [.int .i64] a1, .l [.int .i64] a2, .i a3, .i a4, .i a5, .i a6, .i a7, .i a8, .i a9, .i a10, .i a11, .i a12, .i a13, .i a14, .i a15, .i a16, .i a17, .i a18, .i a19, .i a20, .i a21, .i a22, .i a23, .i a24, .b a25, .b a26, .i a27, .i a28, .l [.int .i64] a29, .s a30, .i a31, .i a32, .b a33, .i a34] = F7 n a0 a1 a2 a3 a4 a5 a6 a7 a8 a9 a10 a11 a12 a13 a14 a15 a16 a17 a18 a19 a20 a21 a22 a23 a24 a25 a26 a27 a28 a29 a30 a31 a32 a33 a34 := by kernel_rfl
theorem sp7 {n : Nat} (a0 : Int) (a1 : List (Int)) (a2 : List (Int)) (a3 : Int) (a4 : Int) (a5 : Int) (a6 : Int) (a7 : Int) (a8 : Int) (a9 : Int) (a10 : Int) (a11 : Int) (a12 : Int) (a13 : Int) (a14 : Int) (a15 : Int) (a16 : Int) (a17 : Int) (a18 : Int) (a19 : Int) (a20 : Int) (a21 : Int) (a22 : Int) (a23 : Int) (a24 : Int) (a25 : Bool) (a26 : Bool) (a27 : Int) (a28 : Int) (a29 : List (Int)) (a30 : ByteArray) (a31 : Int) (a32 : Int) (a33 : Bool) (a34 : Int) {y : Bool} (h : F7 n a0 a1 a2 a3 a4 a5 a6 a7 a8 a9 a10 a11 a12 a13 a14 a15 a16 a17 a18 a19 a20 a21 a22 a23 a24 a25 a26 a27 a28 a29 a30 a31 a32 a33 a34 = some y) : SpecF T Try.prog 7 pa7 [.i a0, .l [.int .i64] a1, .l [.int .i64] a2, .i a3, .i a4, .i a5, .i a6, .i a7, .i a8, .i a9, .i a10, .i a11, .i a12, .i a13, .i a14, .i a15, .i a16, .i a17, .i a18, .i a19, .i a20, .i a21, .i a22, .i a23, .i a24, .b a25, .b a26, .i a27, .i a28, .l [.int .i64] a29, .s a30, .i a31, .i a32, .b a33, .i a34] sr7 (ofB7 y) :=
  fun_ok (X := X7) tok (sfok_of ⟨ok24, ok14, ok20, ok28, ok19, ok15, trivial⟩) mixed 7 8 cuts7 rfl toB7_ok trivial ((e7 n a0 a1 a2 a3 a4 a5 a6 a7 a8 a9 a10 a11 a12 a13 a14 a15 a16 a17 a18 a19 a20 a21 a22 a23 a24 a25 a26 a27 a28 a29 a30 a31 a32 a33 a34).trans h)
theorem ok7 {R : Type} : SFone T Try.prog 7 (run7 : SF R) := by
  intro ls K r h
  simp only [run7] at h
  obtain ⟨a0, ls1, rfl, h1⟩ := gI_ok h; obtain ⟨a1, ls2, rfl, h2⟩ := gL_ok h1; obtain ⟨a2, ls3, rfl, h3⟩ := gL_ok h2; obtain ⟨a3, ls4, rfl, h4⟩ := gI_ok h3; obtain ⟨a4, ls5, rfl, h5⟩ := gI_ok h4; obtain ⟨a5, ls6, rfl, h6⟩ := gI_ok h5; obtain ⟨a6, ls7, rfl, h7⟩ := gI_ok h6; obtain ⟨a7, ls8, rfl, h8⟩ := gI_ok h7; obtain ⟨a8, ls9, rfl, h9⟩ := gI_ok h8; obtain ⟨a9, ls10, rfl, h10⟩ := gI_ok h9; obtain ⟨a10, ls11, rfl, h11⟩ := gI_ok h10; obtain ⟨a11, ls12, rfl, h12⟩ := gI_ok h11; obtain ⟨a12, ls13, rfl, h13⟩ := gI_ok h12; obtain ⟨a13, ls14, rfl, h14⟩ := gI_ok h13; obtain ⟨a14, ls15, rfl, h15⟩ := gI_ok h14; obtain ⟨a15, ls16, rfl, h16⟩ := gI_ok h15; obtain ⟨a16, ls17, rfl, h17⟩ := gI_ok h16; obtain ⟨a17, ls18, rfl, h18⟩ := gI_ok h17; obtain ⟨a18, ls19, rfl, h19⟩ := gI_ok h18; obtain ⟨a19, ls20, rfl, h20⟩ := gI_ok h19; obtain ⟨a20, ls21, rfl, h21⟩ := gI_ok h20; obtain ⟨a21, ls22, rfl, h22⟩ := gI_ok h21; obtain ⟨a22, ls23, rfl, h23⟩ := gI_ok h22; obtain ⟨a23, ls24, rfl, h24⟩ := gI_ok h23; obtain ⟨a24, ls25, rfl, h25⟩ := gI_ok h24; obtain ⟨a25, ls26, rfl, h26⟩ := gB_ok h25; obtain ⟨a26, ls27, rfl, h27⟩ := gB_ok h26; obtain ⟨a27, ls28, rfl, h28⟩ := gI_ok h27; obtain ⟨a28, ls29, rfl, h29⟩ := gI_ok h28; obtain ⟨a29, ls30, rfl, h30⟩ := gL_ok h29; obtain ⟨a30, ls31, rfl, h31⟩ := gS_ok h30; obtain ⟨a31, ls32, rfl, h32⟩ := gI_ok h31; obtain ⟨a32, ls33, rfl, h33⟩ := gI_ok h32; obtain ⟨a33, ls34, rfl, h34⟩ := gB_ok h33; obtain ⟨a34, ls35, rfl, h35⟩ := gI_ok h34; obtain ⟨rfl, h36⟩ := gE_ok h35
  obtain ⟨y, k1, k2⟩ := Option.bind_eq_some_iff.1 h36
  exact ⟨_, k2, sp7 a0 a1 a2 a3 a4 a5 a6 a7 a8 a9 a10 a11 a12 a13 a14 a15 a16 a17 a18 a19 a20 a21 a22 a23 a24 a25 a26 a27 a28 a29 a30 a31 a32 a33 a34 k1⟩

end Go.Proofs.Ytlbdcdflffgehaa
