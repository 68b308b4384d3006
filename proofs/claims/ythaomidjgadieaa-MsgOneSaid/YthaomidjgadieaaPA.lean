/-
  In plain words: places, ways round the circle, rows of places.
-/
import Derived.Test.YthaomidjgadieaaEvY
import Derived.ProofKit
namespace Go.Proofs.Ythaomidjgadieaa
open Go Go.RowKit

theorem fuel_big : 100000 < FUEL := by unfold FUEL; omega

theorem ieq_dec (a b : Int) : ieq a b = decide (a = b) := by
  unfold ieq
  by_cases h : a = b
  · rw [decide_eq_true h]; exact beq_iff_eq.2 h
  · rw [decide_eq_false h]; exact beq_eq_false_iff_ne.2 h
theorem ine_dec (a b : Int) : ine a b = !decide (a = b) := by
  unfold ine bne
  exact congrArg Bool.not (ieq_dec a b)
/-- Where a number lies on the ring. -/
def pl (a : Int) : Int := a % 65536
/-- The way from one to the other, clockwise. -/
def fr (a b : Int) : Int := (b - a) % 65536
def isP (a : Int) : Bool := decide (0 ≤ a) && decide (a < 65536)
/-- Strictly between: x from w on, ahead of y. -/
def cut (w y x : Int) : Bool := decide (0 < fr w x) && (decide (fr w y = 0) || decide (fr w x < fr w y))

theorem wrap_mid {n : Int} (h1 : -9223372036854775808 ≤ n) (h2 : n < 9223372036854775808) : IntKind.i64.wrap n = n := by
  rw [IntKind.wrap_i64]; omega

theorem low16 (a : Int) : bits .and .i64 a 65535 = a % 65536 := by
  have h1 : (BitVec.ofInt 64 a &&& BitVec.ofInt 64 65535).toNat = (BitVec.ofInt 64 a).toNat % 65536 := by
    have e : (BitVec.ofInt 64 65535).toNat = 2 ^ 16 - 1 := by decide
    rw [BitVec.toNat_and, e, Nat.and_two_pow_sub_one_eq_mod]
  have h2 : (BitVec.ofInt 64 a).toNat = (a % 18446744073709551616).toNat := by rw [BitVec.toNat_ofInt]; rfl
  have h3 : bits .and .i64 a 65535 = IntKind.i64.wrap ((BitVec.ofInt 64 a &&& BitVec.ofInt 64 65535).toNat : Int) := rfl
  rw [h3, h1, h2, wrap_mid (by omega) (by omega)]
  omega

theorem pl_bd (a : Int) : 0 ≤ pl a ∧ pl a < 65536 := by unfold pl; omega
theorem fr_bd (a b : Int) : 0 ≤ fr a b ∧ fr a b < 65536 := by unfold fr; omega
theorem fr_pl (a b : Int) : fr (pl a) b = fr a b := by unfold fr pl; omega
theorem fr_pr (a b : Int) : fr a (pl b) = fr a b := by unfold fr pl; omega
theorem fr_self (a : Int) : fr a (pl a) = 0 := by unfold fr pl; omega
theorem pl_eq (a b : Int) : pl a = pl b ↔ fr a b = 0 := by unfold pl fr; omega
theorem cut_pl (w y x : Int) : cut (pl w) y x = cut w y x := by unfold cut; simp only [fr_pl]
theorem isP_iff {a : Int} : isP a = true ↔ 0 ≤ a ∧ a < 65536 := by unfold isP; simp
theorem isP_pl {a : Int} (h : isP a = true) : pl a = a ∧ 0 ≤ a ∧ a < 65536 := by
  have := isP_iff.1 h; unfold pl; omega
theorem isP_of_pl (a : Int) : isP (pl a) = true := isP_iff.2 (pl_bd a)

/-- Strictly between, or at the end. -/
def upt (w y x : Int) : Bool := cut w y x || decide (pl x = pl y)
theorem isp_of {a : Int} : (bif ige a 0 then some (ilt a 65536) else some false) = some (isP a) := by
  unfold isP ige ilt
  by_cases h : 0 ≤ a <;> simp [h]
theorem isp_msg (n : Nat) (a : Int) : F49 n a = some (isP a) := isp_of
theorem isp_ref06 (n : Nat) (a : Int) : F50 n a = some (isP a) := isp_of

/-! ### A loop's index. -/
section
variable {α : Type} {p r : List α} {x : α}
theorem lt_in : ilt (ofN p.length) (ofN (p ++ x :: r).length) = true := decide_eq_true (by simp only [ofN, List.length_append, List.length_cons]; omega)
theorem lt_out : ilt (ofN p.length) (ofN p.length) = false := by simp [ilt, ofN]
theorem inb_in : inb (ofN p.length) (p ++ x :: r).length = true := by simp [inb, ofN]; omega
theorem nlt_in : nlt (ofN p.length).toNat (p ++ x :: r).length = true := by simp [nlt, ofN]
theorem get_in {d : α} : (p ++ x :: r).getD (ofN p.length).toNat d = x := by simp [ofN]
theorem add_in (h : p.length < 9223372036854775807) : iadd .i64 (ofN p.length) 1 = ofN (p ++ [x]).length := by
  simp only [iadd, ofN]; rw [wrap_mid (by omega) (by omega)]; simp
theorem room_in {a : List α} {y : α} (h : a.length < 1000) : room (a.length + [y].length) 8 = true := by simp [room]; omega
theorem in_eq : p ++ x :: r = (p ++ [x]) ++ r := by simp
theorem sub_one {n : Nat} (h : n < 9223372036854775807) : isub .i64 (ofN n) 1 = (n : Int) - 1 := by
  simp only [isub, ofN]; rw [wrap_mid (by omega) (by omega)]
theorem sub_in {q : List α} {v : α} (h : q.length < 9223372036854775806) : isub .i64 (ofN (q ++ [v]).length) 1 = ofN q.length := by
  rw [sub_one (by simp; omega)]; simp [ofN]
theorem room_all {n b : Nat} (h : n < 1000) (hb : b ≤ 1000) : room n b = true := by
  unfold room
  have : n * b ≤ 1000 * 1000 := Nat.mul_le_mul (by omega) hb
  simp; omega
end



/-! ### First, last ones. -/
def fst1 : List Int → Int × Bool
  | [] => (0, false)
  | x :: _ => (x, true)

/-! ### Right. -/
def rgt (w : Int) : Int → List Int → Bool
  | _, [] => true
  | d, x :: r => isP x && (decide (d < fr w x) && rgt w (fr w x) r)
theorem rgt_pl (w : Int) : ∀ (r : List Int) (d : Int), rgt (pl w) d r = rgt w d r
  | [], _ => rfl
  | x :: r, d => by simp only [rgt, fr_pl, rgt_pl w r]
/-- A list of a. -/
def good (a : Int) (l : List Int) : Bool := rgt a 0 l && decide (l.length ≤ 3)
theorem good_len {a : Int} {l : List Int} (h : good a l = true) : l.length ≤ 3 := by
  unfold good at h; simp at h; exact h.2
end Go.Proofs.Ythaomidjgadieaa
