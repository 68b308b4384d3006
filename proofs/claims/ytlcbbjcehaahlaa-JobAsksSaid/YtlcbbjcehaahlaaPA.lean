/-
  In plain words: places, ways round the circle, rows of places.
-/
import Derived.Test.YtlcbbjcehaahlaaEvY
import Derived.ProofKit
namespace Go.Proofs.Ytlcbbjcehaahlaa
open Go Go.RowKit

theorem fuel_big : 100000 < FUEL := by unfold FUEL; omega

theorem ieq_dec (a b : Int) : ieq a b = decide (a = b) := by
  unfold ieq
  by_cases h : a = b
  · rw [decide_eq_true h]; exact beq_iff_eq.2 h
  · rw [decide_eq_false h]; exact beq_eq_false_iff_ne.2 h
theorem ine_dec (a b : Int) : ine a b = !decide (a = b) := by
  unfold ine bne
  exact congrArg Bool.not (ieq_dec a b)
/-- Where a number lies on the ring. -/
def pl (a : Int) : Int := a % 65536
/-- The way from one to the other, clockwise. -/
def fr (a b : Int) : Int := (b - a) % 65536
def isP (a : Int) : Bool := decide (0 ≤ a) && decide (a < 65536)
/-- Strictly between: x from w on, ahead of y. -/
def cut (w y x : Int) : Bool := decide (0 < fr w x) && (decide (fr w y = 0) || decide (fr w x < fr w y))

theorem wrap_mid {n : Int} (h1 : -9223372036854775808 ≤ n) (h2 : n < 9223372036854775808) : IntKind.i64.wrap n = n := by
  rw [IntKind.wrap_i64]; omega

theorem low16 (a : Int) : bits .and .i64 a 65535 = a % 65536 := by
  have h1 : (BitVec.ofInt 64 a &&& BitVec.ofInt 64 65535).toNat = (BitVec.ofInt 64 a).toNat % 65536 := by
    have e : (BitVec.ofInt 64 65535).toNat = 2 ^ 16 - 1 := by decide
    rw [BitVec.toNat_and, e, Nat.and_two_pow_sub_one_eq_mod]
  have h2 : (BitVec.ofInt 64 a).toNat = (a % 18446744073709551616).toNat := by rw [BitVec.toNat_ofInt]; rfl
  have h3 : bits .and .i64 a 65535 = IntKind.i64.wrap ((BitVec.ofInt 64 a &&& BitVec.ofInt 64 65535).toNat : Int) := rfl
  rw [h3, h1, h2, wrap_mid (by omega) (by omega)]
  omega

theorem pl_bd (a : Int) : 0 ≤ pl a ∧ pl a < 65536 := by unfold pl; omega
theorem fr_bd (a b : Int) : 0 ≤ fr a b ∧ fr a b < 65536 := by unfold fr; omega
theorem fr_pl (a b : Int) : fr (pl a) b = fr a b := by unfold fr pl; omega
theorem fr_pr (a b : Int) : fr a (pl b) = fr a b := by unfold fr pl; omega
theorem fr_self (a : Int) : fr a (pl a) = 0 := by unfold fr pl; omega
theorem pl_eq (a b : Int) : pl a = pl b ↔ fr a b = 0 := by unfold pl fr; omega
theorem cut_pl (w y x : Int) : cut (pl w) y x = cut w y x := by unfold cut; simp only [fr_pl]
theorem isP_iff {a : Int} : isP a = true ↔ 0 ≤ a ∧ a < 65536 := by unfold isP; simp
theorem isP_pl {a : Int} (h : isP a = true) : pl a = a ∧ 0 ≤ a ∧ a < 65536 := by
  have := isP_iff.1 h; unfold pl; omega
theorem isP_of_pl (a : Int) : isP (pl a) = true := isP_iff.2 (pl_bd a)

theorem place_p (n : Nat) (a : Int) : F37 n a = some (pl a) := by unfold F37 pl; rw [low16]
theorem place_r (n : Nat) (a : Int) : F22 n a = some (pl a) := by
  unfold F22 pl
  have e1 : inz 65536 = true := by decide
  rw [e1]
  simp only [cond_true, Option.some.injEq, irem, iadd]
  have h1 := Int.tmod_lt_of_pos a (b := 65536) (by decide)
  have h2 := Int.lt_tmod_of_pos a (b := 65536) (by decide)
  rw [wrap_mid (by omega) (by omega), Int.tmod_eq_emod_of_nonneg (by omega)]
  have h3 : a.tmod 65536 = a % 65536 - ↑(if 0 ≤ a ∨ (65536 : Int) ∣ a then 0 else Int.natAbs 65536) := Int.tmod_eq_emod
  rw [h3]
  split <;> simp <;> omega
theorem far_p (n : Nat) (a b : Int) : F67 n a b = some (fr a b) := by
  unfold F67
  simp only [place_p, Option.bind_some, isub]
  have := pl_bd a; have := pl_bd b
  rw [wrap_mid (by omega) (by omega)]
  unfold pl fr; simp only [Option.some.injEq]; omega
theorem far_r (n : Nat) (a b : Int) : F43 n a b = some (fr a b) := by
  unfold F43
  simp only [place_r, Option.bind_some, isub]
  have := pl_bd a; have := pl_bd b
  rw [wrap_mid (by omega) (by omega)]
  unfold pl fr; simp only [Option.some.injEq]; omega
theorem in_p (n : Nat) (w x y : Int) : F98 n w x y = some (cut w y x) := by
  unfold F98 cut
  simp only [far_p, Option.bind_some, ieq, igt, ilt, GT.gt]
  by_cases h : fr w y = 0
  · have h1 : (fr w y == 0) = true := beq_iff_eq.2 h
    rw [h1, cond_true, decide_eq_true h, Bool.true_or, Bool.and_true]
  · have h1 : (fr w y == 0) = false := beq_eq_false_iff_ne.2 h
    rw [h1, cond_false, decide_eq_false h, Bool.false_or]
    by_cases h2 : 0 < fr w x
    · rw [decide_eq_true h2]; rfl
    · rw [decide_eq_false h2]; rfl
/-- Strictly between, or at the end. -/
def upt (w y x : Int) : Bool := cut w y x || decide (pl x = pl y)
theorem upto_p (n : Nat) (w x y : Int) : F87 n w x y = some (upt w y x) := by
  unfold F87 upt
  simp only [in_p, place_p, Option.bind_some, ieq]
  by_cases h : pl x = pl y
  · simp [h]
  · have e : (pl x == pl y) = false := beq_eq_false_iff_ne.2 h
    rw [e, decide_eq_false h]; cases cut w y x <;> rfl
theorem isp_of {a : Int} : (bif ige a 0 then some (ilt a 65536) else some false) = some (isP a) := by
  unfold isP ige ilt
  by_cases h : 0 ≤ a <;> simp [h]
theorem isp_list (n : Nat) (a : Int) : F66 n a = some (isP a) := isp_of
theorem isp_ref12 (n : Nat) (a : Int) : F21 n a = some (isP a) := isp_of
theorem isp_view (n : Nat) (a : Int) : F33 n a = some (isP a) := isp_of
theorem isp_ref13 (n : Nat) (a : Int) : F8 n a = some (isP a) := isp_of
theorem isp_look (n : Nat) (a : Int) : F90 n a = some (isP a) := isp_of
theorem isp_msg (n : Nat) (a : Int) : F47 n a = some (isP a) := isp_of

/-! ### A loop's index. -/
section
variable {α : Type} {p r : List α} {x : α}
theorem lt_in : ilt (ofN p.length) (ofN (p ++ x :: r).length) = true := decide_eq_true (by simp only [ofN, List.length_append, List.length_cons]; omega)
theorem lt_out : ilt (ofN p.length) (ofN p.length) = false := by simp [ilt, ofN]
theorem inb_in : inb (ofN p.length) (p ++ x :: r).length = true := by simp [inb, ofN]; omega
theorem nlt_in : nlt (ofN p.length).toNat (p ++ x :: r).length = true := by simp [nlt, ofN]
theorem get_in {d : α} : (p ++ x :: r).getD (ofN p.length).toNat d = x := by simp [ofN]
theorem add_in (h : p.length < 9223372036854775807) : iadd .i64 (ofN p.length) 1 = ofN (p ++ [x]).length := by
  simp only [iadd, ofN]; rw [wrap_mid (by omega) (by omega)]; simp
theorem room_in {a : List α} {y : α} (h : a.length < 1000) : room (a.length + [y].length) 8 = true := by simp [room]; omega
theorem in_eq : p ++ x :: r = (p ++ [x]) ++ r := by simp
theorem sub_one {n : Nat} (h : n < 9223372036854775807) : isub .i64 (ofN n) 1 = (n : Int) - 1 := by
  simp only [isub, ofN]; rw [wrap_mid (by omega) (by omega)]
theorem sub_in {q : List α} {v : α} (h : q.length < 9223372036854775806) : isub .i64 (ofN (q ++ [v]).length) 1 = ofN q.length := by
  rw [sub_one (by simp; omega)]; simp [ofN]
theorem room_all {n b : Nat} (h : n < 1000) (hb : b ≤ 1000) : room n b = true := by
  unfold room
  have : n * b ≤ 1000 * 1000 := Nat.mul_le_mul (by omega) hb
  simp; omega
end



/-! ### First, last ones. -/
def fst1 : List Int → Int × Bool
  | [] => (0, false)
  | x :: _ => (x, true)
theorem first_p {n : Nat} (hn : 0 < n) (l : List Int) : F96 n l = some (fst1 l) := by
  unfold F96
  obtain ⟨m, rfl⟩ : ∃ m, n = m + 1 := Nat.exists_eq_succ_of_ne_zero (by omega)
  cases l with
  | nil => rfl
  | cons x r =>
    have e1 : ilt 0 (ofN (x :: r).length) = true := by simp [ilt, ofN]
    have e2 : inb 0 (x :: r).length = true := by simp [inb]
    simp only [F96_c0, e1, e2]; rfl

theorem farther_r (n : Nat) (a b c : Int) : F23 n a b c = some (decide (fr a b < fr a c)) := by
  unfold F23
  simp only [far_r, Option.bind_some, igt]
/-! ### Right. -/
def rgt (w : Int) : Int → List Int → Bool
  | _, [] => true
  | d, x :: r => isP x && (decide (d < fr w x) && rgt w (fr w x) r)
theorem rgt_pl (w : Int) : ∀ (r : List Int) (d : Int), rgt (pl w) d r = rgt w d r
  | [], _ => rfl
  | x :: r, d => by simp only [rgt, fr_pl, rgt_pl w r]
/-- A list of a. -/
def good (a : Int) (l : List Int) : Bool := rgt a 0 l && decide (l.length ≤ 3)
theorem good_len {a : Int} {l : List Int} (h : good a l = true) : l.length ≤ 3 := by
  unfold good at h; simp at h; exact h.2
theorem right_pc : ∀ (r p : List Int) (n : Nat) (w v : Int) (b : Bool), r.length < n → (p ++ r).length < 1000 → F35_c0 n v (p ++ r) (ofN (p ++ r).length) (ofN p.length) w b = some (rgt w (fr w v) r)
  | _, _, 0, _, _, _, h, _ => by omega
  | [], p, n + 1, w, v, b, _, _ => by simp only [F35_c0, List.append_nil, lt_out, cond_false]; rfl
  | x :: r, p, n + 1, w, v, b, h, hb => by
    simp only [F35_c0, lt_in, inb_in, get_in, cond_true, isp_list, far_p, Option.bind_some]
    simp only [List.length_append, List.length_cons] at h hb
    rw [add_in (x := x) (by omega)]
    have h1 := right_pc r (p ++ [x]) n w x b (by omega) (by simp; omega)
    rw [← in_eq] at h1
    rw [h1, rgt]
    cases isP x
    · rfl
    · simp only [Bool.not_true, cond_false, Bool.true_and, ile]
      by_cases hd : fr w x ≤ fr w v
      · rw [decide_eq_true hd, decide_eq_false (by omega : ¬ fr w v < fr w x)]; rfl
      · rw [decide_eq_false hd, decide_eq_true (by omega : fr w v < fr w x)]; rfl
theorem right_p {n : Nat} (hn : 2000 < n) (a : Int) (l : List Int) : F35 n a l = some (good a l) := by
  unfold F35 good
  rw [place_p, Option.bind_some]
  by_cases hl : l.length ≤ 3
  · have e : igt (ofN l.length) 3 = false := decide_eq_false (by simp only [ofN, List.length_append, List.length_cons, List.length_nil]; omega)
    rw [e, cond_false, decide_eq_true hl, Bool.and_true]
    have := right_pc l [] n (pl a) (pl a) false (by omega) (by simp; omega)
    rw [rgt_pl, fr_pl, fr_self] at this
    simpa [ofN] using this
  · have e : igt (ofN l.length) 3 = true := decide_eq_true (by simp only [ofN, List.length_append, List.length_cons, List.length_nil]; omega)
    rw [e, cond_true, decide_eq_false hl, Bool.and_false]
theorem right_rc : ∀ (r p : List Int) (n : Nat) (a : Int), 65536 - fr a (p.getLastD (pl a)) < n → (p ++ r).length ≤ 9223372036854775807 → F9_c0 n a (p ++ r) (ofN p.length) = some (rgt a (fr a (p.getLastD (pl a))) r && decide ((p ++ r).length ≤ 3))
  | _, p, 0, a, h, _ => by have := fr_bd a (p.getLastD (pl a)); omega
  | [], p, n + 1, a, _, _ => by
    simp only [F9_c0, List.append_nil, lt_out, cond_false, rgt, Bool.true_and]
    congr 1
    apply decide_eq_decide.2
    simp only [ofN]
    omega
  | x :: r, p, n + 1, a, h, hb => by
    simp only [F9_c0, lt_in, inb_in, get_in, cond_true, isp_ref12, place_r, farther_r, Option.bind_some]
    simp only [List.length_append, List.length_cons] at hb
    rw [add_in (x := x) (by omega)]
    have e5 : (p ++ [x]).getLastD (pl a) = x := by simp
    have step : fr a (p.getLastD (pl a)) < fr a x → F9_c0 n a (p ++ x :: r) (ofN (p ++ [x]).length) = some (rgt a (fr a x) r && decide ((p ++ x :: r).length ≤ 3)) := by
      intro hlt
      have h1 := right_rc r (p ++ [x]) n a (by rw [e5]; omega) (by simp; omega)
      rw [← in_eq, e5] at h1
      exact h1
    rw [rgt]
    cases hx : isP x
    · rfl
    · simp only [Bool.not_true, cond_false, Bool.true_and]
      by_cases hp : x = pl a
      · have e : ieq x (pl a) = true := by simp [ieq, hp]
        rw [e, cond_true, hp, fr_self]
        have := fr_bd a (p.getLastD (pl a))
        rw [decide_eq_false (by omega : ¬ fr a (p.getLastD (pl a)) < 0)]; rfl
      · have e : ieq x (pl a) = false := by simp [ieq, hp]
        rw [e, cond_false]
        rcases List.eq_nil_or_concat p with rfl | ⟨q, v, hqv⟩
        · have e2 : igt (ofN ([] : List Int).length) 0 = false := rfl
          rw [e2, cond_false]
          have e3 : fr a (([] : List Int).getLastD (pl a)) = 0 := fr_self a
          have e4 : 0 < fr a x := by
            obtain ⟨h2, h3, h4⟩ := isP_pl hx
            unfold fr pl at *; omega
          rw [step (by rw [e3]; exact e4), e3, decide_eq_true e4, Bool.true_and]
        · rw [List.concat_eq_append] at hqv
          subst hqv
          have e2 : igt (ofN (q ++ [v]).length) 0 = true := by simp [igt, ofN]
          have e3 : isub .i64 (ofN (q ++ [v]).length) 1 = ofN q.length := sub_in (by simp at hb; omega)
          rw [e2, cond_true, e3]
          have e4 : (q ++ [v]) ++ x :: r = q ++ v :: (x :: r) := by simp
          have e6 : (q ++ [v]).getLastD (pl a) = v := by simp
          rw [e6] at step ⊢
          by_cases hd : fr a v < fr a x
          · rw [step hd]
            rw [e4]
            simp only [inb_in, get_in, cond_true]
            rw [decide_eq_true hd]; rfl
          · rw [e4]
            simp only [inb_in, get_in, cond_true]
            rw [decide_eq_false hd]; rfl
theorem right_r {n : Nat} (hn : 70000 < n) (a : Int) (l : List Int) (h : l.length ≤ 9223372036854775807) : F9 n a l = some (good a l) := by
  unfold F9 good
  have := right_rc l [] n a (by rw [show fr a (([] : List Int).getLastD (pl a)) = 0 from fr_self a]; omega) (by simpa using h)
  rw [show fr a (([] : List Int).getLastD (pl a)) = 0 from fr_self a] at this
  simpa [ofN] using this
end Go.Proofs.Ytlcbbjcehaahlaa
