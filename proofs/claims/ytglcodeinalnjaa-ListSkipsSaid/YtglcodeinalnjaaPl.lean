/-
  Chapter 12, in plain words: places, distances, the loops over short lists.
-/
import Derived.Test.YtglcodeinalnjaaEvX
import Derived.ProofKit
namespace Go.Proofs.Ytglcodeinalnjaa
open Go Go.RowKit

theorem wakes8 : F8 FUEL = some true := by kernel_rfl
theorem fuel_big : 2000 < FUEL := by unfold FUEL; omega

/-- Where a number lies on the ring. -/
def pl (a : Int) : Int := a % 65536
/-- The way from one to the other, clockwise. -/
def fr (a b : Int) : Int := (b - a) % 65536
def isP (a : Int) : Bool := decide (0 ≤ a) && decide (a < 65536)

theorem wrap_mid {n : Int} (h1 : -9223372036854775808 ≤ n) (h2 : n < 9223372036854775808) : IntKind.i64.wrap n = n := by
  rw [IntKind.wrap_i64]; omega

theorem low16 (a : Int) : bits .and .i64 a 65535 = a % 65536 := by
  have h1 : (BitVec.ofInt 64 a &&& BitVec.ofInt 64 65535).toNat = (BitVec.ofInt 64 a).toNat % 65536 := by
    have e : (BitVec.ofInt 64 65535).toNat = 2 ^ 16 - 1 := by decide
    rw [BitVec.toNat_and, e, Nat.and_two_pow_sub_one_eq_mod]
  have h2 : (BitVec.ofInt 64 a).toNat = (a % 18446744073709551616).toNat := by rw [BitVec.toNat_ofInt]; rfl
  have h3 : bits .and .i64 a 65535 = IntKind.i64.wrap ((BitVec.ofInt 64 a &&& BitVec.ofInt 64 65535).toNat : Int) := rfl
  rw [h3, h1, h2, wrap_mid (by omega) (by omega)]
  omega

theorem place26 (n : Nat) (a : Int) : F26 n a = some (pl a) := by unfold F26 pl; rw [low16]
theorem place22 (n : Nat) (a : Int) : F22 n a = some (pl a) := by
  unfold F22 pl
  have e1 : inz 65536 = true := by decide
  rw [e1]
  simp only [cond_true, Option.some.injEq, irem, iadd]
  have h1 := Int.tmod_lt_of_pos a (b := 65536) (by decide)
  have h2 := Int.lt_tmod_of_pos a (b := 65536) (by decide)
  rw [wrap_mid (by omega) (by omega), Int.tmod_eq_emod_of_nonneg (by omega)]
  have h3 : a.tmod 65536 = a % 65536 - ↑(if 0 ≤ a ∨ (65536 : Int) ∣ a then 0 else Int.natAbs 65536) := Int.tmod_eq_emod
  rw [h3]
  split <;> simp <;> omega
theorem pl_bd (a : Int) : 0 ≤ pl a ∧ pl a < 65536 := by unfold pl; omega
theorem far28 (n : Nat) (a b : Int) : F28 n a b = some (fr a b) := by
  unfold F28
  simp only [place26, Option.bind_some, isub]
  have := pl_bd a; have := pl_bd b
  rw [wrap_mid (by omega) (by omega)]
  unfold pl fr; simp only [Option.some.injEq]; omega
theorem far24 (n : Nat) (a b : Int) : F24 n a b = some (fr a b) := by
  unfold F24
  simp only [place22, Option.bind_some, isub]
  have := pl_bd a; have := pl_bd b
  rw [wrap_mid (by omega) (by omega)]
  unfold pl fr; simp only [Option.some.injEq]; omega
theorem isp27 (n : Nat) (a : Int) : F27 n a = some (isP a) := by
  unfold F27 isP ige ilt
  by_cases h : 0 ≤ a <;> simp [h]
theorem isp29 (n : Nat) (a : Int) : F29 n a = some (isP a) := by
  unfold F29 isP ige ilt
  by_cases h : 0 ≤ a <;> simp [h]
theorem fr_pl (a b : Int) : fr (pl a) b = fr a b := by unfold fr pl; omega
theorem isP_pl {a : Int} (h : isP a = true) : pl a = a ∧ 0 ≤ a ∧ a < 65536 := by
  unfold isP at h; simp at h; unfold pl; omega
theorem fr_bd (a b : Int) : 0 ≤ fr a b ∧ fr a b < 65536 := by unfold fr; omega

/-! ### A loop's index. -/
section
variable {p r : List Int} {x : Int}
theorem lt_in : ilt (ofN p.length) (ofN (p ++ x :: r).length) = true := by simp [ilt, ofN]; omega
theorem lt_out : ilt (ofN p.length) (ofN p.length) = false := by simp [ilt, ofN]
theorem inb_in : inb (ofN p.length) (p ++ x :: r).length = true := by simp [inb, ofN]; omega
theorem nlt_in : nlt (ofN p.length).toNat (p ++ x :: r).length = true := by simp [nlt, ofN]
theorem get_in {d : Int} : (p ++ x :: r).getD (ofN p.length).toNat d = x := by simp [ofN]
theorem add_in (h : p.length < 1000) : iadd .i64 (ofN p.length) 1 = ofN (p ++ [x]).length := by
  simp only [iadd, ofN]; rw [wrap_mid (by omega) (by omega)]; simp
theorem room_in {a : List Int} {y : Int} (h : a.length < 1000) : room (a.length + [y].length) 8 = true := by simp [room]; omega
theorem in_eq : p ++ x :: r = (p ++ [x]) ++ r := by simp
end

/-! ### Drop. -/
def drp (v : Int) (l : List Int) : List Int := l.filter (· != v)
theorem drp_nil (v : Int) : drp v [] = [] := rfl
theorem drp_cons (v x : Int) (l : List Int) : drp v (x :: l) = if x != v then x :: drp v l else drp v l := by
  unfold drp; rw [List.filter_cons]

theorem drop16_c : ∀ (r p : List Int) (n : Nat) (v : Int) (a : List Int), r.length < n → (p ++ r).length < 1000 → a.length + r.length < 1000 → F16_c0 n (p ++ r) (ofN (p ++ r).length) (ofN p.length) v a = some (a ++ drp v r)
  | _, _, 0, _, _, h, _, _ => by omega
  | [], p, n + 1, v, a, _, _, _ => by
    simp only [F16_c0, List.append_nil, lt_out, cond_false, drp_nil]
  | x :: r, p, n + 1, v, a, h, hb, ha => by
    simp only [F16_c0, lt_in, inb_in, get_in, cond_true]
    simp only [List.length_append, List.length_cons] at h hb ha
    rw [room_in (by omega), add_in (x := x) (by omega), drp_cons]
    have h1 := drop16_c r (p ++ [x]) n v (a ++ [x]) (by omega) (by simp; omega) (by simp; omega)
    have h2 := drop16_c r (p ++ [x]) n v a (by omega) (by simp; omega) (by omega)
    rw [← in_eq] at h1 h2
    by_cases hx : (x != v) = true
    · rw [show ine x v = true from hx, hx]; simpa using h1
    · rw [Bool.not_eq_true] at hx
      rw [show ine x v = false from hx, hx]; simpa using h2
theorem drop16 {n : Nat} (hn : 2000 < n) (l : List Int) (v : Int) (h : l.length < 1000) : F16 n l v = some (drp v l) := by
  have := drop16_c l [] n v [] (by omega) (by simpa using h) (by simpa using h)
  simpa [F16, ofN] using this

theorem drop17_c : ∀ (r p : List Int) (n : Nat) (v : Int) (a : List Int), r.length < n → (p ++ r).length < 1000 → a.length + r.length < 1000 → F17_c0 n (p ++ r) v (ofN p.length) a = some (a ++ drp v r)
  | _, _, 0, _, _, h, _, _ => by omega
  | [], p, n + 1, v, a, _, _, _ => by
    simp only [F17_c0, List.append_nil, lt_out, cond_false, drp_nil]
  | x :: r, p, n + 1, v, a, h, hb, ha => by
    simp only [F17_c0, lt_in, inb_in, get_in, cond_true]
    simp only [List.length_append, List.length_cons] at h hb ha
    rw [room_in (by omega), add_in (x := x) (by omega), drp_cons]
    have h1 := drop17_c r (p ++ [x]) n v (a ++ [x]) (by omega) (by simp; omega) (by simp; omega)
    have h2 := drop17_c r (p ++ [x]) n v a (by omega) (by simp; omega) (by omega)
    rw [← in_eq] at h1 h2
    by_cases hx : (x != v) = true
    · rw [show ine x v = true from hx, hx]; simpa using h1
    · rw [Bool.not_eq_true] at hx
      rw [show ine x v = false from hx, hx]; simpa using h2
theorem drop17 {n : Nat} (hn : 2000 < n) (l : List Int) (v : Int) (h : l.length < 1000) : F17 n l v = some (drp v l) := by
  have := drop17_c l [] n v [] (by omega) (by simpa using h) (by simpa using h)
  simpa [F17, ofN] using this

/-! ### Ints: two lists, read one beside the other. -/
theorem ints_c : ∀ (r s p q : List Int) (n : Nat), r.length < n → p.length = q.length → r.length = s.length → (p ++ r).length < 1000 → F11_c0 n (p ++ r) (q ++ s) (ofN p.length) = some (r == s)
  | _, _, _, _, 0, h, _, _, _ => by omega
  | [], [], p, q, n + 1, _, _, _, _ => by simp only [F11_c0, List.append_nil, lt_out, cond_false]; rfl
  | x :: r, y :: s, p, q, n + 1, h, hp, hs, hb => by
    have e1 : inb (ofN p.length) (q ++ y :: s).length = true := by rw [hp]; exact inb_in
    have e2 : ∀ d, (q ++ y :: s).getD (ofN p.length).toNat d = y := fun d => by rw [hp]; exact get_in
    simp only [F11_c0, lt_in, inb_in, get_in, cond_true, e1, e2]
    simp only [List.length_append, List.length_cons] at h hb hs
    rw [add_in (x := x) (by omega)]
    have h1 := ints_c r s (p ++ [x]) (q ++ [y]) n (by omega) (by simp [hp]) (by omega) (by simp; omega)
    rw [← in_eq, ← in_eq] at h1
    rw [h1]
    by_cases hxy : x = y
    · subst hxy; simp [ine]
    · have : ine x y = true := by simpa [ine] using hxy
      rw [this]; simp [hxy]
theorem ints11 {n : Nat} (hn : 2000 < n) (l m : List Int) (h : l.length < 1000) : F11 n l m = some (l == m) := by
  unfold F11
  by_cases hl : l.length = m.length
  · have e : ine (ofN l.length) (ofN m.length) = false := by simp [ine, ofN, hl]
    rw [e, cond_false]
    simpa [ofN] using ints_c l m [] [] n (by omega) rfl hl (by simpa using h)
  · have e : ine (ofN l.length) (ofN m.length) = true := by simp [ine, ofN]; omega
    rw [e]
    have : (l == m) = false := by
      apply Bool.eq_false_iff.2
      intro hh; exact hl (by rw [eq_of_beq hh])
    rw [this]; simp only [cond_true]

/-! ### First. -/
def fst : List Int → Int × Bool
  | [] => (0, false)
  | x :: _ => (x, true)
theorem first9_c (n : Nat) (l : List Int) : F9_c0 (n + 1) l (ofN l.length) 0 0 false = some (fst l) := by
  cases l with
  | nil => rfl
  | cons x r =>
    have e1 : ilt 0 (ofN (x :: r).length) = true := by simp [ilt, ofN]
    have e2 : inb 0 (x :: r).length = true := by simp [inb]
    simp only [F9_c0, e1, e2]; rfl
theorem first9 {n : Nat} (hn : 2000 < n) (l : List Int) : F9 n l = some (fst l) := by
  unfold F9
  obtain ⟨m, rfl⟩ : ∃ m, n = m + 1 := Nat.exists_eq_succ_of_ne_zero (by omega)
  exact first9_c m l
theorem first10 (n : Nat) (l : List Int) : F10 n l = some (fst l) := by
  unfold F10
  cases l with
  | nil => rfl
  | cons x r =>
    have e1 : ieq (ofN (x :: r).length) 0 = false := by simp [ieq, ofN]; omega
    have e2 : inb 0 (x :: r).length = true := by simp [inb]
    rw [e1, e2]; rfl

/-! ### Last. -/
theorem last18_c : ∀ (r p : List Int) (n : Nat) (v : Int), r.length < n → (p ++ r).length < 1000 → F18_c0 n (p ++ r) (ofN (p ++ r).length) (ofN p.length) v = some (r.getLastD v)
  | _, _, 0, _, h, _ => by omega
  | [], p, n + 1, v, _, _ => by simp only [F18_c0, List.append_nil, lt_out, cond_false]; rfl
  | x :: r, p, n + 1, v, h, hb => by
    simp only [F18_c0, lt_in, inb_in, get_in, cond_true]
    simp only [List.length_append, List.length_cons] at h hb
    rw [add_in (x := x) (by omega)]
    have h1 := last18_c r (p ++ [x]) n x (by omega) (by simp; omega)
    rw [← in_eq] at h1
    rw [h1, List.getLastD_cons]
theorem last18 {n : Nat} (hn : 2000 < n) (a : Int) (l : List Int) (h : l.length < 1000) : F18 n a l = some (l.getLastD (pl a)) := by
  unfold F18
  rw [place26, Option.bind_some]
  simpa [ofN] using last18_c l [] n (pl a) (by omega) (by simpa using h)
theorem sub_one {n : Nat} (h : n < 1000) : isub .i64 (ofN n) 1 = (n : Int) - 1 := by
  simp only [isub, ofN]; rw [wrap_mid (by omega) (by omega)]
theorem last19 (n : Nat) (a : Int) (l : List Int) (h : l.length < 1000) : F19 n a l = some (l.getLastD (pl a)) := by
  unfold F19
  rw [place22, sub_one h]
  cases l with
  | nil => rfl
  | cons x r =>
    have e1 : ieq (ofN (x :: r).length) 0 = false := by simp [ieq, ofN]; omega
    have e2 : inb (((x :: r).length : Int) - 1) (x :: r).length = true := by simp [inb]; omega
    rw [e1, e2]
    simp only [cond_true, cond_false, Option.some.injEq]
    have : (((x :: r).length : Int) - 1).toNat = r.length := by simp
    rw [this, List.getLastD_cons, List.getLastD_eq_getLast?, List.getLast?_eq_getElem?]
    cases r with
    | nil => rfl
    | cons y s => simp

end Go.Proofs.Ytglcodeinalnjaa
