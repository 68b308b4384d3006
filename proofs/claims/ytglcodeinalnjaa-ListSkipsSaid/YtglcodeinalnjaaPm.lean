/-
  Chapter 12, in plain words: Right, Skips, Make.
-/
import Derived.Test.YtglcodeinalnjaaPl
namespace Go.Proofs.Ytglcodeinalnjaa
open Go Go.RowKit

theorem far30 (n : Nat) (a b c : Int) : F30 n a b c = some (decide (fr a b < fr a c)) := by
  unfold F30
  simp only [far24, Option.bind_some, igt]

/-! ### Right. -/
def rgt (w : Int) : Int → List Int → Bool
  | _, [] => true
  | d, x :: r => isP x && (decide (d < fr w x) && rgt w (fr w x) r)
theorem rgt_pl (w : Int) : ∀ (r : List Int) (d : Int), rgt (pl w) d r = rgt w d r
  | [], _ => rfl
  | x :: r, d => by simp only [rgt, fr_pl, rgt_pl w r]

theorem right14_c : ∀ (r p : List Int) (n : Nat) (w v : Int) (b : Bool), r.length < n → (p ++ r).length < 1000 → F14_c0 n v (p ++ r) (ofN (p ++ r).length) (ofN p.length) w b = some (rgt w (fr w v) r)
  | _, _, 0, _, _, _, h, _ => by omega
  | [], p, n + 1, w, v, b, _, _ => by simp only [F14_c0, List.append_nil, lt_out, cond_false]; rfl
  | x :: r, p, n + 1, w, v, b, h, hb => by
    simp only [F14_c0, lt_in, inb_in, get_in, cond_true, isp27, far28, Option.bind_some]
    simp only [List.length_append, List.length_cons] at h hb
    rw [add_in (x := x) (by omega)]
    have h1 := right14_c r (p ++ [x]) n w x b (by omega) (by simp; omega)
    rw [← in_eq] at h1
    rw [h1, rgt]
    cases isP x
    · rfl
    · simp only [Bool.not_true, cond_false, Bool.true_and, ile]
      by_cases hd : fr w x ≤ fr w v
      · rw [decide_eq_true hd, decide_eq_false (by omega : ¬ fr w v < fr w x)]; rfl
      · rw [decide_eq_false hd, decide_eq_true (by omega : fr w v < fr w x)]; rfl
theorem fr_self (a : Int) : fr a (pl a) = 0 := by unfold fr pl; omega
/-- The places that the list's row is good for. -/
def good (a : Int) (l : List Int) : Bool := rgt a 0 l && decide (l.length ≤ 3)
theorem right14 {n : Nat} (hn : 2000 < n) (a : Int) (l : List Int) (h : l.length < 1000) : F14 n a l = some (good a l) := by
  unfold F14 good
  rw [place26, Option.bind_some]
  by_cases hl : l.length ≤ 3
  · have e : igt (ofN l.length) 3 = false := by simp [igt, ofN]; omega
    rw [e, cond_false, decide_eq_true hl, Bool.and_true]
    have := right14_c l [] n (pl a) (pl a) false (by omega) (by simpa using h)
    rw [rgt_pl, fr_pl, fr_self] at this
    simpa [ofN] using this
  · have e : igt (ofN l.length) 3 = true := by simp [igt, ofN]; omega
    rw [e, cond_true, decide_eq_false hl, Bool.and_false]

theorem right15_c : ∀ (r p : List Int) (n : Nat) (a : Int), r.length < n → (p ++ r).length < 1000 → F15_c0 n a (p ++ r) (ofN p.length) = some (rgt a (fr a (p.getLastD (pl a))) r && decide ((p ++ r).length ≤ 3))
  | _, _, 0, _, h, _ => by omega
  | [], p, n + 1, a, _, _ => by
    simp only [F15_c0, List.append_nil, lt_out, cond_false, rgt, Bool.true_and]
    congr 1
    apply decide_eq_decide.2
    simp only [ofN]
    omega
  | x :: r, p, n + 1, a, h, hb => by
    simp only [F15_c0, lt_in, inb_in, get_in, cond_true, isp29, place22, far30, Option.bind_some]
    simp only [List.length_append, List.length_cons] at h hb
    rw [add_in (x := x) (by omega)]
    have h1 := right15_c r (p ++ [x]) n a (by omega) (by simp; omega)
    rw [← in_eq] at h1
    have e5 : (p ++ [x]).getLastD (pl a) = x := by simp
    rw [e5] at h1
    rw [h1, rgt]
    cases hx : isP x
    · rfl
    · simp only [Bool.not_true, cond_false, Bool.true_and]
      by_cases hp : x = pl a
      · have e : ieq x (pl a) = true := by simp [ieq, hp]
        rw [e, cond_true, hp, fr_self]
        have := fr_bd a (p.getLastD (pl a))
        rw [decide_eq_false (by omega : ¬ fr a (p.getLastD (pl a)) < 0)]; rfl
      · have e : ieq x (pl a) = false := by simp [ieq, hp]
        rw [e, cond_false]
        rcases List.eq_nil_or_concat p with rfl | ⟨q, v, hqv⟩
        · have e2 : igt (ofN ([] : List Int).length) 0 = false := rfl
          rw [e2, cond_false]
          have e3 : fr a (([] : List Int).getLastD (pl a)) = 0 := fr_self a
          have e4 : 0 < fr a x := by
            obtain ⟨h2, h3, h4⟩ := isP_pl hx
            unfold fr pl at *; omega
          rw [e3, decide_eq_true e4, Bool.true_and]
        · rw [List.concat_eq_append] at hqv
          subst hqv
          have e2 : igt (ofN (q ++ [v]).length) 0 = true := by simp [igt, ofN]
          have e3 : isub .i64 (ofN (q ++ [v]).length) 1 = ofN q.length := by
            rw [sub_one (by simp at hb ⊢; omega)]; simp [ofN]
          rw [e2, cond_true, e3]
          have e4 : (q ++ [v]) ++ x :: r = q ++ v :: (x :: r) := by simp
          have e6 : (q ++ [v]).getLastD (pl a) = v := by simp
          rw [e6, e4]
          simp only [inb_in, get_in, cond_true]
          by_cases hd : fr a v < fr a x
          · rw [decide_eq_true hd]; rfl
          · rw [decide_eq_false hd]; rfl
theorem right15 {n : Nat} (hn : 2000 < n) (a : Int) (l : List Int) (h : l.length < 1000) : F15 n a l = some (good a l) := by
  unfold F15 good
  have := right15_c l [] n a (by omega) (by simpa using h)
  rw [show fr a (([] : List Int).getLastD (pl a)) = 0 from fr_self a] at this
  simpa [ofN] using this

/-! ### Make. -/
def mkl (w : Int) : List Int → List Int → List Int
  | acc, [] => acc
  | acc, x :: r => if acc.length < 3 ∧ isP x = true ∧ fr w (acc.getLastD 0) < fr w x then mkl w (acc ++ [x]) r else acc
theorem mkl_pl (w : Int) : ∀ (r acc : List Int), mkl (pl w) acc r = mkl w acc r
  | [], _ => rfl
  | x :: r, acc => by simp only [mkl, fr_pl, mkl_pl w r]

theorem make12_c : ∀ (r p : List Int) (n : Nat) (w : Int) (q : List Int) (v : Int), r.length + 1 < n → (p ++ r).length < 1000 → q.length < 900 → F12_c1 n (p ++ r) (ofN (p ++ r).length) (ofN p.length) w (q ++ [v]) = some (mkl w (q ++ [v]) r)
  | _, _, 0, _, _, _, h, _, _ => by omega
  | [], p, n + 1, w, q, v, _, _, _ => by simp only [F12_c1, List.append_nil, lt_out, cond_false]; rfl
  | x :: r, p, n + 1, w, q, v, h, hb, hq => by
    simp only [List.length_append, List.length_cons] at h hb
    have c0 : ∀ l, F12_c0 n l = some l := by
      obtain ⟨m, rfl⟩ : ∃ m, n = m + 1 := Nat.exists_eq_succ_of_ne_zero (by omega)
      exact fun l => rfl
    have e3 : isub .i64 (ofN (q ++ [v]).length) 1 = ofN q.length := by
      rw [sub_one (by simp; omega)]; simp [ofN]
    simp only [F12_c1, lt_in, inb_in, get_in, cond_true, isp27, far28, Option.bind_some, c0, e3, nlt_in]
    rw [add_in (x := x) (by omega), mkl]
    have e6 : (q ++ [v]).getLastD 0 = v := by simp
    rw [e6]
    by_cases h3 : (q ++ [v]).length < 3
    · have e1 : ige (ofN (q ++ [v]).length) 3 = false := by simp [ige, ofN] at h3 ⊢; omega
      rw [e1, cond_false]
      cases hx : isP x
      · simp
      · simp only [Bool.not_true, cond_false, ile]
        by_cases hd : fr w v < fr w x
        · have h1 := make12_c r (p ++ [x]) n w (q ++ [v]) x (by omega) (by simp; omega) (by simp at h3 ⊢; omega)
          rw [← in_eq] at h1
          rw [decide_eq_false (by omega : ¬ fr w x ≤ fr w v), cond_false, room_in (by simp at h3 ⊢; omega), cond_true, h1, if_pos ⟨h3, trivial, hd⟩]
        · rw [decide_eq_true (by omega : fr w x ≤ fr w v), cond_true, if_neg fun hh => hd hh.2.2]
    · have e1 : ige (ofN (q ++ [v]).length) 3 = true := by simp [ige, ofN] at h3 ⊢; omega
      rw [e1, cond_true, if_neg fun hh => h3 hh.1]
/-- What is made. -/
def made (a b : Int) (l : List Int) : List Int := if isP b = true ∧ b ≠ pl a then mkl a [b] l else []
theorem make12 {n : Nat} (hn : 2000 < n) (a b : Int) (l : List Int) (h : l.length < 1000) : F12 n a b l = some (made a b l) := by
  unfold F12 made
  simp only [place26, isp27, Option.bind_some]
  obtain ⟨m, rfl⟩ : ∃ m, n = m + 1 := Nat.exists_eq_succ_of_ne_zero (by omega)
  have c0 : ∀ l, F12_c0 (m + 1) l = some l := fun l => rfl
  simp only [c0]
  cases hx : isP b
  · simp
  · simp only [Bool.not_true, cond_false, true_and]
    by_cases hb : b = pl a
    · have e : ieq b (pl a) = true := by simp [ieq, hb]
      rw [e, cond_true, if_neg (by simp [hb])]
    · have e : ieq b (pl a) = false := by simp [ieq, hb]
      have e2 : room [b].length 8 = true := by simp [room]
      rw [e, cond_false, e2, cond_true, if_pos hb]
      have := make12_c l [] (m + 1) (pl a) [] b (by omega) (by simpa using h) (by simp)
      rw [mkl_pl] at this
      simpa [ofN] using this

theorem make13_c : ∀ (r p : List Int) (n : Nat) (w : Int) (q : List Int) (v : Int), r.length < n → (p ++ r).length < 1000 → q.length = p.length → F13_c0 n w (p ++ r) (ofN p.length) (q ++ [v]) = some (mkl w (q ++ [v]) r)
  | _, _, 0, _, _, _, h, _, _ => by omega
  | [], p, n + 1, w, q, v, _, _, _ => by simp only [F13_c0, List.append_nil, lt_out, cond_false]; rfl
  | x :: r, p, n + 1, w, q, v, h, hb, hq => by
    have i1 : inb (ofN p.length) (q ++ [v]).length = true := by rw [← hq]; exact inb_in
    have i2 : nlt (ofN p.length).toNat (q ++ [v]).length = true := by rw [← hq]; exact nlt_in
    have i3 : ∀ d, (q ++ [v]).getD (ofN p.length).toNat d = v := fun d => by rw [← hq]; exact get_in
    simp only [F13_c0, lt_in, inb_in, get_in, cond_true, isp29, far30, Option.bind_some, i1, i2, i3]
    simp only [List.length_append, List.length_cons] at h hb
    rw [add_in (x := x) (by omega), mkl]
    have e6 : (q ++ [v]).getLastD 0 = v := by simp
    rw [e6]
    by_cases h3 : (q ++ [v]).length < 3
    · have e1 : ilt (ofN (q ++ [v]).length) 3 = true := by simp [ilt, ofN] at h3 ⊢; omega
      rw [e1, cond_true]
      cases hx : isP x
      · simp
      · simp only [Bool.not_true, cond_false]
        by_cases hd : fr w v < fr w x
        · have h1 := make13_c r (p ++ [x]) n w (q ++ [v]) x (by omega) (by simp; omega) (by simp [hq])
          rw [← in_eq] at h1
          rw [decide_eq_true hd, Bool.not_true, cond_false, room_in (by simp at h3 ⊢; omega), cond_true, h1, if_pos ⟨h3, trivial, hd⟩]
        · rw [decide_eq_false hd, Bool.not_false, cond_true, if_neg fun hh => hd hh.2.2]
    · have e1 : ilt (ofN (q ++ [v]).length) 3 = false := by simp [ilt, ofN] at h3 ⊢; omega
      rw [e1, cond_false, if_neg fun hh => h3 hh.1]
theorem make13 {n : Nat} (hn : 2000 < n) (a b : Int) (l : List Int) (h : l.length < 1000) : F13 n a b l = some (made a b l) := by
  unfold F13 made
  simp only [place22, isp29, Option.bind_some]
  cases hx : isP b
  · simp
  · simp only [Bool.not_true, cond_false, true_and]
    by_cases hb : b = pl a
    · have e : ieq (pl a) b = true := by simp [ieq, hb]
      rw [e, cond_true, if_neg (by simp [hb])]
    · have e : ieq (pl a) b = false := by simp [ieq]; exact fun h => hb h.symm
      rw [e, cond_false, if_pos hb]
      have := make13_c l [] n a [] b (by omega) (by simpa using h) rfl
      simpa [ofN] using this

end Go.Proofs.Ytglcodeinalnjaa
