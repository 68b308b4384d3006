/-
  Chapter 12, in plain words: Skips; the law ListTells.
-/
import Derived.Test.YtglcodeinalnjaaPm
namespace Go.Proofs.Ytglcodeinalnjaa
open Go Go.RowKit

def cut (w y x : Int) : Bool := decide (0 < fr w x) && (decide (fr w y = 0) || decide (fr w x < fr w y))
theorem cut_pl (w y x : Int) : cut (pl w) y x = cut w y x := by unfold cut; simp only [fr_pl]
theorem in32 (n : Nat) (w x y : Int) : F32 n w x y = some (cut w y x) := by
  unfold F32 cut
  simp only [far28, Option.bind_some, ieq, igt, ilt, GT.gt]
  by_cases h : fr w y = 0
  · have h1 : (fr w y == 0) = true := beq_iff_eq.2 h
    rw [h1, cond_true, decide_eq_true h, Bool.true_or, Bool.and_true]
  · have h1 : (fr w y == 0) = false := beq_eq_false_iff_ne.2 h
    rw [h1, cond_false, decide_eq_false h, Bool.false_or]
    by_cases h2 : 0 < fr w x
    · rw [decide_eq_true h2]; rfl
    · rw [decide_eq_false h2]; rfl
theorem pl_eq (a b : Int) : pl a = pl b ↔ fr a b = 0 := by unfold pl fr; omega
theorem in33 (n : Nat) (w x y : Int) : F33 n w x y = some (cut w y x) := by
  unfold F33 cut
  simp only [far24, place22, Option.bind_some, ieq, igt, ilt, ine, GT.gt]
  have h0 := fr_bd w x
  by_cases h : fr w y = 0
  · have h1 : (pl w == pl y) = true := beq_iff_eq.2 ((pl_eq w y).2 h)
    rw [h1, cond_true, h]
    simp only [decide_true, Bool.true_or, Bool.and_true, Option.some.injEq]
    by_cases h2 : 0 < fr w x
    · rw [decide_eq_true h2, bne_iff_ne]
      intro h3; have := (pl_eq w x).1 h3.symm; omega
    · have := (pl_eq w x).2 (by omega)
      rw [decide_eq_false h2, this, bne_self_eq_false]
  · have h1 : (pl w == pl y) = false := beq_eq_false_iff_ne.2 fun h3 => h ((pl_eq w y).1 h3)
    rw [h1, cond_false]
    by_cases h2 : 0 < fr w x <;> simp [h, h2]

/-- Whether a row of peers has stepped over one that is known. -/
def skp : Int → List Int → List Int → Bool
  | _, [], _ => false
  | w, y :: s, r => r.any (cut w y) || skp y s r

theorem skips20_c1 : ∀ (t q : List Int) (n : Nat) (w y : Int) (ch : List Int) (lc i z : Int), t.length + 1 < n → (q ++ t).length < 1000 →
    F20_c1 n w y (q ++ t) (ofN (q ++ t).length) (ofN q.length) z ch lc i (q ++ t) = if t.any (cut w y) = true then some true else F20_c0 (n - t.length - 1) z ch lc (iadd .i64 i 1) (q ++ t)
  | _, _, 0, _, _, _, _, _, _, h, _ => by omega
  | [], q, n + 1, w, y, ch, lc, i, z, _, _ => by simp only [F20_c1, List.append_nil, lt_out, cond_false]; rfl
  | x :: t, q, n + 1, w, y, ch, lc, i, z, h, hb => by
    simp only [List.length_append, List.length_cons] at h hb
    have c2 : F20_c2 n = some true := by
      obtain ⟨m, rfl⟩ : ∃ m, n = m + 1 := Nat.exists_eq_succ_of_ne_zero (by omega)
      rfl
    simp only [F20_c1, lt_in, inb_in, get_in, cond_true, in32, Option.bind_some, c2]
    rw [add_in (x := x) (by omega)]
    have h1 := skips20_c1 t (q ++ [x]) n w y ch lc i z (by omega) (by simp; omega)
    rw [← in_eq] at h1
    rw [h1, List.any_cons]
    cases cut w y x
    · simp only [cond_false, Bool.false_or]
      rw [show n + 1 - (x :: t).length - 1 = n - t.length - 1 by simp]
    · rfl

theorem skips20_c0 : ∀ (s p : List Int) (n : Nat) (w : Int) (r : List Int), (s.length + 1) * (r.length + 3) ≤ n → (p ++ s).length < 1000 → r.length < 1000 →
    F20_c0 n w (p ++ s) (ofN (p ++ s).length) (ofN p.length) r = some (skp w s r)
  | s, _, 0, _, r, h, _, _ => by have : 0 < (s.length + 1) * (r.length + 3) := Nat.mul_pos (by omega) (by omega); omega
  | [], p, n + 1, w, r, _, _, _ => by simp only [F20_c0, List.append_nil, lt_out, cond_false]; rfl
  | y :: s, p, n + 1, w, r, h, hb, hr => by
    simp only [List.length_append, List.length_cons] at h hb
    have hm : (s.length + 1 + 1) * (r.length + 3) = (s.length + 1) * (r.length + 3) + (r.length + 3) := by rw [Nat.add_mul]; simp
    simp only [F20_c0, lt_in, inb_in, get_in, cond_true]
    have h1 := skips20_c1 r [] n w y (p ++ y :: s) (ofN (p ++ y :: s).length) (ofN p.length) y (by omega) (by simpa using hr)
    simp only [List.nil_append, List.length_nil] at h1
    rw [show (ofN 0) = 0 from rfl] at h1
    rw [h1, add_in (x := y) (by omega), skp]
    have h2 := skips20_c0 s (p ++ [y]) (n - r.length - 1) y r (by omega) (by simp; omega) hr
    rw [← in_eq] at h2
    rw [h2]
    cases r.any (cut w y) <;> rfl
theorem skp_pl (w : Int) : ∀ (s r : List Int), skp (pl w) s r = skp w s r
  | [], _ => rfl
  | y :: s, r => by simp only [skp]; congr 2; funext x; exact cut_pl w y x
theorem skips20 {n : Nat} (a : Int) (s r : List Int) (hn : (s.length + 1) * (r.length + 3) ≤ n) (hs : s.length < 1000) (hr : r.length < 1000) : F20 n a s r = some (skp a s r) := by
  unfold F20
  rw [place26, Option.bind_some]
  have := skips20_c0 s [] n (pl a) r hn (by simpa using hs) hr
  rw [skp_pl] at this
  simpa [ofN] using this

theorem skips21_c1 : ∀ (t q : List Int) (n : Nat) (w y : Int) (p s : List Int), t.length < n → (q ++ t).length < 1000 →
    F21_c1 n (p ++ y :: s) (q ++ t) w (ofN p.length) (ofN q.length) = if t.any (cut w y) = true then some true else F21_c0 (n - t.length - 1) (p ++ y :: s) (q ++ t) y (iadd .i64 (ofN p.length) 1)
  | _, _, 0, _, _, _, _, h, _ => by omega
  | [], q, n + 1, w, y, p, s, _, _ => by simp only [F21_c1, List.append_nil, lt_out, cond_false, inb_in, get_in, cond_true]; rfl
  | x :: t, q, n + 1, w, y, p, s, h, hb => by
    simp only [List.length_append, List.length_cons] at h hb
    simp only [F21_c1, lt_in, inb_in, get_in, cond_true, in33, Option.bind_some]
    rw [add_in (p := q) (x := x) (by omega)]
    have h1 := skips21_c1 t (q ++ [x]) n w y p s (by omega) (by simp; omega)
    rw [← in_eq] at h1
    rw [h1, List.any_cons]
    cases cut w y x
    · simp only [cond_false, Bool.false_or]
      rw [show n + 1 - (x :: t).length - 1 = n - t.length - 1 by simp]
    · rfl
theorem skips21_c0 : ∀ (s p : List Int) (n : Nat) (w : Int) (r : List Int), (s.length + 1) * (r.length + 3) ≤ n → (p ++ s).length < 1000 → r.length < 1000 →
    F21_c0 n (p ++ s) r w (ofN p.length) = some (skp w s r)
  | s, _, 0, _, r, h, _, _ => by have : 0 < (s.length + 1) * (r.length + 3) := Nat.mul_pos (by omega) (by omega); omega
  | [], p, n + 1, w, r, _, _, _ => by simp only [F21_c0, List.append_nil, lt_out, cond_false]; rfl
  | y :: s, p, n + 1, w, r, h, hb, hr => by
    simp only [List.length_append, List.length_cons] at h hb
    have hm : (s.length + 1 + 1) * (r.length + 3) = (s.length + 1) * (r.length + 3) + (r.length + 3) := by rw [Nat.add_mul]; simp
    simp only [F21_c0, lt_in, cond_true]
    have h1 := skips21_c1 r [] n w y p s (by omega) (by simpa using hr)
    simp only [List.nil_append, List.length_nil] at h1
    rw [show (ofN 0) = 0 from rfl] at h1
    rw [h1, add_in (x := y) (by omega), skp]
    have h2 := skips21_c0 s (p ++ [y]) (n - r.length - 1) y r (by omega) (by simp; omega) hr
    rw [← in_eq] at h2
    rw [h2]
    cases r.any (cut w y) <;> rfl
theorem skips21 {n : Nat} (a : Int) (s r : List Int) (hn : (s.length + 1) * (r.length + 3) ≤ n) (hs : s.length < 1000) (hr : r.length < 1000) : F21 n a s r = some (skp a s r) := by
  unfold F21
  simpa [ofN] using skips21_c0 s [] n a r hn (by simpa using hs) hr

theorem fuel_two {a b : Nat} (ha : a < 1000) (hb : b < 1000) : (a + 1) * (b + 3) ≤ FUEL := by
  have := Nat.mul_le_mul (show a + 1 ≤ 1000 by omega) (show b + 3 ≤ 1003 by omega)
  have h2 : 1000 * 1003 ≤ FUEL := by unfold FUEL; omega
  omega

theorem mkl_len (w : Int) : ∀ (r acc : List Int), (mkl w acc r).length ≤ acc.length + r.length
  | [], acc => by simp [mkl]
  | x :: r, acc => by
    rw [mkl]
    split
    · have := mkl_len w r (acc ++ [x]); simp at this ⊢; omega
    · simp
theorem made_len (a b : Int) (l : List Int) : (made a b l).length ≤ 1 + l.length := by
  unfold made
  split
  · have := mkl_len a l [b]; simp at this ⊢; omega
  · simp
theorem drp_len (v : Int) (l : List Int) : (drp v l).length ≤ l.length := List.length_filter_le _ _

theorem plain3 (n : Nat) (a b c : Int) (l k : List Int) : F3 n a b c l k = some true := by
  unfold F3
  simp only [wakes8, Option.bind_some]
  by_cases h1 : l.length ≤ 20
  · have e1 : igt (ofN l.length) 20 = false := by simp [igt, ofN]; omega
    rw [e1, cond_false]
    by_cases h2 : k.length ≤ 20
    · have e2 : igt (ofN k.length) 20 = false := by simp [igt, ofN]; omega
      rw [e2, cond_false]
      have hl : l.length < 1000 := by omega
      have hd := drp_len c l
      have hm := made_len a b l
      rw [first9 fuel_big, first10, make12 fuel_big a b l hl, make13 fuel_big a b l hl]
      simp only [Option.bind_some]
      rw [ints11 fuel_big _ _ (by omega), right14 fuel_big a l hl, right15 fuel_big a l hl, drop16 fuel_big l c hl, drop17 fuel_big l c hl]
      simp only [Option.bind_some]
      rw [ints11 fuel_big _ _ (by omega), last18 fuel_big a l hl, last19 _ a l hl, skips20 a l k (fuel_two hl (by omega)) hl (by omega), skips21 a l k (fuel_two hl (by omega)) hl (by omega)]
      simp [ieq, beqb]
    · have e2 : igt (ofN k.length) 20 = true := by simp [igt, ofN]; omega
      rw [e2, cond_true]
  · have e1 : igt (ofN l.length) 20 = true := by simp [igt, ofN]; omega
    rw [e1, cond_true]

end Go.Proofs.Ytglcodeinalnjaa
