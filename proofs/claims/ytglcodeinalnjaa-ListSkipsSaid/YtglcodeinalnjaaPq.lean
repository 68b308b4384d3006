/-
  Chapter 12, in plain words: the law ListMade.
-/
import Derived.Test.YtglcodeinalnjaaPp
namespace Go.Proofs.Ytglcodeinalnjaa
open Go Go.RowKit

theorem mkl_split (w : Int) : ∀ (r q : List Int) (v : Int), (q ++ [v]).length ≤ 3 → ∃ s t, r = s ++ t ∧ mkl w (q ++ [v]) r = q ++ [v] ++ s ∧ rgt w (fr w v) s = true ∧ (q ++ [v] ++ s).length ≤ 3 ∧
    ((q ++ [v] ++ s).length < 3 → ∀ x t', t = x :: t' → isP x = true → ¬ fr w (s.getLastD v) < fr w x)
  | [], q, v, h => ⟨[], [], rfl, by simp [mkl], rfl, by simpa using h, fun _ x t' h => by cases h⟩
  | x :: r, q, v, h => by
    by_cases c : (q ++ [v]).length < 3 ∧ isP x = true ∧ fr w v < fr w x
    · obtain ⟨s, t, h1, h2, h3, h4, h5⟩ := mkl_split w r (q ++ [v]) x (by simp at c ⊢; omega)
      refine ⟨x :: s, t, by rw [h1]; rfl, ?_, ?_, ?_, ?_⟩
      · rw [mkl, show (q ++ [v]).getLastD 0 = v by simp, if_pos c, h2]; simp
      · rw [rgt, c.2.1, decide_eq_true c.2.2, h3]; rfl
      · simpa using h4
      · rw [List.getLastD_cons]
        intro hl; exact h5 (by simpa using hl)
    · refine ⟨[], x :: r, rfl, ?_, rfl, by simpa using h, ?_⟩
      · rw [mkl, show (q ++ [v]).getLastD 0 = v by simp, if_neg c]; simp
      · intro hl y t' hy hp hlt
        cases hy
        exact c ⟨by simpa using hl, hp, hlt⟩

theorem tail5 {a v y : Int} {p : List Int} (hp : p.length < 900) (c d : Bool) (hc : c = true) (hd : d = true) (hy : y = v) :
    (Option.bind (F18 FUEL a (p ++ [v])) fun y12 => bif c then bif d then bif ieq y12 y then Option.bind (F8 FUEL) fun y13 => some y13 else some false else none else none) = some true := by
  subst hc hd hy
  rw [last18 fuel_big a _ (by simp; omega), wakes8]
  simp [ieq]

theorem end5 (n : Nat) (a v : Int) (p p' t : List Int) (hpl : p.length = p'.length) (hl : (p' ++ t).length ≤ 20)
    (ht : (p ++ [v]).length < 3 → ∀ x t', t = x :: t' → isP x = true → ¬ fr a v < fr a x) :
    F5_c0 (n + 1) a (p' ++ t) (pl a) (ofN (p ++ [v]).length) (p ++ [v]) = some true := by
  have hp : p.length < 900 := by simp at hl; omega
  have e3 : isub .i64 (ofN (p ++ [v]).length) 1 = ofN p.length := by
    rw [sub_one (by simp; omega)]; simp [ofN]
  have e4 : ilt (ofN (p ++ [v]).length) (ofN (p ++ [v]).length) = false := by simp [ilt]
  have e5 : (p ++ [v]).getD (ofN p.length).toNat 0 = v := get_in
  have e6 : inb (ofN p.length) (p ++ [v]).length = true := inb_in
  have e7 : nlt (ofN p.length).toNat (p ++ [v]).length = true := nlt_in
  have e8 := @tail5 a v v p hp true true rfl rfl rfl
  simp only [F5_c0, e4, cond_false, e3, e5, e6, e7, cond_true] at e8 ⊢
  rw [e8]
  by_cases h3 : (p ++ [v]).length < 3
  · have i1 : ilt (ofN (p ++ [v]).length) 3 = true := by simp [ilt, ofN] at h3 ⊢; omega
    rw [i1, cond_true]
    cases t with
    | nil =>
      have i2 : ile (ofN (p ++ [v]).length) (ofN (p' ++ ([] : List Int)).length) = false := by simp [ile, ofN]; omega
      rw [i2, cond_false]
    | cons x t' =>
      have i2 : ile (ofN (p ++ [v]).length) (ofN (p' ++ x :: t').length) = true := by simp [ile, ofN]; omega
      have i3 : inb (ofN p.length) (p' ++ x :: t').length = true := by rw [hpl]; exact inb_in
      have i4 : (p' ++ x :: t').getD (ofN p.length).toNat 0 = x := by rw [hpl]; exact get_in
      simp only [i2, i3, i4, cond_true, far24, Option.bind_some]
      by_cases g1 : 0 ≤ x
      · by_cases g2 : x < 65536
        · have := ht h3 x t' rfl (by unfold isP; simp [g1, g2])
          have i5 : ige x 0 = true := by simp [ige, g1]
          have i6 : ilt x 65536 = true := by simp [ilt, g2]
          have i7 : igt (fr (pl a) x) (fr (pl a) v) = false := by simp only [igt, fr_pl, decide_eq_false_iff_not]; omega
          rw [i5, i6, i7]; rfl
        · have i5 : ige x 0 = true := by simp [ige, g1]
          have i6 : ilt x 65536 = false := by simp [ilt]; omega
          rw [i5, i6]; rfl
      · have i5 : ige x 0 = false := by simp [ige]; omega
        rw [i5]; rfl
  · have i1 : ilt (ofN (p ++ [v]).length) 3 = false := by simp [ilt, ofN] at h3 ⊢; omega
    rw [i1, cond_false]

theorem law5_c : ∀ (r p p' t : List Int) (v : Int) (n : Nat) (a : Int), r.length < n → p.length = p'.length → (p' ++ (r ++ t)).length ≤ 20 → rgt a (fr a v) r = true →
    ((p ++ [v] ++ r).length < 3 → ∀ x t', t = x :: t' → isP x = true → ¬ fr a (r.getLastD v) < fr a x) →
    F5_c0 n a (p' ++ (r ++ t)) (pl a) (ofN (p ++ [v]).length) (p ++ [v] ++ r) = some true
  | _, _, _, _, _, 0, _, h, _, _, _, _ => by omega
  | [], p, p', t, v, n + 1, a, _, hp, hl, _, ht => by
    rw [List.append_nil] at ht ⊢
    exact end5 n a v p p' t hp hl ht
  | x :: r, p, p', t, v, n + 1, a, h, hp, hl, hr, ht => by
    rw [rgt, Bool.and_eq_true, Bool.and_eq_true, decide_eq_true_eq] at hr
    obtain ⟨_, h1, h2⟩ := hr
    have ih := law5_c r (p ++ [v]) (p' ++ [x]) t x n a (by simp at h; omega) (by simp [hp]) (by simpa using hl) h2 (by
      intro h3; rw [List.getLastD_cons] at ht; exact ht (by simpa using h3))
    have e1 : p' ++ [x] ++ (r ++ t) = p' ++ (x :: r ++ t) := by simp
    have e2 : p ++ [v] ++ [x] ++ r = p ++ [v] ++ x :: r := by simp
    rw [e1, e2] at ih
    have hl2 : p.length < 900 := by simp at hl; omega
    have e3 : isub .i64 (ofN (p ++ [v]).length) 1 = ofN p.length := by
      rw [sub_one (by simp; omega)]; simp [ofN]
    have f1 : inb (ofN p.length) (p' ++ (x :: r ++ t)).length = true := by rw [hp]; exact inb_in
    have f2 : (p' ++ (x :: r ++ t)).getD (ofN p.length).toNat 0 = x := by rw [hp]; exact get_in
    have f3 : inb (ofN p.length) (p ++ [v] ++ x :: r).length = true := by rw [show p ++ [v] ++ x :: r = p ++ v :: (x :: r) by simp]; exact inb_in
    have f4 : nlt (ofN p.length).toNat (p ++ [v] ++ x :: r).length = true := by rw [show p ++ [v] ++ x :: r = p ++ v :: (x :: r) by simp]; exact nlt_in
    have f5 : (p ++ [v] ++ x :: r).getD (ofN p.length).toNat 0 = v := by rw [show p ++ [v] ++ x :: r = p ++ v :: (x :: r) by simp]; exact get_in
    have g1 : ine x x = false := by simp [ine]
    have g2 : ile (fr (pl a) x) (fr (pl a) v) = false := by simp only [ile, fr_pl, decide_eq_false_iff_not]; omega
    have g3 : ieq x (pl a) = false := by
      have : x ≠ pl a := by
        intro hh; rw [hh, fr_self] at h1
        have := fr_bd a v; omega
      simp [ieq, this]
    have c1 : ilt (ofN (p ++ [v]).length) (ofN (p ++ [v] ++ x :: r).length) = true := lt_in
    have c2 : inb (ofN (p ++ [v]).length) (p ++ [v] ++ x :: r).length = true := inb_in
    have c3 : nlt (ofN (p ++ [v]).length).toNat (p ++ [v] ++ x :: r).length = true := nlt_in
    have c4 : (p ++ [v] ++ x :: r).getD (ofN (p ++ [v]).length).toNat 0 = x := get_in
    have c5 : iadd .i64 (ofN (p ++ [v]).length) 1 = ofN (p ++ [v] ++ [x]).length := add_in (by simp; omega)
    simp only [F5_c0, c1, c2, c3, c4, c5, cond_true, cond_false, e3, f1, f2, f3, f4, f5, g1, g2, g3, far24, Option.bind_some]
    exact ih

theorem plain5 (a b : Int) (l : List Int) : F5 FUEL a b l = some true := by
  unfold F5
  rw [wakes8]
  simp only [Option.bind_some]
  by_cases h1 : l.length ≤ 20
  · have e1 : igt (ofN l.length) 20 = false := by simp [igt, ofN]; omega
    rw [e1, cond_false, make12 fuel_big a b l (by omega), Option.bind_some, place22, Option.bind_some]
    have z : ieq (ofN ([] : List Int).length) 0 = true := rfl
    by_cases hb : isP b = true ∧ b ≠ pl a
    · obtain ⟨k1, k2, k3⟩ := isP_pl hb.1
      have i1 : ilt b 0 = false := by simp [ilt]; omega
      have i2 : igt b 65535 = false := by simp [igt]; omega
      have i3 : ieq b (pl a) = false := by simp [ieq, hb.2]
      obtain ⟨s, t, h2, h3, h4, h5, h6⟩ := mkl_split a l [] b (by simp)
      simp only [List.nil_append] at h3 h5 h6
      have hm : made a b l = [b] ++ s := by unfold made; rw [if_pos hb, h3]
      have hs : s.length ≤ 2 := by simp at h5; omega
      rw [i1, i2, i3, hm, h2]
      simp only [cond_false]
      have lb : ([b] ++ s).length = s.length + 1 := by simp
      have j1 : ilt (ofN ([b] ++ s).length) 1 = false := by rw [lb]; exact decide_eq_false (by simp only [ofN]; omega)
      have j2 : igt (ofN ([b] ++ s).length) 3 = false := by rw [lb]; exact decide_eq_false (by simp only [ofN]; omega)
      have j3 : iadd .i64 (ofN (s ++ t).length) 1 = ofN ((s ++ t).length + 1) := by
        simp only [iadd, ofN]; rw [← h2, wrap_mid (by omega) (by omega)]; simp
      have j4 : igt (ofN ([b] ++ s).length) (ofN ((s ++ t).length + 1)) = false := by simp only [igt, ofN, decide_eq_false_iff_not, List.length_append, List.length_cons, List.length_nil]; omega
      have j5 : inb 0 ([b] ++ s).length = true := by simp [inb]
      have j6 : nlt (Int.toNat 0) ([b] ++ s).length = true := by simp [nlt]
      have j7 : ine (([b] ++ s).getD (Int.toNat 0) 0) b = false := by simp [ine]
      have hg : good a ([b] ++ s) = true := by
        unfold good
        have : 0 < fr a b := by
          have := hb.2
          unfold fr pl at *; omega
        rw [Bool.and_eq_true, decide_eq_true_eq, List.singleton_append, rgt, hb.1, decide_eq_true this, h4]
        exact ⟨rfl, by simpa using h5⟩
      rw [j1, j2, j3, j4, j5, j6, j7, right14 fuel_big a _ (by simp; omega), hg]
      simp only [cond_false, cond_true, Option.bind_some, Bool.not_true]
      have := fuel_big
      exact law5_c s [] [] t b FUEL a (by omega) rfl (by rw [← h2]; simpa using h1) h4 (by simpa using h6)
    · have hm : made a b l = [] := by unfold made; rw [if_neg hb]
      rw [hm, z]
      simp only [cond_true]
      by_cases c1 : b < 0
      · have i1 : ilt b 0 = true := by simp [ilt, c1]
        rw [i1, cond_true]
      · have i1 : ilt b 0 = false := by simp only [ilt, decide_eq_false_iff_not]; exact c1
        rw [i1, cond_false]
        by_cases c2 : b > 65535
        · have i2 : igt b 65535 = true := by simp [igt]; omega
          rw [i2, cond_true]
        · have i2 : igt b 65535 = false := by simp [igt]; omega
          have hb2 : isP b = true := by unfold isP; simp; omega
          have i3 : ieq b (pl a) = true := by
            simp only [ieq, beq_iff_eq]
            exact Decidable.byContradiction fun hh => hb ⟨hb2, hh⟩
          rw [i2, i3]; rfl
  · have e1 : igt (ofN l.length) 20 = true := by simp [igt, ofN]; omega
    rw [e1, cond_true]

end Go.Proofs.Ytglcodeinalnjaa
