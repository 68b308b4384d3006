/-
  Chapter 12, in plain words: the law ListIn.
-/
import Derived.Test.YtglcodeinalnjaaPo
namespace Go.Proofs.Ytglcodeinalnjaa
open Go Go.RowKit

/-- Between two that rise, seen from elsewhere. -/
theorem cut_rise (a p y b : Int) (h : fr a p < fr a y) : cut p y b = (decide (fr a p < fr a b) && decide (fr a b < fr a y)) := by
  have h1 : ¬ fr p y = 0 := by unfold fr at *; omega
  have h2 : (0 < fr p b ∧ fr p b < fr p y) ↔ (fr a p < fr a b ∧ fr a b < fr a y) := by unfold fr at *; omega
  unfold cut
  rw [decide_eq_false h1, Bool.false_or, ← Bool.decide_and, ← Bool.decide_and]
  exact decide_eq_decide.2 h2

theorem rgt_last (a : Int) : ∀ (l : List Int) (p : Int), rgt a (fr a p) l = true → fr a p ≤ fr a (l.getLastD p)
  | [], _, _ => Int.le_refl _
  | y :: s, p, h => by
    rw [rgt, Bool.and_eq_true, Bool.and_eq_true, decide_eq_true_eq] at h
    have := rgt_last a s y h.2.2
    rw [List.getLastD_cons]; omega

theorem rgt_none (a b : Int) : ∀ (s : List Int) (y : Int), rgt a (fr a y) s = true → fr a b < fr a y → (s.any fun y => decide (fr a y = fr a b)) = false
  | [], _, _, _ => rfl
  | z :: s, y, h, hb => by
    rw [rgt, Bool.and_eq_true, Bool.and_eq_true, decide_eq_true_eq] at h
    rw [List.any_cons, rgt_none a b s z h.2.2 (by omega), decide_eq_false (by omega : ¬ fr a z = fr a b)]; rfl
theorem last_mem : ∀ (s : List Int) (y : Int), s.getLastD y ∈ y :: s
  | [], _ => by simp
  | z :: s, y => by rw [List.getLastD_cons]; exact List.mem_cons_of_mem _ (last_mem s z)

theorem skp_one (a b : Int) : ∀ (l : List Int) (p : Int), rgt a (fr a p) l = true → skp p l [b] = (decide (fr a p < fr a b) && (decide (fr a b < fr a (l.getLastD p)) && !(l.any fun y => decide (fr a y = fr a b))))
  | [], p, _ => by
    rw [show (([] : List Int).getLastD p) = p from rfl, skp]
    by_cases h : fr a p < fr a b
    · rw [decide_eq_false (by omega : ¬ fr a b < fr a p)]; simp
    · rw [decide_eq_false h]; rfl
  | y :: s, p, h => by
    rw [rgt, Bool.and_eq_true, Bool.and_eq_true, decide_eq_true_eq] at h
    obtain ⟨_, h1, h2⟩ := h
    have hl := rgt_last a s y h2
    rw [skp, skp_one a b s y h2, List.any_cons, List.any_nil, Bool.or_false, cut_rise a p y b h1, List.getLastD_cons, List.any_cons]
    by_cases c1 : fr a b < fr a y
    · have hn : (s.any fun y => decide (fr a y = fr a b)) = false := by
        exact rgt_none a b s y h2 c1
      rw [hn, decide_eq_true c1, decide_eq_false (by omega : ¬ fr a y < fr a b), decide_eq_true (by omega : fr a b < fr a (s.getLastD y)), decide_eq_false (by omega : ¬ fr a y = fr a b)]
      cases decide (fr a p < fr a b) <;> rfl
    · rw [decide_eq_false c1, Bool.and_false, Bool.false_or]
      by_cases c2 : fr a y = fr a b
      · rw [decide_eq_true c2, decide_eq_false (by omega : ¬ fr a y < fr a b)]; simp
      · rw [decide_eq_false c2, decide_eq_true (by omega : fr a y < fr a b), decide_eq_true (by omega : fr a p < fr a b), Bool.false_or]

/-- Whether one is on a list. -/
def onl (v : Int) (l : List Int) : Bool := l.any fun y => decide (y = v)

theorem skp_nil : ∀ (l : List Int) (p : Int), skp p l [] = false
  | [], _ => rfl
  | y :: s, p => by rw [skp, skp_nil s y]; rfl

theorem rgt_isP (a : Int) : ∀ (l : List Int) (d : Int), rgt a d l = true → ∀ y ∈ l, isP y = true
  | [], _, _, y, hy => by cases hy
  | x :: s, d, h, y, hy => by
    rw [rgt, Bool.and_eq_true, Bool.and_eq_true] at h
    rcases List.mem_cons.1 hy with rfl | hy
    · exact h.1
    · exact rgt_isP a s _ h.2.2 y hy

/-- What the law looks at. -/
theorem in_plain (a b : Int) (l : List Int) (h : rgt a 0 l = true) :
    skp a l [b] = (!(decide (pl b = pl a) || onl (pl b) l) && (decide (l ≠ []) && decide (fr a b ≤ fr a (l.getLastD a)))) := by
  have h0 : fr a a = 0 := by unfold fr; omega
  have hb := fr_bd a b
  rw [skp_one a b l a (by rw [h0]; exact h), h0]
  have e1 : (l.any fun y => decide (fr a y = fr a b)) = onl (pl b) l := by
    unfold onl
    have hp := rgt_isP a l 0 h
    clear h
    induction l with
    | nil => rfl
    | cons y s ih =>
      rw [List.any_cons, List.any_cons, ih fun z hz => hp z (List.mem_cons_of_mem _ hz)]
      have := isP_pl (hp y (List.mem_cons_self ..))
      congr 1
      apply decide_eq_decide.2
      unfold fr pl at *; omega
  rw [e1]
  by_cases h1 : pl b = pl a
  · have : fr a b = 0 := by unfold fr pl at *; omega
    rw [decide_eq_true h1, this]; rfl
  · have h2 : 0 < fr a b := by unfold fr pl at *; omega
    rw [decide_eq_false h1, decide_eq_true h2, Bool.true_and, Bool.false_or]
    cases ho : onl (pl b) l
    · cases l with
      | nil => simp [h0]; omega
      | cons y s =>
        have hne : fr a b ≠ fr a ((y :: s).getLastD a) := by
          intro hh
          have hm : (y :: s).getLastD a ∈ y :: s := by
            rw [List.getLastD_cons]; exact last_mem s y
          have h3 : onl (pl b) (y :: s) = true := by
            unfold onl
            rw [List.any_eq_true]
            refine ⟨_, hm, decide_eq_true ?_⟩
            have := isP_pl (rgt_isP a _ 0 h _ hm)
            unfold fr pl at *; omega
          rw [h3] at ho; cases ho
        simp only [Bool.not_false, Bool.and_true, Bool.true_and, ne_eq, reduceCtorEq, not_false_eq_true, decide_true]
        apply decide_eq_decide.2
        omega
    · simp

theorem end7 (n : Nat) (a b : Int) (l : List Int) (o : Bool) (hl : l.length ≤ 10) (h : rgt a 0 l = true) (ho : o = (decide (pl b = pl a) || onl (pl b) l)) : F7_c0 (n + 1) a l b (pl a) (pl b) o (ofN l.length) = some true := by
  have hl1 : l.length < 1000 := by omega
  simp only [F7_c0, lt_out, cond_false]
  rw [skips20 a l [b] (fuel_two hl1 (by simp)) hl1 (by simp), skips20 a l [] (fuel_two hl1 (by simp)) hl1 (by simp), in_plain a b l h, skp_nil, wakes8, ← ho, sub_one hl1]
  simp only [Option.bind_some, far24]
  cases l with
  | nil => cases o <;> rfl
  | cons y s =>
    have e1 : ieq (ofN (y :: s).length) 0 = false := by simp [ieq, ofN]; omega
    have e2 : inb (((y :: s).length : Int) - 1) (y :: s).length = true := by simp [inb]; omega
    have e3 : (y :: s).getD (((y :: s).length : Int) - 1).toNat 0 = (y :: s).getLastD a := by
      have : (((y :: s).length : Int) - 1).toNat = s.length := by simp
      rw [this, List.getLastD_cons, List.getLastD_eq_getLast?, List.getLast?_eq_getElem?]
      cases s with
      | nil => rfl
      | cons z s => simp
    rw [e1, cond_false, e2, cond_true, e3, fr_pl, fr_pl]
    have e4 : fr a (pl b) = fr a b := by unfold fr pl; omega
    rw [e4]
    cases o
    · simp only [Bool.not_false, cond_true, Bool.true_and, ne_eq, reduceCtorEq, not_false_eq_true, decide_true, Option.bind_some]
      have e5 : (!(igt (fr a b) (fr a ((y :: s).getLastD a)))) = decide (fr a b ≤ fr a ((y :: s).getLastD a)) := by
        by_cases c : fr a b ≤ fr a ((y :: s).getLastD a)
        · have : igt (fr a b) (fr a ((y :: s).getLastD a)) = false := by simp only [igt, decide_eq_false_iff_not]; omega
          rw [this, decide_eq_true c]; rfl
        · have : igt (fr a b) (fr a ((y :: s).getLastD a)) = true := by simp only [igt, decide_eq_true_eq]; omega
          rw [this, decide_eq_false c]; rfl
      rw [e5]
      cases decide (fr a b ≤ fr a ((y :: s).getLastD a)) <;> rfl
    · rfl

theorem law7_c : ∀ (r p : List Int) (n : Nat) (a b : Int) (o : Bool), r.length < n → (p ++ r).length ≤ 10 → rgt a 0 (p ++ r) = true → o = (decide (pl b = pl a) || onl (pl b) p) → F7_c0 n a (p ++ r) b (pl a) (pl b) o (ofN p.length) = some true
  | _, _, 0, _, _, _, h, _, _, _ => by omega
  | [], p, n + 1, a, b, o, _, hb, hr, ho => by rw [List.append_nil] at hb hr ⊢; exact end7 n a b p o hb hr ho
  | x :: r, p, n + 1, a, b, o, h, hb, hr, ho => by
    have h1 := fun o' => law7_c r (p ++ [x]) n a b o' (by simp at h; omega) (by simpa using hb) (by rw [← in_eq]; exact hr)
    rw [← in_eq] at h1
    simp only [List.length_append, List.length_cons] at h hb
    have ho2 : onl (pl b) (p ++ [x]) = (onl (pl b) p || decide (x = pl b)) := by unfold onl; simp
    simp only [F7_c0, lt_in, inb_in, get_in, cond_true]
    rw [add_in (x := x) (by omega)]
    cases o
    · rw [cond_false]
      refine h1 _ ?_
      rw [ho2, ← Bool.or_assoc, ← ho, Bool.false_or]
      simp only [ieq]
      by_cases c : x = pl b <;> simp [c]
    · rw [cond_true]
      refine h1 _ ?_
      rw [ho2, ← Bool.or_assoc, ← ho, Bool.true_or]

theorem plain7 (a : Int) (l : List Int) (b : Int) : F7 FUEL a l b = some true := by
  unfold F7
  rw [wakes8, Option.bind_some]
  by_cases h1 : l.length ≤ 10
  · have e1 : igt (ofN l.length) 10 = false := by simp [igt, ofN]; omega
    rw [e1, cond_false, right15 fuel_big a l (by omega), Option.bind_some]
    cases hg : good a l
    · rfl
    · simp only [Bool.not_true, cond_false, place22, Option.bind_some]
      have := fuel_big
      have hr : rgt a 0 l = true := by unfold good at hg; rw [Bool.and_eq_true] at hg; exact hg.1
      have h := law7_c l [] FUEL a b (ieq (pl b) (pl a)) (by omega) (by simpa using h1) hr (by simp only [ieq, onl, List.any_nil, Bool.or_false]; by_cases c : pl b = pl a <;> simp [c])
      exact h
  · have e1 : igt (ofN l.length) 10 = true := by simp [igt, ofN]; omega
    rw [e1, cond_true]

end Go.Proofs.Ytglcodeinalnjaa
