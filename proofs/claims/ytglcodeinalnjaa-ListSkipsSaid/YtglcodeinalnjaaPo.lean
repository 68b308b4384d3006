/-
  Chapter 12, in plain words: the law ListDrop.
-/
import Derived.Test.YtglcodeinalnjaaPn
namespace Go.Proofs.Ytglcodeinalnjaa
open Go Go.RowKit

theorem drp_drp (v : Int) (l : List Int) : drp v (drp v l) = drp v l := by
  unfold drp; rw [List.filter_filter]; congr; funext x; simp

/-- A row that rises goes on rising without one. -/
theorem rgt_drp (w v : Int) : ∀ (l : List Int) (d d' : Int), d' ≤ d → rgt w d l = true → rgt w d' (drp v l) = true
  | [], _, _, _, _ => rfl
  | x :: l, d, d', hd, h => by
    rw [rgt, Bool.and_eq_true, Bool.and_eq_true, decide_eq_true_eq] at h
    obtain ⟨h1, h2, h3⟩ := h
    rw [drp_cons]
    split
    · rw [rgt, h1, decide_eq_true (by omega : d' < fr w x), rgt_drp w v l _ _ (Int.le_refl _) h3]; rfl
    · exact rgt_drp w v l _ _ (by omega) h3
theorem good_drp (a v : Int) (l : List Int) (h : good a l = true) : good a (drp v l) = true := by
  unfold good at *
  rw [Bool.and_eq_true, decide_eq_true_eq] at h ⊢
  exact ⟨rgt_drp a v l 0 0 (Int.le_refl _) h.1, Nat.le_trans (drp_len v l) h.2⟩

/-- The law's end, when all has been read. -/
def fin6 (a : Int) (l : List Int) (v : Int) : Option Bool := F6_c0 2001 a l v (ofN (drp v l).length) (ofN l.length) (drp v l)

theorem end6 (n : Nat) (a : Int) (l : List Int) (v : Int) (hl : l.length ≤ 20) : F6_c0 (n + 1) a l v (ofN (drp v l).length) (ofN l.length) (drp v l) = some true := by
  have hd := drp_len v l
  have hl1 : l.length < 1000 := by omega
  have e1 : ieq (ofN (drp v l).length) (ofN (drp v l).length) = true := by simp [ieq]
  have e2 : igt (ofN (drp v l).length) 0 = (fst (drp v l)).2 := by
    cases drp v l with
    | nil => rfl
    | cons x r => simp [igt, ofN, fst]
  have e3 : ∀ b : Bool, beqb b b = true := fun b => by simp [beqb]
  simp only [F6_c0, lt_out, cond_false]
  rw [first9 fuel_big, right14 fuel_big a l hl1, right14 fuel_big a _ (by omega : (drp v l).length < 1000), drop16 fuel_big _ v (by omega), drp_drp, wakes8]
  simp only [Option.bind_some]
  rw [ints11 fuel_big _ _ (by omega), e1, e2, e3]
  have e4 : (drp v l == drp v l) = true := beq_self_eq_true _
  rw [e4]
  have hg := good_drp a v l
  cases hx : drp v l with
  | nil =>
    have hg0 : good a [] = true := rfl
    rw [hg0]
    cases good a l <;> rfl
  | cons x r =>
    have i1 : inb 0 (x :: r).length = true := by simp [inb]
    have i2 : nlt (Int.toNat 0) (x :: r).length = true := by simp [nlt]
    have i3 : ieq x ((x :: r).getD (Int.toNat 0) 0) = true := by simp [ieq]
    simp only [fst, Bool.not_true, cond_true, cond_false, i1, i2, i3]
    cases h : good a l
    · rfl
    · have := hg h
      rw [hx] at this
      rw [this]; rfl

theorem law6_c : ∀ (r p : List Int) (n : Nat) (a v : Int), r.length < n → (p ++ r).length ≤ 20 → F6_c0 n a (p ++ r) v (ofN (drp v p).length) (ofN p.length) (drp v (p ++ r)) = some true
  | _, _, 0, _, _, h, _ => by omega
  | [], p, n + 1, a, v, _, hb => by rw [List.append_nil] at hb ⊢; exact end6 n a p v hb
  | x :: r, p, n + 1, a, v, h, hb => by
    have h1 := law6_c r (p ++ [x]) n a v (by simp at h; omega) (by simpa using hb)
    rw [← in_eq] at h1
    simp only [List.length_append, List.length_cons] at h hb
    have hp := drp_len v p
    have ha : drp v (p ++ x :: r) = drp v p ++ drp v (x :: r) := by unfold drp; rw [List.filter_append]
    have ha1 : drp v (p ++ [x]) = drp v p ++ drp v [x] := by unfold drp; rw [List.filter_append]
    simp only [F6_c0, lt_in, inb_in, get_in, cond_true]
    rw [add_in (x := x) (by omega)]
    by_cases hx : x = v
    · have e1 : ieq x v = true := by simp [ieq, hx]
      have e2 : drp v [x] = [] := by simp [drp, hx]
      rw [ha1, e2, List.append_nil] at h1
      rw [e1, cond_true, h1]
    · have e1 : ieq x v = false := by simp [ieq, hx]
      have e2 : drp v [x] = [x] := by simp [drp, hx]
      have e3 : drp v (x :: r) = x :: drp v r := by rw [drp_cons]; simp [hx]
      rw [e1, cond_false]
      have e4 : ige (ofN (drp v p).length) (ofN (drp v p ++ x :: drp v r).length) = false := by simp [ige, ofN]; omega
      rw [ha1, e2] at h1
      rw [ha, e3] at h1 ⊢
      have e5 : ine x x = false := by simp [ine]
      simp only [e4, inb_in, nlt_in, get_in, cond_true, cond_false, e5]
      rw [add_in (x := x) (by omega)]
      exact h1

theorem plain6 (a : Int) (l : List Int) (v : Int) : F6 FUEL a l v = some true := by
  unfold F6
  rw [wakes8, Option.bind_some]
  by_cases h1 : l.length ≤ 20
  · have e1 : igt (ofN l.length) 20 = false := by simp [igt, ofN]; omega
    rw [e1, cond_false, drop16 fuel_big l v (by omega), Option.bind_some]
    have := fuel_big
    have h := law6_c l [] FUEL a v (by omega) (by simpa using h1)
    have e0 : ofN (drp v ([] : List Int)).length = 0 := rfl
    have e2 : ofN ([] : List Int).length = 0 := rfl
    rw [e0, e2, List.nil_append] at h
    exact h
  · have e1 : igt (ofN l.length) 20 = true := by simp [igt, ofN]; omega
    rw [e1, cond_true]

end Go.Proofs.Ytglcodeinalnjaa
