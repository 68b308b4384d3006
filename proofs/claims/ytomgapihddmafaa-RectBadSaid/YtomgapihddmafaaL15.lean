/-
  Chapter 15, in plain words: the five laws.
-/
import Derived.Test.YtomgapihddmafaaPR
namespace Go.Proofs.Ytomgapihddmafaa
open Go Go.RowKit

theorem wakes15 : F9 FUEL = some true := by kernel_rfl

theorem lenN {α : Type} (l : List α) (h : l.length ≤ 60) : igt (ofN l.length) 60 = false := by
  unfold igt ofN; exact decide_eq_false (by omega)
theorem lenN' {α : Type} (l : List α) (h : ¬ l.length ≤ 60) : igt (ofN l.length) 60 = true := by
  unfold igt ofN; exact decide_eq_true (by omega)

theorem great_cases {a1 a2 : List Int} (h : (decide (20 < a1.length) || decide (20 < a2.length)) = false) : a1.length ≤ 20 ∧ a2.length ≤ 20 := by
  simpa using h

theorem plain_RectTells (n : Nat) (a0 : Int) (a1 a2 : List Int) (a3 a4 a5 a6 a7 a8 a9 a10 a11 a12 a13 a14 a15 a16 a17 a18 a19 : Int) (x : Int) (l : List Int) : F3 n a0 a1 a2 a3 a4 a5 a6 a7 a8 a9 a10 a11 a12 a13 a14 a15 a16 a17 a18 a19 x l = some true := by
  unfold F3
  have hf := fuel_big
  rw [great_r, Option.bind_some, wakes15]
  cases hg : (decide (20 < a1.length) || decide (20 < a2.length))
  · rw [cond_false]
    obtain ⟨g1, g2⟩ := great_cases hg
    by_cases h3 : l.length ≤ 60
    · rw [lenN l h3, cond_false]
      rw [asks_p, asks_r _ a0 a1 a2 a3 a4 a5 a6 a7 a8 a9 a10 a11 a12 a13 a14 a15 a16 a17 a18 a19 (by omega), better_p, better_r _ a0 a1 a2 a3 a4 a5 a6 a7 a8 a9 a10 a11 a12 a13 a14 a15 a16 a17 a18 a19 x (by omega), notify_p (by omega) a0 a1 a2 a3 a4 a5 a6 a7 a8 a9 a10 a11 a12 a13 a14 a15 a16 a17 a18 a19 l (by omega) (by omega) (by omega), notify_r (by omega) a0 a1 a2 a3 a4 a5 a6 a7 a8 a9 a10 a11 a12 a13 a14 a15 a16 a17 a18 a19 l (by omega) (by omega) (by omega),
        owns_p, owns_r _ a0 a1 a2 a3 a4 a5 a6 a7 a8 a9 a10 a11 a12 a13 a14 a15 a16 a17 a18 a19 x (by omega), gone_p _ a0 a1 a2 a3 a4 a5 a6 a7 a8 a9 a10 a11 a12 a13 a14 a15 a16 a17 a18 a19 x (by omega) (by omega), gone_r (by omega) a0 a1 a2 a3 a4 a5 a6 a7 a8 a9 a10 a11 a12 a13 a14 a15 a16 a17 a18 a19 x (by omega) (by omega)]
      simp only [Option.bind_some]
      rw [same_r _ _ _ _ _ a4 a5 a6 a7 a8 a9 a10 a11 a12 a13 a14 a15 a16 a17 a18 a19 _ _ _ _ a4 a5 a6 a7 a8 a9 a10 a11 a12 a13 a14 a15 a16 a17 a18 a19 (by omega) (by omega), same_r _ _ _ _ _ a4 a5 a6 a7 a8 a9 a10 a11 a12 a13 a14 a15 a16 a17 a18 a19 _ _ _ _ a4 a5 a6 a7 a8 a9 a10 a11 a12 a13 a14 a15 a16 a17 a18 a19 (by omega) (by omega)]
      have e : ∀ b : Bool, beqb b b = true := fun b => by simp [beqb]
      have e2 : ∀ b : Int, ieq b b = true := fun b => by simp [ieq]
      simp only [e, e2, Option.bind_some, decide_true, cond_true]
    · rw [lenN' l h3, cond_true]; rfl
  · rw [cond_true]; rfl

theorem plain_RectBad (n : Nat) (a0 : Int) (a1 a2 : List Int) (a3 a4 a5 a6 a7 a8 a9 a10 a11 a12 a13 a14 a15 a16 a17 a18 a19 : Int) (x : Int) (l : List Int) (hl : a2.length ≤ 9223372036854775807) : F7 n a0 a1 a2 a3 a4 a5 a6 a7 a8 a9 a10 a11 a12 a13 a14 a15 a16 a17 a18 a19 x l = some true := by
  unfold F7
  have hf := fuel_big
  rw [great_r, Option.bind_some, wakes15]
  cases hg : (decide (20 < a1.length) || decide (20 < a2.length))
  · rw [cond_false]
    obtain ⟨g1, g2⟩ := great_cases hg
    rw [viewR_r (by omega) a0 a1 a2 a3 a4 a5 a6 a7 a8 a9 a10 a11 a12 a13 a14 a15 a16 a17 a18 a19 hl, Option.bind_some]
    cases hr : rightV ⟨a0, a1, a2, a3, a4, a5, a6, a7, a8, a9, a10, a11, a12, a13, a14, a15, a16, a17, a18, a19⟩
    · rw [cond_false]
      by_cases h3 : l.length ≤ 60
      · rw [lenN l h3, cond_false]
        rw [asks_p, better_p, notify_p (by omega) a0 a1 a2 a3 a4 a5 a6 a7 a8 a9 a10 a11 a12 a13 a14 a15 a16 a17 a18 a19 l (by omega) (by omega) (by omega), owns_p, gone_p _ a0 a1 a2 a3 a4 a5 a6 a7 a8 a9 a10 a11 a12 a13 a14 a15 a16 a17 a18 a19 x (by omega) (by omega)]
        simp only [Option.bind_some, askV, ownsV, goneV, hr, Bool.false_and, Bool.false_eq_true, if_false, Bool.not_false, cond_true]
        rw [same_r _ _ _ _ _ a4 a5 a6 a7 a8 a9 a10 a11 a12 a13 a14 a15 a16 a17 a18 a19 _ _ _ _ a4 a5 a6 a7 a8 a9 a10 a11 a12 a13 a14 a15 a16 a17 a18 a19 (by omega) (by omega)]
        have e2 : ∀ b : Int, ieq b b = true := fun b => by simp [ieq]
        simp only [e2, Option.bind_some, decide_true, cond_true]
      · rw [lenN' l h3, cond_true]; rfl
    · rw [cond_true]; rfl
  · rw [cond_true]; rfl

/-! ### The one least far ahead. -/
def fine (id x : Int) : Bool := isP x && decide (x ≠ id)
theorem better_far {id p x : Int} (hid : isP id = true) (hp : oth id p = true) (hx : fine id x = true) : better id p x = (decide (p = -1) || decide (fr x id < fr p id)) := by
  unfold fine at hx
  simp only [Bool.and_eq_true, decide_eq_true_eq] at hx
  unfold better
  rw [hx.1, decide_eq_true hx.2, Bool.true_and, Bool.true_and]
  unfold oth at hp
  simp only [Bool.or_eq_true, Bool.and_eq_true, decide_eq_true_eq] at hp
  rcases hp with hp | ⟨hp1, hp2⟩
  · rw [decide_eq_true hp]; rfl
  · have h1 := isP_iff.1 hid; have h2 := isP_iff.1 hp1; have h3 := isP_iff.1 hx.1
    have h4 := hx.2
    rw [decide_eq_false (by omega : ¬ p = -1), Bool.false_or, Bool.false_or]
    unfold cut fr
    by_cases hc : (id - x) % 65536 < (id - p) % 65536
    · rw [decide_eq_true hc, decide_eq_true (by omega : 0 < (x - p) % 65536), decide_eq_true (by omega : (x - p) % 65536 < (id - p) % 65536)]; simp
    · rw [decide_eq_false hc]
      by_cases h5 : 0 < (x - p) % 65536
      · rw [decide_eq_false (by omega : ¬ (id - p) % 65536 = 0), decide_eq_false (by omega : ¬ (x - p) % 65536 < (id - p) % 65536)]; simp
      · rw [decide_eq_false h5]; rfl
theorem better_bad {id p x : Int} (hx : fine id x = false) : better id p x = false := by
  unfold fine at hx; unfold better
  cases h1 : isP x
  · rfl
  · rw [h1, Bool.true_and] at hx
    rw [hx]; rfl

def bst (id : Int) : Int → List Int → Int
  | p, [] => p
  | p, x :: r => bst id (if fine id x && (decide (p = -1) || decide (fr x id < fr p id)) then x else p) r
theorem ntf_bst {id : Int} (hid : isP id = true) : ∀ (l : List Int) (p : Int), oth id p = true → ntf id p l = bst id p l
  | [], _, _ => rfl
  | x :: r, p, hp => by
    rw [ntf, bst]
    cases hx : fine id x
    · rw [better_bad hx]; exact ntf_bst hid r p hp
    · rw [better_far hid hp hx, Bool.true_and]
      split
      · refine ntf_bst hid r x ?_
        unfold fine at hx; unfold oth; rw [hx, Bool.or_true]
      · exact ntf_bst hid r p hp
/-- q is the best of l and p. -/
def Best (id p : Int) (l : List Int) (q : Int) : Prop :=
  (q = p ∨ (q ∈ l ∧ fine id q = true)) ∧ (∀ x ∈ l, fine id x = true → q ≠ -1 ∧ fr q id ≤ fr x id) ∧ (p ≠ -1 → q ≠ -1 ∧ fr q id ≤ fr p id)
theorem fine_ne {id x : Int} (h : fine id x = true) : x ≠ -1 := by
  unfold fine at h; simp only [Bool.and_eq_true] at h
  have := isP_iff.1 h.1; omega
theorem bst_ok {id : Int} : ∀ (l : List Int) (p : Int), Best id p l (bst id p l)
  | [], p => ⟨.inl rfl, fun x hx => by simp at hx, fun h => ⟨h, Int.le_refl _⟩⟩
  | x :: r, p => by
    rw [bst]
    split
    · rename_i hc
      rw [Bool.and_eq_true] at hc
      obtain ⟨h1, h2⟩ := hc
      obtain ⟨b1, b2, b3⟩ := bst_ok r x
      have b3' := b3 (fine_ne h1)
      refine ⟨?_, fun y hy hf => ?_, fun hp => ?_⟩
      · rcases b1 with b1 | ⟨b1, b4⟩
        · rw [b1]; exact .inr ⟨by simp, h1⟩
        · exact .inr ⟨by simp [b1], b4⟩
      · rcases List.mem_cons.1 hy with rfl | hy
        · exact b3'
        · exact b2 y hy hf
      · refine ⟨b3'.1, ?_⟩
        rw [decide_eq_false hp, Bool.false_or, decide_eq_true_eq] at h2
        have := b3'.2
        omega
    · rename_i hc
      obtain ⟨b1, b2, b3⟩ := bst_ok r p
      refine ⟨b1.imp (fun h => h) fun h => ⟨by simp [h.1], h.2⟩, fun y hy hf => ?_, b3⟩
      rcases List.mem_cons.1 hy with rfl | hy
      · rw [hf, Bool.true_and, Bool.not_eq_true, Bool.or_eq_false_iff, decide_eq_false_iff_not, decide_eq_false_iff_not] at hc
        have := b3 hc.1
        exact ⟨this.1, by omega⟩
      · exact b2 y hy hf
theorem fr_inj {id a b : Int} (ha : isP a = true) (hb : isP b = true) (h : fr a id = fr b id) : a = b := by
  have := isP_iff.1 ha; have := isP_iff.1 hb; unfold fr at h; omega
theorem best_uniq {id p : Int} {l l' : List Int} {q q' : Int} (hp : oth id p = true) (hl : ∀ x, x ∈ l ↔ x ∈ l') (h : Best id p l q) (h' : Best id p l' q') : q = q' := by
  obtain ⟨a1, a2, a3⟩ := h
  obtain ⟨b1, b2, b3⟩ := h'
  have isp : ∀ {z : Int}, z ≠ -1 → (z = p ∨ fine id z = true) → isP z = true := by
    intro z hz h
    rcases h with h | h
    · subst h
      unfold oth at hp
      simp only [Bool.or_eq_true, Bool.and_eq_true, decide_eq_true_eq] at hp
      rcases hp with hp | hp
      · exact absurd hp hz
      · exact hp.1
    · unfold fine at h; simp only [Bool.and_eq_true] at h; exact h.1
  by_cases hq : q = -1
  · rcases b1 with b1 | ⟨b1, b4⟩
    · rcases a1 with a1 | ⟨_, a4⟩
      · rw [a1, b1]
      · exact absurd hq (fine_ne a4)
    · exact absurd hq (a2 q' ((hl _).2 b1) b4).1
  · by_cases hq' : q' = -1
    · rcases a1 with a1 | ⟨a1, a4⟩
      · rw [a1] at hq
        exact absurd hq' (b3 hq).1
      · exact absurd hq' (b2 q ((hl _).1 a1) a4).1
    · have l1 : fr q id ≤ fr q' id := by
        rcases b1 with b1 | ⟨b1, b4⟩
        · rw [b1] at hq' ⊢; exact (a3 hq').2
        · exact (a2 q' ((hl _).2 b1) b4).2
      have l2 : fr q' id ≤ fr q id := by
        rcases a1 with a1 | ⟨a1, a4⟩
        · rw [a1] at hq ⊢; exact (b3 hq).2
        · exact (b2 q ((hl _).1 a1) a4).2
      exact fr_inj (id := id) (isp hq (a1.imp (fun h => h) fun h => h.2)) (isp hq' (b1.imp (fun h => h) fun h => h.2)) (by omega)
theorem bst_oth {id p : Int} {l : List Int} (hp : oth id p = true) : oth id (bst id p l) = true := by
  rcases (bst_ok (id := id) l p).1 with h | ⟨_, h⟩
  · rw [h]; exact hp
  · unfold fine at h; unfold oth; rw [h, Bool.or_true]
theorem best_again {id p : Int} {l : List Int} : Best id (bst id p l) l (bst id p l) := by
  obtain ⟨a1, a2, a3⟩ := bst_ok (id := id) l p
  exact ⟨.inl rfl, a2, fun h => ⟨h, Int.le_refl _⟩⟩

theorem room_cons {x : Int} {b : List Int} (h : b.length < 900) : room ([x].length + b.length) 8 = true := room_all (by simp; omega) (by omega)

theorem law4_c (a0 : Int) (a1 a2 : List Int) (a3 a4 a5 a6 a7 a8 a9 a10 a11 a12 a13 a14 a15 a16 a17 a18 a19 : Int) (l : List Int) (hl : l.length ≤ 60) (g1 : a1.length ≤ 20) (g2 : a2.length ≤ 20) (hr : rightV ⟨a0, a1, a2, a3, a4, a5, a6, a7, a8, a9, a10, a11, a12, a13, a14, a15, a16, a17, a18, a19⟩ = true) : ∀ (r p : List Int) (n : Nat) (q : Int), p ++ r = l → r.length < n → bst a0 q r = bst a0 a3 l → (q = -1 ∨ 0 ≤ q) →
    F4_c0 n (p ++ r) q (ofN p.length) a0 a1 a2 a3 a4 a5 a6 a7 a8 a9 a10 a11 a12 a13 a14 a15 a16 a17 a18 a19 p.reverse = some true
  | _, _, 0, _, _, h, _, _ => by omega
  | [], p, n + 1, q, hp, _, hq, _ => by
    have hf := fuel_big
    rw [List.append_nil] at hp
    subst hp
    simp only [F4_c0, List.append_nil, lt_out, cond_false]
    have hid : isP a0 = true := rightV_id hr
    have ho : oth a0 a3 = true := rightV_oth hr
    have hb : q = bst a0 a3 p := hq
    have ob := bst_oth (id := a0) (l := p) ho
    have n1 : ntf a0 a3 p = q := by rw [hb]; exact ntf_bst hid p a3 ho
    have n2 : ntf a0 a3 p.reverse = q := by
      rw [hb, ntf_bst hid p.reverse a3 ho]
      exact best_uniq ho (fun x => by simp) (bst_ok _ _) (bst_ok _ _)
    have n3 : ntf a0 q p = q := by
      rw [hb, ntf_bst hid p _ ob]
      exact best_uniq ob (fun x => Iff.rfl) (bst_ok _ _) best_again
    have r3 : rightV ⟨a0, a1, a2, q, a4, a5, a6, a7, a8, a9, a10, a11, a12, a13, a14, a15, a16, a17, a18, a19⟩ = true := rightV_pred hr (by rw [hb]; exact ob)
    rw [own_r FUEL a0 a1 a2 a3 a4 a5 a6 a7 a8 a9 a10 a11 a12 a13 a14 a15 a16 a17 a18 a19 (by omega) (by omega), notify_p (by omega) a0 a1 a2 a3 a4 a5 a6 a7 a8 a9 a10 a11 a12 a13 a14 a15 a16 a17 a18 a19 p (by omega) (by omega) (by omega), notify_p (by omega) a0 a1 a2 a3 a4 a5 a6 a7 a8 a9 a10 a11 a12 a13 a14 a15 a16 a17 a18 a19 p.reverse (by omega) (by omega) (by simp; omega)]
    simp only [Option.bind_some, hr, if_true, n1, n2]
    rw [same_r _ _ _ _ _ a4 a5 a6 a7 a8 a9 a10 a11 a12 a13 a14 a15 a16 a17 a18 a19 _ _ _ _ a4 a5 a6 a7 a8 a9 a10 a11 a12 a13 a14 a15 a16 a17 a18 a19 (by omega) (by omega), notify_p (by omega) a0 a1 a2 q a4 a5 a6 a7 a8 a9 a10 a11 a12 a13 a14 a15 a16 a17 a18 a19 p (by omega) (by omega) (by omega), viewR_r (by omega) a0 a1 a2 q a4 a5 a6 a7 a8 a9 a10 a11 a12 a13 a14 a15 a16 a17 a18 a19 (by omega), wakes15]
    simp only [Option.bind_some, r3, if_true, n3, decide_true, cond_true]
    rw [same_r _ _ _ _ _ a4 a5 a6 a7 a8 a9 a10 a11 a12 a13 a14 a15 a16 a17 a18 a19 _ _ _ _ a4 a5 a6 a7 a8 a9 a10 a11 a12 a13 a14 a15 a16 a17 a18 a19 (by omega) (by omega)]
    have hne : ine q a0 = true := by
      unfold ine
      rw [bne_iff_ne]
      intro e
      have h1 := isP_iff.1 hid
      unfold oth at ob
      rw [← hb, e] at ob
      simp only [Bool.or_eq_true, Bool.and_eq_true, decide_eq_true_eq] at ob
      rcases ob with h2 | h2
      · omega
      · exact h2.2 rfl
    simp only [Option.bind_some, decide_true, cond_true, hne]
  | x :: r, p, n + 1, q, hp, h, hq, hq0 => by
    have hlen : (p ++ x :: r).length ≤ 60 := by rw [hp]; exact hl
    simp only [List.length_append, List.length_cons] at h hlen
    have go : ∀ q', bst a0 q' r = bst a0 a3 l → (q' = -1 ∨ 0 ≤ q') → F4_c0 n (p ++ x :: r) q' (ofN (p ++ [x]).length) a0 a1 a2 a3 a4 a5 a6 a7 a8 a9 a10 a11 a12 a13 a14 a15 a16 a17 a18 a19 ([x] ++ p.reverse) = some true := by
      intro q' h1 h2
      have := law4_c a0 a1 a2 a3 a4 a5 a6 a7 a8 a9 a10 a11 a12 a13 a14 a15 a16 a17 a18 a19 l hl g1 g2 hr r (p ++ [x]) n q' (by rw [← in_eq]; exact hp) (by omega) h1 h2
      rw [← in_eq] at this
      rw [show [x] ++ p.reverse = (p ++ [x]).reverse by simp]
      exact this
    simp only [F4_c0, lt_in, inb_in, get_in, cond_true, far_r, Option.bind_some]
    rw [room_cons (by simp; omega), add_in (x := x) (by omega), cond_true]
    rw [bst] at hq
    unfold fine at hq
    cases hx : isP x
    · rw [hx] at hq
      simp only [Bool.false_and, Bool.false_eq_true, if_false] at hq
      have g := go q hq hq0
      have : ¬ (0 ≤ x ∧ x < 65536) := fun h => by rw [isP_iff.2 h] at hx; cases hx
      by_cases h0 : 0 ≤ x
      · have e1 : ige x 0 = true := by simpa [ige] using h0
        have e2 : ilt x 65536 = false := by simp [ilt]; omega
        rw [e1, e2, cond_true, cond_false]; exact g
      · have e1 : ige x 0 = false := by simp [ige]; omega
        rw [e1, cond_false]; exact g
    · rw [hx, Bool.true_and] at hq
      obtain ⟨_, h0, h1⟩ := isP_pl hx
      have e1 : ige x 0 = true := by simpa [ige] using h0
      have e2 : ilt x 65536 = true := by simpa [ilt] using h1
      rw [e1, e2, cond_true, cond_true]
      by_cases hi : x = a0
      · have e3 : ine x a0 = false := by simp [ine, hi]
        rw [e3, cond_false]
        simp [hi] at hq
        exact go q hq hq0
      · have e3 : ine x a0 = true := by simpa [ine] using hi
        rw [e3, cond_true]
        rw [decide_eq_true hi, Bool.true_and] at hq
        rcases hq0 with hq0 | hq0
        · have e4 : ilt q 0 = true := by simp [ilt, hq0]
          rw [e4, cond_true]
          simp [hq0] at hq
          exact go x hq (.inr h0)
        · have e4 : ilt q 0 = false := by simp [ilt]; omega
          rw [e4, cond_false, decide_eq_false (by omega : ¬ q = -1), Bool.false_or] at *
          by_cases hc : fr x a0 < fr q a0
          · have e5 : ilt (fr x a0) (fr q a0) = true := by simpa [ilt] using hc
            rw [decide_eq_true hc] at hq
            rw [e5, cond_true]; exact go x hq (.inr h0)
          · have e5 : ilt (fr x a0) (fr q a0) = false := by simpa [ilt] using hc
            rw [decide_eq_false hc] at hq
            rw [e5, cond_false]; exact go q hq (.inr hq0)

theorem plain_RectBest (n : Nat) (a0 : Int) (a1 a2 : List Int) (a3 a4 a5 a6 a7 a8 a9 a10 a11 a12 a13 a14 a15 a16 a17 a18 a19 : Int) (l : List Int) (hl : a2.length ≤ 9223372036854775807) (hn : 1000 < n) : F4 n a0 a1 a2 a3 a4 a5 a6 a7 a8 a9 a10 a11 a12 a13 a14 a15 a16 a17 a18 a19 l = some true := by
  unfold F4
  have hf := fuel_big
  rw [great_r, Option.bind_some, wakes15]
  cases hg : (decide (20 < a1.length) || decide (20 < a2.length))
  · rw [cond_false]
    obtain ⟨g1, g2⟩ := great_cases hg
    rw [viewR_r (by omega) a0 a1 a2 a3 a4 a5 a6 a7 a8 a9 a10 a11 a12 a13 a14 a15 a16 a17 a18 a19 hl, Option.bind_some]
    cases hr : rightV ⟨a0, a1, a2, a3, a4, a5, a6, a7, a8, a9, a10, a11, a12, a13, a14, a15, a16, a17, a18, a19⟩
    · rfl
    · simp only [Bool.not_true, cond_false]
      by_cases h3 : l.length ≤ 60
      · rw [lenN l h3, cond_false]
        have ho : oth a0 a3 = true := rightV_oth hr
        have := law4_c a0 a1 a2 a3 a4 a5 a6 a7 a8 a9 a10 a11 a12 a13 a14 a15 a16 a17 a18 a19 l h3 g1 g2 hr l [] n a3 rfl (by omega) rfl (by
          have := oth_neg ho
          rcases Int.lt_or_le a3 0 with h | h
          · exact .inl (this.1 h)
          · exact .inr h)
        simpa [ofN] using this
      · rw [lenN' l h3, cond_true]; rfl
  · rw [cond_true]; rfl

/-! ### Two side by side. -/
theorem upt_two {a b k : Int} (ha : 0 ≤ a ∧ a < 65536) (hb : 0 ≤ b ∧ b < 65536) (hab : a ≠ b) : upt a b k = !upt b a k := by
  have key : ∀ p q : Bool, (p = true ↔ ¬ q = true) → p = !q := by intro p q; cases p <;> cases q <;> simp
  apply key
  unfold upt cut fr pl
  simp only [Bool.or_eq_true, Bool.and_eq_true, decide_eq_true_eq]
  omega
theorem upt_self (w y : Int) : upt w y y = true := by unfold upt; simp
theorem upt_cut {p y x k : Int} (hp : 0 ≤ p ∧ p < 65536) (hx : 0 ≤ x ∧ x < 65536) (hy : 0 ≤ y ∧ y < 65536) (h1 : x ≠ y) (h2 : p ≠ y) (h : cut p y x = true) (hk : upt x y k = true) : upt p y k = true := by
  unfold upt cut fr pl at *
  simp only [Bool.or_eq_true, Bool.and_eq_true, decide_eq_true_eq] at *
  omega
theorem owns_s0 (m : Nat) (x k : Int) (a0 : Int) (a1 a2 : List Int) (a3 a4 a5 a6 a7 a8 a9 a10 a11 a12 a13 a14 a15 a16 a17 a18 a19 : Int) (b0 : Int) (b1 b2 : List Int) (b3 b4 b5 b6 b7 b8 b9 b10 b11 b12 b13 b14 b15 b16 b17 b18 b19 : Int) (i : Int) (bb : List Int) (pr f0 f1 f2 f3 f4 f5 f6 f7 f8 f9 f10 f11 f12 f13 f14 f15 : Int) : F5_c0 (m + 1) x k 0 a0 a1 a2 a3 a4 a5 a6 a7 a8 a9 a10 a11 a12 a13 a14 a15 a16 a17 a18 a19 b0 b1 b2 b3 b4 b5 b6 b7 b8 b9 b10 b11 b12 b13 b14 b15 b16 b17 b18 b19 i bb pr f0 f1 f2 f3 f4 f5 f6 f7 f8 f9 f10 f11 f12 f13 f14 f15 = F5_c0 m x k 1 a0 a1 a2 a3 a4 a5 a6 a7 a8 a9 a10 a11 a12 a13 a14 a15 a16 a17 a18 a19 b0 b1 b2 b3 b4 b5 b6 b7 b8 b9 b10 b11 b12 b13 b14 b15 b16 b17 b18 b19 i bb pr (-1) f1 f2 f3 f4 f5 f6 f7 f8 f9 f10 f11 f12 f13 f14 f15 := by kernel_rfl
theorem owns_s1 (m : Nat) (x k : Int) (a0 : Int) (a1 a2 : List Int) (a3 a4 a5 a6 a7 a8 a9 a10 a11 a12 a13 a14 a15 a16 a17 a18 a19 : Int) (b0 : Int) (b1 b2 : List Int) (b3 b4 b5 b6 b7 b8 b9 b10 b11 b12 b13 b14 b15 b16 b17 b18 b19 : Int) (i : Int) (bb : List Int) (pr f1 f2 f3 f4 f5 f6 f7 f8 f9 f10 f11 f12 f13 f14 f15 : Int) : F5_c0 (m + 1) x k 1 a0 a1 a2 a3 a4 a5 a6 a7 a8 a9 a10 a11 a12 a13 a14 a15 a16 a17 a18 a19 b0 b1 b2 b3 b4 b5 b6 b7 b8 b9 b10 b11 b12 b13 b14 b15 b16 b17 b18 b19 i bb pr (-1) f1 f2 f3 f4 f5 f6 f7 f8 f9 f10 f11 f12 f13 f14 f15 = F5_c0 m x k 2 a0 a1 a2 a3 a4 a5 a6 a7 a8 a9 a10 a11 a12 a13 a14 a15 a16 a17 a18 a19 b0 b1 b2 b3 b4 b5 b6 b7 b8 b9 b10 b11 b12 b13 b14 b15 b16 b17 b18 b19 i bb pr (-1) (-1) f2 f3 f4 f5 f6 f7 f8 f9 f10 f11 f12 f13 f14 f15 := by kernel_rfl
theorem owns_s2 (m : Nat) (x k : Int) (a0 : Int) (a1 a2 : List Int) (a3 a4 a5 a6 a7 a8 a9 a10 a11 a12 a13 a14 a15 a16 a17 a18 a19 : Int) (b0 : Int) (b1 b2 : List Int) (b3 b4 b5 b6 b7 b8 b9 b10 b11 b12 b13 b14 b15 b16 b17 b18 b19 : Int) (i : Int) (bb : List Int) (pr f2 f3 f4 f5 f6 f7 f8 f9 f10 f11 f12 f13 f14 f15 : Int) : F5_c0 (m + 1) x k 2 a0 a1 a2 a3 a4 a5 a6 a7 a8 a9 a10 a11 a12 a13 a14 a15 a16 a17 a18 a19 b0 b1 b2 b3 b4 b5 b6 b7 b8 b9 b10 b11 b12 b13 b14 b15 b16 b17 b18 b19 i bb pr (-1) (-1) f2 f3 f4 f5 f6 f7 f8 f9 f10 f11 f12 f13 f14 f15 = F5_c0 m x k 3 a0 a1 a2 a3 a4 a5 a6 a7 a8 a9 a10 a11 a12 a13 a14 a15 a16 a17 a18 a19 b0 b1 b2 b3 b4 b5 b6 b7 b8 b9 b10 b11 b12 b13 b14 b15 b16 b17 b18 b19 i bb pr (-1) (-1) (-1) f3 f4 f5 f6 f7 f8 f9 f10 f11 f12 f13 f14 f15 := by kernel_rfl
theorem owns_s3 (m : Nat) (x k : Int) (a0 : Int) (a1 a2 : List Int) (a3 a4 a5 a6 a7 a8 a9 a10 a11 a12 a13 a14 a15 a16 a17 a18 a19 : Int) (b0 : Int) (b1 b2 : List Int) (b3 b4 b5 b6 b7 b8 b9 b10 b11 b12 b13 b14 b15 b16 b17 b18 b19 : Int) (i : Int) (bb : List Int) (pr f3 f4 f5 f6 f7 f8 f9 f10 f11 f12 f13 f14 f15 : Int) : F5_c0 (m + 1) x k 3 a0 a1 a2 a3 a4 a5 a6 a7 a8 a9 a10 a11 a12 a13 a14 a15 a16 a17 a18 a19 b0 b1 b2 b3 b4 b5 b6 b7 b8 b9 b10 b11 b12 b13 b14 b15 b16 b17 b18 b19 i bb pr (-1) (-1) (-1) f3 f4 f5 f6 f7 f8 f9 f10 f11 f12 f13 f14 f15 = F5_c0 m x k 4 a0 a1 a2 a3 a4 a5 a6 a7 a8 a9 a10 a11 a12 a13 a14 a15 a16 a17 a18 a19 b0 b1 b2 b3 b4 b5 b6 b7 b8 b9 b10 b11 b12 b13 b14 b15 b16 b17 b18 b19 i bb pr (-1) (-1) (-1) (-1) f4 f5 f6 f7 f8 f9 f10 f11 f12 f13 f14 f15 := by kernel_rfl
theorem owns_s4 (m : Nat) (x k : Int) (a0 : Int) (a1 a2 : List Int) (a3 a4 a5 a6 a7 a8 a9 a10 a11 a12 a13 a14 a15 a16 a17 a18 a19 : Int) (b0 : Int) (b1 b2 : List Int) (b3 b4 b5 b6 b7 b8 b9 b10 b11 b12 b13 b14 b15 b16 b17 b18 b19 : Int) (i : Int) (bb : List Int) (pr f4 f5 f6 f7 f8 f9 f10 f11 f12 f13 f14 f15 : Int) : F5_c0 (m + 1) x k 4 a0 a1 a2 a3 a4 a5 a6 a7 a8 a9 a10 a11 a12 a13 a14 a15 a16 a17 a18 a19 b0 b1 b2 b3 b4 b5 b6 b7 b8 b9 b10 b11 b12 b13 b14 b15 b16 b17 b18 b19 i bb pr (-1) (-1) (-1) (-1) f4 f5 f6 f7 f8 f9 f10 f11 f12 f13 f14 f15 = F5_c0 m x k 5 a0 a1 a2 a3 a4 a5 a6 a7 a8 a9 a10 a11 a12 a13 a14 a15 a16 a17 a18 a19 b0 b1 b2 b3 b4 b5 b6 b7 b8 b9 b10 b11 b12 b13 b14 b15 b16 b17 b18 b19 i bb pr (-1) (-1) (-1) (-1) (-1) f5 f6 f7 f8 f9 f10 f11 f12 f13 f14 f15 := by kernel_rfl
theorem owns_s5 (m : Nat) (x k : Int) (a0 : Int) (a1 a2 : List Int) (a3 a4 a5 a6 a7 a8 a9 a10 a11 a12 a13 a14 a15 a16 a17 a18 a19 : Int) (b0 : Int) (b1 b2 : List Int) (b3 b4 b5 b6 b7 b8 b9 b10 b11 b12 b13 b14 b15 b16 b17 b18 b19 : Int) (i : Int) (bb : List Int) (pr f5 f6 f7 f8 f9 f10 f11 f12 f13 f14 f15 : Int) : F5_c0 (m + 1) x k 5 a0 a1 a2 a3 a4 a5 a6 a7 a8 a9 a10 a11 a12 a13 a14 a15 a16 a17 a18 a19 b0 b1 b2 b3 b4 b5 b6 b7 b8 b9 b10 b11 b12 b13 b14 b15 b16 b17 b18 b19 i bb pr (-1) (-1) (-1) (-1) (-1) f5 f6 f7 f8 f9 f10 f11 f12 f13 f14 f15 = F5_c0 m x k 6 a0 a1 a2 a3 a4 a5 a6 a7 a8 a9 a10 a11 a12 a13 a14 a15 a16 a17 a18 a19 b0 b1 b2 b3 b4 b5 b6 b7 b8 b9 b10 b11 b12 b13 b14 b15 b16 b17 b18 b19 i bb pr (-1) (-1) (-1) (-1) (-1) (-1) f6 f7 f8 f9 f10 f11 f12 f13 f14 f15 := by kernel_rfl
theorem owns_s6 (m : Nat) (x k : Int) (a0 : Int) (a1 a2 : List Int) (a3 a4 a5 a6 a7 a8 a9 a10 a11 a12 a13 a14 a15 a16 a17 a18 a19 : Int) (b0 : Int) (b1 b2 : List Int) (b3 b4 b5 b6 b7 b8 b9 b10 b11 b12 b13 b14 b15 b16 b17 b18 b19 : Int) (i : Int) (bb : List Int) (pr f6 f7 f8 f9 f10 f11 f12 f13 f14 f15 : Int) : F5_c0 (m + 1) x k 6 a0 a1 a2 a3 a4 a5 a6 a7 a8 a9 a10 a11 a12 a13 a14 a15 a16 a17 a18 a19 b0 b1 b2 b3 b4 b5 b6 b7 b8 b9 b10 b11 b12 b13 b14 b15 b16 b17 b18 b19 i bb pr (-1) (-1) (-1) (-1) (-1) (-1) f6 f7 f8 f9 f10 f11 f12 f13 f14 f15 = F5_c0 m x k 7 a0 a1 a2 a3 a4 a5 a6 a7 a8 a9 a10 a11 a12 a13 a14 a15 a16 a17 a18 a19 b0 b1 b2 b3 b4 b5 b6 b7 b8 b9 b10 b11 b12 b13 b14 b15 b16 b17 b18 b19 i bb pr (-1) (-1) (-1) (-1) (-1) (-1) (-1) f7 f8 f9 f10 f11 f12 f13 f14 f15 := by kernel_rfl
theorem owns_s7 (m : Nat) (x k : Int) (a0 : Int) (a1 a2 : List Int) (a3 a4 a5 a6 a7 a8 a9 a10 a11 a12 a13 a14 a15 a16 a17 a18 a19 : Int) (b0 : Int) (b1 b2 : List Int) (b3 b4 b5 b6 b7 b8 b9 b10 b11 b12 b13 b14 b15 b16 b17 b18 b19 : Int) (i : Int) (bb : List Int) (pr f7 f8 f9 f10 f11 f12 f13 f14 f15 : Int) : F5_c0 (m + 1) x k 7 a0 a1 a2 a3 a4 a5 a6 a7 a8 a9 a10 a11 a12 a13 a14 a15 a16 a17 a18 a19 b0 b1 b2 b3 b4 b5 b6 b7 b8 b9 b10 b11 b12 b13 b14 b15 b16 b17 b18 b19 i bb pr (-1) (-1) (-1) (-1) (-1) (-1) (-1) f7 f8 f9 f10 f11 f12 f13 f14 f15 = F5_c0 m x k 8 a0 a1 a2 a3 a4 a5 a6 a7 a8 a9 a10 a11 a12 a13 a14 a15 a16 a17 a18 a19 b0 b1 b2 b3 b4 b5 b6 b7 b8 b9 b10 b11 b12 b13 b14 b15 b16 b17 b18 b19 i bb pr (-1) (-1) (-1) (-1) (-1) (-1) (-1) (-1) f8 f9 f10 f11 f12 f13 f14 f15 := by kernel_rfl
theorem owns_s8 (m : Nat) (x k : Int) (a0 : Int) (a1 a2 : List Int) (a3 a4 a5 a6 a7 a8 a9 a10 a11 a12 a13 a14 a15 a16 a17 a18 a19 : Int) (b0 : Int) (b1 b2 : List Int) (b3 b4 b5 b6 b7 b8 b9 b10 b11 b12 b13 b14 b15 b16 b17 b18 b19 : Int) (i : Int) (bb : List Int) (pr f8 f9 f10 f11 f12 f13 f14 f15 : Int) : F5_c0 (m + 1) x k 8 a0 a1 a2 a3 a4 a5 a6 a7 a8 a9 a10 a11 a12 a13 a14 a15 a16 a17 a18 a19 b0 b1 b2 b3 b4 b5 b6 b7 b8 b9 b10 b11 b12 b13 b14 b15 b16 b17 b18 b19 i bb pr (-1) (-1) (-1) (-1) (-1) (-1) (-1) (-1) f8 f9 f10 f11 f12 f13 f14 f15 = F5_c0 m x k 9 a0 a1 a2 a3 a4 a5 a6 a7 a8 a9 a10 a11 a12 a13 a14 a15 a16 a17 a18 a19 b0 b1 b2 b3 b4 b5 b6 b7 b8 b9 b10 b11 b12 b13 b14 b15 b16 b17 b18 b19 i bb pr (-1) (-1) (-1) (-1) (-1) (-1) (-1) (-1) (-1) f9 f10 f11 f12 f13 f14 f15 := by kernel_rfl
theorem owns_s9 (m : Nat) (x k : Int) (a0 : Int) (a1 a2 : List Int) (a3 a4 a5 a6 a7 a8 a9 a10 a11 a12 a13 a14 a15 a16 a17 a18 a19 : Int) (b0 : Int) (b1 b2 : List Int) (b3 b4 b5 b6 b7 b8 b9 b10 b11 b12 b13 b14 b15 b16 b17 b18 b19 : Int) (i : Int) (bb : List Int) (pr f9 f10 f11 f12 f13 f14 f15 : Int) : F5_c0 (m + 1) x k 9 a0 a1 a2 a3 a4 a5 a6 a7 a8 a9 a10 a11 a12 a13 a14 a15 a16 a17 a18 a19 b0 b1 b2 b3 b4 b5 b6 b7 b8 b9 b10 b11 b12 b13 b14 b15 b16 b17 b18 b19 i bb pr (-1) (-1) (-1) (-1) (-1) (-1) (-1) (-1) (-1) f9 f10 f11 f12 f13 f14 f15 = F5_c0 m x k 10 a0 a1 a2 a3 a4 a5 a6 a7 a8 a9 a10 a11 a12 a13 a14 a15 a16 a17 a18 a19 b0 b1 b2 b3 b4 b5 b6 b7 b8 b9 b10 b11 b12 b13 b14 b15 b16 b17 b18 b19 i bb pr (-1) (-1) (-1) (-1) (-1) (-1) (-1) (-1) (-1) (-1) f10 f11 f12 f13 f14 f15 := by kernel_rfl
theorem owns_s10 (m : Nat) (x k : Int) (a0 : Int) (a1 a2 : List Int) (a3 a4 a5 a6 a7 a8 a9 a10 a11 a12 a13 a14 a15 a16 a17 a18 a19 : Int) (b0 : Int) (b1 b2 : List Int) (b3 b4 b5 b6 b7 b8 b9 b10 b11 b12 b13 b14 b15 b16 b17 b18 b19 : Int) (i : Int) (bb : List Int) (pr f10 f11 f12 f13 f14 f15 : Int) : F5_c0 (m + 1) x k 10 a0 a1 a2 a3 a4 a5 a6 a7 a8 a9 a10 a11 a12 a13 a14 a15 a16 a17 a18 a19 b0 b1 b2 b3 b4 b5 b6 b7 b8 b9 b10 b11 b12 b13 b14 b15 b16 b17 b18 b19 i bb pr (-1) (-1) (-1) (-1) (-1) (-1) (-1) (-1) (-1) (-1) f10 f11 f12 f13 f14 f15 = F5_c0 m x k 11 a0 a1 a2 a3 a4 a5 a6 a7 a8 a9 a10 a11 a12 a13 a14 a15 a16 a17 a18 a19 b0 b1 b2 b3 b4 b5 b6 b7 b8 b9 b10 b11 b12 b13 b14 b15 b16 b17 b18 b19 i bb pr (-1) (-1) (-1) (-1) (-1) (-1) (-1) (-1) (-1) (-1) (-1) f11 f12 f13 f14 f15 := by kernel_rfl
theorem owns_s11 (m : Nat) (x k : Int) (a0 : Int) (a1 a2 : List Int) (a3 a4 a5 a6 a7 a8 a9 a10 a11 a12 a13 a14 a15 a16 a17 a18 a19 : Int) (b0 : Int) (b1 b2 : List Int) (b3 b4 b5 b6 b7 b8 b9 b10 b11 b12 b13 b14 b15 b16 b17 b18 b19 : Int) (i : Int) (bb : List Int) (pr f11 f12 f13 f14 f15 : Int) : F5_c0 (m + 1) x k 11 a0 a1 a2 a3 a4 a5 a6 a7 a8 a9 a10 a11 a12 a13 a14 a15 a16 a17 a18 a19 b0 b1 b2 b3 b4 b5 b6 b7 b8 b9 b10 b11 b12 b13 b14 b15 b16 b17 b18 b19 i bb pr (-1) (-1) (-1) (-1) (-1) (-1) (-1) (-1) (-1) (-1) (-1) f11 f12 f13 f14 f15 = F5_c0 m x k 12 a0 a1 a2 a3 a4 a5 a6 a7 a8 a9 a10 a11 a12 a13 a14 a15 a16 a17 a18 a19 b0 b1 b2 b3 b4 b5 b6 b7 b8 b9 b10 b11 b12 b13 b14 b15 b16 b17 b18 b19 i bb pr (-1) (-1) (-1) (-1) (-1) (-1) (-1) (-1) (-1) (-1) (-1) (-1) f12 f13 f14 f15 := by kernel_rfl
theorem owns_s12 (m : Nat) (x k : Int) (a0 : Int) (a1 a2 : List Int) (a3 a4 a5 a6 a7 a8 a9 a10 a11 a12 a13 a14 a15 a16 a17 a18 a19 : Int) (b0 : Int) (b1 b2 : List Int) (b3 b4 b5 b6 b7 b8 b9 b10 b11 b12 b13 b14 b15 b16 b17 b18 b19 : Int) (i : Int) (bb : List Int) (pr f12 f13 f14 f15 : Int) : F5_c0 (m + 1) x k 12 a0 a1 a2 a3 a4 a5 a6 a7 a8 a9 a10 a11 a12 a13 a14 a15 a16 a17 a18 a19 b0 b1 b2 b3 b4 b5 b6 b7 b8 b9 b10 b11 b12 b13 b14 b15 b16 b17 b18 b19 i bb pr (-1) (-1) (-1) (-1) (-1) (-1) (-1) (-1) (-1) (-1) (-1) (-1) f12 f13 f14 f15 = F5_c0 m x k 13 a0 a1 a2 a3 a4 a5 a6 a7 a8 a9 a10 a11 a12 a13 a14 a15 a16 a17 a18 a19 b0 b1 b2 b3 b4 b5 b6 b7 b8 b9 b10 b11 b12 b13 b14 b15 b16 b17 b18 b19 i bb pr (-1) (-1) (-1) (-1) (-1) (-1) (-1) (-1) (-1) (-1) (-1) (-1) (-1) f13 f14 f15 := by kernel_rfl
theorem owns_s13 (m : Nat) (x k : Int) (a0 : Int) (a1 a2 : List Int) (a3 a4 a5 a6 a7 a8 a9 a10 a11 a12 a13 a14 a15 a16 a17 a18 a19 : Int) (b0 : Int) (b1 b2 : List Int) (b3 b4 b5 b6 b7 b8 b9 b10 b11 b12 b13 b14 b15 b16 b17 b18 b19 : Int) (i : Int) (bb : List Int) (pr f13 f14 f15 : Int) : F5_c0 (m + 1) x k 13 a0 a1 a2 a3 a4 a5 a6 a7 a8 a9 a10 a11 a12 a13 a14 a15 a16 a17 a18 a19 b0 b1 b2 b3 b4 b5 b6 b7 b8 b9 b10 b11 b12 b13 b14 b15 b16 b17 b18 b19 i bb pr (-1) (-1) (-1) (-1) (-1) (-1) (-1) (-1) (-1) (-1) (-1) (-1) (-1) f13 f14 f15 = F5_c0 m x k 14 a0 a1 a2 a3 a4 a5 a6 a7 a8 a9 a10 a11 a12 a13 a14 a15 a16 a17 a18 a19 b0 b1 b2 b3 b4 b5 b6 b7 b8 b9 b10 b11 b12 b13 b14 b15 b16 b17 b18 b19 i bb pr (-1) (-1) (-1) (-1) (-1) (-1) (-1) (-1) (-1) (-1) (-1) (-1) (-1) (-1) f14 f15 := by kernel_rfl
theorem owns_s14 (m : Nat) (x k : Int) (a0 : Int) (a1 a2 : List Int) (a3 a4 a5 a6 a7 a8 a9 a10 a11 a12 a13 a14 a15 a16 a17 a18 a19 : Int) (b0 : Int) (b1 b2 : List Int) (b3 b4 b5 b6 b7 b8 b9 b10 b11 b12 b13 b14 b15 b16 b17 b18 b19 : Int) (i : Int) (bb : List Int) (pr f14 f15 : Int) : F5_c0 (m + 1) x k 14 a0 a1 a2 a3 a4 a5 a6 a7 a8 a9 a10 a11 a12 a13 a14 a15 a16 a17 a18 a19 b0 b1 b2 b3 b4 b5 b6 b7 b8 b9 b10 b11 b12 b13 b14 b15 b16 b17 b18 b19 i bb pr (-1) (-1) (-1) (-1) (-1) (-1) (-1) (-1) (-1) (-1) (-1) (-1) (-1) (-1) f14 f15 = F5_c0 m x k 15 a0 a1 a2 a3 a4 a5 a6 a7 a8 a9 a10 a11 a12 a13 a14 a15 a16 a17 a18 a19 b0 b1 b2 b3 b4 b5 b6 b7 b8 b9 b10 b11 b12 b13 b14 b15 b16 b17 b18 b19 i bb pr (-1) (-1) (-1) (-1) (-1) (-1) (-1) (-1) (-1) (-1) (-1) (-1) (-1) (-1) (-1) f15 := by kernel_rfl
theorem owns_s15 (m : Nat) (x k : Int) (a0 : Int) (a1 a2 : List Int) (a3 a4 a5 a6 a7 a8 a9 a10 a11 a12 a13 a14 a15 a16 a17 a18 a19 : Int) (b0 : Int) (b1 b2 : List Int) (b3 b4 b5 b6 b7 b8 b9 b10 b11 b12 b13 b14 b15 b16 b17 b18 b19 : Int) (i : Int) (bb : List Int) (pr f15 : Int) : F5_c0 (m + 1) x k 15 a0 a1 a2 a3 a4 a5 a6 a7 a8 a9 a10 a11 a12 a13 a14 a15 a16 a17 a18 a19 b0 b1 b2 b3 b4 b5 b6 b7 b8 b9 b10 b11 b12 b13 b14 b15 b16 b17 b18 b19 i bb pr (-1) (-1) (-1) (-1) (-1) (-1) (-1) (-1) (-1) (-1) (-1) (-1) (-1) (-1) (-1) f15 = F5_c0 m x k 16 a0 a1 a2 a3 a4 a5 a6 a7 a8 a9 a10 a11 a12 a13 a14 a15 a16 a17 a18 a19 b0 b1 b2 b3 b4 b5 b6 b7 b8 b9 b10 b11 b12 b13 b14 b15 b16 b17 b18 b19 i bb pr (-1) (-1) (-1) (-1) (-1) (-1) (-1) (-1) (-1) (-1) (-1) (-1) (-1) (-1) (-1) (-1) := by kernel_rfl
theorem owns_loop (m : Nat) (x k : Int) (a0 : Int) (a1 a2 : List Int) (a3 a4 a5 a6 a7 a8 a9 a10 a11 a12 a13 a14 a15 a16 a17 a18 a19 : Int) (b0 : Int) (b1 b2 : List Int) (b3 b4 b5 b6 b7 b8 b9 b10 b11 b12 b13 b14 b15 b16 b17 b18 b19 : Int) (i : Int) (bb : List Int) (pr f0 f1 f2 f3 f4 f5 f6 f7 f8 f9 f10 f11 f12 f13 f14 f15 : Int) :
    F5_c0 (m + 17) x k 0 a0 a1 a2 a3 a4 a5 a6 a7 a8 a9 a10 a11 a12 a13 a14 a15 a16 a17 a18 a19 b0 b1 b2 b3 b4 b5 b6 b7 b8 b9 b10 b11 b12 b13 b14 b15 b16 b17 b18 b19 i bb pr f0 f1 f2 f3 f4 f5 f6 f7 f8 f9 f10 f11 f12 f13 f14 f15 = F5_c0 (m + 1) x k 16 a0 a1 a2 a3 a4 a5 a6 a7 a8 a9 a10 a11 a12 a13 a14 a15 a16 a17 a18 a19 b0 b1 b2 b3 b4 b5 b6 b7 b8 b9 b10 b11 b12 b13 b14 b15 b16 b17 b18 b19 i bb pr (-1) (-1) (-1) (-1) (-1) (-1) (-1) (-1) (-1) (-1) (-1) (-1) (-1) (-1) (-1) (-1) :=
  (owns_s0 (m + 16) x k a0 a1 a2 a3 a4 a5 a6 a7 a8 a9 a10 a11 a12 a13 a14 a15 a16 a17 a18 a19 b0 b1 b2 b3 b4 b5 b6 b7 b8 b9 b10 b11 b12 b13 b14 b15 b16 b17 b18 b19 i bb pr f0 f1 f2 f3 f4 f5 f6 f7 f8 f9 f10 f11 f12 f13 f14 f15).trans ((owns_s1 (m + 15) x k a0 a1 a2 a3 a4 a5 a6 a7 a8 a9 a10 a11 a12 a13 a14 a15 a16 a17 a18 a19 b0 b1 b2 b3 b4 b5 b6 b7 b8 b9 b10 b11 b12 b13 b14 b15 b16 b17 b18 b19 i bb pr f1 f2 f3 f4 f5 f6 f7 f8 f9 f10 f11 f12 f13 f14 f15).trans ((owns_s2 (m + 14) x k a0 a1 a2 a3 a4 a5 a6 a7 a8 a9 a10 a11 a12 a13 a14 a15 a16 a17 a18 a19 b0 b1 b2 b3 b4 b5 b6 b7 b8 b9 b10 b11 b12 b13 b14 b15 b16 b17 b18 b19 i bb pr f2 f3 f4 f5 f6 f7 f8 f9 f10 f11 f12 f13 f14 f15).trans ((owns_s3 (m + 13) x k a0 a1 a2 a3 a4 a5 a6 a7 a8 a9 a10 a11 a12 a13 a14 a15 a16 a17 a18 a19 b0 b1 b2 b3 b4 b5 b6 b7 b8 b9 b10 b11 b12 b13 b14 b15 b16 b17 b18 b19 i bb pr f3 f4 f5 f6 f7 f8 f9 f10 f11 f12 f13 f14 f15).trans ((owns_s4 (m + 12) x k a0 a1 a2 a3 a4 a5 a6 a7 a8 a9 a10 a11 a12 a13 a14 a15 a16 a17 a18 a19 b0 b1 b2 b3 b4 b5 b6 b7 b8 b9 b10 b11 b12 b13 b14 b15 b16 b17 b18 b19 i bb pr f4 f5 f6 f7 f8 f9 f10 f11 f12 f13 f14 f15).trans ((owns_s5 (m + 11) x k a0 a1 a2 a3 a4 a5 a6 a7 a8 a9 a10 a11 a12 a13 a14 a15 a16 a17 a18 a19 b0 b1 b2 b3 b4 b5 b6 b7 b8 b9 b10 b11 b12 b13 b14 b15 b16 b17 b18 b19 i bb pr f5 f6 f7 f8 f9 f10 f11 f12 f13 f14 f15).trans ((owns_s6 (m + 10) x k a0 a1 a2 a3 a4 a5 a6 a7 a8 a9 a10 a11 a12 a13 a14 a15 a16 a17 a18 a19 b0 b1 b2 b3 b4 b5 b6 b7 b8 b9 b10 b11 b12 b13 b14 b15 b16 b17 b18 b19 i bb pr f6 f7 f8 f9 f10 f11 f12 f13 f14 f15).trans ((owns_s7 (m + 9) x k a0 a1 a2 a3 a4 a5 a6 a7 a8 a9 a10 a11 a12 a13 a14 a15 a16 a17 a18 a19 b0 b1 b2 b3 b4 b5 b6 b7 b8 b9 b10 b11 b12 b13 b14 b15 b16 b17 b18 b19 i bb pr f7 f8 f9 f10 f11 f12 f13 f14 f15).trans ((owns_s8 (m + 8) x k a0 a1 a2 a3 a4 a5 a6 a7 a8 a9 a10 a11 a12 a13 a14 a15 a16 a17 a18 a19 b0 b1 b2 b3 b4 b5 b6 b7 b8 b9 b10 b11 b12 b13 b14 b15 b16 b17 b18 b19 i bb pr f8 f9 f10 f11 f12 f13 f14 f15).trans ((owns_s9 (m + 7) x k a0 a1 a2 a3 a4 a5 a6 a7 a8 a9 a10 a11 a12 a13 a14 a15 a16 a17 a18 a19 b0 b1 b2 b3 b4 b5 b6 b7 b8 b9 b10 b11 b12 b13 b14 b15 b16 b17 b18 b19 i bb pr f9 f10 f11 f12 f13 f14 f15).trans ((owns_s10 (m + 6) x k a0 a1 a2 a3 a4 a5 a6 a7 a8 a9 a10 a11 a12 a13 a14 a15 a16 a17 a18 a19 b0 b1 b2 b3 b4 b5 b6 b7 b8 b9 b10 b11 b12 b13 b14 b15 b16 b17 b18 b19 i bb pr f10 f11 f12 f13 f14 f15).trans ((owns_s11 (m + 5) x k a0 a1 a2 a3 a4 a5 a6 a7 a8 a9 a10 a11 a12 a13 a14 a15 a16 a17 a18 a19 b0 b1 b2 b3 b4 b5 b6 b7 b8 b9 b10 b11 b12 b13 b14 b15 b16 b17 b18 b19 i bb pr f11 f12 f13 f14 f15).trans ((owns_s12 (m + 4) x k a0 a1 a2 a3 a4 a5 a6 a7 a8 a9 a10 a11 a12 a13 a14 a15 a16 a17 a18 a19 b0 b1 b2 b3 b4 b5 b6 b7 b8 b9 b10 b11 b12 b13 b14 b15 b16 b17 b18 b19 i bb pr f12 f13 f14 f15).trans ((owns_s13 (m + 3) x k a0 a1 a2 a3 a4 a5 a6 a7 a8 a9 a10 a11 a12 a13 a14 a15 a16 a17 a18 a19 b0 b1 b2 b3 b4 b5 b6 b7 b8 b9 b10 b11 b12 b13 b14 b15 b16 b17 b18 b19 i bb pr f13 f14 f15).trans ((owns_s14 (m + 2) x k a0 a1 a2 a3 a4 a5 a6 a7 a8 a9 a10 a11 a12 a13 a14 a15 a16 a17 a18 a19 b0 b1 b2 b3 b4 b5 b6 b7 b8 b9 b10 b11 b12 b13 b14 b15 b16 b17 b18 b19 i bb pr f14 f15).trans ((owns_s15 (m + 1) x k a0 a1 a2 a3 a4 a5 a6 a7 a8 a9 a10 a11 a12 a13 a14 a15 a16 a17 a18 a19 b0 b1 b2 b3 b4 b5 b6 b7 b8 b9 b10 b11 b12 b13 b14 b15 b16 b17 b18 b19 i bb pr f15))))))))))))))))
theorem rightV_b {id x : Int} {b l : List Int} {p f0 f1 f2 f3 f4 f5 f6 f7 f8 f9 f10 f11 f12 f13 f14 f15 : Int} (h : rightV ⟨id, b, l, p, f0, f1, f2, f3, f4, f5, f6, f7, f8, f9, f10, f11, f12, f13, f14, f15⟩ = true) (hx : isP x = true) (hne : x ≠ id) : rightV ⟨x, b, [], id, -1, -1, -1, -1, -1, -1, -1, -1, -1, -1, -1, -1, -1, -1, -1, -1⟩ = true := by
  have hid := rightV_id h
  unfold rightV at h ⊢
  simp only [Bool.and_eq_true, VW.fg] at h ⊢
  have e : oth x (-1) = true := by unfold oth; simp
  refine ⟨hx, h.2.1, ?_, ?_, ?_⟩
  · simp [good, rgt]
  · unfold oth
    have hid' : isP id = true := hid
    rw [hid', Bool.true_and, decide_eq_true (show id ≠ x from fun h => hne h.symm), Bool.or_true]
  · simp only [List.all_cons, e, List.all_nil, Bool.and_self]

theorem plain_RectOwns (n : Nat) (a0 : Int) (a1 a2 : List Int) (a3 a4 a5 a6 a7 a8 a9 a10 a11 a12 a13 a14 a15 a16 a17 a18 a19 : Int) (x key : Int) (hl : a2.length ≤ 9223372036854775807) (hn : 1000 < n) : F5 n a0 a1 a2 a3 a4 a5 a6 a7 a8 a9 a10 a11 a12 a13 a14 a15 a16 a17 a18 a19 x key = some true := by
  unfold F5
  have hf := fuel_big
  rw [great_r, Option.bind_some, wakes15]
  cases hg : (decide (20 < a1.length) || decide (20 < a2.length))
  · rw [cond_false]
    obtain ⟨g1, g2⟩ := great_cases hg
    rw [viewR_r (by omega) a0 a1 a2 a3 a4 a5 a6 a7 a8 a9 a10 a11 a12 a13 a14 a15 a16 a17 a18 a19 hl, Option.bind_some]
    cases hr : rightV ⟨a0, a1, a2, a3, a4, a5, a6, a7, a8, a9, a10, a11, a12, a13, a14, a15, a16, a17, a18, a19⟩
    · rfl
    · simp only [Bool.not_true, cond_false]
      by_cases h0 : x < 0
      · rw [show ilt x 0 = true by simpa [ilt] using h0]; rfl
      rw [show ilt x 0 = false from decide_eq_false (by omega), cond_false]
      by_cases h1 : 65536 ≤ x
      · rw [show ige x 65536 = true by simpa [ige] using h1]; rfl
      rw [show ige x 65536 = false from decide_eq_false (by omega), cond_false]
      by_cases h2 : x = a0
      · rw [show ieq x a0 = true by simpa [ieq] using h2]; rfl
      rw [show ieq x a0 = false by simpa [ieq] using h2, cond_false]
      have hx : isP x = true := isP_iff.2 (by omega)
      have hid : isP a0 = true := rightV_id hr
      have hidb := isP_iff.1 hid
      have ho : oth a0 a3 = true := rightV_oth hr
      have ox : oth a0 x = true := by unfold oth; rw [hx, Bool.true_and, decide_eq_true h2, Bool.or_true]
      have r1 := rightV_pred hr ox
      have r2 := rightV_b hr hx h2
      rw [own_r FUEL a0 a1 a2 a3 a4 a5 a6 a7 a8 a9 a10 a11 a12 a13 a14 a15 a16 a17 a18 a19 (by omega) (by omega)]
      simp only [Option.bind_some]
      obtain ⟨m, rfl⟩ : ∃ m, n = m + 17 := ⟨n - 17, by omega⟩
      rw [owns_loop]
      have e16 : ilt 16 16 = false := by decide
      simp only [F5_c0, e16, cond_false]
      rw [notify_p (by omega) a0 a1 a2 a3 a4 a5 a6 a7 a8 a9 a10 a11 a12 a13 a14 a15 a16 a17 a18 a19 [x] (by omega) (by omega) (by simp)]
      simp only [owns_p, Option.bind_some, hr, if_true, wakes15, ntf]
      have o1 : ownsV ⟨a0, a1, a2, x, a4, a5, a6, a7, a8, a9, a10, a11, a12, a13, a14, a15, a16, a17, a18, a19⟩ key = upt x a0 key := by
        unfold ownsV; rw [r1, Bool.true_and, decide_eq_true (by omega : x ≠ -1), Bool.true_and]
      have o2 : ownsV ⟨x, a1, [], a0, -1, -1, -1, -1, -1, -1, -1, -1, -1, -1, -1, -1, -1, -1, -1, -1⟩ key = upt a0 x key := by
        unfold ownsV; rw [r2, Bool.true_and, decide_eq_true (by omega : a0 ≠ -1), Bool.true_and]
      have hb : beqb (upt x a0 key) (upt a0 x key) = false := by
        rw [upt_two (by omega) (by omega) h2]; cases upt a0 x key <;> rfl
      rw [o1, o2, hb, cond_false]
      have hq : ∀ q, oth a0 q = true → ∀ k, ownsV ⟨a0, a1, a2, q, a4, a5, a6, a7, a8, a9, a10, a11, a12, a13, a14, a15, a16, a17, a18, a19⟩ k = (decide (q ≠ -1) && upt q a0 k) := fun q h k => by
        unfold ownsV; rw [rightV_pred hr h, Bool.true_and]
      generalize hw : (if better a0 a3 x = true then x else a3) = w
      have hwo : oth a0 w = true := by rw [← hw]; split <;> assumption
      have hw1 : w ≠ -1 := by
        rw [← hw]; split
        · omega
        · rename_i hc
          intro h
          apply hc
          unfold better; rw [hx, decide_eq_true h2, decide_eq_true h]; rfl
      have ow : ownsV ⟨a0, a1, a2, w, a4, a5, a6, a7, a8, a9, a10, a11, a12, a13, a14, a15, a16, a17, a18, a19⟩ a0 = true := by
        rw [hq w hwo, decide_eq_true hw1, upt_self]; rfl
      rw [ow, hq w hwo, hq a3 ho, decide_eq_true hw1, Bool.true_and]
      simp only [Option.bind_some, cond_true]
      have hlt := oth_neg ho
      by_cases h3 : a3 = -1
      · rw [show ilt a3 0 = true by simp [ilt, h3], cond_true]
      · rw [show ilt a3 0 = false by simp only [ilt]; exact decide_eq_false (fun h => h3 (hlt.1 h)), cond_false, decide_eq_true h3, Bool.true_and]
        cases hk : upt w a0 key
        · rfl
        · have : upt a3 a0 key = true := by
            rw [← hw] at hk
            split at hk
            · rename_i hc
              unfold better at hc
              rw [hx, decide_eq_true h2, decide_eq_false h3, Bool.true_and, Bool.true_and, Bool.false_or] at hc
              unfold oth at ho
              rw [decide_eq_false h3, Bool.false_or, Bool.and_eq_true, decide_eq_true_eq] at ho
              exact upt_cut (isP_iff.1 ho.1) (by omega) hidb h2 ho.2 hc hk
            · exact hk
          rw [this]; rfl
  · rw [cond_true]; rfl

/-! ### Who is gone. -/
theorem lawg_c (a0 : Int) (a1 a2 : List Int) (a3 a4 a5 a6 a7 a8 a9 a10 a11 a12 a13 a14 a15 a16 a17 a18 a19 : Int) (d x : Int) (g1 : a1.length ≤ 20) (g2 : a2.length ≤ 20) (hr : rightV ⟨a0, a1, a2, a3, a4, a5, a6, a7, a8, a9, a10, a11, a12, a13, a14, a15, a16, a17, a18, a19⟩ = true) : ∀ (r p : List Int) (n : Nat) (t : Bool), a1 = p ++ r → r.length < n → (t || decide (d ∈ r)) = decide (d ∈ a1) →
    F6_c0 n d x t (ofN p.length) a0 a1 a2 a3 a4 a5 a6 a7 a8 a9 a10 a11 a12 a13 a14 a15 a16 a17 a18 a19 = some true
  | _, _, 0, _, _, h, _ => by omega
  | [], p, n + 1, t, hp, _, ht => by
    have hf := fuel_big
    rw [List.append_nil] at hp
    simp only [F6_c0]
    rw [show ilt (ofN p.length) (ofN a1.length) = false by rw [hp]; exact lt_out, cond_false]
    have ht : t = decide (d ∈ a1) := by simpa using ht
    have ho : oth a0 a3 = true := rightV_oth hr
    have hid := isP_iff.1 (show isP a0 = true from rightV_id hr)
    rw [gone_p FUEL a0 a1 a2 a3 a4 a5 a6 a7 a8 a9 a10 a11 a12 a13 a14 a15 a16 a17 a18 a19 d (by omega) (by omega)]
    simp only [Option.bind_some]
    have hgv : (goneV ⟨a0, a1, a2, a3, a4, a5, a6, a7, a8, a9, a10, a11, a12, a13, a14, a15, a16, a17, a18, a19⟩ d = -1 ∧ a3 = d ∧ d ∉ a1) ∨ (goneV ⟨a0, a1, a2, a3, a4, a5, a6, a7, a8, a9, a10, a11, a12, a13, a14, a15, a16, a17, a18, a19⟩ d = a3 ∧ (a3 = d → d ∈ a1)) := by
      unfold goneV
      rw [hr, Bool.true_and]
      by_cases h1 : a3 = d
      · by_cases h2 : d ∈ a1
        · right; simp [h1, h2]
        · left; simp [h1, h2]
      · right; simp [h1]
    generalize goneV ⟨a0, a1, a2, a3, a4, a5, a6, a7, a8, a9, a10, a11, a12, a13, a14, a15, a16, a17, a18, a19⟩ d = g at hgv
    have og : oth a0 g = true := by
      rcases hgv with h | h
      · rw [h.1]; unfold oth; simp
      · rw [h.1]; exact ho
    have rg := rightV_pred hr og
    rw [own_r FUEL a0 a1 a2 g a4 a5 a6 a7 a8 a9 a10 a11 a12 a13 a14 a15 a16 a17 a18 a19 (by omega) (by omega)]
    simp only [Option.bind_some]
    rw [same_r FUEL a0 a1 a2 a3 a4 a5 a6 a7 a8 a9 a10 a11 a12 a13 a14 a15 a16 a17 a18 a19 a0 a1 a2 a3 a4 a5 a6 a7 a8 a9 a10 a11 a12 a13 a14 a15 a16 a17 a18 a19 (by omega) (by omega), notify_p (by omega) a0 a1 a2 g a4 a5 a6 a7 a8 a9 a10 a11 a12 a13 a14 a15 a16 a17 a18 a19 [x] (by omega) (by omega) (by simp), viewR_r (by omega) a0 a1 a2 g a4 a5 a6 a7 a8 a9 a10 a11 a12 a13 a14 a15 a16 a17 a18 a19 (by omega), wakes15]
    simp only [Option.bind_some, rg, if_true, cond_true, decide_true, Bool.not_true, cond_false, ntf]
    have hT : (bif ige g 0 then some true else bif ilt x 0 then some true else bif ige x 65536 then some true else bif ieq x a0 then some true else bif ieq (if better a0 g x = true then x else g) x then some true else some false) = some true := by
      have hlt := oth_neg og
      by_cases h1 : 0 ≤ g
      · rw [show ige g 0 = true by simpa [ige] using h1]; rfl
      · have h1 : g = -1 := hlt.1 (by omega)
        rw [show ige g 0 = false by simp [ige, h1], cond_false]
        by_cases h0 : x < 0
        · rw [show ilt x 0 = true by simpa [ilt] using h0]; rfl
        rw [show ilt x 0 = false from decide_eq_false (by omega), cond_false]
        by_cases h2 : 65536 ≤ x
        · rw [show ige x 65536 = true by simpa [ige] using h2]; rfl
        rw [show ige x 65536 = false from decide_eq_false (by omega), cond_false]
        by_cases h3 : x = a0
        · rw [show ieq x a0 = true by simpa [ieq] using h3]; rfl
        rw [show ieq x a0 = false by simpa [ieq] using h3, cond_false]
        have : better a0 g x = true := by
          unfold better; rw [isP_iff.2 (by omega), decide_eq_true h3, decide_eq_true h1]; rfl
        rw [this, if_pos rfl, show ieq x x = true by simp [ieq]]; rfl
    simp only [hT]
    rcases hgv with ⟨h1, h2, h3⟩ | ⟨h1, h2⟩
    · have ht : t = false := by rw [ht]; exact decide_eq_false h3
      subst ht; subst h1
      by_cases h4 : d = -1
      · rw [show ine (-1) a3 = false by simp [ine, h2, h4], show ieq (-1) d = true by simp [ieq, h4], show ige d 0 = false by simp [ige, h4]]; rfl
      · have h5 : ¬ -1 = d := fun h => h4 h.symm
        rw [show ine (-1) a3 = true by simp [ine, h2, h5], show ine (-1) (-1) = false by decide, show ine a3 d = false by simp [ine, h2], show ieq (-1) d = false by simp [ieq, h5]]; rfl
    · subst h1
      rw [show ine g g = false by simp [ine], cond_false]
      by_cases h3 : g = d
      · have : t = true := by rw [ht]; exact decide_eq_true (h2 h3)
        subst this
        rw [show ieq g d = true by simp [ieq, h3]]
        cases ige d 0 <;> rfl
      · rw [show ieq g d = false by simp [ieq, h3]]; rfl
  | y :: r, p, n + 1, t, hp, h, ht => by
    simp only [F6_c0]
    rw [show ilt (ofN p.length) (ofN a1.length) = true by rw [hp]; exact lt_in, cond_true, show inb (ofN p.length) a1.length = true by rw [hp]; exact inb_in, cond_true, show a1.getD (ofN p.length).toNat 0 = y by rw [hp]; exact get_in]
    simp only [List.length_cons] at h
    have hlen : p.length ≤ 20 := by rw [hp] at g1; simp at g1; omega
    rw [add_in (x := y) (by omega)]
    have h1 := fun t ht => lawg_c a0 a1 a2 a3 a4 a5 a6 a7 a8 a9 a10 a11 a12 a13 a14 a15 a16 a17 a18 a19 d x g1 g2 hr r (p ++ [y]) n t (by rw [hp, in_eq]) (by omega) ht
    cases t
    · rw [cond_false]
      refine h1 _ ?_
      rw [← ht]
      by_cases hy : y = d
      · simp [ieq, hy]
      · have : d ≠ y := fun e => hy e.symm
        simp [ieq, hy, this]
    · rw [cond_true]
      refine h1 _ ?_
      rw [← ht]; simp

theorem plain_RectGone (n : Nat) (a0 : Int) (a1 a2 : List Int) (a3 a4 a5 a6 a7 a8 a9 a10 a11 a12 a13 a14 a15 a16 a17 a18 a19 : Int) (d x : Int) (hl : a2.length ≤ 9223372036854775807) (hn : 1000 < n) : F6 n a0 a1 a2 a3 a4 a5 a6 a7 a8 a9 a10 a11 a12 a13 a14 a15 a16 a17 a18 a19 d x = some true := by
  unfold F6
  have hf := fuel_big
  rw [great_r, Option.bind_some, wakes15]
  cases hg : (decide (20 < a1.length) || decide (20 < a2.length))
  · rw [cond_false]
    obtain ⟨g1, g2⟩ := great_cases hg
    rw [viewR_r (by omega) a0 a1 a2 a3 a4 a5 a6 a7 a8 a9 a10 a11 a12 a13 a14 a15 a16 a17 a18 a19 hl, Option.bind_some]
    cases hr : rightV ⟨a0, a1, a2, a3, a4, a5, a6, a7, a8, a9, a10, a11, a12, a13, a14, a15, a16, a17, a18, a19⟩
    · rfl
    · simp only [Bool.not_true, cond_false]
      have := lawg_c a0 a1 a2 a3 a4 a5 a6 a7 a8 a9 a10 a11 a12 a13 a14 a15 a16 a17 a18 a19 d x g1 g2 hr a1 [] n false rfl (by omega) (by simp)
      simpa [ofN] using this
  · rw [cond_true]; rfl
end Go.Proofs.Ytomgapihddmafaa
