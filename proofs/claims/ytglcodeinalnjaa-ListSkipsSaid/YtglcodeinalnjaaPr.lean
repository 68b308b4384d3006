/-
  Chapter 12, in plain words: the law ListSkips.
-/
import Derived.Test.YtglcodeinalnjaaPq
namespace Go.Proofs.Ytglcodeinalnjaa
open Go Go.RowKit

def btw (w y b : Int) : Bool := decide (0 < fr w b) && decide (fr w b < fr w y)
theorem btw_cut {w y : Int} (h : fr w y ≠ 0) : cut w y = btw w y := by
  funext b; unfold cut btw; rw [decide_eq_false h, Bool.false_or]

theorem btw23_c : ∀ (r p : List Int) (n : Nat) (w y : Int), r.length < n → (p ++ r).length < 1000 → F23_c0 n w y (p ++ r) (ofN p.length) = some (r.any (btw w y))
  | _, _, 0, _, _, h, _ => by omega
  | [], p, n + 1, w, y, _, _ => by simp only [F23_c0, List.append_nil, lt_out, cond_false]; rfl
  | x :: r, p, n + 1, w, y, h, hb => by
    simp only [F23_c0, lt_in, inb_in, get_in, cond_true, far24, Option.bind_some]
    simp only [List.length_append, List.length_cons] at h hb
    rw [add_in (x := x) (by omega)]
    have h1 := btw23_c r (p ++ [x]) n w y (by omega) (by simp; omega)
    rw [← in_eq] at h1
    rw [h1, List.any_cons]
    unfold btw igt ilt
    by_cases c1 : 0 < fr w x
    · by_cases c2 : fr w x < fr w y
      · rw [decide_eq_true (show fr w x > 0 from c1), decide_eq_true c2]; rfl
      · rw [decide_eq_true (show fr w x > 0 from c1), decide_eq_false c2]; rfl
    · rw [decide_eq_false (show ¬ fr w x > 0 from c1)]; rfl
theorem btw23 {n : Nat} (hn : 2000 < n) (w y : Int) (k : List Int) (h : k.length < 1000) : F23 n w y k = some (k.any (btw w y)) := by
  unfold F23
  exact btw23_c k [] n w y (by omega) (by simpa using h)

theorem skp_any : ∀ (l : List Int) (p : Int) (k : List Int), skp p l k = k.any fun b => skp p l [b]
  | [], _, k => by simp [skp]
  | y :: s, p, k => by
    rw [skp, skp_any s y k]
    induction k with
    | nil => rfl
    | cons b k ih =>
      simp only [List.any_cons, List.any_nil, Bool.or_false, skp] at ih ⊢
      rw [← ih]
      cases cut p y b <;> cases skp y s [b] <;> cases k.any (cut p y) <;> rfl
theorem skp_snoc : ∀ (p : List Int) (s y : Int) (k : List Int), skp s (p ++ [y]) k = (skp s p k || k.any (cut (p.getLastD s) y))
  | [], s, y, k => by simp [skp]
  | v :: p, s, y, k => by
    rw [List.cons_append, skp, skp, skp_snoc p v y k, List.getLastD_cons, Bool.or_assoc]
theorem skp_pre : ∀ (p r : List Int) (s : Int) (k : List Int), skp s (p ++ r) k = false → skp s p k = false
  | [], _, _, _, _ => rfl
  | v :: p, r, s, k, h => by
    rw [List.cons_append, skp, Bool.or_eq_false_iff] at h
    rw [skp, h.1, skp_pre p r v k h.2]; rfl
theorem rgt_app (a : Int) : ∀ (p r : List Int) (v : Int), rgt a (fr a v) (p ++ r) = (rgt a (fr a v) p && rgt a (fr a (p.getLastD v)) r)
  | [], _, _ => by simp [rgt]
  | y :: p, r, v => by
    rw [List.cons_append, rgt, rgt, rgt_app a p r y, List.getLastD_cons, Bool.and_assoc, Bool.and_assoc]
theorem rgt_le (a : Int) : ∀ (l : List Int) (v : Int), rgt a (fr a v) l = true → ∀ e ∈ v :: l, fr a e ≤ fr a (l.getLastD v)
  | [], v, _, e, he => by simp at he; subst he; exact Int.le_refl _
  | y :: l, v, h, e, he => by
    have h' := h
    rw [rgt, Bool.and_eq_true, Bool.and_eq_true, decide_eq_true_eq] at h
    rcases List.mem_cons.1 he with rfl | he
    · exact rgt_last a (y :: l) _ h'
    · rw [List.getLastD_cons]; exact rgt_le a l y h.2.2 e he
theorem rgt_gt (a : Int) : ∀ (l : List Int) (d : Int), rgt a d l = true → ∀ e ∈ l, d < fr a e
  | [], _, _, e, he => by cases he
  | y :: l, d, h, e, he => by
    rw [rgt, Bool.and_eq_true, Bool.and_eq_true, decide_eq_true_eq] at h
    rcases List.mem_cons.1 he with rfl | he
    · exact h.2.1
    · have := rgt_gt a l _ h.2.2 e he; omega
theorem drp_count (a z : Int) : ∀ (l : List Int) (d : Int), rgt a d l = true → z ∈ l → (drp z l).length + 1 = l.length
  | [], _, _, h => by cases h
  | y :: l, d, h, hz => by
    rw [rgt, Bool.and_eq_true, Bool.and_eq_true, decide_eq_true_eq] at h
    rw [drp_cons]
    by_cases c : y = z
    · subst c
      have : drp y l = l := by
        unfold drp
        rw [List.filter_eq_self]
        intro e he
        have := rgt_gt a l _ h.2.2 e he
        simp only [bne_iff_ne, ne_eq]
        intro hh; subst hh; omega
      rw [if_neg (by simp), this]; rfl
    · have hz' : z ∈ l := by rcases List.mem_cons.1 hz with rfl | h; exact absurd rfl c; exact h
      rw [if_pos (by simpa using c), List.length_cons, List.length_cons, drp_count a z l _ h.2.2 hz']
theorem drp_mem {z e : Int} {l : List Int} : e ∈ drp z l ↔ e ∈ l ∧ e ≠ z := by
  unfold drp; rw [List.mem_filter]; simp

/-- Without one that is not of the base nothing more is skipped. -/
theorem skp_drp (x z : Int) (l k : List Int) (h : rgt x 0 l = true) (hz : isP z = true) (hk : ∀ b ∈ k, pl b ≠ z) (hs : skp x l k = false) : skp x (drp z l) k = false := by
  have h0 : fr x x = 0 := by unfold fr; omega
  have h' : rgt x (fr x x) l = true := by rw [h0]; exact h
  have hd : rgt x (fr x x) (drp z l) = true := by rw [h0]; exact rgt_drp x z l 0 0 (Int.le_refl _) h
  rw [skp_any, List.any_eq_false] at hs ⊢
  intro b hb
  have hs := hs b hb
  rw [skp_one x b l x h'] at hs
  rw [skp_one x b _ x hd]
  intro hh
  rw [Bool.and_eq_true, Bool.and_eq_true, decide_eq_true_eq, decide_eq_true_eq, Bool.not_eq_true', List.any_eq_false] at hh
  obtain ⟨h1, h2, h3⟩ := hh
  apply hs
  rw [Bool.and_eq_true, Bool.and_eq_true, decide_eq_true_eq, decide_eq_true_eq, Bool.not_eq_true', List.any_eq_false]
  refine ⟨h1, ?_, ?_⟩
  · have hm := last_mem (drp z l) x
    have hm2 : (drp z l).getLastD x ∈ x :: l := by
      rcases List.mem_cons.1 hm with hm | hm
      · rw [hm]; exact List.mem_cons_self ..
      · exact List.mem_cons_of_mem _ (drp_mem.1 hm).1
    have := rgt_le x l x h' _ hm2
    omega
  · intro e he hee
    rw [decide_eq_true_eq] at hee
    by_cases c : e = z
    · subst c
      have := isP_pl hz
      refine hk b hb ?_
      unfold fr pl at *; omega
    · exact h3 e (drp_mem.2 ⟨he, c⟩) (decide_eq_true hee)

theorem end4 (n : Nat) (x z : Int) (k y : List Int) (hk : k.length ≤ 10) (hy : y.length ≤ 3) (hg : rgt x 0 y = true) (hzy : z ∈ y) (hz : isP z = true) (hs : skp x y k = false) (hb : ∀ b ∈ k, pl b ≠ z) :
    F4_c1 (n + 1) x k z (ofN k.length) y = some true := by
  have hc := drp_count x z y 0 hg hzy
  simp only [F4_c1, lt_out, cond_false]
  rw [drop16 fuel_big y z (by omega), Option.bind_some, skips20 x _ k (fuel_two (by omega) (by omega)) (by omega) (by omega), skp_drp x z y k hg hz hb hs, Option.bind_some, sub_one (by omega), right14 fuel_big x _ (by omega), Option.bind_some]
  have e1 : ieq (ofN (drp z y).length) ((y.length : Int) - 1) = true := by simp only [ieq, ofN, beq_iff_eq]; omega
  have e2 : good x (drp z y) = true := good_drp x z y (by unfold good; rw [hg, decide_eq_true hy]; rfl)
  rw [e1, e2, wakes8]; rfl

theorem law4_c1 (x z : Int) (y : List Int) (hy : y.length ≤ 3) (hg : rgt x 0 y = true) (hzy : z ∈ y) (hz : isP z = true) : ∀ (r p : List Int) (n : Nat), r.length < n → (p ++ r).length ≤ 10 → skp x y (p ++ r) = false → (∀ b ∈ p, pl b ≠ z) →
    F4_c1 n x (p ++ r) z (ofN p.length) y = some true
  | _, _, 0, h, _, _, _ => by omega
  | [], p, n + 1, _, hl, hs, hb => by rw [List.append_nil] at hl hs ⊢; exact end4 n x z p y hl hy hg hzy hz hs hb
  | b :: r, p, n + 1, h, hl, hs, hb => by
    simp only [F4_c1, lt_in, inb_in, get_in, cond_true, place22, Option.bind_some]
    have hl2 : p.length < 1000 := by simp at hl; omega
    rw [add_in (x := b) hl2]
    by_cases c : pl b = z
    · rw [show ieq (pl b) z = true by simp [ieq, c], wakes8]; rfl
    · have h1 := law4_c1 x z y hy hg hzy hz r (p ++ [b]) n (by simp at h; omega) (by simpa using hl) (by rw [← in_eq]; exact hs) (by
        intro e he
        rcases List.mem_append.1 he with he | he
        · exact hb e he
        · simp at he; subst he; exact c)
      rw [← in_eq] at h1
      rw [show ieq (pl b) z = false by simp [ieq, c], cond_false, h1]

theorem mid4 (n : Nat) (x s k4 : Int) (l k : List Int) (hn : 900 < n) (hl : l.length ≤ 10) (hk : k.length ≤ 10) (hx : isP x = true) (hs : isP s = true) (hxs : x ≠ s) (hg : rgt s 0 l = true) (hb : skp s l k = false) :
    F4_c0 (n + 1) x s l k k4 (l.getLastD s) (ofN l.length) = some true := by
  have hpx := isP_pl hx
  have hps := isP_pl hs
  have hsx : fr x s ≠ 0 := by unfold fr; omega
  have hss : fr s s = 0 := by unfold fr; omega
  simp only [F4_c0, lt_out, cond_false]
  rw [btw23 fuel_big x s k (by omega), Option.bind_some, ← btw_cut hsx, wakes8]
  cases hc : k.any (cut x s)
  · rw [cond_false, make12 fuel_big x s l (by omega), Option.bind_some]
    obtain ⟨t, u, h2, h3, h4, h5, h6⟩ := mkl_split x l [] s (by simp)
    simp only [List.nil_append] at h3 h5
    have hm : made x s l = [s] ++ t := by unfold made; rw [if_pos ⟨hs, by rw [hpx.1]; exact fun h => hxs h.symm⟩, h3]
    have ht : t.length ≤ 2 := by simp at h5; omega
    have lb : ([s] ++ t).length = t.length + 1 := by simp
    have hsk : skp x ([s] ++ t) k = false := by
      rw [List.singleton_append, skp, hc, Bool.false_or]
      rw [h2] at hb
      exact skp_pre t u s k hb
    have hgx : rgt x 0 ([s] ++ t) = true := by
      have : 0 < fr x s := by have := fr_bd x s; omega
      rw [List.singleton_append, rgt, hs, decide_eq_true this, h4]; rfl
    have hgood : good x ([s] ++ t) = true := by unfold good; rw [hgx, decide_eq_true (by omega : ([s] ++ t).length ≤ 3)]; rfl
    have j1 : ilt (ofN ([s] ++ t).length) 1 = false := by rw [lb]; exact decide_eq_false (by simp only [ofN]; omega)
    have j5 : inb 0 ([s] ++ t).length = true := by simp [inb]
    have j6 : nlt (Int.toNat 0) ([s] ++ t).length = true := by simp [nlt]
    have j7 : ine (([s] ++ t).getD (Int.toNat 0) 0) s = false := by simp [ine]
    have j8 : inz (ofN ([s] ++ t).length) = true := by rw [lb]; exact decide_eq_true (by simp only [ofN]; omega)
    obtain ⟨i, hi, hi2⟩ : ∃ i : Nat, irem (iadd .i64 (irem k4 (ofN ([s] ++ t).length)) (ofN ([s] ++ t).length)) (ofN ([s] ++ t).length) = (i : Int) ∧ i < ([s] ++ t).length := by
      have hpos : (0 : Int) < ofN ([s] ++ t).length := by rw [lb]; simp only [ofN]; omega
      have hle : ofN ([s] ++ t).length ≤ 3 := by rw [lb]; simp only [ofN]; omega
      have b1 := Int.tmod_lt_of_pos k4 hpos
      have b2 := Int.lt_tmod_of_pos k4 hpos
      unfold irem iadd
      rw [wrap_mid (by omega) (by omega)]
      have b3 := Int.tmod_lt_of_pos (k4.tmod (ofN ([s] ++ t).length) + ofN ([s] ++ t).length) hpos
      have b4 := Int.tmod_nonneg (ofN ([s] ++ t).length) (by omega : 0 ≤ k4.tmod (ofN ([s] ++ t).length) + ofN ([s] ++ t).length)
      refine ⟨((k4.tmod (ofN ([s] ++ t).length) + ofN ([s] ++ t).length).tmod (ofN ([s] ++ t).length)).toNat, by omega, ?_⟩
      have : ofN ([s] ++ t).length = (([s] ++ t).length : Int) := rfl
      omega
    have j9 : inb (i : Int) ([s] ++ t).length = true := by unfold inb; rw [decide_eq_true (by omega : (0 : Int) ≤ i), decide_eq_true (by omega : (i : Int) < ([s] ++ t).length)]; rfl
    have j10 : nlt (Int.toNat (i : Int)) ([s] ++ t).length = true := by unfold nlt; rw [Int.toNat_natCast]; exact decide_eq_true hi2
    have hzm : ([s] ++ t).getD (Int.toNat (i : Int)) 0 ∈ [s] ++ t := by
      rw [Int.toNat_natCast, List.getD_eq_getElem?_getD, List.getElem?_eq_getElem hi2]
      exact List.getElem_mem hi2
    rw [hm, skips20 x _ k (fuel_two (by omega) (by omega)) (by omega) (by omega), hsk, Option.bind_some, cond_false, j1, cond_false, j5, j6, cond_true, cond_true, j7, cond_false, right14 fuel_big x _ (by omega), hgood, Option.bind_some, j8, hi, j9, j10]
    simp only [Bool.not_true, cond_false, cond_true]
    have := law4_c1 x _ ([s] ++ t) (by omega) hgx hzm (rgt_isP x _ 0 hgx _ hzm) k [] n (by omega) (by simpa using hk) (by simpa using hsk) (by intro b hb; cases hb)
    exact this
  · rfl

theorem law4_c0 (x s k4 : Int) (k : List Int) (hk : k.length ≤ 10) (hx : isP x = true) (hs : isP s = true) (hxs : x ≠ s) : ∀ (r p : List Int) (n : Nat), r.length + 1000 < n → (p ++ r).length ≤ 10 → rgt s 0 (p ++ r) = true → skp s p k = false →
    F4_c0 n x s (p ++ r) k k4 (p.getLastD s) (ofN p.length) = some true
  | _, _, 0, h, _, _, _ => by omega
  | [], p, n + 1, h, hl, hg, hb => by
    rw [List.append_nil] at hl hg ⊢
    exact mid4 n x s k4 p k (by simp only [List.length_nil] at h; omega) hl hk hx hs hxs hg hb
  | y :: r, p, n + 1, h, hl, hg, hb => by
    have hss : fr s s = 0 := by unfold fr; omega
    have hl2 : p.length < 1000 := by simp at hl; omega
    simp only [F4_c0, lt_in, inb_in, get_in, cond_true]
    rw [add_in (x := y) hl2, btw23 fuel_big _ _ k (by omega), Option.bind_some, wakes8]
    cases hc : k.any (btw (p.getLastD s) y)
    · have hg2 : rgt s (fr s s) (p ++ y :: r) = true := by rw [hss]; exact hg
      rw [rgt_app, Bool.and_eq_true, rgt, Bool.and_eq_true, Bool.and_eq_true, decide_eq_true_eq] at hg2
      have hne : fr (p.getLastD s) y ≠ 0 := by
        have := hg2.2.2.1
        unfold fr at *; omega
      have h1 := law4_c0 x s k4 k hk hx hs hxs r (p ++ [y]) n (by simp at h; omega) (by simpa using hl) (by rw [← in_eq]; exact hg) (by
        rw [skp_snoc, hb, btw_cut hne, hc]; rfl)
      rw [← in_eq, show (p ++ [y]).getLastD s = y by simp] at h1
      rw [cond_false, h1]
    · rfl

theorem plain4 (a0 a1 : Int) (l k : List Int) (k4 : Int) : F4 FUEL a0 a1 l k k4 = some true := by
  unfold F4
  rw [wakes8, place22, place22]
  simp only [Option.bind_some]
  have hP : ∀ a, isP (pl a) = true := fun a => by
    have := pl_bd a
    unfold isP; rw [decide_eq_true this.1, decide_eq_true this.2]; rfl
  by_cases h1 : l.length ≤ 10
  · have e1 : igt (ofN l.length) 10 = false := decide_eq_false (by simp only [ofN]; omega)
    by_cases h2 : k.length ≤ 10
    · have e2 : igt (ofN k.length) 10 = false := decide_eq_false (by simp only [ofN]; omega)
      rw [e1, e2, cond_false, cond_false, right15 fuel_big _ l (by omega), Option.bind_some]
      cases hg : good (pl a1) l
      · rfl
      · have hr : rgt (pl a1) 0 l = true := by unfold good at hg; rw [Bool.and_eq_true] at hg; exact hg.1
        by_cases c : pl a0 = pl a1
        · rw [show ieq (pl a0) (pl a1) = true by simp [ieq, c]]; rfl
        · rw [show ieq (pl a0) (pl a1) = false by simp [ieq, c]]
          have := fuel_big
          have h := law4_c0 (pl a0) (pl a1) k4 k h2 (hP a0) (hP a1) c l [] FUEL (by omega) (by simpa using h1) hr rfl
          simp only [Bool.not_true, cond_false]
          exact h
    · have e2 : igt (ofN k.length) 10 = true := decide_eq_true (by simp only [ofN]; omega)
      rw [e1, e2]; rfl
  · have e1 : igt (ofN l.length) 10 = true := decide_eq_true (by simp only [ofN]; omega)
    rw [e1]; rfl

end Go.Proofs.Ytglcodeinalnjaa
