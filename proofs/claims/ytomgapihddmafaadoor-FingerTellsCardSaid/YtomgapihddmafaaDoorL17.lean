/-
  Chapter 17, in plain words: fingers.
-/
import Derived.Test.YtomgapihddmafaaDoorPF
namespace Go.Proofs.YtomgapihddmafaaDoor
open Go Go.RowKit

theorem wakes17 : F9 FUEL = some true := by kernel_rfl

theorem fgreat (n : Nat) (a0 : Int) (a1 a2 : List Int) (a3 a4 a5 a6 a7 a8 a9 a10 a11 a12 a13 a14 a15 a16 a17 a18 a19 : Int) : F8 n a0 a1 a2 a3 a4 a5 a6 a7 a8 a9 a10 a11 a12 a13 a14 a15 a16 a17 a18 a19 = some (decide (20 < a1.length) || decide (20 < a2.length)) := by
  unfold F8
  have e : ∀ l : List Int, igt (ofN l.length) 20 = decide (20 < l.length) := fun l => by
    unfold igt ofN; apply decide_eq_decide.2; omega
  rw [e, e]
  cases decide (20 < a1.length) <;> rfl
theorem fgreat_cases {a1 a2 : List Int} (h : (decide (20 < a1.length) || decide (20 < a2.length)) = false) : a1.length ≤ 20 ∧ a2.length ≤ 20 := by
  simpa using h
theorem set_back {l : List Int} {k : Nat} {x : Int} (h : k < l.length) : (l.set k x).set k (l.getD k 0) = l := by
  rw [List.set_set]
  refine List.ext_getElem (by simp) fun i h1 h2 => ?_
  rw [List.getElem_set]
  split
  · rename_i e; subst e; simp [List.getD, h]
  · rfl
theorem get_set {l : List Int} {k : Nat} {x : Int} (h : k < l.length) : (l.set k x).getD k 0 = x := by
  simp [List.getD, h]

theorem plain_FingerSets (n : Nat) (a0 : Int) (a1 a2 : List Int) (a3 a4 a5 a6 a7 a8 a9 a10 a11 a12 a13 a14 a15 a16 a17 a18 a19 : Int) (i o : Int) (hv : a2.length ≤ 9223372036854775807) : F6 n a0 a1 a2 a3 a4 a5 a6 a7 a8 a9 a10 a11 a12 a13 a14 a15 a16 a17 a18 a19 i o = some true := by
  unfold F6
  have hf := fuel_big
  rw [fgreat, wakes17]
  simp only [Option.bind_some]
  cases hg : (decide (20 < a1.length) || decide (20 < a2.length))
  · obtain ⟨g1, g2⟩ := fgreat_cases hg
    rw [cond_false, viewR_r (by omega) a0 a1 a2 a3 a4 a5 a6 a7 a8 a9 a10 a11 a12 a13 a14 a15 a16 a17 a18 a19 hv, Option.bind_some]
    cases hr : rightV ⟨a0, a1, a2, a3, a4, a5, a6, a7, a8, a9, a10, a11, a12, a13, a14, a15, a16, a17, a18, a19⟩
    · rfl
    · simp only [Bool.not_true, cond_false]
      obtain ⟨l, e, hs, hF⟩ := fset_p (n := FUEL) (by omega) a0 a1 a2 a3 a4 a5 a6 a7 a8 a9 a10 a11 a12 a13 a14 a15 a16 a17 a18 a19 i o (by omega) (by omega)
      rw [hF]
      simp only [Option.bind_some]
      unfold setV at hs
      rw [hr, Bool.true_and] at hs
      have bad : (inR i && isP o) = false → l = [a4, a5, a6, a7, a8, a9, a10, a11, a12, a13, a14, a15, a16, a17, a18, a19] ∧ e = 2 := by
        intro h; rw [h, cond_false] at hs; cases hs; exact ⟨rfl, rfl⟩
      have sm := same_r FUEL a0 a1 a2 a3 a4 a5 a6 a7 a8 a9 a10 a11 a12 a13 a14 a15 a16 a17 a18 a19 a0 a1 a2 a3 a4 a5 a6 a7 a8 a9 a10 a11 a12 a13 a14 a15 a16 a17 a18 a19 (by omega) (by omega)
      rw [decide_eq_true rfl] at sm
      have un : (inR i && isP o) = false → (bif ieq e 2 then (F16 FUEL a0 a1 a2 a3 (l.getD 0 0) (l.getD 1 0) (l.getD 2 0) (l.getD 3 0) (l.getD 4 0) (l.getD 5 0) (l.getD 6 0) (l.getD 7 0) (l.getD 8 0) (l.getD 9 0) (l.getD 10 0) (l.getD 11 0) (l.getD 12 0) (l.getD 13 0) (l.getD 14 0) (l.getD 15 0) a0 a1 a2 a3 a4 a5 a6 a7 a8 a9 a10 a11 a12 a13 a14 a15 a16 a17 a18 a19).bind fun y6 => bif y6 then some true else some false else some false) = some true := by
        intro h
        obtain ⟨rfl, rfl⟩ := bad h
        rw [show ieq 2 2 = true from rfl, cond_true]
        show (F16 FUEL a0 a1 a2 a3 a4 a5 a6 a7 a8 a9 a10 a11 a12 a13 a14 a15 a16 a17 a18 a19 a0 a1 a2 a3 a4 a5 a6 a7 a8 a9 a10 a11 a12 a13 a14 a15 a16 a17 a18 a19).bind _ = _
        rw [sm]; rfl
      by_cases i0 : i < 0
      · rw [show ilt i 0 = true from decide_eq_true i0, cond_true]
        exact un (by unfold inR; rw [decide_eq_false (by omega : ¬ 0 ≤ i)]; rfl)
      rw [show ilt i 0 = false from decide_eq_false i0, cond_false]
      by_cases i1 : 16 ≤ i
      · rw [show ige i 16 = true from decide_eq_true i1, cond_true]
        exact un (by unfold inR; rw [decide_eq_false (by omega : ¬ i < 16), Bool.and_false]; rfl)
      rw [show ige i 16 = false from decide_eq_false (by omega), cond_false]
      by_cases o0 : o < 0
      · rw [show ilt o 0 = true from decide_eq_true o0, cond_true]
        exact un (by unfold isP; rw [decide_eq_false (by omega : ¬ 0 ≤ o)]; simp)
      rw [show ilt o 0 = false from decide_eq_false o0, cond_false]
      by_cases o1 : 65536 ≤ o
      · rw [show ige o 65536 = true from decide_eq_true o1, cond_true]
        exact un (by unfold isP; rw [decide_eq_false (by omega : ¬ o < 65536)]; simp)
      rw [show ige o 65536 = false from decide_eq_false (by omega), cond_false]
      have hi : inR i = true := by unfold inR; rw [decide_eq_true (by omega : 0 ≤ i), decide_eq_true (by omega : i < 16)]; rfl
      have ho : isP o = true := isP_iff.2 (by omega)
      obtain ⟨e1, e2⟩ := inR_in hi
      rw [hi, ho] at hs
      simp only [Bool.and_self, cond_true, Prod.mk.injEq] at hs
      obtain ⟨hs1, hs2⟩ := hs
      have hlen : l.length = 16 := by rw [← hs1, List.length_set]; rfl
      have hk : i.toNat < ([a4, a5, a6, a7, a8, a9, a10, a11, a12, a13, a14, a15, a16, a17, a18, a19] : List Int).length := by show i.toNat < 16; omega
      rw [q16 hlen, ← hs1, ← hs2, set_back hk, get_set hk, e1, e2]
      simp only [cond_true, show ieq 0 0 = true from rfl]
      show (F16 FUEL a0 a1 a2 a3 a4 a5 a6 a7 a8 a9 a10 a11 a12 a13 a14 a15 a16 a17 a18 a19 a0 a1 a2 a3 a4 a5 a6 a7 a8 a9 a10 a11 a12 a13 a14 a15 a16 a17 a18 a19).bind _ = _
      rw [sm]
      unfold ownd
      by_cases hq : o = a0
      · rw [if_pos hq]
        simp only [Option.bind_some, cond_true, ine_dec, ieq_dec, hq]
        cases decide (-1 = a0) <;> simp
      · rw [if_neg hq]
        simp [ine_dec, ieq_dec, hq]
  · rfl

theorem len60 {α : Type} (l : List α) (h : l.length ≤ 60) : igt (ofN l.length) 60 = false := decide_eq_false (by simp only [ofN]; omega)
theorem len60' {α : Type} (l : List α) (h : ¬ l.length ≤ 60) : igt (ofN l.length) 60 = true := decide_eq_true (by simp only [ofN]; omega)

theorem plain_FingerTells (n : Nat) (a0 : Int) (a1 a2 : List Int) (a3 a4 a5 a6 a7 a8 a9 a10 a11 a12 a13 a14 a15 a16 a17 a18 a19 : Int) (i o : Int) (l : List Int) : F3 n a0 a1 a2 a3 a4 a5 a6 a7 a8 a9 a10 a11 a12 a13 a14 a15 a16 a17 a18 a19 i o l = some true := by
  unfold F3
  have hf := fuel_big
  rw [fgreat, wakes17]
  simp only [Option.bind_some]
  cases hg : (decide (20 < a1.length) || decide (20 < a2.length))
  · obtain ⟨g1, g2⟩ := fgreat_cases hg
    rw [cond_false]
    by_cases h3 : l.length ≤ 60
    · rw [len60 l h3, cond_false, fstart_p (by omega), fstart_r FUEL a0 a1 a2 a3 a4 a5 a6 a7 a8 a9 a10 a11 a12 a13 a14 a15 a16 a17 a18 a19 i (by omega), fonce_p, fonce_r FUEL a0 a1 a2 a3 a4 a5 a6 a7 a8 a9 a10 a11 a12 a13 a14 a15 a16 a17 a18 a19 i (by omega)]
      obtain ⟨l1, c1, s1, f1⟩ := fset_p (n := FUEL) (by omega) a0 a1 a2 a3 a4 a5 a6 a7 a8 a9 a10 a11 a12 a13 a14 a15 a16 a17 a18 a19 i o (by omega) (by omega)
      obtain ⟨l2, c2, s2, f2⟩ := fset_r FUEL a0 a1 a2 a3 a4 a5 a6 a7 a8 a9 a10 a11 a12 a13 a14 a15 a16 a17 a18 a19 i o (by omega) (by omega)
      rw [s1] at s2
      cases s2
      obtain ⟨w1, x1, k1, b1, t1, _, u1⟩ := fwalk_p (n := FUEL) (by omega) a0 a1 a2 a3 a4 a5 a6 a7 a8 a9 a10 a11 a12 a13 a14 a15 a16 a17 a18 a19 i (by omega) (by omega)
      obtain ⟨w2, x2, k2, b2, t2, _, u2⟩ := rwalk_r (n := FUEL) (by omega) a0 a1 a2 a3 a4 a5 a6 a7 a8 a9 a10 a11 a12 a13 a14 a15 a16 a17 a18 a19 i (by omega) (by omega)
      rw [t1] at t2
      cases t2
      rw [f1, f2, u1, u2, ftab_p (by omega) a0 a1 a2 a3 a4 a5 a6 a7 a8 a9 a10 a11 a12 a13 a14 a15 a16 a17 a18 a19 l (by omega) (by omega) (by omega), rtab_r (by omega) a0 a1 a2 a3 a4 a5 a6 a7 a8 a9 a10 a11 a12 a13 a14 a15 a16 a17 a18 a19 l (by omega) (by omega) (by omega)]
      simp only [Option.bind_some]
      rw [same_r FUEL a0 a1 a2 a3 (l1.getD 0 0) (l1.getD 1 0) (l1.getD 2 0) (l1.getD 3 0) (l1.getD 4 0) (l1.getD 5 0) (l1.getD 6 0) (l1.getD 7 0) (l1.getD 8 0) (l1.getD 9 0) (l1.getD 10 0) (l1.getD 11 0) (l1.getD 12 0) (l1.getD 13 0) (l1.getD 14 0) (l1.getD 15 0) a0 a1 a2 a3 (l1.getD 0 0) (l1.getD 1 0) (l1.getD 2 0) (l1.getD 3 0) (l1.getD 4 0) (l1.getD 5 0) (l1.getD 6 0) (l1.getD 7 0) (l1.getD 8 0) (l1.getD 9 0) (l1.getD 10 0) (l1.getD 11 0) (l1.getD 12 0) (l1.getD 13 0) (l1.getD 14 0) (l1.getD 15 0) (by omega) (by omega), same_r FUEL a0 a1 a2 a3 (w1.getD 0 0) (w1.getD 1 0) (w1.getD 2 0) (w1.getD 3 0) (w1.getD 4 0) (w1.getD 5 0) (w1.getD 6 0) (w1.getD 7 0) (w1.getD 8 0) (w1.getD 9 0) (w1.getD 10 0) (w1.getD 11 0) (w1.getD 12 0) (w1.getD 13 0) (w1.getD 14 0) (w1.getD 15 0) a0 a1 a2 a3 (w1.getD 0 0) (w1.getD 1 0) (w1.getD 2 0) (w1.getD 3 0) (w1.getD 4 0) (w1.getD 5 0) (w1.getD 6 0) (w1.getD 7 0) (w1.getD 8 0) (w1.getD 9 0) (w1.getD 10 0) (w1.getD 11 0) (w1.getD 12 0) (w1.getD 13 0) (w1.getD 14 0) (w1.getD 15 0) (by omega) (by omega)]
      rw [same_r FUEL a0 a1 a2 a3 (((tabV ⟨a0, a1, a2, a3, a4, a5, a6, a7, a8, a9, a10, a11, a12, a13, a14, a15, a16, a17, a18, a19⟩ [a4, a5, a6, a7, a8, a9, a10, a11, a12, a13, a14, a15, a16, a17, a18, a19] l).1).getD 0 0) (((tabV ⟨a0, a1, a2, a3, a4, a5, a6, a7, a8, a9, a10, a11, a12, a13, a14, a15, a16, a17, a18, a19⟩ [a4, a5, a6, a7, a8, a9, a10, a11, a12, a13, a14, a15, a16, a17, a18, a19] l).1).getD 1 0) (((tabV ⟨a0, a1, a2, a3, a4, a5, a6, a7, a8, a9, a10, a11, a12, a13, a14, a15, a16, a17, a18, a19⟩ [a4, a5, a6, a7, a8, a9, a10, a11, a12, a13, a14, a15, a16, a17, a18, a19] l).1).getD 2 0) (((tabV ⟨a0, a1, a2, a3, a4, a5, a6, a7, a8, a9, a10, a11, a12, a13, a14, a15, a16, a17, a18, a19⟩ [a4, a5, a6, a7, a8, a9, a10, a11, a12, a13, a14, a15, a16, a17, a18, a19] l).1).getD 3 0) (((tabV ⟨a0, a1, a2, a3, a4, a5, a6, a7, a8, a9, a10, a11, a12, a13, a14, a15, a16, a17, a18, a19⟩ [a4, a5, a6, a7, a8, a9, a10, a11, a12, a13, a14, a15, a16, a17, a18, a19] l).1).getD 4 0) (((tabV ⟨a0, a1, a2, a3, a4, a5, a6, a7, a8, a9, a10, a11, a12, a13, a14, a15, a16, a17, a18, a19⟩ [a4, a5, a6, a7, a8, a9, a10, a11, a12, a13, a14, a15, a16, a17, a18, a19] l).1).getD 5 0) (((tabV ⟨a0, a1, a2, a3, a4, a5, a6, a7, a8, a9, a10, a11, a12, a13, a14, a15, a16, a17, a18, a19⟩ [a4, a5, a6, a7, a8, a9, a10, a11, a12, a13, a14, a15, a16, a17, a18, a19] l).1).getD 6 0) (((tabV ⟨a0, a1, a2, a3, a4, a5, a6, a7, a8, a9, a10, a11, a12, a13, a14, a15, a16, a17, a18, a19⟩ [a4, a5, a6, a7, a8, a9, a10, a11, a12, a13, a14, a15, a16, a17, a18, a19] l).1).getD 7 0) (((tabV ⟨a0, a1, a2, a3, a4, a5, a6, a7, a8, a9, a10, a11, a12, a13, a14, a15, a16, a17, a18, a19⟩ [a4, a5, a6, a7, a8, a9, a10, a11, a12, a13, a14, a15, a16, a17, a18, a19] l).1).getD 8 0) (((tabV ⟨a0, a1, a2, a3, a4, a5, a6, a7, a8, a9, a10, a11, a12, a13, a14, a15, a16, a17, a18, a19⟩ [a4, a5, a6, a7, a8, a9, a10, a11, a12, a13, a14, a15, a16, a17, a18, a19] l).1).getD 9 0) (((tabV ⟨a0, a1, a2, a3, a4, a5, a6, a7, a8, a9, a10, a11, a12, a13, a14, a15, a16, a17, a18, a19⟩ [a4, a5, a6, a7, a8, a9, a10, a11, a12, a13, a14, a15, a16, a17, a18, a19] l).1).getD 10 0) (((tabV ⟨a0, a1, a2, a3, a4, a5, a6, a7, a8, a9, a10, a11, a12, a13, a14, a15, a16, a17, a18, a19⟩ [a4, a5, a6, a7, a8, a9, a10, a11, a12, a13, a14, a15, a16, a17, a18, a19] l).1).getD 11 0) (((tabV ⟨a0, a1, a2, a3, a4, a5, a6, a7, a8, a9, a10, a11, a12, a13, a14, a15, a16, a17, a18, a19⟩ [a4, a5, a6, a7, a8, a9, a10, a11, a12, a13, a14, a15, a16, a17, a18, a19] l).1).getD 12 0) (((tabV ⟨a0, a1, a2, a3, a4, a5, a6, a7, a8, a9, a10, a11, a12, a13, a14, a15, a16, a17, a18, a19⟩ [a4, a5, a6, a7, a8, a9, a10, a11, a12, a13, a14, a15, a16, a17, a18, a19] l).1).getD 13 0) (((tabV ⟨a0, a1, a2, a3, a4, a5, a6, a7, a8, a9, a10, a11, a12, a13, a14, a15, a16, a17, a18, a19⟩ [a4, a5, a6, a7, a8, a9, a10, a11, a12, a13, a14, a15, a16, a17, a18, a19] l).1).getD 14 0) (((tabV ⟨a0, a1, a2, a3, a4, a5, a6, a7, a8, a9, a10, a11, a12, a13, a14, a15, a16, a17, a18, a19⟩ [a4, a5, a6, a7, a8, a9, a10, a11, a12, a13, a14, a15, a16, a17, a18, a19] l).1).getD 15 0) a0 a1 a2 a3 (((tabV ⟨a0, a1, a2, a3, a4, a5, a6, a7, a8, a9, a10, a11, a12, a13, a14, a15, a16, a17, a18, a19⟩ [a4, a5, a6, a7, a8, a9, a10, a11, a12, a13, a14, a15, a16, a17, a18, a19] l).1).getD 0 0) (((tabV ⟨a0, a1, a2, a3, a4, a5, a6, a7, a8, a9, a10, a11, a12, a13, a14, a15, a16, a17, a18, a19⟩ [a4, a5, a6, a7, a8, a9, a10, a11, a12, a13, a14, a15, a16, a17, a18, a19] l).1).getD 1 0) (((tabV ⟨a0, a1, a2, a3, a4, a5, a6, a7, a8, a9, a10, a11, a12, a13, a14, a15, a16, a17, a18, a19⟩ [a4, a5, a6, a7, a8, a9, a10, a11, a12, a13, a14, a15, a16, a17, a18, a19] l).1).getD 2 0) (((tabV ⟨a0, a1, a2, a3, a4, a5, a6, a7, a8, a9, a10, a11, a12, a13, a14, a15, a16, a17, a18, a19⟩ [a4, a5, a6, a7, a8, a9, a10, a11, a12, a13, a14, a15, a16, a17, a18, a19] l).1).getD 3 0) (((tabV ⟨a0, a1, a2, a3, a4, a5, a6, a7, a8, a9, a10, a11, a12, a13, a14, a15, a16, a17, a18, a19⟩ [a4, a5, a6, a7, a8, a9, a10, a11, a12, a13, a14, a15, a16, a17, a18, a19] l).1).getD 4 0) (((tabV ⟨a0, a1, a2, a3, a4, a5, a6, a7, a8, a9, a10, a11, a12, a13, a14, a15, a16, a17, a18, a19⟩ [a4, a5, a6, a7, a8, a9, a10, a11, a12, a13, a14, a15, a16, a17, a18, a19] l).1).getD 5 0) (((tabV ⟨a0, a1, a2, a3, a4, a5, a6, a7, a8, a9, a10, a11, a12, a13, a14, a15, a16, a17, a18, a19⟩ [a4, a5, a6, a7, a8, a9, a10, a11, a12, a13, a14, a15, a16, a17, a18, a19] l).1).getD 6 0) (((tabV ⟨a0, a1, a2, a3, a4, a5, a6, a7, a8, a9, a10, a11, a12, a13, a14, a15, a16, a17, a18, a19⟩ [a4, a5, a6, a7, a8, a9, a10, a11, a12, a13, a14, a15, a16, a17, a18, a19] l).1).getD 7 0) (((tabV ⟨a0, a1, a2, a3, a4, a5, a6, a7, a8, a9, a10, a11, a12, a13, a14, a15, a16, a17, a18, a19⟩ [a4, a5, a6, a7, a8, a9, a10, a11, a12, a13, a14, a15, a16, a17, a18, a19] l).1).getD 8 0) (((tabV ⟨a0, a1, a2, a3, a4, a5, a6, a7, a8, a9, a10, a11, a12, a13, a14, a15, a16, a17, a18, a19⟩ [a4, a5, a6, a7, a8, a9, a10, a11, a12, a13, a14, a15, a16, a17, a18, a19] l).1).getD 9 0) (((tabV ⟨a0, a1, a2, a3, a4, a5, a6, a7, a8, a9, a10, a11, a12, a13, a14, a15, a16, a17, a18, a19⟩ [a4, a5, a6, a7, a8, a9, a10, a11, a12, a13, a14, a15, a16, a17, a18, a19] l).1).getD 10 0) (((tabV ⟨a0, a1, a2, a3, a4, a5, a6, a7, a8, a9, a10, a11, a12, a13, a14, a15, a16, a17, a18, a19⟩ [a4, a5, a6, a7, a8, a9, a10, a11, a12, a13, a14, a15, a16, a17, a18, a19] l).1).getD 11 0) (((tabV ⟨a0, a1, a2, a3, a4, a5, a6, a7, a8, a9, a10, a11, a12, a13, a14, a15, a16, a17, a18, a19⟩ [a4, a5, a6, a7, a8, a9, a10, a11, a12, a13, a14, a15, a16, a17, a18, a19] l).1).getD 12 0) (((tabV ⟨a0, a1, a2, a3, a4, a5, a6, a7, a8, a9, a10, a11, a12, a13, a14, a15, a16, a17, a18, a19⟩ [a4, a5, a6, a7, a8, a9, a10, a11, a12, a13, a14, a15, a16, a17, a18, a19] l).1).getD 13 0) (((tabV ⟨a0, a1, a2, a3, a4, a5, a6, a7, a8, a9, a10, a11, a12, a13, a14, a15, a16, a17, a18, a19⟩ [a4, a5, a6, a7, a8, a9, a10, a11, a12, a13, a14, a15, a16, a17, a18, a19] l).1).getD 14 0) (((tabV ⟨a0, a1, a2, a3, a4, a5, a6, a7, a8, a9, a10, a11, a12, a13, a14, a15, a16, a17, a18, a19⟩ [a4, a5, a6, a7, a8, a9, a10, a11, a12, a13, a14, a15, a16, a17, a18, a19] l).1).getD 15 0) (by omega) (by omega)]
      have e : ∀ b : Int, ine b b = false := fun b => by simp [ine]
      have e2 : ∀ b : Int, ieq b b = true := fun b => by simp [ieq]
      have e3 : ∀ b : Bool, bneb b b = false := fun b => by cases b <;> rfl
      have e4 : ∀ b : Bool, beqb b b = true := fun b => by cases b <;> rfl
      simp only [e, e2, e3, e4, Option.bind_some, decide_true, cond_false, cond_true, Bool.not_true]
    · rw [len60' l h3]; rfl
  · rfl

/-! ### What is told at once. -/
theorem ieq_self' (b : Int) : ieq b b = true := by simp [ieq]
theorem fr_start {id i : Int} (hid : isP id = true) (h0 : 0 ≤ i) (h1 : i < 16) : fr id (stt id i) = 2 ^ i.toNat ∧ isP (stt id i) = true := by
  obtain ⟨b1, b2⟩ := two_le (k := i.toNat) (by omega)
  have h := isP_iff.1 hid
  unfold stt
  rw [if_pos ⟨h0, h1⟩]
  refine ⟨?_, isP_of_pl _⟩
  generalize (2 : Int) ^ i.toNat = z at *
  unfold fr pl
  omega
theorem upt_far {w y x : Int} (hy : 0 < fr w y) (hx : 0 < fr w x) : upt w y x = decide (fr w x ≤ fr w y) := by
  unfold upt cut
  rw [decide_eq_true hx, Bool.true_and, decide_eq_false (by omega : ¬ fr w y = 0), Bool.false_or]
  have e : (pl x = pl y) ↔ fr w x = fr w y := by unfold pl fr; omega
  by_cases h : fr w x < fr w y
  · rw [decide_eq_true h, decide_eq_true (by omega : fr w x ≤ fr w y)]; rfl
  · rw [decide_eq_false h, Bool.false_or]
    apply decide_eq_decide.2
    rw [e]; omega
theorem once_far {v : VW} {i : Int} (hr : rightV v = true) (h0 : 0 ≤ i) (h1 : i < 16) : onceV v i = bif decide ((2 : Int) ^ i.toNat ≤ fr v.id (firstV v)) then (firstV v, true) else (0, false) := by
  obtain ⟨f1, f2⟩ := firstV_ok hr
  have hid := (rightV_parts hr).1
  have hs := (fr_start hid h0 h1).1
  have hpos := (two_le (k := i.toNat) (by omega)).2
  unfold onceV
  have hi : inR i = true := by unfold inR; rw [decide_eq_true h0, decide_eq_true h1]; rfl
  rw [hr, hi, upt_far ((fr_pos hid f1).2 f2) (by rw [hs]; exact hpos), hs]; rfl
theorem pow_le {i j : Nat} (h : i ≤ j) : (2 : Int) ^ i ≤ 2 ^ j := by
  have h1 : (2 : Nat) ^ i ≤ 2 ^ j := Nat.pow_le_pow_right (by decide) h
  have h2 : ((2 ^ i : Nat) : Int) = (2 : Int) ^ i := by push_cast; rfl
  have h3 : ((2 ^ j : Nat) : Int) = (2 : Int) ^ j := by push_cast; rfl
  omega
theorem wlk_ok {v : VW} : ∀ (m i : Nat) (l l' : List Int) (x k : Int) (t : Bool), i + m = 16 → l.length = 16 → wlk v m i l = (l', x, k, t) → (t = true → (onceV v x).2 = false ∧ ofN i ≤ x ∧ k = stt v.id x) ∧ (t = false → x = 0 ∧ k = 0 ∧ (0 < m → l'.getD 15 0 = firstV v))
  | 0, i, l, l', x, k, t, hi, hl, h => by
    rw [wlk] at h; cases h
    exact ⟨(fun h => by cases h), fun _ => ⟨rfl, rfl, fun h => by omega⟩⟩
  | m + 1, i, l, l', x, k, t, hi, hl, h => by
    rw [wlk] at h
    cases ho : (onceV v (ofN i)).2
    · rw [ho, cond_false] at h; cases h
      exact ⟨fun _ => ⟨ho, Int.le_refl _, rfl⟩, fun h => by cases h⟩
    · rw [ho, cond_true] at h
      obtain ⟨w1, w2⟩ := wlk_ok m (i + 1) _ l' x k t (by omega) (by rw [List.length_set]; exact hl) h
      refine ⟨fun ht => ?_, fun ht => ?_⟩
      · obtain ⟨y1, y2, y3⟩ := w1 ht
        exact ⟨y1, by simp only [ofN] at y2 ⊢; omega, y3⟩
      · obtain ⟨y1, y2, y3⟩ := w2 ht
        refine ⟨y1, y2, fun _ => ?_⟩
        cases m with
        | succ m => exact y3 (by omega)
        | zero =>
          have : i = 15 := by omega
          subst this
          rw [wlk] at h; cases h
          exact get_set (by rw [hl]; decide)
theorem once_c (a0 : Int) (a1 a2 : List Int) (a3 a4 a5 a6 a7 a8 a9 a10 a11 a12 a13 a14 a15 a16 a17 a18 a19 : Int) (hr : rightV ⟨a0, a1, a2, a3, a4, a5, a6, a7, a8, a9, a10, a11, a12, a13, a14, a15, a16, a17, a18, a19⟩ = true) (g1 : a1.length ≤ 20) (g2 : a2.length ≤ 20) (i : Nat) (hi : i < 16) (b : Bool) (hb : b = true → (2 : Int) ^ i ≤ fr a0 (firstV ⟨a0, a1, a2, a3, a4, a5, a6, a7, a8, a9, a10, a11, a12, a13, a14, a15, a16, a17, a18, a19⟩)) : ∀ (m k n : Nat), k + m = i → m < n →
    F5_c0 n (ofN i) (firstV ⟨a0, a1, a2, a3, a4, a5, a6, a7, a8, a9, a10, a11, a12, a13, a14, a15, a16, a17, a18, a19⟩) b (ofN k) a0 a1 a2 a3 a4 a5 a6 a7 a8 a9 a10 a11 a12 a13 a14 a15 a16 a17 a18 a19 = some true
  | _, _, 0, _, h => by omega
  | m, k, n + 1, hk, hn => by
    have hf := fuel_big
    obtain ⟨l, x, q, t, hw, hlw, u1⟩ := fwalk_p (n := FUEL) (by omega) a0 a1 a2 a3 a4 a5 a6 a7 a8 a9 a10 a11 a12 a13 a14 a15 a16 a17 a18 a19 (ofN i) (by omega) (by omega)
    unfold walkV at hw
    rw [hr, inR_nat hi, cond_true, cond_true, ofN_toNat] at hw
    obtain ⟨w1, w2⟩ := wlk_ok (16 - i) i _ l x q t (by omega) rfl hw
    have hlw' := q16 hlw
    have gi : inb 15 16 = true := by decide
    have gn : nlt (Int.toNat 15) 16 = true := by decide
    have w3 : t = false → x = 0 ∧ q = 0 ∧ l.getD (Int.toNat 15) 0 = firstV ⟨a0, a1, a2, a3, a4, a5, a6, a7, a8, a9, a10, a11, a12, a13, a14, a15, a16, a17, a18, a19⟩ := fun h => ⟨(w2 h).1, (w2 h).2.1, (w2 h).2.2 (by omega)⟩
    simp only [F5_c0]
    cases m with
    | zero =>
      have : k = i := by omega
      subst this
      rw [show ilt (ofN k) (ofN k) = false from decide_eq_false (by omega), cond_false]
      rw [u1]
      simp only [Option.bind_some, fonce_p, wakes17]
      rw [start_r (show 100 < FUEL by omega)]
      simp only [Option.bind_some]
      cases t
      · obtain ⟨y1, y2, y3⟩ := w3 rfl
        rw [y1, y2, hlw', gi, gn, y3, ieq_self', ieq_self']; rfl
      · obtain ⟨y1, y2, y3⟩ := w1 rfl
        rw [y1, y3, ieq_self', show ige x (ofN k) = true from decide_eq_true y2]; rfl
    | succ m =>
      rw [show ilt (ofN k) (ofN i) = true from decide_eq_true (by simp only [ofN]; omega), cond_true]
      cases b
      · rw [cond_false]
        rw [u1]
        simp only [Option.bind_some, fonce_p, wakes17]
        rw [start_r (show 100 < FUEL by omega)]
        simp only [Option.bind_some]
        cases t
        · obtain ⟨y1, y2, y3⟩ := w3 rfl
          rw [y1, y2, hlw', gi, gn, y3, ieq_self', ieq_self']; rfl
        · obtain ⟨y1, y2, y3⟩ := w1 rfl
          rw [y1, y3, ieq_self', show ige x (ofN i) = true from decide_eq_true y2]; rfl
      · have ho := once_far (i := ofN k) hr (by simp only [ofN]; omega) (by simp only [ofN]; omega)
        have hle := hb rfl
        have := pow_le (show k ≤ i by omega)
        rw [ofN_toNat, decide_eq_true (show (2 : Int) ^ k ≤ fr a0 (firstV ⟨a0, a1, a2, a3, a4, a5, a6, a7, a8, a9, a10, a11, a12, a13, a14, a15, a16, a17, a18, a19⟩) by omega)] at ho
        rw [cond_true, fonce_p, ho]
        simp only [cond_true, Option.bind_some, Bool.not_true, cond_false, show ine (firstV ⟨a0, a1, a2, a3, a4, a5, a6, a7, a8, a9, a10, a11, a12, a13, a14, a15, a16, a17, a18, a19⟩) (firstV ⟨a0, a1, a2, a3, a4, a5, a6, a7, a8, a9, a10, a11, a12, a13, a14, a15, a16, a17, a18, a19⟩) = false by simp [ine], fg_ofN k (show k < 16 by omega)]
        exact once_c a0 a1 a2 a3 a4 a5 a6 a7 a8 a9 a10 a11 a12 a13 a14 a15 a16 a17 a18 a19 hr g1 g2 i hi true hb m (k + 1) n (by omega) (by omega)
theorem plain_FingerOnce (n : Nat) (a0 : Int) (a1 a2 : List Int) (a3 a4 a5 a6 a7 a8 a9 a10 a11 a12 a13 a14 a15 a16 a17 a18 a19 : Int) (i : Int) (hv : a2.length ≤ 9223372036854775807) (hn : 1000 < n) : F5 n a0 a1 a2 a3 a4 a5 a6 a7 a8 a9 a10 a11 a12 a13 a14 a15 a16 a17 a18 a19 i = some true := by
  unfold F5
  have hf := fuel_big
  rw [fgreat, wakes17]
  simp only [Option.bind_some]
  cases hg : (decide (20 < a1.length) || decide (20 < a2.length))
  · obtain ⟨g1, g2⟩ := fgreat_cases hg
    rw [cond_false, viewR_r (by omega) a0 a1 a2 a3 a4 a5 a6 a7 a8 a9 a10 a11 a12 a13 a14 a15 a16 a17 a18 a19 hv, Option.bind_some]
    cases hr : rightV ⟨a0, a1, a2, a3, a4, a5, a6, a7, a8, a9, a10, a11, a12, a13, a14, a15, a16, a17, a18, a19⟩
    · rfl
    · simp only [Bool.not_true, cond_false]
      by_cases i0 : i < 0
      · rw [show ilt i 0 = true from decide_eq_true i0]; rfl
      rw [show ilt i 0 = false from decide_eq_false i0, cond_false]
      by_cases i1 : 16 ≤ i
      · rw [show ige i 16 = true from decide_eq_true i1]; rfl
      rw [show ige i 16 = false from decide_eq_false (by omega), cond_false, first_vr FUEL a0 a1 a2 a3 a4 a5 a6 a7 a8 a9 a10 a11 a12 a13 a14 a15 a16 a17 a18 a19 hv, fonce_p, fstart_p (by omega)]
      have hi : inR i = true := by unfold inR; rw [decide_eq_true (by omega : 0 ≤ i), decide_eq_true (by omega : i < 16)]; rfl
      have hid : isP a0 = true := (rightV_parts hr).1
      have hs := (fr_start (i := i) hid (by omega) (by omega)).1
      have hc : ∀ b, (b = true → (2 : Int) ^ i.toNat ≤ fr a0 (firstV ⟨a0, a1, a2, a3, a4, a5, a6, a7, a8, a9, a10, a11, a12, a13, a14, a15, a16, a17, a18, a19⟩)) → F5_c0 n i (firstV ⟨a0, a1, a2, a3, a4, a5, a6, a7, a8, a9, a10, a11, a12, a13, a14, a15, a16, a17, a18, a19⟩) b 0 a0 a1 a2 a3 a4 a5 a6 a7 a8 a9 a10 a11 a12 a13 a14 a15 a16 a17 a18 a19 = some true := by
        intro b hb
        have := once_c a0 a1 a2 a3 a4 a5 a6 a7 a8 a9 a10 a11 a12 a13 a14 a15 a16 a17 a18 a19 hr g1 g2 i.toNat (by omega) b hb i.toNat 0 n (by omega) (by omega)
        rw [show ofN i.toNat = i by simp only [ofN]; omega] at this
        exact this
      rw [once_far hr (by omega) (by omega)]
      unfold startV
      rw [hr, hi]
      simp only [Option.bind_some, Bool.and_self, cond_true, far_r, hs, show ine 0 0 = false from rfl, cond_false]
      have e : ile ((2 : Int) ^ i.toNat) (fr a0 (firstV ⟨a0, a1, a2, a3, a4, a5, a6, a7, a8, a9, a10, a11, a12, a13, a14, a15, a16, a17, a18, a19⟩)) = decide ((2 : Int) ^ i.toNat ≤ fr a0 (firstV ⟨a0, a1, a2, a3, a4, a5, a6, a7, a8, a9, a10, a11, a12, a13, a14, a15, a16, a17, a18, a19⟩)) := rfl
      rw [e]
      have en : ine (firstV ⟨a0, a1, a2, a3, a4, a5, a6, a7, a8, a9, a10, a11, a12, a13, a14, a15, a16, a17, a18, a19⟩) (firstV ⟨a0, a1, a2, a3, a4, a5, a6, a7, a8, a9, a10, a11, a12, a13, a14, a15, a16, a17, a18, a19⟩) = false := by simp [ine]
      cases hd : decide ((2 : Int) ^ i.toNat ≤ fr a0 (firstV ⟨a0, a1, a2, a3, a4, a5, a6, a7, a8, a9, a10, a11, a12, a13, a14, a15, a16, a17, a18, a19⟩))
      · simp only [cond_false, show bneb false false = false from rfl, Bool.not_false, cond_true, show ine 0 0 = false from rfl]
        exact hc false (fun h => by cases h)
      · simp only [cond_true, show bneb true true = false from rfl, Bool.not_true, cond_false, en]
        exact hc true (fun _ => of_decide_eq_true hd)
  · rfl
end Go.Proofs.YtomgapihddmafaaDoor
