/-
  Chapter 17, in plain words: fingers.
-/
import Derived.Test.YtomgapihddmafaaDoorPF
namespace Go.Proofs.YtomgapihddmafaaDoor
open Go Go.RowKit

theorem wakes17 : F9 FUEL = some true := by kernel_rfl

theorem fgreat (n : Nat) (a0 : Int) (a1 a2 : List Int) (a3 a4 a5 a6 a7 a8 a9 a10 a11 a12 a13 a14 a15 a16 a17 a18 a19 : Int) : F8 n a0 a1 a2 a3 a4 a5 a6 a7 a8 a9 a10 a11 a12 a13 a14 a15 a16 a17 a18 a19 = some (decide (20 < a1.length) || decide (20 < a2.length)) := by
  unfold F8
  have e : ∀ l : List Int, igt (ofN l.length) 20 = decide (20 < l.length) := fun l => by
    unfold igt ofN; apply decide_eq_decide.2; omega
  rw [e, e]
  cases decide (20 < a1.length) <;> rfl
theorem fgreat_cases {a1 a2 : List Int} (h : (decide (20 < a1.length) || decide (20 < a2.length)) = false) : a1.length ≤ 20 ∧ a2.length ≤ 20 := by
  simpa using h
theorem set_back {l : List Int} {k : Nat} {x : Int} (h : k < l.length) : (l.set k x).set k (l.getD k 0) = l := by
  rw [List.set_set]
  refine List.ext_getElem (by simp) fun i h1 h2 => ?_
  rw [List.getElem_set]
  split
  · rename_i e; subst e; simp [List.getD, h]
  · rfl
theorem get_set {l : List Int} {k : Nat} {x : Int} (h : k < l.length) : (l.set k x).getD k 0 = x := by
  simp [List.getD, h]

theorem plain_FingerSets (n : Nat) (a0 : Int) (a1 a2 : List Int) (a3 a4 a5 a6 a7 a8 a9 a10 a11 a12 a13 a14 a15 a16 a17 a18 a19 : Int) (i o : Int) (hv : a2.length ≤ 9223372036854775807) : F6 n a0 a1 a2 a3 a4 a5 a6 a7 a8 a9 a10 a11 a12 a13 a14 a15 a16 a17 a18 a19 i o = some true := by
  unfold F6
  have hf := fuel_big
  rw [fgreat, wakes17]
  simp only [Option.bind_some]
  cases hg : (decide (20 < a1.length) || decide (20 < a2.length))
  · obtain ⟨g1, g2⟩ := fgreat_cases hg
    rw [cond_false, viewR_r (by omega) a0 a1 a2 a3 a4 a5 a6 a7 a8 a9 a10 a11 a12 a13 a14 a15 a16 a17 a18 a19 hv, Option.bind_some]
    cases hr : rightV ⟨a0, a1, a2, a3, a4, a5, a6, a7, a8, a9, a10, a11, a12, a13, a14, a15, a16, a17, a18, a19⟩
    · rfl
    · simp only [Bool.not_true, cond_false]
      obtain ⟨l, e, hs, hF⟩ := fset_p (n := FUEL) (by omega) a0 a1 a2 a3 a4 a5 a6 a7 a8 a9 a10 a11 a12 a13 a14 a15 a16 a17 a18 a19 i o (by omega) (by omega)
      rw [hF]
      simp only [Option.bind_some]
      unfold setV at hs
      rw [hr, Bool.true_and] at hs
      have bad : (inR i && isP o) = false → l = [a4, a5, a6, a7, a8, a9, a10, a11, a12, a13, a14, a15, a16, a17, a18, a19] ∧ e = 2 := by
        intro h; rw [h, cond_false] at hs; cases hs; exact ⟨rfl, rfl⟩
      have sm := same_r FUEL a0 a1 a2 a3 a4 a5 a6 a7 a8 a9 a10 a11 a12 a13 a14 a15 a16 a17 a18 a19 a0 a1 a2 a3 a4 a5 a6 a7 a8 a9 a10 a11 a12 a13 a14 a15 a16 a17 a18 a19 (by omega) (by omega)
      rw [decide_eq_true rfl] at sm
      have un : (inR i && isP o) = false → (bif ieq e 2 then (F16 FUEL a0 a1 a2 a3 (l.getD 0 0) (l.getD 1 0) (l.getD 2 0) (l.getD 3 0) (l.getD 4 0) (l.getD 5 0) (l.getD 6 0) (l.getD 7 0) (l.getD 8 0) (l.getD 9 0) (l.getD 10 0) (l.getD 11 0) (l.getD 12 0) (l.getD 13 0) (l.getD 14 0) (l.getD 15 0) a0 a1 a2 a3 a4 a5 a6 a7 a8 a9 a10 a11 a12 a13 a14 a15 a16 a17 a18 a19).bind fun y6 => bif y6 then some true else some false else some false) = some true := by
        intro h
        obtain ⟨rfl, rfl⟩ := bad h
        rw [show ieq 2 2 = true from rfl, cond_true]
        show (F16 FUEL a0 a1 a2 a3 a4 a5 a6 a7 a8 a9 a10 a11 a12 a13 a14 a15 a16 a17 a18 a19 a0 a1 a2 a3 a4 a5 a6 a7 a8 a9 a10 a11 a12 a13 a14 a15 a16 a17 a18 a19).bind _ = _
        rw [sm]; rfl
      by_cases i0 : i < 0
      · rw [show ilt i 0 = true from decide_eq_true i0, cond_true]
        exact un (by unfold inR; rw [decide_eq_false (by omega : ¬ 0 ≤ i)]; rfl)
      rw [show ilt i 0 = false from decide_eq_false i0, cond_false]
      by_cases i1 : 16 ≤ i
      · rw [show ige i 16 = true from decide_eq_true i1, cond_true]
        exact un (by unfold inR; rw [decide_eq_false (by omega : ¬ i < 16), Bool.and_false]; rfl)
      rw [show ige i 16 = false from decide_eq_false (by omega), cond_false]
      by_cases o0 : o < 0
      · rw [show ilt o 0 = true from decide_eq_true o0, cond_true]
        exact un (by unfold isP; rw [decide_eq_false (by omega : ¬ 0 ≤ o)]; simp)
      rw [show ilt o 0 = false from decide_eq_false o0, cond_false]
      by_cases o1 : 65536 ≤ o
      · rw [show ige o 65536 = true from decide_eq_true o1, cond_true]
        exact un (by unfold isP; rw [decide_eq_false (by omega : ¬ o < 65536)]; simp)
      rw [show ige o 65536 = false from decide_eq_false (by omega), cond_false]
      have hi : inR i = true := by unfold inR; rw [decide_eq_true (by omega : 0 ≤ i), decide_eq_true (by omega : i < 16)]; rfl
      have ho : isP o = true := isP_iff.2 (by omega)
      obtain ⟨e1, e2⟩ := inR_in hi
      rw [hi, ho] at hs
      simp only [Bool.and_self, cond_true, Prod.mk.injEq] at hs
      obtain ⟨hs1, hs2⟩ := hs
      have hlen : l.length = 16 := by rw [← hs1, List.length_set]; rfl
      have hk : i.toNat < ([a4, a5, a6, a7, a8, a9, a10, a11, a12, a13, a14, a15, a16, a17, a18, a19] : List Int).length := by show i.toNat < 16; omega
      rw [q16 hlen, ← hs1, ← hs2, set_back hk, get_set hk, e1, e2]
      simp only [cond_true, show ieq 0 0 = true from rfl]
      show (F16 FUEL a0 a1 a2 a3 a4 a5 a6 a7 a8 a9 a10 a11 a12 a13 a14 a15 a16 a17 a18 a19 a0 a1 a2 a3 a4 a5 a6 a7 a8 a9 a10 a11 a12 a13 a14 a15 a16 a17 a18 a19).bind _ = _
      rw [sm]
      unfold ownd
      by_cases hq : o = a0
      · rw [if_pos hq]
        simp only [Option.bind_some, cond_true, ine_dec, ieq_dec, hq]
        cases decide (-1 = a0) <;> simp
      · rw [if_neg hq]
        simp [ine_dec, ieq_dec, hq]
  · rfl

theorem len60 {α : Type} (l : List α) (h : l.length ≤ 60) : igt (ofN l.length) 60 = false := decide_eq_false (by simp only [ofN]; omega)
theorem len60' {α : Type} (l : List α) (h : ¬ l.length ≤ 60) : igt (ofN l.length) 60 = true := decide_eq_true (by simp only [ofN]; omega)

theorem plain_FingerTells (n : Nat) (a0 : Int) (a1 a2 : List Int) (a3 a4 a5 a6 a7 a8 a9 a10 a11 a12 a13 a14 a15 a16 a17 a18 a19 : Int) (i o : Int) (l : List Int) : F3 n a0 a1 a2 a3 a4 a5 a6 a7 a8 a9 a10 a11 a12 a13 a14 a15 a16 a17 a18 a19 i o l = some true := by
  unfold F3
  have hf := fuel_big
  rw [fgreat, wakes17]
  simp only [Option.bind_some]
  cases hg : (decide (20 < a1.length) || decide (20 < a2.length))
  · obtain ⟨g1, g2⟩ := fgreat_cases hg
    rw [cond_false]
    by_cases h3 : l.length ≤ 60
    · rw [len60 l h3, cond_false, fstart_p (by omega), fstart_r FUEL a0 a1 a2 a3 a4 a5 a6 a7 a8 a9 a10 a11 a12 a13 a14 a15 a16 a17 a18 a19 i (by omega), fonce_p, fonce_r FUEL a0 a1 a2 a3 a4 a5 a6 a7 a8 a9 a10 a11 a12 a13 a14 a15 a16 a17 a18 a19 i (by omega)]
      obtain ⟨l1, c1, s1, f1⟩ := fset_p (n := FUEL) (by omega) a0 a1 a2 a3 a4 a5 a6 a7 a8 a9 a10 a11 a12 a13 a14 a15 a16 a17 a18 a19 i o (by omega) (by omega)
      obtain ⟨l2, c2, s2, f2⟩ := fset_r FUEL a0 a1 a2 a3 a4 a5 a6 a7 a8 a9 a10 a11 a12 a13 a14 a15 a16 a17 a18 a19 i o (by omega) (by omega)
      rw [s1] at s2
      cases s2
      obtain ⟨w1, x1, k1, b1, t1, _, u1⟩ := fwalk_p (n := FUEL) (by omega) a0 a1 a2 a3 a4 a5 a6 a7 a8 a9 a10 a11 a12 a13 a14 a15 a16 a17 a18 a19 i (by omega) (by omega)
      obtain ⟨w2, x2, k2, b2, t2, _, u2⟩ := rwalk_r (n := FUEL) (by omega) a0 a1 a2 a3 a4 a5 a6 a7 a8 a9 a10 a11 a12 a13 a14 a15 a16 a17 a18 a19 i (by omega) (by omega)
      rw [t1] at t2
      cases t2
      rw [f1, f2, u1, u2, ftab_p (by omega) a0 a1 a2 a3 a4 a5 a6 a7 a8 a9 a10 a11 a12 a13 a14 a15 a16 a17 a18 a19 l (by omega) (by omega) (by omega), rtab_r (by omega) a0 a1 a2 a3 a4 a5 a6 a7 a8 a9 a10 a11 a12 a13 a14 a15 a16 a17 a18 a19 l (by omega) (by omega) (by omega)]
      simp only [Option.bind_some]
      rw [same_r FUEL a0 a1 a2 a3 (l1.getD 0 0) (l1.getD 1 0) (l1.getD 2 0) (l1.getD 3 0) (l1.getD 4 0) (l1.getD 5 0) (l1.getD 6 0) (l1.getD 7 0) (l1.getD 8 0) (l1.getD 9 0) (l1.getD 10 0) (l1.getD 11 0) (l1.getD 12 0) (l1.getD 13 0) (l1.getD 14 0) (l1.getD 15 0) a0 a1 a2 a3 (l1.getD 0 0) (l1.getD 1 0) (l1.getD 2 0) (l1.getD 3 0) (l1.getD 4 0) (l1.getD 5 0) (l1.getD 6 0) (l1.getD 7 0) (l1.getD 8 0) (l1.getD 9 0) (l1.getD 10 0) (l1.getD 11 0) (l1.getD 12 0) (l1.getD 13 0) (l1.getD 14 0) (l1.getD 15 0) (by omega) (by omega), same_r FUEL a0 a1 a2 a3 (w1.getD 0 0) (w1.getD 1 0) (w1.getD 2 0) (w1.getD 3 0) (w1.getD 4 0) (w1.getD 5 0) (w1.getD 6 0) (w1.getD 7 0) (w1.getD 8 0) (w1.getD 9 0) (w1.getD 10 0) (w1.getD 11 0) (w1.getD 12 0) (w1.getD 13 0) (w1.getD 14 0) (w1.getD 15 0) a0 a1 a2 a3 (w1.getD 0 0) (w1.getD 1 0) (w1.getD 2 0) (w1.getD 3 0) (w1.getD 4 0) (w1.getD 5 0) (w1.getD 6 0) (w1.getD 7 0) (w1.getD 8 0) (w1.getD 9 0) (w1.getD 10 0) (w1.getD 11 0) (w1.getD 12 0) (w1.getD 13 0) (w1.getD 14 0) (w1.getD 15 0) (by omega) (by omega)]
      rw [same_r FUEL a0 a1 a2 a3 (((tabV ⟨a0, a1, a2, a3, a4, a5, a6, a7, a8, a9, a10, a11, a12, a13, a14, a15, a16, a17, a18, a19⟩ [a4, a5, a6, a7, a8, a9, a10, a11, a12, a13, a14, a15, a16, a17, a18, a19] l).1).getD 0 0) (((tabV ⟨a0, a1, a2, a3, a4, a5, a6, a7, a8, a9, a10, a11, a12, a13, a14, a15, a16, a17, a18, a19⟩ [a4, a5, a6, a7, a8, a9, a10, a11, a12, a13, a14, a15, a16, a17, a18, a19] l).1).getD 1 0) (((tabV ⟨a0, a1, a2, a3, a4, a5, a6, a7, a8, a9, a10, a11, a12, a13, a14, a15, a16, a17, a18, a19⟩ [a4, a5, a6, a7, a8, a9, a10, a11, a12, a13, a14, a15, a16, a17, a18, a19] l).1).getD 2 0) (((tabV ⟨a0, a1, a2, a3, a4, a5, a6, a7, a8, a9, a10, a11, a12, a13, a14, a15, a16, a17, a18, a19⟩ [a4, a5, a6, a7, a8, a9, a10, a11, a12, a13, a14, a15, a16, a17, a18, a19] l).1).getD 3 0) (((tabV ⟨a0, a1, a2, a3, a4, a5, a6, a7, a8, a9, a10, a11, a12, a13, a14, a15, a16, a17, a18, a19⟩ [a4, a5, a6, a7, a8, a9, a10, a11, a12, a13, a14, a15, a16, a17, a18, a19] l).1).getD 4 0) (((tabV ⟨a0, a1, a2, a3, a4, a5, a6, a7, a8, a9, a10, a11, a12, a13, a14, a15, a16, a17, a18, a19⟩ [a4, a5, a6, a7, a8, a9, a10, a11, a12, a13, a14, a15, a16, a17, a18, a19] l).1).getD 5 0) (((tabV ⟨a0, a1, a2, a3, a4, a5, a6, a7, a8, a9, a10, a11, a12, a13, a14, a15, a16, a17, a18, a19⟩ [a4, a5, a6, a7, a8, a9, a10, a11, a12, a13, a14, a15, a16, a17, a18, a19] l).1).getD 6 0) (((tabV ⟨a0, a1, a2, a3, a4, a5, a6, a7, a8, a9, a10, a11, a12, a13, a14, a15, a16, a17, a18, a19⟩ [a4, a5, a6, a7, a8, a9, a10, a11, a12, a13, a14, a15, a16, a17, a18, a19] l).1).getD 7 0) (((tabV ⟨a0, a1, a2, a3, a4, a5, a6, a7, a8, a9, a10, a11, a12, a13, a14, a15, a16, a17, a18, a19⟩ [a4, a5, a6, a7, a8, a9, a10, a11, a12, a13, a14, a15, a16, a17, a18, a19] l).1).getD 8 0) (((tabV ⟨a0, a1, a2, a3, a4, a5, a6, a7, a8, a9, a10, a11, a12, a13, a14, a15, a16, a17, a18, a19⟩ [a4, a5, a6, a7, a8, a9, a10, a11, a12, a13, a14, a15, a16, a17, a18, a19] l).1).getD 9 0) (((tabV ⟨a0, a1, a2, a3, a4, a5, a6, a7, a8, a9, a10, a11, a12, a13, a14, a15, a16, a17, a18, a19⟩ [a4, a5, a6, a7, a8, a9, a10, a11, a12, a13, a14, a15, a16, a17, a18, a19] l).1).getD 10 0) (((tabV ⟨a0, a1, a2, a3, a4, a5, a6, a7, a8, a9, a10, a11, a12, a13, a14, a15, a16, a17, a18, a19⟩ [a4, a5, a6, a7, a8, a9, a10, a11, a12, a13, a14, a15, a16, a17, a18, a19] l).1).getD 11 0) (((tabV ⟨a0, a1, a2, a3, a4, a5, a6, a7, a8, a9, a10, a11, a12, a13, a14, a15, a16, a17, a18, a19⟩ [a4, a5, a6, a7, a8, a9, a10, a11, a12, a13, a14, a15, a16, a17, a18, a19] l).1).getD 12 0) (((tabV ⟨a0, a1, a2, a3, a4, a5, a6, a7, a8, a9, a10, a11, a12, a13, a14, a15, a16, a17, a18, a19⟩ [a4, a5, a6, a7, a8, a9, a10, a11, a12, a13, a14, a15, a16, a17, a18, a19] l).1).getD 13 0) (((tabV ⟨a0, a1, a2, a3, a4, a5, a6, a7, a8, a9, a10, a11, a12, a13, a14, a15, a16, a17, a18, a19⟩ [a4, a5, a6, a7, a8, a9, a10, a11, a12, a13, a14, a15, a16, a17, a18, a19] l).1).getD 14 0) (((tabV ⟨a0, a1, a2, a3, a4, a5, a6, a7, a8, a9, a10, a11, a12, a13, a14, a15, a16, a17, a18, a19⟩ [a4, a5, a6, a7, a8, a9, a10, a11, a12, a13, a14, a15, a16, a17, a18, a19] l).1).getD 15 0) a0 a1 a2 a3 (((tabV ⟨a0, a1, a2, a3, a4, a5, a6, a7, a8, a9, a10, a11, a12, a13, a14, a15, a16, a17, a18, a19⟩ [a4, a5, a6, a7, a8, a9, a10, a11, a12, a13, a14, a15, a16, a17, a18, a19] l).1).getD 0 0) (((tabV ⟨a0, a1, a2, a3, a4, a5, a6, a7, a8, a9, a10, a11, a12, a13, a14, a15, a16, a17, a18, a19⟩ [a4, a5, a6, a7, a8, a9, a10, a11, a12, a13, a14, a15, a16, a17, a18, a19] l).1).getD 1 0) (((tabV ⟨a0, a1, a2, a3, a4, a5, a6, a7, a8, a9, a10, a11, a12, a13, a14, a15, a16, a17, a18, a19⟩ [a4, a5, a6, a7, a8, a9, a10, a11, a12, a13, a14, a15, a16, a17, a18, a19] l).1).getD 2 0) (((tabV ⟨a0, a1, a2, a3, a4, a5, a6, a7, a8, a9, a10, a11, a12, a13, a14, a15, a16, a17, a18, a19⟩ [a4, a5, a6, a7, a8, a9, a10, a11, a12, a13, a14, a15, a16, a17, a18, a19] l).1).getD 3 0) (((tabV ⟨a0, a1, a2, a3, a4, a5, a6, a7, a8, a9, a10, a11, a12, a13, a14, a15, a16, a17, a18, a19⟩ [a4, a5, a6, a7, a8, a9, a10, a11, a12, a13, a14, a15, a16, a17, a18, a19] l).1).getD 4 0) (((tabV ⟨a0, a1, a2, a3, a4, a5, a6, a7, a8, a9, a10, a11, a12, a13, a14, a15, a16, a17, a18, a19⟩ [a4, a5, a6, a7, a8, a9, a10, a11, a12, a13, a14, a15, a16, a17, a18, a19] l).1).getD 5 0) (((tabV ⟨a0, a1, a2, a3, a4, a5, a6, a7, a8, a9, a10, a11, a12, a13, a14, a15, a16, a17, a18, a19⟩ [a4, a5, a6, a7, a8, a9, a10, a11, a12, a13, a14, a15, a16, a17, a18, a19] l).1).getD 6 0) (((tabV ⟨a0, a1, a2, a3, a4, a5, a6, a7, a8, a9, a10, a11, a12, a13, a14, a15, a16, a17, a18, a19⟩ [a4, a5, a6, a7, a8, a9, a10, a11, a12, a13, a14, a15, a16, a17, a18, a19] l).1).getD 7 0) (((tabV ⟨a0, a1, a2, a3, a4, a5, a6, a7, a8, a9, a10, a11, a12, a13, a14, a15, a16, a17, a18, a19⟩ [a4, a5, a6, a7, a8, a9, a10, a11, a12, a13, a14, a15, a16, a17, a18, a19] l).1).getD 8 0) (((tabV ⟨a0, a1, a2, a3, a4, a5, a6, a7, a8, a9, a10, a11, a12, a13, a14, a15, a16, a17, a18, a19⟩ [a4, a5, a6, a7, a8, a9, a10, a11, a12, a13, a14, a15, a16, a17, a18, a19] l).1).getD 9 0) (((tabV ⟨a0, a1, a2, a3, a4, a5, a6, a7, a8, a9, a10, a11, a12, a13, a14, a15, a16, a17, a18, a19⟩ [a4, a5, a6, a7, a8, a9, a10, a11, a12, a13, a14, a15, a16, a17, a18, a19] l).1).getD 10 0) (((tabV ⟨a0, a1, a2, a3, a4, a5, a6, a7, a8, a9, a10, a11, a12, a13, a14, a15, a16, a17, a18, a19⟩ [a4, a5, a6, a7, a8, a9, a10, a11, a12, a13, a14, a15, a16, a17, a18, a19] l).1).getD 11 0) (((tabV ⟨a0, a1, a2, a3, a4, a5, a6, a7, a8, a9, a10, a11, a12, a13, a14, a15, a16, a17, a18, a19⟩ [a4, a5, a6, a7, a8, a9, a10, a11, a12, a13, a14, a15, a16, a17, a18, a19] l).1).getD 12 0) (((tabV ⟨a0, a1, a2, a3, a4, a5, a6, a7, a8, a9, a10, a11, a12, a13, a14, a15, a16, a17, a18, a19⟩ [a4, a5, a6, a7, a8, a9, a10, a11, a12, a13, a14, a15, a16, a17, a18, a19] l).1).getD 13 0) (((tabV ⟨a0, a1, a2, a3, a4, a5, a6, a7, a8, a9, a10, a11, a12, a13, a14, a15, a16, a17, a18, a19⟩ [a4, a5, a6, a7, a8, a9, a10, a11, a12, a13, a14, a15, a16, a17, a18, a19] l).1).getD 14 0) (((tabV ⟨a0, a1, a2, a3, a4, a5, a6, a7, a8, a9, a10, a11, a12, a13, a14, a15, a16, a17, a18, a19⟩ [a4, a5, a6, a7, a8, a9, a10, a11, a12, a13, a14, a15, a16, a17, a18, a19] l).1).getD 15 0) (by omega) (by omega)]
      have e : ∀ b : Int, ine b b = false := fun b => by simp [ine]
      have e2 : ∀ b : Int, ieq b b = true := fun b => by simp [ieq]
      have e3 : ∀ b : Bool, bneb b b = false := fun b => by cases b <;> rfl
      have e4 : ∀ b : Bool, beqb b b = true := fun b => by cases b <;> rfl
      simp only [e, e2, e3, e4, Option.bind_some, decide_true, cond_false, cond_true, Bool.not_true]
    · rw [len60' l h3]; rfl
  · rfl

/-! ### What is told at once. -/
theorem ieq_self' (b : Int) : ieq b b = true := by simp [ieq]
theorem fr_start {id i : Int} (hid : isP id = true) (h0 : 0 ≤ i) (h1 : i < 16) : fr id (stt id i) = 2 ^ i.toNat ∧ isP (stt id i) = true := by
  obtain ⟨b1, b2⟩ := two_le (k := i.toNat) (by omega)
  have h := isP_iff.1 hid
  unfold stt
  rw [if_pos ⟨h0, h1⟩]
  refine ⟨?_, isP_of_pl _⟩
  generalize (2 : Int) ^ i.toNat = z at *
  unfold fr pl
  omega
theorem upt_far {w y x : Int} (hy : 0 < fr w y) (hx : 0 < fr w x) : upt w y x = decide (fr w x ≤ fr w y) := by
  unfold upt cut
  rw [decide_eq_true hx, Bool.true_and, decide_eq_false (by omega : ¬ fr w y = 0), Bool.false_or]
  have e : (pl x = pl y) ↔ fr w x = fr w y := by unfold pl fr; omega
  by_cases h : fr w x < fr w y
  · rw [decide_eq_true h, decide_eq_true (by omega : fr w x ≤ fr w y)]; rfl
  · rw [decide_eq_false h, Bool.false_or]
    apply decide_eq_decide.2
    rw [e]; omega
theorem once_far {v : VW} {i : Int} (hr : rightV v = true) (h0 : 0 ≤ i) (h1 : i < 16) : onceV v i = bif decide ((2 : Int) ^ i.toNat ≤ fr v.id (firstV v)) then (firstV v, true) else (0, false) := by
  obtain ⟨f1, f2⟩ := firstV_ok hr
  have hid := (rightV_parts hr).1
  have hs := (fr_start hid h0 h1).1
  have hpos := (two_le (k := i.toNat) (by omega)).2
  unfold onceV
  have hi : inR i = true := by unfold inR; rw [decide_eq_true h0, decide_eq_true h1]; rfl
  rw [hr, hi, upt_far ((fr_pos hid f1).2 f2) (by rw [hs]; exact hpos), hs]; rfl
theorem pow_le {i j : Nat} (h : i ≤ j) : (2 : Int) ^ i ≤ 2 ^ j := by
  have h1 : (2 : Nat) ^ i ≤ 2 ^ j := Nat.pow_le_pow_right (by decide) h
  have h2 : ((2 ^ i : Nat) : Int) = (2 : Int) ^ i := by push_cast; rfl
  have h3 : ((2 ^ j : Nat) : Int) = (2 : Int) ^ j := by push_cast; rfl
  omega
theorem wlk_ok {v : VW} : ∀ (m i : Nat) (l l' : List Int) (x k : Int) (t : Bool), i + m = 16 → l.length = 16 → wlk v m i l = (l', x, k, t) → (t = true → (onceV v x).2 = false ∧ ofN i ≤ x ∧ k = stt v.id x) ∧ (t = false → x = 0 ∧ k = 0 ∧ (0 < m → l'.getD 15 0 = firstV v))
  | 0, i, l, l', x, k, t, hi, hl, h => by
    rw [wlk] at h; cases h
    exact ⟨(fun h => by cases h), fun _ => ⟨rfl, rfl, fun h => by omega⟩⟩
  | m + 1, i, l, l', x, k, t, hi, hl, h => by
    rw [wlk] at h
    cases ho : (onceV v (ofN i)).2
    · rw [ho, cond_false] at h; cases h
      exact ⟨fun _ => ⟨ho, Int.le_refl _, rfl⟩, fun h => by cases h⟩
    · rw [ho, cond_true] at h
      obtain ⟨w1, w2⟩ := wlk_ok m (i + 1) _ l' x k t (by omega) (by rw [List.length_set]; exact hl) h
      refine ⟨fun ht => ?_, fun ht => ?_⟩
      · obtain ⟨y1, y2, y3⟩ := w1 ht
        exact ⟨y1, by simp only [ofN] at y2 ⊢; omega, y3⟩
      · obtain ⟨y1, y2, y3⟩ := w2 ht
        refine ⟨y1, y2, fun _ => ?_⟩
        cases m with
        | succ m => exact y3 (by omega)
        | zero =>
          have : i = 15 := by omega
          subst this
          rw [wlk] at h; cases h
          exact get_set (by rw [hl]; decide)
theorem once_c (a0 : Int) (a1 a2 : List Int) (a3 a4 a5 a6 a7 a8 a9 a10 a11 a12 a13 a14 a15 a16 a17 a18 a19 : Int) (hr : rightV ⟨a0, a1, a2, a3, a4, a5, a6, a7, a8, a9, a10, a11, a12, a13, a14, a15, a16, a17, a18, a19⟩ = true) (g1 : a1.length ≤ 20) (g2 : a2.length ≤ 20) (i : Nat) (hi : i < 16) (b : Bool) (hb : b = true → (2 : Int) ^ i ≤ fr a0 (firstV ⟨a0, a1, a2, a3, a4, a5, a6, a7, a8, a9, a10, a11, a12, a13, a14, a15, a16, a17, a18, a19⟩)) : ∀ (m k n : Nat), k + m = i → m < n →
    F5_c0 n (ofN i) (firstV ⟨a0, a1, a2, a3, a4, a5, a6, a7, a8, a9, a10, a11, a12, a13, a14, a15, a16, a17, a18, a19⟩) b (ofN k) a0 a1 a2 a3 a4 a5 a6 a7 a8 a9 a10 a11 a12 a13 a14 a15 a16 a17 a18 a19 = some true
  | _, _, 0, _, h => by omega
  | m, k, n + 1, hk, hn => by
    have hf := fuel_big
    obtain ⟨l, x, q, t, hw, hlw, u1⟩ := fwalk_p (n := FUEL) (by omega) a0 a1 a2 a3 a4 a5 a6 a7 a8 a9 a10 a11 a12 a13 a14 a15 a16 a17 a18 a19 (ofN i) (by omega) (by omega)
    unfold walkV at hw
    rw [hr, inR_nat hi, cond_true, cond_true, ofN_toNat] at hw
    obtain ⟨w1, w2⟩ := wlk_ok (16 - i) i _ l x q t (by omega) rfl hw
    have hlw' := q16 hlw
    have gi : inb 15 16 = true := by decide
    have gn : nlt (Int.toNat 15) 16 = true := by decide
    have w3 : t = false → x = 0 ∧ q = 0 ∧ l.getD (Int.toNat 15) 0 = firstV ⟨a0, a1, a2, a3, a4, a5, a6, a7, a8, a9, a10, a11, a12, a13, a14, a15, a16, a17, a18, a19⟩ := fun h => ⟨(w2 h).1, (w2 h).2.1, (w2 h).2.2 (by omega)⟩
    simp only [F5_c0]
    cases m with
    | zero =>
      have : k = i := by omega
      subst this
      rw [show ilt (ofN k) (ofN k) = false from decide_eq_false (by omega), cond_false]
      rw [u1]
      simp only [Option.bind_some, fonce_p, wakes17]
      rw [start_r (show 100 < FUEL by omega)]
      simp only [Option.bind_some]
      cases t
      · obtain ⟨y1, y2, y3⟩ := w3 rfl
        rw [y1, y2, hlw', gi, gn, y3, ieq_self', ieq_self']; rfl
      · obtain ⟨y1, y2, y3⟩ := w1 rfl
        rw [y1, y3, ieq_self', show ige x (ofN k) = true from decide_eq_true y2]; rfl
    | succ m =>
      rw [show ilt (ofN k) (ofN i) = true from decide_eq_true (by simp only [ofN]; omega), cond_true]
      cases b
      · rw [cond_false]
        rw [u1]
        simp only [Option.bind_some, fonce_p, wakes17]
        rw [start_r (show 100 < FUEL by omega)]
        simp only [Option.bind_some]
        cases t
        · obtain ⟨y1, y2, y3⟩ := w3 rfl
          rw [y1, y2, hlw', gi, gn, y3, ieq_self', ieq_self']; rfl
        · obtain ⟨y1, y2, y3⟩ := w1 rfl
          rw [y1, y3, ieq_self', show ige x (ofN i) = true from decide_eq_true y2]; rfl
      · have ho := once_far (i := ofN k) hr (by simp only [ofN]; omega) (by simp only [ofN]; omega)
        have hle := hb rfl
        have := pow_le (show k ≤ i by omega)
        rw [ofN_toNat, decide_eq_true (show (2 : Int) ^ k ≤ fr a0 (firstV ⟨a0, a1, a2, a3, a4, a5, a6, a7, a8, a9, a10, a11, a12, a13, a14, a15, a16, a17, a18, a19⟩) by omega)] at ho
        rw [cond_true, fonce_p, ho]
        simp only [cond_true, Option.bind_some, Bool.not_true, cond_false, show ine (firstV ⟨a0, a1, a2, a3, a4, a5, a6, a7, a8, a9, a10, a11, a12, a13, a14, a15, a16, a17, a18, a19⟩) (firstV ⟨a0, a1, a2, a3, a4, a5, a6, a7, a8, a9, a10, a11, a12, a13, a14, a15, a16, a17, a18, a19⟩) = false by simp [ine], fg_ofN k (show k < 16 by omega)]
        exact once_c a0 a1 a2 a3 a4 a5 a6 a7 a8 a9 a10 a11 a12 a13 a14 a15 a16 a17 a18 a19 hr g1 g2 i hi true hb m (k + 1) n (by omega) (by omega)
theorem plain_FingerOnce (n : Nat) (a0 : Int) (a1 a2 : List Int) (a3 a4 a5 a6 a7 a8 a9 a10 a11 a12 a13 a14 a15 a16 a17 a18 a19 : Int) (i : Int) (hv : a2.length ≤ 9223372036854775807) (hn : 1000 < n) : F5 n a0 a1 a2 a3 a4 a5 a6 a7 a8 a9 a10 a11 a12 a13 a14 a15 a16 a17 a18 a19 i = some true := by
  unfold F5
  have hf := fuel_big
  rw [fgreat, wakes17]
  simp only [Option.bind_some]
  cases hg : (decide (20 < a1.length) || decide (20 < a2.length))
  · obtain ⟨g1, g2⟩ := fgreat_cases hg
    rw [cond_false, viewR_r (by omega) a0 a1 a2 a3 a4 a5 a6 a7 a8 a9 a10 a11 a12 a13 a14 a15 a16 a17 a18 a19 hv, Option.bind_some]
    cases hr : rightV ⟨a0, a1, a2, a3, a4, a5, a6, a7, a8, a9, a10, a11, a12, a13, a14, a15, a16, a17, a18, a19⟩
    · rfl
    · simp only [Bool.not_true, cond_false]
      by_cases i0 : i < 0
      · rw [show ilt i 0 = true from decide_eq_true i0]; rfl
      rw [show ilt i 0 = false from decide_eq_false i0, cond_false]
      by_cases i1 : 16 ≤ i
      · rw [show ige i 16 = true from decide_eq_true i1]; rfl
      rw [show ige i 16 = false from decide_eq_false (by omega), cond_false, first_vr FUEL a0 a1 a2 a3 a4 a5 a6 a7 a8 a9 a10 a11 a12 a13 a14 a15 a16 a17 a18 a19 hv, fonce_p, fstart_p (by omega)]
      have hi : inR i = true := by unfold inR; rw [decide_eq_true (by omega : 0 ≤ i), decide_eq_true (by omega : i < 16)]; rfl
      have hid : isP a0 = true := (rightV_parts hr).1
      have hs := (fr_start (i := i) hid (by omega) (by omega)).1
      have hc : ∀ b, (b = true → (2 : Int) ^ i.toNat ≤ fr a0 (firstV ⟨a0, a1, a2, a3, a4, a5, a6, a7, a8, a9, a10, a11, a12, a13, a14, a15, a16, a17, a18, a19⟩)) → F5_c0 n i (firstV ⟨a0, a1, a2, a3, a4, a5, a6, a7, a8, a9, a10, a11, a12, a13, a14, a15, a16, a17, a18, a19⟩) b 0 a0 a1 a2 a3 a4 a5 a6 a7 a8 a9 a10 a11 a12 a13 a14 a15 a16 a17 a18 a19 = some true := by
        intro b hb
        have := once_c a0 a1 a2 a3 a4 a5 a6 a7 a8 a9 a10 a11 a12 a13 a14 a15 a16 a17 a18 a19 hr g1 g2 i.toNat (by omega) b hb i.toNat 0 n (by omega) (by omega)
        rw [show ofN i.toNat = i by simp only [ofN]; omega] at this
        exact this
      rw [once_far hr (by omega) (by omega)]
      unfold startV
      rw [hr, hi]
      simp only [Option.bind_some, Bool.and_self, cond_true, far_r, hs, show ine 0 0 = false from rfl, cond_false]
      have e : ile ((2 : Int) ^ i.toNat) (fr a0 (firstV ⟨a0, a1, a2, a3, a4, a5, a6, a7, a8, a9, a10, a11, a12, a13, a14, a15, a16, a17, a18, a19⟩)) = decide ((2 : Int) ^ i.toNat ≤ fr a0 (firstV ⟨a0, a1, a2, a3, a4, a5, a6, a7, a8, a9, a10, a11, a12, a13, a14, a15, a16, a17, a18, a19⟩)) := rfl
      rw [e]
      have en : ine (firstV ⟨a0, a1, a2, a3, a4, a5, a6, a7, a8, a9, a10, a11, a12, a13, a14, a15, a16, a17, a18, a19⟩) (firstV ⟨a0, a1, a2, a3, a4, a5, a6, a7, a8, a9, a10, a11, a12, a13, a14, a15, a16, a17, a18, a19⟩) = false := by simp [ine]
      cases hd : decide ((2 : Int) ^ i.toNat ≤ fr a0 (firstV ⟨a0, a1, a2, a3, a4, a5, a6, a7, a8, a9, a10, a11, a12, a13, a14, a15, a16, a17, a18, a19⟩))
      · simp only [cond_false, show bneb false false = false from rfl, Bool.not_false, cond_true, show ine 0 0 = false from rfl]
        exact hc false (fun h => by cases h)
      · simp only [cond_true, show bneb true true = false from rfl, Bool.not_true, cond_false, en]
        exact hc true (fun _ => of_decide_eq_true hd)
  · rfl

/-! ### Tables. -/
theorem ow_ok {l : List Int} {k : Int} (hne : l ≠ []) (hp : ∀ x ∈ l, isP x = true) : ow l k ∈ l ∧ ∀ x ∈ l, fr k (ow l k) ≤ fr k x := by
  cases l with
  | nil => exact absurd rfl hne
  | cons x r =>
    have hx := isP_pl (hp x (by simp))
    obtain ⟨b1, b2, _⟩ := ownr_ok (k := k) (x :: r) (pl x) hp
    refine ⟨?_, b2⟩
    rcases b1 with b1 | b1
    · show ownr k (pl x) (x :: r) ∈ _
      rw [b1, hx.1]; simp
    · exact b1
theorem ow_same {l m : List Int} {k : Int} (hl : l ≠ []) (hm : m ≠ []) (hp : ∀ x ∈ l, isP x = true) (he : ∀ x, x ∈ l ↔ x ∈ m) : ow l k = ow m k := by
  obtain ⟨a1, a2⟩ := ow_ok (k := k) hl hp
  obtain ⟨b1, b2⟩ := ow_ok (k := k) hm fun x hx => hp x ((he x).2 hx)
  have h1 := a2 _ ((he _).2 b1)
  have h2 := b2 _ ((he _).1 a1)
  exact fr_inj2 (id := k) (hp _ a1) (hp _ ((he _).2 b1)) (by omega)
theorem tbl_same {id : Int} {l m : List Int} (h : ∀ k, ow l k = ow m k) : ∀ (j i : Nat) (f : List Int), tbl id l j i f = tbl id m j i f
  | 0, _, _ => rfl
  | j + 1, i, f => by rw [tbl, tbl, h, tbl_same h j]
theorem tbl_get {id : Int} {os : List Int} : ∀ (m i : Nat) (l : List Int) (j : Nat), i + m ≤ l.length → (tbl id os m i l).getD j 0 = if i ≤ j ∧ j < i + m then ownd id (ow os (stt id (ofN j))) else l.getD j 0
  | 0, i, l, j, _ => by rw [tbl, if_neg (by omega)]
  | m + 1, i, l, j, h => by
    rw [tbl, tbl_get m (i + 1) _ j (by rw [List.length_set]; omega)]
    by_cases h1 : i + 1 ≤ j ∧ j < i + 1 + m
    · rw [if_pos h1, if_pos (by omega)]
    · rw [if_neg h1]
      by_cases h2 : j = i
      · subst h2; rw [if_pos (by omega)]; exact get_set (by omega)
      · rw [if_neg (by omega)]
        simp only [List.getD]
        rw [List.getElem?_set_ne (fun e => h2 e.symm)]
theorem ftab_bad {v : VW} {f l : List Int} (h : l.all isP = false) : (tabV v f l).2 = 2 := by
  unfold tabV; rw [h, Bool.and_false, Bool.and_false]; rfl
theorem ftab_good {v : VW} {f l : List Int} (hr : rightV v = true) (hne : l ≠ []) (h : ∀ x ∈ l, isP x = true) : tabV v f l = (tbl v.id l 16 0 f, 0) := by
  have hpos : 0 < l.length := by
    cases l with
    | nil => exact absurd rfl hne
    | cons _ _ => simp
  unfold tabV; rw [hr, decide_eq_true hpos, List.all_eq_true.2 h]; rfl
section
variable (l : List Int)
theorem tab_c2 (a0 : Int) (a1 a2 : List Int) (a3 a4 a5 a6 a7 a8 a9 a10 a11 a12 a13 a14 a15 a16 a17 a18 a19 : Int) (i : Int) (t u w f0 f1 f2 f3 f4 f5 f6 f7 f8 f9 f10 f11 f12 f13 f14 f15 : Int) (b v : List Int) (s at' : Int) (hl : l.length ≤ 60) (hmin : ∀ x ∈ l, fr s at' ≤ fr s x) (n0 : Nat) (hR : ∀ n, n0 < n → F7_c1 n l (iadd .i64 i 1) a0 a1 a2 a3 a4 a5 a6 a7 a8 a9 a10 a11 a12 a13 a14 a15 a16 a17 a18 a19 t u f0 f1 f2 f3 f4 f5 f6 f7 f8 f9 f10 f11 f12 f13 f14 f15 b v = some true) : ∀ (r p : List Int) (n : Nat) (is : Bool), l = p ++ r → (is || decide (at' ∈ r)) = true → n0 + r.length + 1 < n →
    F7_c2 n l i at' s is (ofN p.length) a0 a1 a2 a3 a4 a5 a6 a7 a8 a9 a10 a11 a12 a13 a14 a15 a16 a17 a18 a19 t u f0 f1 f2 f3 f4 f5 f6 f7 f8 f9 f10 f11 f12 f13 f14 f15 b v = some true
  | _, _, 0, _, _, _, h => by omega
  | [], p, n + 1, is, hp, his, h => by
    rw [List.append_nil] at hp
    simp only [List.length_nil] at h
    have his : is = true := by simpa using his
    simp only [F7_c2]
    rw [show ilt (ofN p.length) (ofN l.length) = false by rw [hp]; exact lt_out, his]
    exact hR n (by omega)
  | x :: r, p, n + 1, is, hp, his, h => by
    simp only [List.length_cons] at h
    have hlen : p.length < 1000 := by rw [hp] at hl; simp at hl; omega
    have hx := hmin x (by rw [hp]; simp)
    have ih := fun is his => tab_c2 a0 a1 a2 a3 a4 a5 a6 a7 a8 a9 a10 a11 a12 a13 a14 a15 a16 a17 a18 a19 i t u w f0 f1 f2 f3 f4 f5 f6 f7 f8 f9 f10 f11 f12 f13 f14 f15 b v s at' hl hmin n0 hR r (p ++ [x]) n is (by rw [hp, in_eq]) his (by omega)
    simp only [F7_c2]
    rw [show ilt (ofN p.length) (ofN l.length) = true by rw [hp]; exact lt_in, show inb (ofN p.length) l.length = true by rw [hp]; exact inb_in, show l.getD (ofN p.length).toNat 0 = x by rw [hp]; exact get_in, far_r, far_r, add_in (x := x) (by omega)]
    simp only [cond_true, Option.bind_some]
    rw [show ilt (fr s x) (fr s at') = false from decide_eq_false (by omega)]
    simp only [cond_false]
    cases is
    · rw [cond_false]
      refine ih _ ?_
      rw [ieq_dec]
      simp only [Bool.false_or, List.mem_cons, decide_eq_true_eq] at his
      rcases his with e | e
      · rw [e]; simp
      · simp [e]
    · rw [cond_true]; exact ih true rfl
theorem tab_c1 (a0 : Int) (a1 a2 : List Int) (a3 a4 a5 a6 a7 a8 a9 a10 a11 a12 a13 a14 a15 a16 a17 a18 a19 : Int) (hid : isP a0 = true) (u : Int) (b v T : List Int) (hl : l.length ≤ 60) (hne : l ≠ []) (hp : ∀ x ∈ l, isP x = true) (hT : T.length = 16) (hget : ∀ j, j < 16 → T.getD j 0 = ownd a0 (ow l (stt a0 (ofN j)))) : ∀ (m i n : Nat), i + m = 16 → m * 100 < n →
    F7_c1 n l (ofN i) a0 a1 a2 a3 a4 a5 a6 a7 a8 a9 a10 a11 a12 a13 a14 a15 a16 a17 a18 a19 a0 u (T.getD 0 0) (T.getD 1 0) (T.getD 2 0) (T.getD 3 0) (T.getD 4 0) (T.getD 5 0) (T.getD 6 0) (T.getD 7 0) (T.getD 8 0) (T.getD 9 0) (T.getD 10 0) (T.getD 11 0) (T.getD 12 0) (T.getD 13 0) (T.getD 14 0) (T.getD 15 0) b v = some true
  | 0, i, 0, _, h => by omega
  | m + 1, i, 0, _, h => by omega
  | 0, i, n + 1, hi, _ => by
    have : i = 16 := by omega
    subst this
    have e : ilt (ofN 16) 16 = false := by decide
    simp only [F7_c1, e, cond_false, wakes17, Option.bind_some]
  | m + 1, i, n + 1, hi, hn => by
    have hf := fuel_big
    obtain ⟨e1, e2, e3⟩ := lt16 (show i < 16 by omega)
    obtain ⟨a1', a2'⟩ := ow_ok (k := stt a0 (ofN i)) hne hp
    have hq := q16 hT
    simp only [F7_c1, e1, e2, ofN_toNat, e3, cond_true]
    rw [start_r (show 100 < FUEL by omega), Option.bind_some, hq, hget i (by omega)]
    have go : F7_c2 n l (ofN i) (ow l (stt a0 (ofN i))) (stt a0 (ofN i)) false 0 a0 a1 a2 a3 a4 a5 a6 a7 a8 a9 a10 a11 a12 a13 a14 a15 a16 a17 a18 a19 a0 u (T.getD 0 0) (T.getD 1 0) (T.getD 2 0) (T.getD 3 0) (T.getD 4 0) (T.getD 5 0) (T.getD 6 0) (T.getD 7 0) (T.getD 8 0) (T.getD 9 0) (T.getD 10 0) (T.getD 11 0) (T.getD 12 0) (T.getD 13 0) (T.getD 14 0) (T.getD 15 0) b v = some true := by
      refine tab_c2 l a0 a1 a2 a3 a4 a5 a6 a7 a8 a9 a10 a11 a12 a13 a14 a15 a16 a17 a18 a19 (ofN i) a0 u 0 (T.getD 0 0) (T.getD 1 0) (T.getD 2 0) (T.getD 3 0) (T.getD 4 0) (T.getD 5 0) (T.getD 6 0) (T.getD 7 0) (T.getD 8 0) (T.getD 9 0) (T.getD 10 0) (T.getD 11 0) (T.getD 12 0) (T.getD 13 0) (T.getD 14 0) (T.getD 15 0) b v _ _ hl a2' (m * 100) (fun n' hn' => ?_) l [] n false rfl (by simpa using a1') (by omega)
      rw [fg_ofN i (by omega)]
      exact tab_c1 a0 a1 a2 a3 a4 a5 a6 a7 a8 a9 a10 a11 a12 a13 a14 a15 a16 a17 a18 a19 hid u b v T hl hne hp hT hget m (i + 1) n' (by omega) hn'
    have hpw := isP_iff.1 (hp _ a1')
    unfold ownd
    by_cases h : ow l (stt a0 (ofN i)) = a0
    · rw [if_pos h, show ilt (-1) 0 = true by decide, cond_true]
      rw [h] at go
      exact go
    · rw [if_neg h, show ilt (ow l (stt a0 (ofN i))) 0 = false from decide_eq_false (by omega), cond_false]
      exact go
theorem tab_c0 (a0 : Int) (a1 a2 : List Int) (a3 a4 a5 a6 a7 a8 a9 a10 a11 a12 a13 a14 a15 a16 a17 a18 a19 : Int) (hr : rightV ⟨a0, a1, a2, a3, a4, a5, a6, a7, a8, a9, a10, a11, a12, a13, a14, a15, a16, a17, a18, a19⟩ = true) (g1 : a1.length ≤ 20) (g2 : a2.length ≤ 20) (hl : l.length ≤ 60) (hne : l ≠ []) : ∀ (r p : List Int) (n : Nat), l = p ++ r → (∀ x ∈ p, isP x = true) → r.length + 2000 < n →
    F7_c0 n l (ofN p.length) a0 a1 a2 a3 a4 a5 a6 a7 a8 a9 a10 a11 a12 a13 a14 a15 a16 a17 a18 a19 p.reverse = some true
  | _, _, 0, _, _, h => by omega
  | [], p, n + 1, hp, hP, h => by
    have hf := fuel_big
    rw [List.append_nil] at hp
    rw [← hp] at hP ⊢
    have hr2 : ∀ x ∈ l.reverse, isP x = true := fun x hx => hP x (List.mem_reverse.1 hx)
    have hne2 : l.reverse ≠ [] := fun h => hne (List.reverse_eq_nil_iff.1 h)
    have hid : isP a0 = true := (rightV_parts hr).1
    have et : tbl a0 l.reverse 16 0 [a4, a5, a6, a7, a8, a9, a10, a11, a12, a13, a14, a15, a16, a17, a18, a19] = tbl a0 l 16 0 [a4, a5, a6, a7, a8, a9, a10, a11, a12, a13, a14, a15, a16, a17, a18, a19] := tbl_same (fun k => (ow_same hne hne2 hP (fun x => List.mem_reverse.symm)).symm) _ _ _
    have h0 : (0 : Int) = ofN 0 := rfl
    simp only [F7_c0, lt_out, cond_false]
    rw [ftab_p (by omega) a0 a1 a2 a3 a4 a5 a6 a7 a8 a9 a10 a11 a12 a13 a14 a15 a16 a17 a18 a19 l (by omega) (by omega) (by omega), ftab_p (by omega) a0 a1 a2 a3 a4 a5 a6 a7 a8 a9 a10 a11 a12 a13 a14 a15 a16 a17 a18 a19 l.reverse (by omega) (by omega) (by rw [List.length_reverse]; omega), ftab_good hr hne hP, ftab_good hr hne2 hr2]
    simp only [Option.bind_some, show ine 0 0 = false from rfl, cond_false]
    rw [et, same_r FUEL a0 a1 a2 a3 ((tbl a0 l 16 0 [a4, a5, a6, a7, a8, a9, a10, a11, a12, a13, a14, a15, a16, a17, a18, a19]).getD 0 0) ((tbl a0 l 16 0 [a4, a5, a6, a7, a8, a9, a10, a11, a12, a13, a14, a15, a16, a17, a18, a19]).getD 1 0) ((tbl a0 l 16 0 [a4, a5, a6, a7, a8, a9, a10, a11, a12, a13, a14, a15, a16, a17, a18, a19]).getD 2 0) ((tbl a0 l 16 0 [a4, a5, a6, a7, a8, a9, a10, a11, a12, a13, a14, a15, a16, a17, a18, a19]).getD 3 0) ((tbl a0 l 16 0 [a4, a5, a6, a7, a8, a9, a10, a11, a12, a13, a14, a15, a16, a17, a18, a19]).getD 4 0) ((tbl a0 l 16 0 [a4, a5, a6, a7, a8, a9, a10, a11, a12, a13, a14, a15, a16, a17, a18, a19]).getD 5 0) ((tbl a0 l 16 0 [a4, a5, a6, a7, a8, a9, a10, a11, a12, a13, a14, a15, a16, a17, a18, a19]).getD 6 0) ((tbl a0 l 16 0 [a4, a5, a6, a7, a8, a9, a10, a11, a12, a13, a14, a15, a16, a17, a18, a19]).getD 7 0) ((tbl a0 l 16 0 [a4, a5, a6, a7, a8, a9, a10, a11, a12, a13, a14, a15, a16, a17, a18, a19]).getD 8 0) ((tbl a0 l 16 0 [a4, a5, a6, a7, a8, a9, a10, a11, a12, a13, a14, a15, a16, a17, a18, a19]).getD 9 0) ((tbl a0 l 16 0 [a4, a5, a6, a7, a8, a9, a10, a11, a12, a13, a14, a15, a16, a17, a18, a19]).getD 10 0) ((tbl a0 l 16 0 [a4, a5, a6, a7, a8, a9, a10, a11, a12, a13, a14, a15, a16, a17, a18, a19]).getD 11 0) ((tbl a0 l 16 0 [a4, a5, a6, a7, a8, a9, a10, a11, a12, a13, a14, a15, a16, a17, a18, a19]).getD 12 0) ((tbl a0 l 16 0 [a4, a5, a6, a7, a8, a9, a10, a11, a12, a13, a14, a15, a16, a17, a18, a19]).getD 13 0) ((tbl a0 l 16 0 [a4, a5, a6, a7, a8, a9, a10, a11, a12, a13, a14, a15, a16, a17, a18, a19]).getD 14 0) ((tbl a0 l 16 0 [a4, a5, a6, a7, a8, a9, a10, a11, a12, a13, a14, a15, a16, a17, a18, a19]).getD 15 0) a0 a1 a2 a3 ((tbl a0 l 16 0 [a4, a5, a6, a7, a8, a9, a10, a11, a12, a13, a14, a15, a16, a17, a18, a19]).getD 0 0) ((tbl a0 l 16 0 [a4, a5, a6, a7, a8, a9, a10, a11, a12, a13, a14, a15, a16, a17, a18, a19]).getD 1 0) ((tbl a0 l 16 0 [a4, a5, a6, a7, a8, a9, a10, a11, a12, a13, a14, a15, a16, a17, a18, a19]).getD 2 0) ((tbl a0 l 16 0 [a4, a5, a6, a7, a8, a9, a10, a11, a12, a13, a14, a15, a16, a17, a18, a19]).getD 3 0) ((tbl a0 l 16 0 [a4, a5, a6, a7, a8, a9, a10, a11, a12, a13, a14, a15, a16, a17, a18, a19]).getD 4 0) ((tbl a0 l 16 0 [a4, a5, a6, a7, a8, a9, a10, a11, a12, a13, a14, a15, a16, a17, a18, a19]).getD 5 0) ((tbl a0 l 16 0 [a4, a5, a6, a7, a8, a9, a10, a11, a12, a13, a14, a15, a16, a17, a18, a19]).getD 6 0) ((tbl a0 l 16 0 [a4, a5, a6, a7, a8, a9, a10, a11, a12, a13, a14, a15, a16, a17, a18, a19]).getD 7 0) ((tbl a0 l 16 0 [a4, a5, a6, a7, a8, a9, a10, a11, a12, a13, a14, a15, a16, a17, a18, a19]).getD 8 0) ((tbl a0 l 16 0 [a4, a5, a6, a7, a8, a9, a10, a11, a12, a13, a14, a15, a16, a17, a18, a19]).getD 9 0) ((tbl a0 l 16 0 [a4, a5, a6, a7, a8, a9, a10, a11, a12, a13, a14, a15, a16, a17, a18, a19]).getD 10 0) ((tbl a0 l 16 0 [a4, a5, a6, a7, a8, a9, a10, a11, a12, a13, a14, a15, a16, a17, a18, a19]).getD 11 0) ((tbl a0 l 16 0 [a4, a5, a6, a7, a8, a9, a10, a11, a12, a13, a14, a15, a16, a17, a18, a19]).getD 12 0) ((tbl a0 l 16 0 [a4, a5, a6, a7, a8, a9, a10, a11, a12, a13, a14, a15, a16, a17, a18, a19]).getD 13 0) ((tbl a0 l 16 0 [a4, a5, a6, a7, a8, a9, a10, a11, a12, a13, a14, a15, a16, a17, a18, a19]).getD 14 0) ((tbl a0 l 16 0 [a4, a5, a6, a7, a8, a9, a10, a11, a12, a13, a14, a15, a16, a17, a18, a19]).getD 15 0) (by omega) (by omega)]
    simp only [Option.bind_some, decide_true, Bool.not_true, cond_false]
    rw [h0]
    exact tab_c1 l a0 a1 a2 a3 a4 a5 a6 a7 a8 a9 a10 a11 a12 a13 a14 a15 a16 a17 a18 a19 hid a3 a1 a2 (tbl a0 l 16 0 [a4, a5, a6, a7, a8, a9, a10, a11, a12, a13, a14, a15, a16, a17, a18, a19]) hl hne hP (by rw [tbl_len]; rfl) (fun j hj => by
      rw [tbl_get 16 0 _ j (Nat.le_refl _), if_pos (by omega)]) 16 0 n rfl (by simp only [List.length_nil] at h; omega)
  | x :: r, p, n + 1, hp, hP, h => by
    have hf := fuel_big
    simp only [List.length_cons] at h
    have hlen : p.length ≤ 60 := by rw [hp] at hl; simp at hl; omega
    have e1 : ilt (ofN p.length) (ofN l.length) = true := by rw [hp]; exact lt_in
    have e2 : inb (ofN p.length) l.length = true := by rw [hp]; exact inb_in
    have e5 : l.getD (ofN p.length).toNat 0 = x := by rw [hp]; exact get_in
    have e6 : room ([x].length + p.reverse.length) 8 = true := room_all (by rw [List.length_reverse]; show 1 + p.length < 1000; omega) (by omega)
    have bad : isP x = false → (Option.bind (F19 FUEL a0 a1 a2 a3 a4 a5 a6 a7 a8 a9 a10 a11 a12 a13 a14 a15 a16 a17 a18 a19 l) fun y => bif ieq y.q18 2 then some true else some false) = some true := by
      intro hx
      rw [ftab_p (by omega) a0 a1 a2 a3 a4 a5 a6 a7 a8 a9 a10 a11 a12 a13 a14 a15 a16 a17 a18 a19 l (by omega) (by omega) (by omega), Option.bind_some]
      have : l.all isP = false := by
        rw [hp, List.all_append, List.all_cons, hx]; simp
      rw [ftab_bad this]; rfl
    simp only [F7_c0, e1, e2, e5, e6, cond_true, wakes17, Option.bind_some]
    by_cases h0 : x < 0
    · rw [show ilt x 0 = true from decide_eq_true h0, cond_true]
      exact bad (by unfold isP; rw [decide_eq_false (by omega : ¬ 0 ≤ x)]; rfl)
    rw [show ilt x 0 = false from decide_eq_false h0, cond_false]
    by_cases h1 : 65536 ≤ x
    · rw [show ige x 65536 = true from decide_eq_true h1, cond_true]
      exact bad (by unfold isP; rw [decide_eq_false (by omega : ¬ x < 65536), Bool.and_false])
    rw [show ige x 65536 = false from decide_eq_false (by omega), cond_false, add_in (x := x) (by omega), show [x] ++ p.reverse = (p ++ [x]).reverse by simp]
    refine tab_c0 a0 a1 a2 a3 a4 a5 a6 a7 a8 a9 a10 a11 a12 a13 a14 a15 a16 a17 a18 a19 hr g1 g2 hl hne r (p ++ [x]) n (by rw [hp, in_eq]) (fun y hy => ?_) (by omega)
    rcases List.mem_append.1 hy with hy | hy
    · exact hP y hy
    · rw [List.mem_singleton] at hy; rw [hy]; exact isP_iff.2 (by omega)
end
theorem plain_FingerTable (n : Nat) (a0 : Int) (a1 a2 : List Int) (a3 a4 a5 a6 a7 a8 a9 a10 a11 a12 a13 a14 a15 a16 a17 a18 a19 : Int) (l : List Int) (hv : a2.length ≤ 9223372036854775807) (hn : 100000 < n) : F7 n a0 a1 a2 a3 a4 a5 a6 a7 a8 a9 a10 a11 a12 a13 a14 a15 a16 a17 a18 a19 l = some true := by
  unfold F7
  have hf := fuel_big
  rw [fgreat, wakes17]
  simp only [Option.bind_some]
  cases hg : (decide (20 < a1.length) || decide (20 < a2.length))
  · obtain ⟨g1, g2⟩ := fgreat_cases hg
    rw [cond_false, viewR_r (by omega) a0 a1 a2 a3 a4 a5 a6 a7 a8 a9 a10 a11 a12 a13 a14 a15 a16 a17 a18 a19 hv, Option.bind_some]
    cases hr : rightV ⟨a0, a1, a2, a3, a4, a5, a6, a7, a8, a9, a10, a11, a12, a13, a14, a15, a16, a17, a18, a19⟩
    · rfl
    · simp only [Bool.not_true, cond_false]
      by_cases h0 : l = []
      · subst h0; rfl
      · have hpos : ¬ l.length = 0 := fun h => h0 (List.eq_nil_of_length_eq_zero h)
        rw [show ilt (ofN l.length) 1 = false from decide_eq_false (by simp only [ofN]; omega), cond_false]
        by_cases h3 : l.length ≤ 60
        · rw [len60 l h3, cond_false]
          exact tab_c0 l a0 a1 a2 a3 a4 a5 a6 a7 a8 a9 a10 a11 a12 a13 a14 a15 a16 a17 a18 a19 hr g1 g2 h3 h0 l [] n rfl (fun x hx => by simp at hx) (by omega)
        · rw [len60' l h3]; rfl
  · rfl

/-! ### Gone through. -/
theorem ow_first {l : List Int} {id f : Int} (hid : isP id = true) (hne : l ≠ []) (hp : ∀ x ∈ l, isP x = true) (hf : f = ow l (id + 1)) (hfi : f ≠ id) {i : Int} (h0 : 0 ≤ i) (h1 : i < 16) (hd : (2 : Int) ^ i.toNat ≤ fr id f) : ow l (stt id i) = f := by
  obtain ⟨s1, s2⟩ := fr_start hid h0 h1
  have hpos := (two_le (k := i.toNat) (by omega)).2
  obtain ⟨a1, a2⟩ := ow_ok (k := stt id i) hne hp
  obtain ⟨b1, b2⟩ := ow_ok (k := id + 1) hne hp
  have c1 := a2 f (by rw [hf]; exact b1)
  have c2 := b2 _ a1
  rw [← hf] at c2 b1
  have p1 := isP_iff.1 (hp _ a1); have p2 := isP_iff.1 (hp _ b1); have p3 := isP_iff.1 hid; have p4 := isP_iff.1 s2
  generalize ow l (stt id i) = w at *
  generalize stt id i = s at *
  generalize (2 : Int) ^ i.toNat = z at *
  unfold fr at *
  omega
theorem wlk_T {id : Int} {b s : List Int} {p : Int} {l0 T : List Int} (hr0 : rightV (mkV id b s p l0) = true) (hT : ∀ k, k < 16 → (onceV (mkV id b s p l0) (ofN k)).2 = true → T.getD k 0 = firstV (mkV id b s p l0)) : ∀ (m i : Nat) (l l' : List Int) (x k : Int) (t : Bool), i + m = 16 → l.length = 16 → rightV (mkV id b s p l) = true → (∀ j, j < i → l.getD j 0 = T.getD j 0) → wlk (mkV id b s p l0) m i l = (l', x, k, t) →
    rightV (mkV id b s p l') = true ∧ (t = true → ∃ j, i ≤ j ∧ j < 16 ∧ x = ofN j ∧ k = stt id (ofN j) ∧ ∀ q, q < j → l'.getD q 0 = T.getD q 0) ∧ (t = false → ∀ q, q < 16 → l'.getD q 0 = T.getD q 0)
  | 0, i, l, l', x, k, t, hi, hl, hr, heq, h => by
    rw [wlk] at h; cases h
    exact ⟨hr, (fun h => by cases h), fun _ q hq => heq q (by omega)⟩
  | m + 1, i, l, l', x, k, t, hi, hl, hr, heq, h => by
    rw [wlk] at h
    cases ho : (onceV (mkV id b s p l0) (ofN i)).2
    · rw [ho, cond_false] at h; cases h
      exact ⟨hr, fun _ => ⟨i, Nat.le_refl _, by omega, rfl, rfl, heq⟩, fun h => by cases h⟩
    · rw [ho, cond_true] at h
      obtain ⟨w0, w1, w2⟩ := wlk_T hr0 hT m (i + 1) _ l' x k t (by omega) (by rw [List.length_set]; exact hl) (mkV_set hl hr (oth_first hr0)) (fun j hj => by
        by_cases e : j = i
        · subst e; rw [get_set (by omega)]; exact (hT j (by omega) ho).symm
        · have := heq j (by omega)
          simp only [List.getD] at this ⊢
          rw [List.getElem?_set_ne (fun e' => e e'.symm)]; exact this) h
      refine ⟨w0, fun ht => ?_, w2⟩
      obtain ⟨j, j1, j2⟩ := w1 ht
      exact ⟨j, by omega, j2⟩
theorem row_eq {l m : List Int} (hl : l.length = 16) (hm : m.length = 16) (h : ∀ q, q < 16 → l.getD q 0 = m.getD q 0) : l = m := by
  refine List.ext_getElem (by omega) fun i h1 h2 => ?_
  have := h i (by omega)
  simpa [List.getD, h1, h2] using this
section
variable (l : List Int)
theorem walk_c1 (id : Int) (b : List Int) (p f : Int) (hid : isP id = true) (hb : b.length ≤ 20) (hl : l.length ≤ 60) (hne : l ≠ []) (hp : ∀ x ∈ l, isP x = true) (hf : f = ow l (id + 1)) (hfi : f ≠ id) (T : List Int) (hT : T.length = 16) (hget : ∀ j, j < 16 → T.getD j 0 = ownd id (ow l (stt id (ofN j)))) (g0 g1 g2 g3 g4 g5 g6 g7 g8 g9 g10 g11 g12 g13 g14 g15 : Int) :
    ∀ (m i n ask : Nat) (W : List Int) (x k : Int) (t : Bool), i + m = 16 → m < n → ask ≤ i → W.length = 16 → rightV (mkV id b [f] p W) = true → (t = true → ∃ j, i ≤ j ∧ j < 16 ∧ x = ofN j ∧ k = stt id (ofN j) ∧ ∀ q, q < j → W.getD q 0 = T.getD q 0) → (t = false → ∀ q, q < 16 → W.getD q 0 = T.getD q 0) →
    F4_c1 n l x k t (ofN ask) id p g0 g1 g2 g3 g4 g5 g6 g7 g8 g9 g10 g11 g12 g13 g14 g15 id p (T.getD 0 0) (T.getD 1 0) (T.getD 2 0) (T.getD 3 0) (T.getD 4 0) (T.getD 5 0) (T.getD 6 0) (T.getD 7 0) (T.getD 8 0) (T.getD 9 0) (T.getD 10 0) (T.getD 11 0) (T.getD 12 0) (T.getD 13 0) (T.getD 14 0) (T.getD 15 0) id b [f] p (W.getD 0 0) (W.getD 1 0) (W.getD 2 0) (W.getD 3 0) (W.getD 4 0) (W.getD 5 0) (W.getD 6 0) (W.getD 7 0) (W.getD 8 0) (W.getD 9 0) (W.getD 10 0) (W.getD 11 0) (W.getD 12 0) (W.getD 13 0) (W.getD 14 0) (W.getD 15 0) b [f] b [f] = some true
  | _, _, 0, _, _, _, _, _, _, h, _, _, _, _, _ => by omega
  | m, i, n + 1, ask, W, x, k, t, hi, hn, hask, hW, hr, h1, h2 => by
    have hff := fuel_big
    have eask : ile (ofN ask) 16 = true := decide_eq_true (by simp only [ofN]; omega)
    simp only [F4_c1]
    rw [eask]
    cases t
    · have e := row_eq hW hT (h2 rfl)
      subst e
      rw [same_r FUEL id b [f] p (W.getD 0 0) (W.getD 1 0) (W.getD 2 0) (W.getD 3 0) (W.getD 4 0) (W.getD 5 0) (W.getD 6 0) (W.getD 7 0) (W.getD 8 0) (W.getD 9 0) (W.getD 10 0) (W.getD 11 0) (W.getD 12 0) (W.getD 13 0) (W.getD 14 0) (W.getD 15 0) id b [f] p (W.getD 0 0) (W.getD 1 0) (W.getD 2 0) (W.getD 3 0) (W.getD 4 0) (W.getD 5 0) (W.getD 6 0) (W.getD 7 0) (W.getD 8 0) (W.getD 9 0) (W.getD 10 0) (W.getD 11 0) (W.getD 12 0) (W.getD 13 0) (W.getD 14 0) (W.getD 15 0) (by omega) (by simp), wakes17]
      simp only [Option.bind_some, decide_true, Bool.not_false, cond_true, cond_false]
    · obtain ⟨j, j1, j2, rfl, rfl, j5⟩ := h1 rfl
      obtain ⟨o1, o2⟩ := ow_ok (k := stt id (ofN j)) hne hp
      simp only [cond_true]
      rw [ow_r (show 2000 < FUEL by omega) l _ hne (by omega), Option.bind_some]
      obtain ⟨w2, c2, hs, hF⟩ := fset_p (n := FUEL) (by omega) id b [f] p (W.getD 0 0) (W.getD 1 0) (W.getD 2 0) (W.getD 3 0) (W.getD 4 0) (W.getD 5 0) (W.getD 6 0) (W.getD 7 0) (W.getD 8 0) (W.getD 9 0) (W.getD 10 0) (W.getD 11 0) (W.getD 12 0) (W.getD 13 0) (W.getD 14 0) (W.getD 15 0) (ofN j) (ow l (stt id (ofN j))) (by omega) (by simp)
      have hr' : rightV ⟨id, b, [f], p, W.getD 0 0, W.getD 1 0, W.getD 2 0, W.getD 3 0, W.getD 4 0, W.getD 5 0, W.getD 6 0, W.getD 7 0, W.getD 8 0, W.getD 9 0, W.getD 10 0, W.getD 11 0, W.getD 12 0, W.getD 13 0, W.getD 14 0, W.getD 15 0⟩ = true := hr
      unfold setV at hs
      rw [hr', inR_nat j2, hp _ o1, q16 hW, ofN_toNat] at hs
      simp only [Bool.and_self, cond_true, Prod.mk.injEq] at hs
      obtain ⟨hs1, hs2⟩ := hs
      have hw2l : w2.length = 16 := by rw [← hs1, List.length_set]; exact hW
      have hown : oth id (ownd id (ow l (stt id (ofN j)))) = true := by
        unfold ownd oth
        split
        · simp
        · rename_i hh; rw [hp _ o1, decide_eq_true hh]; simp
      have hw2r : rightV (mkV id b [f] p w2) = true := by rw [← hs1]; exact mkV_set hW hr hown
      have hw2e : ∀ q, q < j + 1 → w2.getD q 0 = T.getD q 0 := by
        intro q hq
        rw [← hs1]
        by_cases e : q = j
        · subst e; rw [get_set (by omega), hget q j2]
        · have := j5 q (by omega)
          simp only [List.getD] at this ⊢
          rw [List.getElem?_set_ne (fun e' => e e'.symm)]; exact this
      rw [hF, start_r (show 100 < FUEL by omega), ← hs2]
      simp only [Option.bind_some, show ine 0 0 = false from rfl, cond_false, show ine (stt id (ofN j)) (stt id (ofN j)) = false by simp [ine], fg_ofN j j2]
      have eas : iadd .i64 (ofN ask) 1 = ofN (ask + 1) := fg_ofN ask (by omega)
      rw [eas]
      by_cases h15 : j = 15
      · subst h15
        have e := row_eq hw2l hT (fun q hq => hw2e q (by omega))
        rw [show ieq (ofN 15) 15 = true by decide, show ile (ofN (ask + 1)) 16 = true from decide_eq_true (by simp only [ofN]; omega), e, same_r FUEL id b [f] p (T.getD 0 0) (T.getD 1 0) (T.getD 2 0) (T.getD 3 0) (T.getD 4 0) (T.getD 5 0) (T.getD 6 0) (T.getD 7 0) (T.getD 8 0) (T.getD 9 0) (T.getD 10 0) (T.getD 11 0) (T.getD 12 0) (T.getD 13 0) (T.getD 14 0) (T.getD 15 0) id b [f] p (T.getD 0 0) (T.getD 1 0) (T.getD 2 0) (T.getD 3 0) (T.getD 4 0) (T.getD 5 0) (T.getD 6 0) (T.getD 7 0) (T.getD 8 0) (T.getD 9 0) (T.getD 10 0) (T.getD 11 0) (T.getD 12 0) (T.getD 13 0) (T.getD 14 0) (T.getD 15 0) (by omega) (by simp), wakes17]
        simp only [Option.bind_some, decide_true, cond_true]
      · rw [show ieq (ofN j) 15 = false by rw [ieq_dec]; exact decide_eq_false (by simp only [ofN]; omega), cond_false]
        obtain ⟨w3, x3, k3, t3, hw3, hw3l, hF3⟩ := fwalk_p (n := FUEL) (by omega) id b [f] p (w2.getD 0 0) (w2.getD 1 0) (w2.getD 2 0) (w2.getD 3 0) (w2.getD 4 0) (w2.getD 5 0) (w2.getD 6 0) (w2.getD 7 0) (w2.getD 8 0) (w2.getD 9 0) (w2.getD 10 0) (w2.getD 11 0) (w2.getD 12 0) (w2.getD 13 0) (w2.getD 14 0) (w2.getD 15 0) (ofN (j + 1)) (by omega) (by simp)
        rw [hF3]
        simp only [Option.bind_some]
        have hr2' : rightV ⟨id, b, [f], p, w2.getD 0 0, w2.getD 1 0, w2.getD 2 0, w2.getD 3 0, w2.getD 4 0, w2.getD 5 0, w2.getD 6 0, w2.getD 7 0, w2.getD 8 0, w2.getD 9 0, w2.getD 10 0, w2.getD 11 0, w2.getD 12 0, w2.getD 13 0, w2.getD 14 0, w2.getD 15 0⟩ = true := hw2r
        unfold walkV at hw3
        rw [hr2', inR_nat (show j + 1 < 16 by omega), q16 hw2l, ofN_toNat] at hw3
        simp only [cond_true] at hw3
        have hfst : firstV (mkV id b [f] p w2) = f := by unfold firstV; rw [hw2r]; rfl
        obtain ⟨u0, u1, u2⟩ := wlk_T (T := T) hw2r (fun q hq ho => by
          rw [hfst, hget q hq]
          have hq' := once_far (i := ofN q) hw2r (by simp only [ofN]; omega) (by simp only [ofN]; omega)
          rw [hfst] at hq'
          have hle : (2 : Int) ^ (ofN q).toNat ≤ fr id f := by
            rcases Bool.eq_false_or_eq_true (decide ((2 : Int) ^ (ofN q).toNat ≤ fr id f)) with hd | hd
            · exact of_decide_eq_true hd
            · exfalso
              have hd' : decide ((2 : Int) ^ (ofN q).toNat ≤ fr (mkV id b [f] p w2).id f) = false := hd
              rw [hd', cond_false] at hq'
              rw [hq'] at ho; cases ho
          have := ow_first hid hne hp hf hfi (i := ofN q) (by simp only [ofN]; omega) (by simp only [ofN]; omega) hle
          rw [this]; unfold ownd; rw [if_neg hfi]) (16 - (j + 1)) (j + 1) w2 w3 x3 k3 t3 (by omega) hw2l hw2r hw2e hw3
        exact walk_c1 id b p f hid hb hl hne hp hf hfi T hT hget g0 g1 g2 g3 g4 g5 g6 g7 g8 g9 g10 g11 g12 g13 g14 g15 (16 - (j + 1)) (j + 1) n (ask + 1) w3 x3 k3 t3 (by omega) (by omega) (by omega) hw3l u0 u1 u2
end

theorem good_one {id f : Int} (hid : isP id = true) (hf : isP f = true) (hne : f ≠ id) : good id [f] = true := by
  unfold good
  simp only [rgt, hf, decide_eq_true ((fr_pos hid hf).2 hne)]; rfl
theorem listed_r (n : Nat) (a0 : Int) (a1 a2 : List Int) (a3 a4 a5 a6 a7 a8 a9 a10 a11 a12 a13 a14 a15 a16 a17 a18 a19 : Int) (f : Int) (h1 : a1.length < 1000) (h2 : a2.length < 1000) (hr : rightV ⟨a0, a1, a2, a3, a4, a5, a6, a7, a8, a9, a10, a11, a12, a13, a14, a15, a16, a17, a18, a19⟩ = true) (hg : good a0 [f] = true) : F23 n a0 a1 a2 a3 a4 a5 a6 a7 a8 a9 a10 a11 a12 a13 a14 a15 a16 a17 a18 a19 [f] = some ⟨a0, a3, a4, a5, a6, a7, a8, a9, a10, a11, a12, a13, a14, a15, a16, a17, a18, a19, a1, [f]⟩ := by
  unfold F23
  have hf := fuel_big
  rw [own_r FUEL a0 a1 a2 a3 a4 a5 a6 a7 a8 a9 a10 a11 a12 a13 a14 a15 a16 a17 a18 a19 h1 h2]
  simp only [Option.bind_some]
  rw [viewR_r (show 70000 < FUEL by omega) a0 a1 a2 a3 a4 a5 a6 a7 a8 a9 a10 a11 a12 a13 a14 a15 a16 a17 a18 a19 (by omega), hr]
  simp only [Option.bind_some, cond_true]
  rw [right_r (show 70000 < FUEL by omega) a0 [f] (by simp), hg]; rfl
theorem listed_right {id : Int} {b s s' : List Int} {p g0 g1 g2 g3 g4 g5 g6 g7 g8 g9 g10 g11 g12 g13 g14 g15 : Int} (h : rightV ⟨id, b, s, p, g0, g1, g2, g3, g4, g5, g6, g7, g8, g9, g10, g11, g12, g13, g14, g15⟩ = true) (hg : good id s' = true) : rightV ⟨id, b, s', p, g0, g1, g2, g3, g4, g5, g6, g7, g8, g9, g10, g11, g12, g13, g14, g15⟩ = true := by
  unfold rightV at h ⊢
  simp only [Bool.and_eq_true, VW.fg] at h ⊢
  exact ⟨h.1, h.2.1, hg, h.2.2.2⟩
theorem walk_c0 (a0 : Int) (a1 a2 : List Int) (a3 a4 a5 a6 a7 a8 a9 a10 a11 a12 a13 a14 a15 a16 a17 a18 a19 : Int) (l : List Int) (hr : rightV ⟨a0, a1, a2, a3, a4, a5, a6, a7, a8, a9, a10, a11, a12, a13, a14, a15, a16, a17, a18, a19⟩ = true) (g1 : a1.length ≤ 20) (g2 : a2.length ≤ 20) (hl : l.length ≤ 60) (hne : l ≠ []) : ∀ (r p : List Int) (n : Nat), l = p ++ r → (∀ x ∈ p, isP x = true) → r.length + 100 < n →
    F4_c0 n l (ofN p.length) a0 a1 a2 a3 a4 a5 a6 a7 a8 a9 a10 a11 a12 a13 a14 a15 a16 a17 a18 a19 = some true
  | _, _, 0, _, _, h => by omega
  | [], p, n + 1, hp, hP, h => by
    have hff := fuel_big
    rw [List.append_nil] at hp
    rw [← hp] at hP ⊢
    have hid : isP a0 = true := (rightV_parts hr).1
    have hb := isP_iff.1 hid
    simp only [F4_c0, lt_out, cond_false]
    rw [show iadd .i64 a0 1 = a0 + 1 by simp only [iadd]; rw [wrap_mid (by omega) (by omega)], ow_r (show 2000 < FUEL by omega) l _ hne (by omega), wakes17]
    simp only [Option.bind_some]
    rw [ieq_dec]
    by_cases hfi : ow l (a0 + 1) = a0
    · rw [decide_eq_true hfi]; rfl
    · rw [decide_eq_false hfi, cond_false]
      obtain ⟨o1, _⟩ := ow_ok (k := a0 + 1) hne hP
      have hg := good_one hid (hP _ o1) hfi
      generalize hf : ow l (a0 + 1) = f at *
      rw [listed_r FUEL a0 a1 a2 a3 a4 a5 a6 a7 a8 a9 a10 a11 a12 a13 a14 a15 a16 a17 a18 a19 f (by omega) (by omega) hr hg]
      simp only [Option.bind_some]
      have hr' := listed_right (s' := [f]) hr hg
      have hfst : firstV ⟨a0, a1, [f], a3, a4, a5, a6, a7, a8, a9, a10, a11, a12, a13, a14, a15, a16, a17, a18, a19⟩ = f := by unfold firstV; rw [hr']; rfl
      obtain ⟨w3, x3, k3, t3, hw3, hw3l, hF3⟩ := fwalk_p (n := FUEL) (by omega) a0 a1 [f] a3 a4 a5 a6 a7 a8 a9 a10 a11 a12 a13 a14 a15 a16 a17 a18 a19 0 (by omega) (by simp)
      rw [ftab_p (show 2000 < FUEL by omega) a0 a1 [f] a3 a4 a5 a6 a7 a8 a9 a10 a11 a12 a13 a14 a15 a16 a17 a18 a19 l (by omega) (by simp) (by omega), ftab_good hr' hne hP, first_vr FUEL a0 a1 [f] a3 a4 a5 a6 a7 a8 a9 a10 a11 a12 a13 a14 a15 a16 a17 a18 a19 (by simp), hfst, hF3]
      simp only [Option.bind_some, show ine 0 0 = false from rfl, cond_false, show ine f f = false by simp [ine]]
      unfold walkV at hw3
      rw [hr', show inR 0 = true by decide] at hw3
      simp only [cond_true] at hw3
      have hTl : (tbl a0 l 16 0 [a4, a5, a6, a7, a8, a9, a10, a11, a12, a13, a14, a15, a16, a17, a18, a19]).length = 16 := by rw [tbl_len]; rfl
      have hget : ∀ j, j < 16 → (tbl a0 l 16 0 [a4, a5, a6, a7, a8, a9, a10, a11, a12, a13, a14, a15, a16, a17, a18, a19]).getD j 0 = ownd a0 (ow l (stt a0 (ofN j))) := fun j hj => by
        rw [tbl_get 16 0 _ j (Nat.le_refl _), if_pos (by omega)]
      have hm : rightV (mkV a0 a1 [f] a3 [a4, a5, a6, a7, a8, a9, a10, a11, a12, a13, a14, a15, a16, a17, a18, a19]) = true := hr'
      obtain ⟨u0, u1, u2⟩ := wlk_T (T := tbl a0 l 16 0 [a4, a5, a6, a7, a8, a9, a10, a11, a12, a13, a14, a15, a16, a17, a18, a19]) hm (fun q hq ho => by
        have hfm : firstV (mkV a0 a1 [f] a3 [a4, a5, a6, a7, a8, a9, a10, a11, a12, a13, a14, a15, a16, a17, a18, a19]) = f := hfst
        rw [hfm, hget q hq]
        have hq' := once_far (i := ofN q) hm (by simp only [ofN]; omega) (by simp only [ofN]; omega)
        rw [hfm] at hq'
        have hle : (2 : Int) ^ (ofN q).toNat ≤ fr a0 f := by
          rcases Bool.eq_false_or_eq_true (decide ((2 : Int) ^ (ofN q).toNat ≤ fr a0 f)) with hd | hd
          · exact of_decide_eq_true hd
          · exfalso
            have hd' : decide ((2 : Int) ^ (ofN q).toNat ≤ fr (mkV a0 a1 [f] a3 [a4, a5, a6, a7, a8, a9, a10, a11, a12, a13, a14, a15, a16, a17, a18, a19]).id f) = false := hd
            rw [hd', cond_false] at hq'
            rw [hq'] at ho; cases ho
        have := ow_first hid hne hP hf.symm hfi (i := ofN q) (by simp only [ofN]; omega) (by simp only [ofN]; omega) hle
        rw [this]; unfold ownd; rw [if_neg hfi]) 16 0 [a4, a5, a6, a7, a8, a9, a10, a11, a12, a13, a14, a15, a16, a17, a18, a19] w3 x3 k3 t3 rfl rfl hm (fun j hj => by omega) hw3
      exact walk_c1 l a0 a1 a3 f hid g1 hl hne hP hf.symm hfi (tbl a0 l 16 0 [a4, a5, a6, a7, a8, a9, a10, a11, a12, a13, a14, a15, a16, a17, a18, a19]) hTl hget a4 a5 a6 a7 a8 a9 a10 a11 a12 a13 a14 a15 a16 a17 a18 a19 16 0 n 0 w3 x3 k3 t3 rfl (by simp only [List.length_nil] at h; omega) (Nat.le_refl _) hw3l u0 u1 u2
  | x :: r, p, n + 1, hp, hP, h => by
    simp only [List.length_cons] at h
    have hlen : p.length ≤ 60 := by rw [hp] at hl; simp at hl; omega
    have e1 : ilt (ofN p.length) (ofN l.length) = true := by rw [hp]; exact lt_in
    have e2 : inb (ofN p.length) l.length = true := by rw [hp]; exact inb_in
    have e5 : l.getD (ofN p.length).toNat 0 = x := by rw [hp]; exact get_in
    simp only [F4_c0, e1, e2, e5, cond_true, wakes17, Option.bind_some]
    by_cases h0 : x < 0
    · rw [show ilt x 0 = true from decide_eq_true h0]; rfl
    rw [show ilt x 0 = false from decide_eq_false h0, cond_false]
    by_cases h1 : 65536 ≤ x
    · rw [show ige x 65536 = true from decide_eq_true h1]; rfl
    rw [show ige x 65536 = false from decide_eq_false (by omega), cond_false, add_in (x := x) (by omega)]
    refine walk_c0 a0 a1 a2 a3 a4 a5 a6 a7 a8 a9 a10 a11 a12 a13 a14 a15 a16 a17 a18 a19 l hr g1 g2 hl hne r (p ++ [x]) n (by rw [hp, in_eq]) (fun y hy => ?_) (by omega)
    rcases List.mem_append.1 hy with hy | hy
    · exact hP y hy
    · rw [List.mem_singleton] at hy; rw [hy]; exact isP_iff.2 (by omega)
theorem plain_FingerWalk (n : Nat) (a0 : Int) (a1 a2 : List Int) (a3 a4 a5 a6 a7 a8 a9 a10 a11 a12 a13 a14 a15 a16 a17 a18 a19 : Int) (l : List Int) (hv : a2.length ≤ 9223372036854775807) (hn : 100000 < n) : F4 n a0 a1 a2 a3 a4 a5 a6 a7 a8 a9 a10 a11 a12 a13 a14 a15 a16 a17 a18 a19 l = some true := by
  unfold F4
  have hf := fuel_big
  rw [fgreat, wakes17]
  simp only [Option.bind_some]
  cases hg : (decide (20 < a1.length) || decide (20 < a2.length))
  · obtain ⟨g1, g2⟩ := fgreat_cases hg
    rw [cond_false, viewR_r (by omega) a0 a1 a2 a3 a4 a5 a6 a7 a8 a9 a10 a11 a12 a13 a14 a15 a16 a17 a18 a19 hv, Option.bind_some]
    cases hr : rightV ⟨a0, a1, a2, a3, a4, a5, a6, a7, a8, a9, a10, a11, a12, a13, a14, a15, a16, a17, a18, a19⟩
    · rfl
    · simp only [Bool.not_true, cond_false]
      by_cases h0 : l = []
      · subst h0; rfl
      · have hpos : ¬ l.length = 0 := fun h => h0 (List.eq_nil_of_length_eq_zero h)
        rw [show ilt (ofN l.length) 1 = false from decide_eq_false (by simp only [ofN]; omega), cond_false]
        by_cases h3 : l.length ≤ 60
        · rw [len60 l h3, cond_false]
          exact walk_c0 a0 a1 a2 a3 a4 a5 a6 a7 a8 a9 a10 a11 a12 a13 a14 a15 a16 a17 a18 a19 l hr g1 g2 h3 h0 l [] n rfl (fun x hx => by simp at hx) (by omega)
        · rw [len60' l h3]; rfl
  · rfl
end Go.Proofs.YtomgapihddmafaaDoor
