/-
  Chapter 6, in plain words: what a message's kind does not have.
-/
import Derived.Test.YthaomidjgadieaaL06
namespace Go.Proofs.Ythaomidjgadieaa
open Go Go.RowKit

theorem one_0 (a0 : Int) (a1 : Int) (a2 : Int) (_a3 : Int) (a4 : Int) (a5 : Bool) (a6 : Bool) (a7 : Int) (a8 : Int) (a9 : List Int) (a10 : ByteArray) (a11 : Int) (a12 : Int) (a13 : Bool) (a14 : Int) : rightM ⟨a0, a1, a2, a2, a4, a5, a6, a7, a8, a9, a10, a11, a12, a13, a14⟩ = false := by
  unfold rightM; simp
theorem one_1 (a0 : Int) (a1 : Int) (a2 : Int) (a3 : Int) (a4 : Int) (a5 : Bool) (a6 : Bool) (a7 : Int) (a8 : Int) (a9 : List Int) (a10 : ByteArray) (a11 : Int) (a12 : Int) (a13 : Bool) (a14 : Int) {n : Int} (h : rightM ⟨a0, a1, a2, a3, a4, a5, a6, a7, a8, a9, a10, a11, a12, a13, a14⟩ = true) (h1 : 1 ≤ n) : rightM ⟨a0, a1 + 1048576 * n, a2, a3, a4, a5, a6, a7, a8, a9, a10, a11, a12, a13, a14⟩ = false := by
  unfold rightM at h ⊢
  simp only [Bool.and_eq_true] at h
  have hc := h.2.2.2.2.1
  have : callB (askerV a0 a2 a3) (a1 + 1048576 * n) = false := by
    unfold callB at hc ⊢
    simp only [Bool.and_eq_true, decide_eq_true_eq] at hc
    rw [decide_eq_false (by omega : ¬ a1 + 1048576 * n ≤ askerV a0 a2 a3 * 1048576 + 1048576), Bool.and_false]
  simp [this]
theorem one_2 (_a0 : Int) (a1 : Int) (a2 : Int) (a3 : Int) (a4 : Int) (a5 : Bool) (a6 : Bool) (a7 : Int) (a8 : Int) (a9 : List Int) (a10 : ByteArray) (a11 : Int) (a12 : Int) (a13 : Bool) (a14 : Int) : rightM ⟨0, a1, a2, a3, a4, a5, a6, a7, a8, a9, a10, a11, a12, a13, a14⟩ = false := by
  unfold rightM; simp
theorem one_3 (a0 : Int) (a1 : Int) (_a2 : Int) (a3 : Int) (a4 : Int) (a5 : Bool) (a6 : Bool) (a7 : Int) (a8 : Int) (a9 : List Int) (a10 : ByteArray) (a11 : Int) (a12 : Int) (a13 : Bool) (a14 : Int) {n : Int} (h1 : 1 ≤ n) : rightM ⟨a0, a1, 65536 + n, a3, a4, a5, a6, a7, a8, a9, a10, a11, a12, a13, a14⟩ = false := by
  have : isP (65536 + n) = false := by
    cases h : isP (65536 + n)
    · rfl
    · rw [isP_iff] at h; omega
  unfold rightM; simp [this]
theorem one_4 (a0 : Int) (a1 : Int) (a2 : Int) (a3 : Int) (a4 : Int) (a5 : Bool) (a6 : Bool) (a7 : Int) (a8 : Int) (a9 : List Int) (a10 : ByteArray) (a11 : Int) (a12 : Int) (a13 : Bool) (_a14 : Int) : rightM ⟨a0, a1, a2, a3, a4, a5, a6, a7, a8, a9, a10, a11, a12, a13, 5⟩ = false := by
  by_cases h1 : a0 = 11
  · subst h1; simp [rightM, hasM]
  · by_cases h2 : a0 = 12
    · subst h2; simp [rightM, hasM]
    · simp [rightM, restM, h1, h2]
theorem neg_p {n : Int} (h1 : 1 ≤ n) : isP (-n) = false := by
  cases h : isP (-n)
  · rfl
  · rw [isP_iff] at h; omega
theorem one_5 (a0 : Int) (a1 : Int) (a2 : Int) (a3 : Int) (_a4 : Int) (a5 : Bool) (a6 : Bool) (a7 : Int) (a8 : Int) (a9 : List Int) (a10 : ByteArray) (a11 : Int) (a12 : Int) (a13 : Bool) (a14 : Int) {n : Int} (h1 : 1 ≤ n) : rightM ⟨a0, a1, a2, a3, -n, a5, a6, a7, a8, a9, a10, a11, a12, a13, a14⟩ = false := by
  by_cases h4 : a0 = 4
  · subst h4; simp [rightM, hasM, neg_p h1]
  · have : ¬ n = 0 := by omega
    simp [rightM, restM, h4, this]
theorem one_6 (a0 : Int) (a1 : Int) (a2 : Int) (a3 : Int) (a4 : Int) (a5 : Bool) (a6 : Bool) (_a7 : Int) (a8 : Int) (a9 : List Int) (a10 : ByteArray) (a11 : Int) (a12 : Int) (a13 : Bool) (a14 : Int) {n : Int} (h1 : 1 ≤ n) : rightM ⟨a0, a1, a2, a3, a4, a5, a6, -n, a8, a9, a10, a11, a12, a13, a14⟩ = false := by
  by_cases h4 : a0 = 10
  · subst h4; simp [rightM, hasM, neg_p h1]
  · have : ¬ n = 0 := by omega
    simp [rightM, restM, h4, this]
theorem one_7 (a0 : Int) (a1 : Int) (a2 : Int) (a3 : Int) (a4 : Int) (a5 : Bool) (a6 : Bool) (a7 : Int) (_a8 : Int) (a9 : List Int) (a10 : ByteArray) (a11 : Int) (a12 : Int) (a13 : Bool) (a14 : Int) {n : Int} (h1 : 1 ≤ n) : rightM ⟨a0, a1, a2, a3, a4, a5, a6, a7, -1 - n, a9, a10, a11, a12, a13, a14⟩ = false := by
  have e1 : ¬ (-1 - n = -1) := by omega
  have e2 : ¬ (-1 - n = 0) := by omega
  have e3 : isP (-1 - n) = false := by
    cases h : isP (-1 - n)
    · rfl
    · rw [isP_iff] at h; omega
  by_cases h4 : a0 = 7
  · subst h4; simp only [rightM, hasM, e3, decide_eq_false e1]; simp
  · simp only [rightM, restM, decide_eq_false e2, decide_eq_false h4]; simp
theorem one_8 (a0 : Int) (a1 : Int) (a2 : Int) (a3 : Int) (a4 : Int) (a5 : Bool) (a6 : Bool) (a7 : Int) (a8 : Int) (a9 : List Int) (a10 : ByteArray) (_a11 : Int) (a12 : Int) (a13 : Bool) (a14 : Int) {n : Int} (h1 : 1 ≤ n) : rightM ⟨a0, a1, a2, a3, a4, a5, a6, a7, a8, a9, a10, -n, a12, a13, a14⟩ = false := by
  have e1 : ¬ (-n = 0) := by omega
  have e2 : isValB (-n) = false := by unfold isValB; rw [decide_eq_false (by omega : ¬ 0 ≤ -n), Bool.false_and]
  by_cases h5 : a0 = 5
  · subst h5; simp only [rightM, hasM, pairB, e2]; simp
  by_cases h6 : a0 = 6
  · subst h6; simp only [rightM, hasM, decide_eq_false e1]; simp
  by_cases h12 : a0 = 12
  · subst h12; simp only [rightM, hasM, pairB, noIt, e2, decide_eq_false e1]; simp
  · simp only [rightM, restM, noIt, decide_eq_false e1, decide_eq_false h5, decide_eq_false h6, decide_eq_false h12]; simp
theorem one_ne {v m : MW} (hv : rightM v = false) (hm : rightM m = true) : sameM v m = false := by
  cases h : sameM v m
  · rfl
  · rw [(sameM_iff v m).1 h, hm] at hv; cases hv
theorem one_go (a0 : Int) (a1 : Int) (a2 : Int) (a3 : Int) (a4 : Int) (a5 : Bool) (a6 : Bool) (a7 : Int) (a8 : Int) (a9 : List Int) (a10 : ByteArray) (a11 : Int) (a12 : Int) (a13 : Bool) (a14 : Int) (m : MW) (Z : Option Bool) (hl : a9.length < 1000) (hv : rightM ⟨a0, a1, a2, a3, a4, a5, a6, a7, a8, a9, a10, a11, a12, a13, a14⟩ = false) (hm : rightM m = true) : (Option.bind (F19 FUEL a0 a1 a2 a3 a4 a5 a6 a7 a8 a9 a10 a11 a12 a13 a14) fun y => bif y then some false else Option.bind (F28 FUEL a0 a1 a2 a3 a4 a5 a6 a7 a8 a9 a10 a11 a12 a13 a14 m.k m.c m.f m.t m.key m.s m.d m.p m.pr m.l m.ik m.iv m.ir m.ig m.cd) fun y2 => bif y2 then some false else Z) = Z := by
  have hf := fuel_big
  have hS : F28 FUEL a0 a1 a2 a3 a4 a5 a6 a7 a8 a9 a10 a11 a12 a13 a14 m.k m.c m.f m.t m.key m.s m.d m.p m.pr m.l m.ik m.iv m.ir m.ig m.cd = some (sameM ⟨a0, a1, a2, a3, a4, a5, a6, a7, a8, a9, a10, a11, a12, a13, a14⟩ m) := msame_p (by omega)
  rw [mright_p (by omega) a0 a1 a2 a3 a4 a5 a6 a7 a8 a9 a10 a11 a12 a13 a14 hl, hv, hS, one_ne hv hm]; rfl
theorem plain_MsgOne (n : Nat) (a0 : Int) (a1 : Int) (a2 : Int) (a3 : Int) (a4 : Int) (a5 : Bool) (a6 : Bool) (a7 : Int) (a8 : Int) (a9 : List Int) (a10 : ByteArray) (a11 : Int) (a12 : Int) (a13 : Bool) (a14 : Int) (k : Int) : F5 n a0 a1 a2 a3 a4 a5 a6 a7 a8 a9 a10 a11 a12 a13 a14 k = some true := by
  have hf := fuel_big
  unfold F5
  rw [mgreat, wakes06]
  simp only [Option.bind_some]
  cases hg : (decide (30 < a9.length) || decide (100 < a10.size))
  case true => rfl
  have hl := mgreat_cases hg
  rw [cond_false, mright_r FUEL a0 a1 a2 a3 a4 a5 a6 a7 a8 a9 a10 a11 a12 a13 a14 (by omega)]
  cases hR : rightM ⟨a0, a1, a2, a3, a4, a5, a6, a7, a8, a9, a10, a11, a12, a13, a14⟩
  · rfl
  simp only [Option.bind_some, Bool.not_true, cond_false]
  by_cases h1 : k < 1
  · rw [show ilt k 1 = true from decide_eq_true h1]; rfl
  by_cases h2 : k > 60000
  · rw [show ilt k 1 = false from decide_eq_false h1, show igt k 60000 = true from decide_eq_true h2]; rfl
  rw [show ilt k 1 = false from decide_eq_false h1, show igt k 60000 = false from decide_eq_false h2]
  simp only [cond_false]
  have hk : 1 ≤ k := by omega
  have hcb : 0 ≤ a1 ∧ a1 ≤ 100000000000000 := by
    have h := hR
    unfold rightM at h
    simp only [Bool.and_eq_true] at h
    have hc := h.2.2.2.2.1
    have hf := isP_iff.1 h.2.1
    have ht := isP_iff.1 h.2.2.1
    unfold callB askerV at hc
    simp only [Bool.and_eq_true, decide_eq_true_eq] at hc
    split at hc <;> omega
  have e1 : iadd .i64 a1 (imul .i64 1048576 k) = a1 + 1048576 * k := by
    simp only [iadd, imul]
    rw [wrap_mid (n := 1048576 * k) (by omega) (by omega), wrap_mid (by omega) (by omega)]
  have e2 : iadd .i64 65536 k = 65536 + k := by simp only [iadd]; rw [wrap_mid (by omega) (by omega)]
  have e3 : ineg .i64 k = -k := by simp only [ineg]; rw [wrap_mid (by omega) (by omega)]; omega
  have e4 : isub .i64 (-1) k = -1 - k := by simp only [isub]; rw [wrap_mid (by omega) (by omega)]
  rw [e1, e2, e3, e4]
  have hL : a9.length < 1000 := by omega
  have G := fun (Z : Option Bool) => one_go a0 a1 a2 a2 a4 a5 a6 a7 a8 a9 a10 a11 a12 a13 a14 ⟨a0, a1, a2, a3, a4, a5, a6, a7, a8, a9, a10, a11, a12, a13, a14⟩ Z hL (one_0 a0 a1 a2 a3 a4 a5 a6 a7 a8 a9 a10 a11 a12 a13 a14) hR
  refine (G _).trans ?_
  refine (one_go a0 (a1 + 1048576 * k) a2 a3 a4 a5 a6 a7 a8 a9 a10 a11 a12 a13 a14 ⟨a0, a1, a2, a3, a4, a5, a6, a7, a8, a9, a10, a11, a12, a13, a14⟩ _ hL (one_1 _ _ _ _ _ _ _ _ _ _ _ _ _ _ _ hR hk) hR).trans ?_
  refine (one_go 0 a1 a2 a3 a4 a5 a6 a7 a8 a9 a10 a11 a12 a13 a14 ⟨a0, a1, a2, a3, a4, a5, a6, a7, a8, a9, a10, a11, a12, a13, a14⟩ _ hL (one_2 a0 ..) hR).trans ?_
  refine (one_go a0 a1 (65536 + k) a3 a4 a5 a6 a7 a8 a9 a10 a11 a12 a13 a14 ⟨a0, a1, a2, a3, a4, a5, a6, a7, a8, a9, a10, a11, a12, a13, a14⟩ _ hL (one_3 _ _ a2 _ _ _ _ _ _ _ _ _ _ _ _ hk) hR).trans ?_
  refine (one_go a0 a1 a2 a3 a4 a5 a6 a7 a8 a9 a10 a11 a12 a13 5 ⟨a0, a1, a2, a3, a4, a5, a6, a7, a8, a9, a10, a11, a12, a13, a14⟩ _ hL (one_4 _ _ _ _ _ _ _ _ _ _ _ _ _ _ a14) hR).trans ?_
  refine (one_go a0 a1 a2 a3 (-k) a5 a6 a7 a8 a9 a10 a11 a12 a13 a14 ⟨a0, a1, a2, a3, a4, a5, a6, a7, a8, a9, a10, a11, a12, a13, a14⟩ _ hL (one_5 _ _ _ _ a4 _ _ _ _ _ _ _ _ _ _ hk) hR).trans ?_
  refine (one_go a0 a1 a2 a3 a4 a5 a6 (-k) a8 a9 a10 a11 a12 a13 a14 ⟨a0, a1, a2, a3, a4, a5, a6, a7, a8, a9, a10, a11, a12, a13, a14⟩ _ hL (one_6 _ _ _ _ _ _ _ a7 _ _ _ _ _ _ _ hk) hR).trans ?_
  refine (one_go a0 a1 a2 a3 a4 a5 a6 a7 (-1 - k) a9 a10 a11 a12 a13 a14 ⟨a0, a1, a2, a3, a4, a5, a6, a7, a8, a9, a10, a11, a12, a13, a14⟩ _ hL (one_7 _ _ _ _ _ _ _ _ a8 _ _ _ _ _ _ hk) hR).trans ?_
  refine (one_go a0 a1 a2 a3 a4 a5 a6 a7 a8 a9 a10 (-k) a12 a13 a14 ⟨a0, a1, a2, a3, a4, a5, a6, a7, a8, a9, a10, a11, a12, a13, a14⟩ _ hL (one_8 _ _ _ _ _ _ _ _ _ _ _ a11 _ _ _ hk) hR).trans ?_
  rw [mright_p (by omega) a0 a1 a2 a3 a4 a5 a6 a7 a8 a9 a10 a11 a12 a13 a14 hL, hR, msame_p (by omega), sameM_self]
  rfl
end Go.Proofs.Ythaomidjgadieaa
