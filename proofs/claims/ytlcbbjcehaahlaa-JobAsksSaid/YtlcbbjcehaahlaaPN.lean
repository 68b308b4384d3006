/-
  In plain words: where on.
-/
import Derived.Test.YtlcbbjcehaahlaaPH
import Derived.Test.YtlcbbjcehaahlaaPM
namespace Go.Proofs.Ytlcbbjcehaahlaa
open Go Go.RowKit

/-- How far it is, round once where it is nothing. -/
def rnd (a k : Int) : Int := if fr a k = 0 then 65536 else fr a k
def closer (k a b : Int) : Bool := decide (rnd b k < rnd a k)
def leftV (v : VW) (k : Int) : Int := if rightV v then rnd v.id k else 0

/-! ### Where on. -/
def nxt (id k : Int) : Int → List Int → Int
  | p, [] => p
  | p, q :: r => nxt id k (if decide (0 ≤ q) && (cut id k q && decide (fr id p < fr id q)) then q else p) r
theorem nxt_app (id k : Int) : ∀ (l : List Int) (p : Int) (m : List Int), nxt id k p (l ++ m) = nxt id k (nxt id k p l) m
  | [], _, _ => rfl
  | x :: l, p, m => by simp only [List.cons_append, nxt]; exact nxt_app id k l _ m
def nextV (v : VW) (k : Int) (slow : Bool) : Int × Bool :=
  bif rightV v then (bif upt v.id (firstV v) k then (firstV v, true) else bif slow then (firstV v, false) else (nxt v.id k (firstV v) (v.lst ++ v.fg), false)) else (-1, false)
theorem hnext_c1 (id k : Int) (f0 f1 f2 f3 f4 f5 f6 f7 f8 f9 f10 f11 f12 f13 f14 f15 : Int) (hfg : ∀ x ∈ ([f0, f1, f2, f3, f4, f5, f6, f7, f8, f9, f10, f11, f12, f13, f14, f15] : List Int), (0 ≤ x ↔ x ≠ -1)) : ∀ (j i : Nat) (n : Nat) (p : Int), i + j = 16 → j < n →
    F70_c1 n f0 f1 f2 f3 f4 f5 f6 f7 f8 f9 f10 f11 f12 f13 f14 f15 (ofN i) p id k = some (nxt id k p (([f0, f1, f2, f3, f4, f5, f6, f7, f8, f9, f10, f11, f12, f13, f14, f15] : List Int).drop i), false)
  | _, _, 0, _, _, h => by omega
  | 0, i, n + 1, p, hk, _ => by
    have : i = 16 := by omega
    subst this
    have e : ilt (ofN 16) 16 = false := by decide
    simp only [F70_c1, e, cond_false]; rfl
  | j + 1, i, n + 1, p, hk, hn => by
    obtain ⟨e1, e2, _⟩ := lt16 (show i < 16 by omega)
    have h1 := fun p => hnext_c1 id k f0 f1 f2 f3 f4 f5 f6 f7 f8 f9 f10 f11 f12 f13 f14 f15 hfg j (i + 1) n p (by omega) (by omega)
    have hx := hfg (([f0, f1, f2, f3, f4, f5, f6, f7, f8, f9, f10, f11, f12, f13, f14, f15] : List Int).getD i 0) (by
      rw [List.getD_eq_getElem?_getD, List.getElem?_eq_getElem (by simp; omega)]
      exact List.getElem_mem _)
    simp only [F70_c1, e1, e2, cond_true, in_p, far_p, Option.bind_some, ofN_toNat, fg_ofN i (show i < 16 by omega), h1]
    rw [drop_getD (k := i) (by simp; omega), nxt, ine_dec]
    generalize ([f0, f1, f2, f3, f4, f5, f6, f7, f8, f9, f10, f11, f12, f13, f14, f15] : List Int).getD i 0 = x at *
    simp only [igt, GT.gt]
    by_cases e3 : x = -1
    · have : ¬ 0 ≤ x := by omega
      simp [e3]
    · have : 0 ≤ x := hx.2 e3
      by_cases e4 : fr id p < fr id x
      · cases cut id k x <;> simp [e3, e4, this]
      · cases cut id k x <;> simp [e3, e4, this]
theorem hnext_c0 (id k : Int) (a0 : Int) (a1 a2 : List Int) (a3 a4 a5 a6 a7 a8 a9 a10 a11 a12 a13 a14 a15 a16 a17 a18 a19 : Int) (hfg : ∀ x ∈ ([a4, a5, a6, a7, a8, a9, a10, a11, a12, a13, a14, a15, a16, a17, a18, a19] : List Int), (0 ≤ x ↔ x ≠ -1)) : ∀ (r p : List Int) (n : Nat) (q : Int), (∀ x ∈ r, 0 ≤ x) → r.length + 20 < n → (p ++ r).length < 1000 →
    F70_c0 n (p ++ r) (ofN (p ++ r).length) (ofN p.length) a0 a1 a2 a3 a4 a5 a6 a7 a8 a9 a10 a11 a12 a13 a14 a15 a16 a17 a18 a19 q id k = some (nxt id k q (r ++ [a4, a5, a6, a7, a8, a9, a10, a11, a12, a13, a14, a15, a16, a17, a18, a19]), false)
  | _, _, 0, _, _, h, _ => by omega
  | [], p, n + 1, q, _, h, _ => by
    have h0 : (0 : Int) = ofN 0 := rfl
    simp only [F70_c0, List.append_nil, lt_out, cond_false]
    simp only [List.length_nil] at h
    rw [h0, hnext_c1 id k a4 a5 a6 a7 a8 a9 a10 a11 a12 a13 a14 a15 a16 a17 a18 a19 hfg 16 0 n q rfl (by omega)]; rfl
  | x :: r, p, n + 1, q, hr, h, hb => by
    simp only [List.length_cons] at h
    have h1 := fun q => hnext_c0 id k a0 a1 a2 a3 a4 a5 a6 a7 a8 a9 a10 a11 a12 a13 a14 a15 a16 a17 a18 a19 hfg r (p ++ [x]) n q (fun y hy => hr y (by simp [hy])) (by omega) (by rw [← in_eq]; exact hb)
    rw [← in_eq] at h1
    simp only [List.length_append, List.length_cons] at hb
    simp only [F70_c0, lt_in, inb_in, get_in, cond_true, in_p, far_p, Option.bind_some]
    rw [add_in (x := x) (by omega), h1, h1, List.cons_append, nxt]
    have h0 : 0 ≤ x := hr x (by simp)
    simp only [igt, GT.gt]
    by_cases e4 : fr id q < fr id x
    · cases cut id k x <;> simp [e4, h0]
    · cases cut id k x <;> simp [e4, h0]
theorem hnext_p {n : Nat} (hn : 2000 < n) (a0 : Int) (a1 a2 : List Int) (a3 a4 a5 a6 a7 a8 a9 a10 a11 a12 a13 a14 a15 a16 a17 a18 a19 : Int) (k : Int) (s : Bool) : F70 n a0 a1 a2 a3 a4 a5 a6 a7 a8 a9 a10 a11 a12 a13 a14 a15 a16 a17 a18 a19 k s = some (nextV ⟨a0, a1, a2, a3, a4, a5, a6, a7, a8, a9, a10, a11, a12, a13, a14, a15, a16, a17, a18, a19⟩ k s) := by
  unfold F70 nextV
  have hf := fuel_big
  rw [viewR_p (show 70000 < FUEL by omega), first_v]
  simp only [Option.bind_some, upto_p, in_p, far_p]
  cases hr : rightV ⟨a0, a1, a2, a3, a4, a5, a6, a7, a8, a9, a10, a11, a12, a13, a14, a15, a16, a17, a18, a19⟩
  · rfl
  · simp only [Bool.not_true, cond_false, cond_true]
    cases upt a0 (firstV ⟨a0, a1, a2, a3, a4, a5, a6, a7, a8, a9, a10, a11, a12, a13, a14, a15, a16, a17, a18, a19⟩) k
    · simp only [cond_false]
      cases s
      · have hl : a2.length ≤ 3 := (rightV_len hr).2
        have hc := hnext_c0 a0 k a0 a1 a2 a3 a4 a5 a6 a7 a8 a9 a10 a11 a12 a13 a14 a15 a16 a17 a18 a19 (fun x hx => (fg_all hr x hx).1) a2 [] n (firstV ⟨a0, a1, a2, a3, a4, a5, a6, a7, a8, a9, a10, a11, a12, a13, a14, a15, a16, a17, a18, a19⟩) (fun x hx => (isP_iff.1 (lst_all hr x hx).1).1) (by omega) (by simp; omega)
        have e : igt (fr a0 (firstV ⟨a0, a1, a2, a3, a4, a5, a6, a7, a8, a9, a10, a11, a12, a13, a14, a15, a16, a17, a18, a19⟩)) (fr a0 (firstV ⟨a0, a1, a2, a3, a4, a5, a6, a7, a8, a9, a10, a11, a12, a13, a14, a15, a16, a17, a18, a19⟩)) = false := decide_eq_false (by omega)
        have h0 : (0 : Int) = ofN ([] : List Int).length := rfl
        simp only [List.nil_append] at hc
        rw [e, h0, hc]
        cases cut a0 k (firstV ⟨a0, a1, a2, a3, a4, a5, a6, a7, a8, a9, a10, a11, a12, a13, a14, a15, a16, a17, a18, a19⟩) <;> rfl
      · rfl
    · rfl
/-- What the walk along a row comes to. -/
theorem nxt_ok {id k : Int} : ∀ (r : List Int) (p : Int), (nxt id k p r = p ∨ (nxt id k p r ∈ r ∧ 0 ≤ nxt id k p r ∧ cut id k (nxt id k p r) = true)) ∧ (∀ x ∈ r, 0 ≤ x → cut id k x = true → fr id x ≤ fr id (nxt id k p r)) ∧ fr id p ≤ fr id (nxt id k p r)
  | [], p => ⟨.inl rfl, fun x hx => by simp at hx, Int.le_refl _⟩
  | x :: r, p => by
    rw [nxt]
    split
    · rename_i hc
      simp only [Bool.and_eq_true, decide_eq_true_eq] at hc
      obtain ⟨b1, b2, b3⟩ := nxt_ok (id := id) (k := k) r x
      refine ⟨?_, fun y hy h0 h1 => ?_, by omega⟩
      · rcases b1 with b1 | b1
        · rw [b1]; exact .inr ⟨by simp, hc.1, hc.2.1⟩
        · exact .inr ⟨by simp [b1.1], b1.2⟩
      · rcases List.mem_cons.1 hy with rfl | hy
        · exact b3
        · exact b2 y hy h0 h1
    · rename_i hc
      obtain ⟨b1, b2, b3⟩ := nxt_ok (id := id) (k := k) r p
      refine ⟨b1.imp (fun h => h) fun h => ⟨by simp [h.1], h.2⟩, fun y hy h0 h1 => ?_, b3⟩
      rcases List.mem_cons.1 hy with rfl | hy
      · simp only [Bool.and_eq_true, decide_eq_true_eq, not_and] at hc
        have := hc h0 h1
        omega
      · exact b2 y hy h0 h1
/-- Where on, of a view that may be. -/
theorem nextV_ok {v : VW} {k : Int} {s : Bool} (h : rightV v = true) : isP (nextV v k s).1 = true ∧ (nextV v k s).1 ≠ v.id ∧
    ((nextV v k s).2 = true → (nextV v k s).1 = firstV v ∧ upt v.id (firstV v) k = true) ∧
    ((nextV v k s).2 = false → upt v.id (firstV v) k = false ∧ fr v.id (firstV v) ≤ fr v.id (nextV v k s).1 ∧ ((nextV v k s).1 = firstV v ∨ cut v.id k (nextV v k s).1 = true) ∧ (s = true → (nextV v k s).1 = firstV v) ∧
      (s = false → ∀ x ∈ v.lst ++ v.fg, 0 ≤ x → cut v.id k x = true → fr v.id x ≤ fr v.id (nextV v k s).1)) := by
  obtain ⟨f1, f2⟩ := firstV_ok h
  unfold nextV
  rw [h, cond_true]
  cases hu : upt v.id (firstV v) k
  · rw [cond_false]
    cases s
    · rw [cond_false]
      obtain ⟨b1, b2, b3⟩ := nxt_ok (id := v.id) (k := k) (v.lst ++ v.fg) (firstV v)
      have hp : isP (nxt v.id k (firstV v) (v.lst ++ v.fg)) = true ∧ nxt v.id k (firstV v) (v.lst ++ v.fg) ≠ v.id := by
        rcases b1 with e | ⟨e1, e2, _⟩
        · rw [e]; exact ⟨f1, f2⟩
        · rcases List.mem_append.1 e1 with e1 | e1
          · exact lst_all h _ e1
          · exact (fg_all h _ e1).2 e2
      refine ⟨hp.1, hp.2, (fun e => by cases e), fun _ => ⟨rfl, b3, b1.imp (fun h => h) fun h => h.2.2, (fun e => by cases e), fun _ => b2⟩⟩
    · exact ⟨f1, f2, (fun e => by cases e), fun _ => ⟨rfl, Int.le_refl _, .inl rfl, fun _ => rfl, fun e => by cases e⟩⟩
  · exact ⟨f1, f2, fun _ => ⟨rfl, rfl⟩, fun e => by cases e⟩
/-- Where on is closer. -/
theorem next_closer {id k p f : Int} (hi : isP id = true) (hf : isP f = true) (hfi : f ≠ id) (hp : isP p = true) (hpi : p ≠ id) (hu : upt id f k = false) (h1 : fr id f ≤ fr id p) (h2 : p = f ∨ cut id k p = true) :
    0 < fr id p ∧ fr id p < rnd id k ∧ closer k id p = true ∧ rnd p k = rnd id k - fr id p := by
  have q1 := isP_iff.1 hi; have q2 := isP_iff.1 hf; have q3 := isP_iff.1 hp
  unfold upt cut at hu
  simp only [Bool.or_eq_false_iff, Bool.and_eq_false_iff, decide_eq_false_iff_not] at hu
  have key : 0 < fr id p ∧ fr id p < rnd id k ∧ rnd p k = rnd id k - fr id p := by
    have h3 : 0 < fr id p := (fr_pos hi hp).2 hpi
    have h4 : 0 < fr id f := (fr_pos hi hf).2 hfi
    have h5 : fr id p < rnd id k := by
      unfold rnd
      rcases h2 with rfl | h2
      · obtain ⟨hu1, hu2⟩ := hu
        split
        · exact (fr_bd _ _).2
        · unfold pl fr at *; omega
      · unfold cut at h2
        simp only [Bool.or_eq_true, Bool.and_eq_true, decide_eq_true_eq] at h2
        split
        · exact (fr_bd _ _).2
        · omega
    refine ⟨h3, h5, ?_⟩
    unfold rnd at h5 ⊢
    unfold fr at *
    split at h5 <;> split <;> omega
  refine ⟨key.1, key.2.1, ?_, key.2.2⟩
  unfold closer
  rw [decide_eq_true_eq, key.2.2]
  omega
end Go.Proofs.Ytlcbbjcehaahlaa
