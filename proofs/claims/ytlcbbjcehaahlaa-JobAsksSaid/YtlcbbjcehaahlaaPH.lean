/-
  In plain words: the first one behind, where on.
-/
import Derived.Test.YtlcbbjcehaahlaaPB
namespace Go.Proofs.Ytlcbbjcehaahlaa
open Go Go.RowKit

theorem fr_inj2 {id a b : Int} (ha : isP a = true) (hb : isP b = true) (h : fr id a = fr id b) : a = b := by
  have := isP_iff.1 ha; have := isP_iff.1 hb; unfold fr at h; omega
theorem fr_pos {id x : Int} (hi : isP id = true) (hx : isP x = true) : 0 < fr id x ↔ x ≠ id := by
  have := isP_iff.1 hi; have := isP_iff.1 hx; unfold fr; omega

/-! ### What a view that may be has. -/
theorem ris_all : ∀ (l : List Int) (d : Int), ris d l = true → ∀ x ∈ l, isP x = true ∧ d < x
  | [], _, _, x, hx => by simp at hx
  | y :: r, d, h, x, hx => by
    simp only [ris, Bool.and_eq_true, decide_eq_true_eq] at h
    rcases List.mem_cons.1 hx with rfl | hx
    · exact ⟨h.1, h.2.1⟩
    · have := ris_all r y h.2.2 x hx
      exact ⟨this.1, by omega⟩
theorem base_two {l : List Int} {id : Int} (h : goodBase l = true) : (∀ x ∈ l, isP x = true) ∧ ∃ x ∈ l, x ≠ id := by
  unfold goodBase at h
  simp only [Bool.and_eq_true, decide_eq_true_eq] at h
  obtain ⟨h1, _, h3⟩ := h
  refine ⟨fun x hx => (ris_all l _ h3 x hx).1, ?_⟩
  match l, h1, h3 with
  | x :: y :: r, _, h3 =>
    simp only [ris, Bool.and_eq_true, decide_eq_true_eq] at h3
    by_cases hx : x = id
    · exact ⟨y, by simp, by omega⟩
    · exact ⟨x, by simp, hx⟩
theorem rgt_all {w : Int} : ∀ (l : List Int) (d : Int), rgt w d l = true → ∀ x ∈ l, isP x = true ∧ d < fr w x
  | [], _, _, x, hx => by simp at hx
  | y :: r, d, h, x, hx => by
    simp only [rgt, Bool.and_eq_true, decide_eq_true_eq] at h
    rcases List.mem_cons.1 hx with rfl | hx
    · exact ⟨h.1, h.2.1⟩
    · have := rgt_all r _ h.2.2 x hx
      exact ⟨this.1, by omega⟩
theorem rightV_parts {v : VW} (h : rightV v = true) : isP v.id = true ∧ goodBase v.base = true ∧ good v.id v.lst = true ∧ oth v.id v.pred = true ∧ ∀ x ∈ v.fg, oth v.id x = true := by
  unfold rightV at h
  simp only [Bool.and_eq_true, List.all_eq_true] at h
  exact ⟨h.1, h.2.1, h.2.2.1, h.2.2.2.1, h.2.2.2.2⟩
theorem lst_all {v : VW} (h : rightV v = true) : ∀ x ∈ v.lst, isP x = true ∧ x ≠ v.id := by
  obtain ⟨h1, _, h3, _⟩ := rightV_parts h
  unfold good at h3
  simp only [Bool.and_eq_true] at h3
  intro x hx
  have := rgt_all _ _ h3.1 x hx
  exact ⟨this.1, (fr_pos h1 this.1).1 this.2⟩
theorem fg_all {v : VW} (h : rightV v = true) : ∀ x ∈ v.fg, (0 ≤ x ↔ x ≠ -1) ∧ (0 ≤ x → isP x = true ∧ x ≠ v.id) := by
  obtain ⟨h1, _, _, _, h5⟩ := rightV_parts h
  intro x hx
  have := h5 x hx
  unfold oth at this
  simp only [Bool.or_eq_true, Bool.and_eq_true, decide_eq_true_eq] at this
  rcases this with e | ⟨e1, e2⟩
  · exact ⟨by omega, fun h => by omega⟩
  · have := isP_iff.1 e1
    exact ⟨by omega, fun _ => ⟨e1, e2⟩⟩

/-! ### The anchor. -/
def anch (id : Int) : Int → List Int → Int
  | q, [] => q
  | q, x :: r => anch id (if x ≠ id then (if q < 0 then x else if fr id x < fr id q then x else q) else q) r
theorem anch_ok {id : Int} : ∀ (r : List Int) (q : Int), (∀ x ∈ r, 0 ≤ x) → (anch id q r = q ∨ (anch id q r ∈ r ∧ anch id q r ≠ id)) ∧ (∀ x ∈ r, x ≠ id → 0 ≤ anch id q r ∧ fr id (anch id q r) ≤ fr id x) ∧ (0 ≤ q → 0 ≤ anch id q r ∧ fr id (anch id q r) ≤ fr id q)
  | [], q, _ => ⟨.inl rfl, fun x hx => by simp at hx, fun h => ⟨h, Int.le_refl _⟩⟩
  | x :: r, q, hp => by
    rw [anch]
    have hx0 := hp x (by simp)
    have hr : ∀ y ∈ r, 0 ≤ y := fun y hy => hp y (by simp [hy])
    by_cases h1 : x ≠ id
    · rw [if_pos h1]
      by_cases h2 : q < 0
      · rw [if_pos h2]
        obtain ⟨b1, b2, b3⟩ := anch_ok (id := id) r x hr
        refine ⟨?_, fun y hy hn => ?_, fun h => by omega⟩
        · rcases b1 with b1 | b1
          · rw [b1]; exact .inr ⟨by simp, h1⟩
          · exact .inr ⟨by simp [b1.1], b1.2⟩
        · rcases List.mem_cons.1 hy with rfl | hy
          · exact b3 hx0
          · exact b2 y hy hn
      · rw [if_neg h2]
        by_cases h3 : fr id x < fr id q
        · rw [if_pos h3]
          obtain ⟨b1, b2, b3⟩ := anch_ok (id := id) r x hr
          refine ⟨?_, fun y hy hn => ?_, fun h => ?_⟩
          · rcases b1 with b1 | b1
            · rw [b1]; exact .inr ⟨by simp, h1⟩
            · exact .inr ⟨by simp [b1.1], b1.2⟩
          · rcases List.mem_cons.1 hy with rfl | hy
            · exact b3 hx0
            · exact b2 y hy hn
          · have := b3 hx0
            exact ⟨this.1, by omega⟩
        · rw [if_neg h3]
          obtain ⟨b1, b2, b3⟩ := anch_ok (id := id) r q hr
          refine ⟨b1.imp (fun h => h) fun h => ⟨by simp [h.1], h.2⟩, fun y hy hn => ?_, b3⟩
          rcases List.mem_cons.1 hy with rfl | hy
          · have := b3 (by omega)
            exact ⟨this.1, by omega⟩
          · exact b2 y hy hn
    · rw [if_neg h1]
      obtain ⟨b1, b2, b3⟩ := anch_ok (id := id) r q hr
      refine ⟨b1.imp (fun h => h) fun h => ⟨by simp [h.1], h.2⟩, fun y hy hn => ?_, b3⟩
      rcases List.mem_cons.1 hy with rfl | hy
      · exact absurd hn h1
      · exact b2 y hy hn
theorem anchor_c (a0 : Int) (a1 a2 : List Int) (a3 a4 a5 a6 a7 a8 a9 a10 a11 a12 a13 a14 a15 a16 a17 a18 a19 : Int) : ∀ (r p : List Int) (n : Nat) (q : Int), r.length < n → (p ++ r).length < 1000 → F97_c0 n q (p ++ r) (ofN (p ++ r).length) (ofN p.length) a0 a1 a2 a3 a4 a5 a6 a7 a8 a9 a10 a11 a12 a13 a14 a15 a16 a17 a18 a19 = some (anch a0 q r)
  | _, _, 0, _, h, _ => by omega
  | [], p, n + 1, q, _, _ => by simp only [F97_c0, List.append_nil, lt_out, cond_false]; rfl
  | x :: r, p, n + 1, q, h, hb => by
    simp only [List.length_cons] at h
    simp only [F97_c0, lt_in, inb_in, get_in, cond_true, far_p, Option.bind_some]
    simp only [List.length_append, List.length_cons] at hb
    rw [add_in (x := x) (by omega)]
    have h1 := fun q => anchor_c a0 a1 a2 a3 a4 a5 a6 a7 a8 a9 a10 a11 a12 a13 a14 a15 a16 a17 a18 a19 r (p ++ [x]) n q (by omega) (by simp; omega)
    rw [← in_eq] at h1
    rw [h1, h1, ine_dec, anch]
    simp only [ilt]
    by_cases e1 : x = a0
    · simp [e1]
    · by_cases e2 : q < 0
      · simp [e1, e2]
      · by_cases e3 : fr a0 x < fr a0 q <;> simp [e1, e2, e3]
theorem anchor_p {n : Nat} (hn : 2000 < n) (a0 : Int) (a1 a2 : List Int) (a3 a4 a5 a6 a7 a8 a9 a10 a11 a12 a13 a14 a15 a16 a17 a18 a19 : Int) (h : a1.length < 1000) : F97 n a0 a1 a2 a3 a4 a5 a6 a7 a8 a9 a10 a11 a12 a13 a14 a15 a16 a17 a18 a19 = some (anch a0 (-1) a1) := by
  unfold F97
  simpa [ofN] using anchor_c a0 a1 a2 a3 a4 a5 a6 a7 a8 a9 a10 a11 a12 a13 a14 a15 a16 a17 a18 a19 a1 [] n (-1) (by omega) (by simpa using h)
/-- The owner of k in a row. -/
def ownr (k : Int) : Int → List Int → Int
  | q, [] => q
  | q, x :: r => ownr k (if fr k x < fr k q then pl x else q) r
theorem ownr_ok {k : Int} : ∀ (r : List Int) (q : Int), (∀ x ∈ r, isP x = true) → (ownr k q r = q ∨ ownr k q r ∈ r) ∧ (∀ x ∈ r, fr k (ownr k q r) ≤ fr k x) ∧ fr k (ownr k q r) ≤ fr k q
  | [], q, _ => ⟨.inl rfl, fun x hx => by simp at hx, Int.le_refl _⟩
  | x :: r, q, hp => by
    have hx := isP_pl (hp x (by simp))
    have hr : ∀ y ∈ r, isP y = true := fun y hy => hp y (by simp [hy])
    rw [ownr, hx.1]
    by_cases h3 : fr k x < fr k q
    · rw [if_pos h3]
      obtain ⟨b1, b2, b3⟩ := ownr_ok (k := k) r x hr
      refine ⟨?_, fun y hy => ?_, by omega⟩
      · rcases b1 with b1 | b1
        · rw [b1]; exact .inr (by simp)
        · exact .inr (by simp [b1])
      · rcases List.mem_cons.1 hy with rfl | hy
        · exact b3
        · exact b2 y hy
    · rw [if_neg h3]
      obtain ⟨b1, b2, b3⟩ := ownr_ok (k := k) r q hr
      refine ⟨b1.imp (fun h => h) fun h => by simp [h], fun y hy => ?_, b3⟩
      rcases List.mem_cons.1 hy with rfl | hy
      · omega
      · exact b2 y hy
theorem anchor_same {id : Int} {b : List Int} (hid : isP id = true) (hb : goodBase b = true) : ∃ x r, b = x :: r ∧ ownr (id + 1) (pl x) b = anch id (-1) b := by
  obtain ⟨hp, y, hy, hne⟩ := base_two (id := id) hb
  cases b with
  | nil => simp at hy
  | cons x r =>
    refine ⟨x, r, rfl, ?_⟩
    have hx := isP_pl (hp x (by simp))
    rw [hx.1]
    obtain ⟨a1, a2, a3⟩ := ownr_ok (k := id + 1) (x :: r) x hp
    obtain ⟨b1, b2, b3⟩ := anch_ok (id := id) (x :: r) (-1) (fun z hz => (isP_iff.1 (hp z hz)).1)
    have b4 := b2 y hy hne
    have ow : ownr (id + 1) x (x :: r) ∈ x :: r := by
      rcases a1 with h | h
      · rw [h]; simp
      · exact h
    generalize ownr (id + 1) x (x :: r) = w at *
    have am : anch id (-1) (x :: r) ∈ x :: r ∧ anch id (-1) (x :: r) ≠ id := by
      rcases b1 with h | h
      · omega
      · exact h
    generalize anch id (-1) (x :: r) = u at *
    have p1 := hp _ ow
    have p2 := hp _ am.1
    have c1 := a2 _ am.1
    have q1 := isP_iff.1 hid
    have q2 := isP_iff.1 p1
    have q3 := isP_iff.1 p2
    have hw : w ≠ id := by
      intro e
      unfold fr at c1
      have := am.2
      omega
    have c2 := (b2 _ ow hw).2
    have hw2 := am.2
    unfold fr at c1 c2
    omega

/-! ### The first one behind. -/
def firstV (v : VW) : Int := if rightV v then (match v.lst with | x :: _ => x | [] => anch v.id (-1) v.base) else -1
theorem firstV_ok {v : VW} (h : rightV v = true) : isP (firstV v) = true ∧ firstV v ≠ v.id := by
  obtain ⟨h1, h2, _⟩ := rightV_parts h
  unfold firstV
  rw [if_pos h]
  cases hl : v.lst with
  | cons x r => exact lst_all h x (by rw [hl]; simp)
  | nil =>
    simp only
    obtain ⟨hp, y, hy, hne⟩ := base_two (id := v.id) h2
    obtain ⟨b1, b2, b3⟩ := anch_ok (id := v.id) v.base (-1) (fun z hz => (isP_iff.1 (hp z hz)).1)
    have b4 := b2 y hy hne
    rcases b1 with h | h
    · omega
    · exact ⟨hp _ h.1, h.2⟩
theorem first_v (n : Nat) (a0 : Int) (a1 a2 : List Int) (a3 a4 a5 a6 a7 a8 a9 a10 a11 a12 a13 a14 a15 a16 a17 a18 a19 : Int) : F86 n a0 a1 a2 a3 a4 a5 a6 a7 a8 a9 a10 a11 a12 a13 a14 a15 a16 a17 a18 a19 = some (firstV ⟨a0, a1, a2, a3, a4, a5, a6, a7, a8, a9, a10, a11, a12, a13, a14, a15, a16, a17, a18, a19⟩) := by
  unfold F86 firstV
  have hf := fuel_big
  rw [viewR_p (show 70000 < FUEL by omega), first_p (show 0 < FUEL by omega)]
  simp only [Option.bind_some]
  cases hr : rightV ⟨a0, a1, a2, a3, a4, a5, a6, a7, a8, a9, a10, a11, a12, a13, a14, a15, a16, a17, a18, a19⟩
  · rfl
  · have hl := (rightV_len hr).1
    rw [anchor_p (show 2000 < FUEL by omega) a0 a1 a2 a3 a4 a5 a6 a7 a8 a9 a10 a11 a12 a13 a14 a15 a16 a17 a18 a19 (by simp only at hl; omega)]
    cases a2 <;> rfl
end Go.Proofs.Ytlcbbjcehaahlaa
