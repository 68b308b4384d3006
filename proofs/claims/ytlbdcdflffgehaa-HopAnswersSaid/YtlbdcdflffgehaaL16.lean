/-
  Chapter 16, in plain words: where on.
-/
import Derived.Test.YtlbdcdflffgehaaPN
namespace Go.Proofs.Ytlbdcdflffgehaa
open Go Go.RowKit

theorem wakes16 : F14 FUEL = some true := by kernel_rfl

/-- Is it an ask for where on, for this view? -/
def askedV (v : VW) (m : MW) : Bool := rightV v && (decide (m.k = 4) && (decide (m.t = v.id) && rightM m))
theorem hanswer_p {n : Nat} (hn : 0 < n) (a0 : Int) (a1 a2 : List Int) (a3 a4 a5 a6 a7 a8 a9 a10 a11 a12 a13 a14 a15 a16 a17 a18 a19 : Int) (m0 : Int) (m1 : Int) (m2 : Int) (m3 : Int) (m4 : Int) (m5 : Bool) (m6 : Bool) (m7 : Int) (m8 : Int) (m9 : List Int) (m10 : ByteArray) (m11 : Int) (m12 : Int) (m13 : Bool) (m14 : Int) (h : m9.length < 1000) : F20 n a0 a1 a2 a3 a4 a5 a6 a7 a8 a9 a10 a11 a12 a13 a14 a15 a16 a17 a18 a19 m0 m1 m2 m3 m4 m5 m6 m7 m8 m9 m10 m11 m12 m13 m14 = some (bif askedV ⟨a0, a1, a2, a3, a4, a5, a6, a7, a8, a9, a10, a11, a12, a13, a14, a15, a16, a17, a18, a19⟩ ⟨m0, m1, m2, m3, m4, m5, m6, m7, m8, m9, m10, m11, m12, m13, m14⟩ then ⟨m0 + 6, m1, m3, m2, 0, false, (nextV ⟨a0, a1, a2, a3, a4, a5, a6, a7, a8, a9, a10, a11, a12, a13, a14, a15, a16, a17, a18, a19⟩ m4 m5).2, (nextV ⟨a0, a1, a2, a3, a4, a5, a6, a7, a8, a9, a10, a11, a12, a13, a14, a15, a16, a17, a18, a19⟩ m4 m5).1, 0, ByteArray.empty, 0, 0, false, 0⟩ else ⟨0, 0, 0, 0, 0, false, false, 0, 0, ByteArray.empty, 0, 0, false, 0⟩) := by
  unfold F20 askedV
  have hf := fuel_big
  obtain ⟨j, rfl⟩ : ∃ j, n = j + 1 := Nat.exists_eq_succ_of_ne_zero (by omega)
  rw [viewR_p (show 70000 < FUEL by omega), mright_p (show 2000 < FUEL by omega) m0 m1 m2 m3 m4 m5 m6 m7 m8 m9 m10 m11 m12 m13 m14 h, tell_p, hnext_p (show 2000 < FUEL by omega)]
  simp only [Option.bind_some, ine_dec, F20_c0]
  cases rightV ⟨a0, a1, a2, a3, a4, a5, a6, a7, a8, a9, a10, a11, a12, a13, a14, a15, a16, a17, a18, a19⟩
  · rfl
  · by_cases h4 : m0 = 4
    · subst h4
      have e : askB 4 = true := by decide
      by_cases h5 : m3 = a0
      · cases rightM ⟨4, m1, m2, m3, m4, m5, m6, m7, m8, m9, m10, m11, m12, m13, m14⟩ <;> simp [h5, e]
      · simp [h5]
    · simp [h4]
theorem hanswer_r (n : Nat) (a0 : Int) (a1 a2 : List Int) (a3 a4 a5 a6 a7 a8 a9 a10 a11 a12 a13 a14 a15 a16 a17 a18 a19 : Int) (m0 : Int) (m1 : Int) (m2 : Int) (m3 : Int) (m4 : Int) (m5 : Bool) (m6 : Bool) (m7 : Int) (m8 : Int) (m9 : List Int) (m10 : ByteArray) (m11 : Int) (m12 : Int) (m13 : Bool) (m14 : Int) (h : m9.length < 1000) (hl : a2.length ≤ 9223372036854775807) : F21 n a0 a1 a2 a3 a4 a5 a6 a7 a8 a9 a10 a11 a12 a13 a14 a15 a16 a17 a18 a19 m0 m1 m2 m3 m4 m5 m6 m7 m8 m9 m10 m11 m12 m13 m14 = some (bif askedV ⟨a0, a1, a2, a3, a4, a5, a6, a7, a8, a9, a10, a11, a12, a13, a14, a15, a16, a17, a18, a19⟩ ⟨m0, m1, m2, m3, m4, m5, m6, m7, m8, m9, m10, m11, m12, m13, m14⟩ then ⟨m0 + 6, m1, m3, m2, 0, false, (nextV ⟨a0, a1, a2, a3, a4, a5, a6, a7, a8, a9, a10, a11, a12, a13, a14, a15, a16, a17, a18, a19⟩ m4 m5).2, (nextV ⟨a0, a1, a2, a3, a4, a5, a6, a7, a8, a9, a10, a11, a12, a13, a14, a15, a16, a17, a18, a19⟩ m4 m5).1, 0, ByteArray.empty, 0, 0, false, 0⟩ else ⟨0, 0, 0, 0, 0, false, false, 0, 0, ByteArray.empty, 0, 0, false, 0⟩) := by
  unfold F21 askedV
  have hf := fuel_big
  rw [viewR_r (show 70000 < FUEL by omega) a0 a1 a2 a3 a4 a5 a6 a7 a8 a9 a10 a11 a12 a13 a14 a15 a16 a17 a18 a19 hl, mright_r FUEL m0 m1 m2 m3 m4 m5 m6 m7 m8 m9 m10 m11 m12 m13 m14 h, tell_r, rnext_r (show 2000 < FUEL by omega) a0 a1 a2 a3 a4 a5 a6 a7 a8 a9 a10 a11 a12 a13 a14 a15 a16 a17 a18 a19 m4 m5 hl]
  simp only [Option.bind_some, ine_dec]
  cases rightV ⟨a0, a1, a2, a3, a4, a5, a6, a7, a8, a9, a10, a11, a12, a13, a14, a15, a16, a17, a18, a19⟩
  · rfl
  · cases hr : rightM ⟨m0, m1, m2, m3, m4, m5, m6, m7, m8, m9, m10, m11, m12, m13, m14⟩
    · simp
    · by_cases h4 : m0 = 4
      · subst h4
        have e : askB 4 = true := by decide
        by_cases h5 : m3 = a0 <;> simp [h5, e]
      · simp [h4]

theorem plain_HopTells (n : Nat) (a0 : Int) (a1 a2 : List Int) (a3 a4 a5 a6 a7 a8 a9 a10 a11 a12 a13 a14 a15 a16 a17 a18 a19 : Int) (m0 : Int) (m1 : Int) (m2 : Int) (m3 : Int) (m4 : Int) (m5 : Bool) (m6 : Bool) (m7 : Int) (m8 : Int) (m9 : List Int) (m10 : ByteArray) (m11 : Int) (m12 : Int) (m13 : Bool) (m14 : Int) (k : Int) (s : Bool) (x y : Int) : F3 n a0 a1 a2 a3 a4 a5 a6 a7 a8 a9 a10 a11 a12 a13 a14 a15 a16 a17 a18 a19 m0 m1 m2 m3 m4 m5 m6 m7 m8 m9 m10 m11 m12 m13 m14 k s x y = some true := by
  unfold F3
  have hf := fuel_big
  rw [vgreat, wakes16]
  simp only [Option.bind_some]
  cases hg : (decide (20 < a1.length) || decide (20 < a2.length))
  · rw [cond_false]
    have g2 : a2.length ≤ 20 := by simp at hg; exact hg.2
    by_cases h1 : m9.length ≤ 20
    · rw [show igt (ofN m9.length) 20 = false from decide_eq_false (by simp only [ofN]; omega), cond_false]
      cases igt (stlen m10) 100
      · rw [cond_false, hnext_p (by omega), rnext_r (by omega) a0 a1 a2 a3 a4 a5 a6 a7 a8 a9 a10 a11 a12 a13 a14 a15 a16 a17 a18 a19 k s (by omega), hleft_p, hleft_r FUEL a0 a1 a2 a3 a4 a5 a6 a7 a8 a9 a10 a11 a12 a13 a14 a15 a16 a17 a18 a19 k (by omega), hanswer_p (by omega) a0 a1 a2 a3 a4 a5 a6 a7 a8 a9 a10 a11 a12 a13 a14 a15 a16 a17 a18 a19 m0 m1 m2 m3 m4 m5 m6 m7 m8 m9 m10 m11 m12 m13 m14 (by omega), hanswer_r FUEL a0 a1 a2 a3 a4 a5 a6 a7 a8 a9 a10 a11 a12 a13 a14 a15 a16 a17 a18 a19 m0 m1 m2 m3 m4 m5 m6 m7 m8 m9 m10 m11 m12 m13 m14 (by omega) (by omega), closer_p, closer_r]
        simp only [Option.bind_some]
        rw [msame_r (by simp; omega) (by simp), sameM_self]
        have e : ∀ b : Bool, beqb b b = true := fun b => by simp [beqb]
        have e2 : ∀ b : Int, ieq b b = true := fun b => by simp [ieq]
        simp only [e, e2, Option.bind_some, cond_true]
      · rfl
    · rw [show igt (ofN m9.length) 20 = true from decide_eq_true (by simp only [ofN]; omega)]; rfl
  · rfl

theorem plain_HopCloser (n : Nat) (a0 : Int) (a1 a2 : List Int) (a3 a4 a5 a6 a7 a8 a9 a10 a11 a12 a13 a14 a15 a16 a17 a18 a19 : Int) (k : Int) (s : Bool) (hl : a2.length ≤ 9223372036854775807) : F4 n a0 a1 a2 a3 a4 a5 a6 a7 a8 a9 a10 a11 a12 a13 a14 a15 a16 a17 a18 a19 k s = some true := by
  unfold F4
  have hf := fuel_big
  rw [viewR_r (by omega) a0 a1 a2 a3 a4 a5 a6 a7 a8 a9 a10 a11 a12 a13 a14 a15 a16 a17 a18 a19 hl, wakes16]
  simp only [Option.bind_some]
  cases hr : rightV ⟨a0, a1, a2, a3, a4, a5, a6, a7, a8, a9, a10, a11, a12, a13, a14, a15, a16, a17, a18, a19⟩
  · rfl
  · simp only [Bool.not_true, cond_false]
    rw [hnext_p (by omega), first_vr FUEL a0 a1 a2 a3 a4 a5 a6 a7 a8 a9 a10 a11 a12 a13 a14 a15 a16 a17 a18 a19 hl, hleft_p]
    simp only [Option.bind_some, far_r, closer_p]
    obtain ⟨h1, h2, h3, h4⟩ := nextV_ok (k := k) (s := s) hr
    obtain ⟨f1, f2⟩ := firstV_ok hr
    have hi : isP a0 = true := (rightV_parts hr).1
    have hlv : leftV ⟨a0, a1, a2, a3, a4, a5, a6, a7, a8, a9, a10, a11, a12, a13, a14, a15, a16, a17, a18, a19⟩ k = rnd a0 k := by unfold leftV; rw [hr]; rfl
    rw [hlv]
    generalize nextV ⟨a0, a1, a2, a3, a4, a5, a6, a7, a8, a9, a10, a11, a12, a13, a14, a15, a16, a17, a18, a19⟩ k s = w at *
    obtain ⟨p, o⟩ := w
    simp only at h1 h2 h3 h4 ⊢
    have q1 := isP_iff.1 h1
    rw [show ilt p 0 = false from decide_eq_false (by omega), show ige p 65536 = false from decide_eq_false (by omega), show ieq p a0 = false by simp only [ieq_dec]; exact decide_eq_false h2]
    simp only [cond_false]
    cases o
    · obtain ⟨hu, h5, h6, h7, _⟩ := h4 rfl
      have hc := next_closer hi f1 f2 h1 h2 hu h5 h6
      rw [cond_false, show igt (fr a0 p) 0 = true from decide_eq_true hc.1, show ilt (fr a0 p) (rnd a0 k) = true from decide_eq_true hc.2.1, hc.2.2.1, show ige (fr a0 p) (fr a0 (firstV ⟨a0, a1, a2, a3, a4, a5, a6, a7, a8, a9, a10, a11, a12, a13, a14, a15, a16, a17, a18, a19⟩)) = true from decide_eq_true h5]
      cases s
      · rfl
      · rw [h7 rfl, show ieq (firstV ⟨a0, a1, a2, a3, a4, a5, a6, a7, a8, a9, a10, a11, a12, a13, a14, a15, a16, a17, a18, a19⟩) (firstV ⟨a0, a1, a2, a3, a4, a5, a6, a7, a8, a9, a10, a11, a12, a13, a14, a15, a16, a17, a18, a19⟩) = true by simp [ieq]]; rfl
    · obtain ⟨e, hu⟩ := h3 rfl
      have hpos := (fr_pos hi f1).2 f2
      rw [cond_true, e, show ieq (firstV ⟨a0, a1, a2, a3, a4, a5, a6, a7, a8, a9, a10, a11, a12, a13, a14, a15, a16, a17, a18, a19⟩) (firstV ⟨a0, a1, a2, a3, a4, a5, a6, a7, a8, a9, a10, a11, a12, a13, a14, a15, a16, a17, a18, a19⟩) = true by simp [ieq]]
      have h5 : 0 < fr a0 k ∧ fr a0 k ≤ fr a0 (firstV ⟨a0, a1, a2, a3, a4, a5, a6, a7, a8, a9, a10, a11, a12, a13, a14, a15, a16, a17, a18, a19⟩) := by
        unfold upt cut at hu
        simp only [Bool.or_eq_true, Bool.and_eq_true, decide_eq_true_eq] at hu
        rcases hu with ⟨u1, u2⟩ | u1
        · rcases u2 with u2 | u2 <;> omega
        · unfold pl fr at *; omega
      rw [show igt (fr a0 k) 0 = true from decide_eq_true h5.1, show ile (fr a0 k) (fr a0 (firstV ⟨a0, a1, a2, a3, a4, a5, a6, a7, a8, a9, a10, a11, a12, a13, a14, a15, a16, a17, a18, a19⟩)) = true from decide_eq_true h5.2]; rfl

theorem closer_cut {id k x : Int} (hi : isP id = true) (hx : isP x = true) (hne : pl k ≠ x) (h : rnd x k < rnd id k) : cut id k x = true ∧ rnd x k = rnd id k - fr id x := by
  have q1 := isP_iff.1 hi; have q2 := isP_iff.1 hx
  unfold cut
  simp only [Bool.or_eq_true, Bool.and_eq_true, decide_eq_true_eq]
  unfold rnd at *
  unfold pl fr at *
  split at h <;> split at h <;> simp_all <;> omega

theorem knows_c (a0 : Int) (a1 a2 : List Int) (a3 a4 a5 a6 a7 a8 a9 a10 a11 a12 a13 a14 a15 a16 a17 a18 a19 : Int) (k p : Int) (L : List Int) : ∀ (r q : List Int) (n : Nat), L = q ++ r → (∀ x ∈ r, 0 ≤ x → x ≠ p → closer k a0 x = true → closer k p x = true → pl k = x) → r.length < n → L.length < 1000 →
    F6_c0 n k p false (ofN q.length) a0 a1 a2 a3 a4 a5 a6 a7 a8 a9 a10 a11 a12 a13 a14 a15 a16 a17 a18 a19 L = some true
  | _, _, 0, _, _, h, _ => by omega
  | [], q, n + 1, hL, _, _, _ => by
    rw [List.append_nil] at hL
    subst hL
    simp only [F6_c0, lt_out, cond_false, wakes16, Option.bind_some]
  | x :: r, q, n + 1, hL, hx, h, hb => by
    simp only [List.length_cons] at h
    have h1 := knows_c a0 a1 a2 a3 a4 a5 a6 a7 a8 a9 a10 a11 a12 a13 a14 a15 a16 a17 a18 a19 k p L r (q ++ [x]) n (by rw [hL, in_eq]) (fun y hy => hx y (by simp [hy])) (by omega) hb
    have e1 : ilt (ofN q.length) (ofN L.length) = true := by rw [hL]; exact lt_in
    have e2 : inb (ofN q.length) L.length = true := by rw [hL]; exact inb_in
    have e3 : nlt (ofN q.length).toNat L.length = true := by rw [hL]; exact nlt_in
    have e5 : L.getD (ofN q.length).toNat 0 = x := by rw [hL]; exact get_in
    have hlen : q.length < 1000 := by rw [hL] at hb; simp at hb; omega
    simp only [F6_c0, e1, e2, e3, e5, cond_true, closer_p, place_r, Option.bind_some]
    rw [add_in (x := x) (by omega), h1]
    have hh := hx x (by simp)
    simp only [ine_dec, ige, ge_iff_le]
    by_cases h0 : 0 ≤ x
    · by_cases h2 : x = p
      · simp [h2]
      · cases h3 : closer k a0 x
        · simp [h2]
        · cases h4 : closer k p x
          · simp [h2]
          · have := hh h0 h2 h3 h4
            simp [this]
    · simp [h0]
theorem plain_HopKnows (n : Nat) (a0 : Int) (a1 a2 : List Int) (a3 a4 a5 a6 a7 a8 a9 a10 a11 a12 a13 a14 a15 a16 a17 a18 a19 : Int) (k : Int) (hl : a2.length ≤ 9223372036854775807) (hn : 2000 < n) : F6 n a0 a1 a2 a3 a4 a5 a6 a7 a8 a9 a10 a11 a12 a13 a14 a15 a16 a17 a18 a19 k = some true := by
  unfold F6
  have hf := fuel_big
  rw [viewR_r (by omega) a0 a1 a2 a3 a4 a5 a6 a7 a8 a9 a10 a11 a12 a13 a14 a15 a16 a17 a18 a19 hl, wakes16]
  simp only [Option.bind_some]
  cases hr : rightV ⟨a0, a1, a2, a3, a4, a5, a6, a7, a8, a9, a10, a11, a12, a13, a14, a15, a16, a17, a18, a19⟩
  · rfl
  · simp only [Bool.not_true, cond_false]
    rw [hnext_p (by omega), hnext_p (by omega), first_vr FUEL a0 a1 a2 a3 a4 a5 a6 a7 a8 a9 a10 a11 a12 a13 a14 a15 a16 a17 a18 a19 hl]
    simp only [Option.bind_some]
    have hl3 : a2.length ≤ 3 := (rightV_len hr).2
    have e1 : room (0 + a2.length) 8 = true := room_all (by omega) (by omega)
    have e2 : room (([] ++ a2).length + ([a4, a5, a6, a7, a8, a9, a10, a11, a12, a13, a14, a15, a16, a17, a18, a19] : List Int).length) 8 = true := room_all (by simp; omega) (by omega)
    rw [e1, e2]
    obtain ⟨f1, f2⟩ := firstV_ok hr
    have hi : isP a0 = true := (rightV_parts hr).1
    obtain ⟨h1, h2, h3, h4⟩ := nextV_ok (k := k) (s := false) hr
    cases hu : upt a0 (firstV ⟨a0, a1, a2, a3, a4, a5, a6, a7, a8, a9, a10, a11, a12, a13, a14, a15, a16, a17, a18, a19⟩) k
    · have es : nextV ⟨a0, a1, a2, a3, a4, a5, a6, a7, a8, a9, a10, a11, a12, a13, a14, a15, a16, a17, a18, a19⟩ k true = (firstV ⟨a0, a1, a2, a3, a4, a5, a6, a7, a8, a9, a10, a11, a12, a13, a14, a15, a16, a17, a18, a19⟩, false) := by unfold nextV; simp [hr, hu]
      have en : (nextV ⟨a0, a1, a2, a3, a4, a5, a6, a7, a8, a9, a10, a11, a12, a13, a14, a15, a16, a17, a18, a19⟩ k false).2 = false := by unfold nextV; simp [hr, hu]
      obtain ⟨_, h5, h6, _, h8⟩ := h4 en
      have hc := next_closer hi f1 f2 h1 h2 hu h5 h6
      rw [es, en, show bneb false false = false from rfl, show ine (firstV ⟨a0, a1, a2, a3, a4, a5, a6, a7, a8, a9, a10, a11, a12, a13, a14, a15, a16, a17, a18, a19⟩) (firstV ⟨a0, a1, a2, a3, a4, a5, a6, a7, a8, a9, a10, a11, a12, a13, a14, a15, a16, a17, a18, a19⟩) = false by simp [ine]]
      simp only [cond_false, cond_true]
      have h0 : (0 : Int) = ofN ([] : List Int).length := rfl
      rw [h0]
      refine knows_c a0 a1 a2 a3 a4 a5 a6 a7 a8 a9 a10 a11 a12 a13 a14 a15 a16 a17 a18 a19 k _ _ _ [] n rfl ?_ (by simp; omega) (by simp; omega)
      intro x hx x0 _ c1 c2
      simp only [List.nil_append] at hx
      have hxp : isP x = true ∧ x ≠ a0 := by
        rcases List.mem_append.1 hx with hx | hx
        · exact lst_all hr x hx
        · exact (fg_all hr x hx).2 x0
      rcases Int.decEq (pl k) x with hne | e
      · exfalso
        have c1' := of_decide_eq_true c1
        have c2' := of_decide_eq_true c2
        obtain ⟨d1, d2⟩ := closer_cut hi hxp.1 hne c1'
        have d3 := h8 rfl x hx x0 d1
        have d4 := hc.2.2.2
        simp only at d3 d4
        omega
      · exact e
    · have es : nextV ⟨a0, a1, a2, a3, a4, a5, a6, a7, a8, a9, a10, a11, a12, a13, a14, a15, a16, a17, a18, a19⟩ k true = (firstV ⟨a0, a1, a2, a3, a4, a5, a6, a7, a8, a9, a10, a11, a12, a13, a14, a15, a16, a17, a18, a19⟩, true) := by unfold nextV; simp [hr, hu]
      have en : nextV ⟨a0, a1, a2, a3, a4, a5, a6, a7, a8, a9, a10, a11, a12, a13, a14, a15, a16, a17, a18, a19⟩ k false = (firstV ⟨a0, a1, a2, a3, a4, a5, a6, a7, a8, a9, a10, a11, a12, a13, a14, a15, a16, a17, a18, a19⟩, true) := by unfold nextV; simp [hr, hu]
      rw [es, en, show bneb true true = false from rfl, show ine (firstV ⟨a0, a1, a2, a3, a4, a5, a6, a7, a8, a9, a10, a11, a12, a13, a14, a15, a16, a17, a18, a19⟩) (firstV ⟨a0, a1, a2, a3, a4, a5, a6, a7, a8, a9, a10, a11, a12, a13, a14, a15, a16, a17, a18, a19⟩) = false by simp [ine]]
      simp only [cond_false, cond_true]
      obtain ⟨j, rfl⟩ : ∃ j, n = j + 1 := Nat.exists_eq_succ_of_ne_zero (by omega)
      simp only [F6_c0, wakes16, Option.bind_some, Bool.not_true, cond_false]
      cases ilt 0 (ofN (([] ++ a2) ++ [a4, a5, a6, a7, a8, a9, a10, a11, a12, a13, a14, a15, a16, a17, a18, a19]).length) <;> rfl

theorem rightM_told' {m0 : Int} {m1 : Int} {m2 : Int} {m3 : Int} {m4 : Int} {m5 : Bool} {m6 : Bool} {m7 : Int} {m8 : Int} {m9 : List Int} {m10 : ByteArray} {m11 : Int} {m12 : Int} {m13 : Bool} {m14 : Int} (h : rightM ⟨m0, m1, m2, m3, m4, m5, m6, m7, m8, m9, m10, m11, m12, m13, m14⟩ = true) (hk : askB m0 = true) : (decide (1 ≤ m0) && decide (m0 < 13)) = true ∧ isP m2 = true ∧ isP m3 = true ∧ m2 ≠ m3 ∧ callB m2 m1 = true := by
  unfold rightM at h
  simp only [Bool.and_eq_true, askerV, hk, if_true] at h
  obtain ⟨h1, h2, h3, h4, h5, _⟩ := h
  refine ⟨by simpa using h1, h2, h3, by simpa using h4, h5⟩
theorem hop_right {c t f p : Int} {d : Bool} (hf : isP f = true) (ht : isP t = true) (hn : t ≠ f) (hp : isP p = true) (hc : callB f c = true) : rightM ⟨10, c, t, f, 0, false, d, p, 0, [], ByteArray.empty, 0, 0, false, 0⟩ = true := by
  have e : askB 10 = false := by decide
  unfold rightM
  simp only [askerV, e, Bool.false_eq_true, if_false, hf, ht, decide_eq_false hn, restM, hasM, noIt, hc, hp]
  simp
theorem plain_HopAnswers (n : Nat) (a0 : Int) (a1 a2 : List Int) (a3 a4 a5 a6 a7 a8 a9 a10 a11 a12 a13 a14 a15 a16 a17 a18 a19 : Int) (m0 : Int) (m1 : Int) (m2 : Int) (m3 : Int) (m4 : Int) (m5 : Bool) (m6 : Bool) (m7 : Int) (m8 : Int) (m9 : List Int) (m10 : ByteArray) (m11 : Int) (m12 : Int) (m13 : Bool) (m14 : Int) (hl : a2.length ≤ 9223372036854775807) : F7 n a0 a1 a2 a3 a4 a5 a6 a7 a8 a9 a10 a11 a12 a13 a14 a15 a16 a17 a18 a19 m0 m1 m2 m3 m4 m5 m6 m7 m8 m9 m10 m11 m12 m13 m14 = some true := by
  unfold F7
  have hf := fuel_big
  rw [viewR_r (by omega) a0 a1 a2 a3 a4 a5 a6 a7 a8 a9 a10 a11 a12 a13 a14 a15 a16 a17 a18 a19 hl, wakes16]
  simp only [Option.bind_some]
  cases hr : rightV ⟨a0, a1, a2, a3, a4, a5, a6, a7, a8, a9, a10, a11, a12, a13, a14, a15, a16, a17, a18, a19⟩
  · rfl
  · simp only [Bool.not_true, cond_false]
    by_cases h1 : m9.length ≤ 20
    · rw [show igt (ofN m9.length) 20 = false from decide_eq_false (by simp only [ofN]; omega), cond_false]
      cases igt (stlen m10) 100
      · rw [cond_false, hanswer_p (by omega) a0 a1 a2 a3 a4 a5 a6 a7 a8 a9 a10 a11 a12 a13 a14 a15 a16 a17 a18 a19 m0 m1 m2 m3 m4 m5 m6 m7 m8 m9 m10 m11 m12 m13 m14 (by omega), mright_r FUEL m0 m1 m2 m3 m4 m5 m6 m7 m8 m9 m10 m11 m12 m13 m14 (by omega), hnext_p (by omega)]
        simp only [Option.bind_some]
        have z : ∀ j, F19 FUEL 0 0 0 0 0 false false 0 0 [] ByteArray.empty 0 0 false j 0 0 0 0 0 false false 0 0 [] ByteArray.empty 0 0 false 0 = some (sameM ⟨0, 0, 0, 0, 0, false, false, 0, 0, [], ByteArray.empty, 0, 0, false, j⟩ ⟨0, 0, 0, 0, 0, false, false, 0, 0, [], ByteArray.empty, 0, 0, false, 0⟩) := fun j => msame_r (by simp; omega) (by simp)
        have z := (z 0).trans (by rw [sameM_self])
        unfold askedV
        cases hm : rightM ⟨m0, m1, m2, m3, m4, m5, m6, m7, m8, m9, m10, m11, m12, m13, m14⟩
        · simp only [Bool.and_false, cond_false, z]; rfl
        · simp only [Bool.not_true, cond_false]
          by_cases h4 : m0 = 4
          · subst h4
            by_cases h5 : m3 = a0
            · subst h5
              simp only [hr, decide_true, Bool.true_and, cond_true, ine_dec, Bool.not_true, cond_false]
              obtain ⟨_, u2, u3, u4, u5⟩ := rightM_told' hm rfl
              obtain ⟨p1, p2, _⟩ := nextV_ok (k := m4) (s := m5) hr
              rw [mright_r FUEL (4 + 6) m1 m3 m2 0 false _ _ 0 [] ByteArray.empty 0 0 false 0 (by simp), show (4 : Int) + 6 = 10 from rfl, hop_right u2 u3 (fun e => u4 e.symm) p1 u5]
              have e : ∀ b : Bool, beqb b b = true := fun b => by simp [beqb]
              have e2 : ∀ b : Int, ieq b b = true := fun b => by simp [ieq]
              simp only [e, e2, Option.bind_some, cond_true]
            · simp only [decide_eq_false h5, Bool.false_and, Bool.and_false, cond_false, z, ine_dec, decide_true, Bool.not_true, Bool.not_false, cond_true, Option.bind_some]
          · simp only [decide_eq_false h4, Bool.false_and, Bool.and_false, cond_false, z, ine_dec, Bool.not_false, cond_true, Option.bind_some]
      · rfl
    · rw [show igt (ofN m9.length) 20 = true from decide_eq_true (by simp only [ofN]; omega)]; rfl

/-! ### Hops end. -/
theorem cnt_lt {α : Type} (f : α → Int) : ∀ (l : List α) (b : α) (A : Int), b ∈ l → f b < A → l.countP (fun x => decide (f x < f b)) < l.countP (fun x => decide (f x < A))
  | [], b, A, h, _ => by simp at h
  | y :: l, b, A, h, hA => by
    have mono : l.countP (fun x => decide (f x < f b)) ≤ l.countP (fun x => decide (f x < A)) := List.countP_mono_left fun x _ hx => by
      simp only [decide_eq_true_eq] at hx ⊢; omega
    rw [List.countP_cons, List.countP_cons]
    rcases List.mem_cons.1 h with rfl | h
    · have e1 : decide (f b < f b) = false := decide_eq_false (by omega)
      have e2 : decide (f b < A) = true := decide_eq_true hA
      rw [e1, e2]
      simp; omega
    · have ih := cnt_lt f l b A h hA
      by_cases h1 : f y < f b
      · rw [decide_eq_true h1, decide_eq_true (by omega : f y < A)]; simp; omega
      · rw [decide_eq_false h1]
        simp only [Bool.false_eq_true, if_false]
        omega
theorem cnt_len {α : Type} (f : α → Int) (l : List α) (b : α) (h : b ∈ l) : l.countP (fun x => decide (f x < f b)) < l.length :=
  Nat.lt_of_lt_of_le (cnt_lt f l b (f b + 1) h (by omega)) List.countP_le_length
theorem split_at {α : Type} {l : List α} {a : Nat} (h : a < l.length) : ∃ p x r, l = p ++ x :: r ∧ p.length = a := by
  refine ⟨l.take a, l[a], l.drop (a + 1), ?_, by rw [List.length_take]; omega⟩
  rw [← List.drop_eq_getElem_cons h, List.take_append_drop]
abbrev VT := (Int × (List Int) × (List Int) × Int × Int × Int × Int × Int × Int × Int × Int × Int × Int × Int × Int × Int × Int × Int × Int × Int)
def vwT (x : VT) : VW := ⟨x.1, x.2.1, x.2.2.1, x.2.2.2.1, x.2.2.2.2.1, x.2.2.2.2.2.1, x.2.2.2.2.2.2.1, x.2.2.2.2.2.2.2.1, x.2.2.2.2.2.2.2.2.1, x.2.2.2.2.2.2.2.2.2.1, x.2.2.2.2.2.2.2.2.2.2.1, x.2.2.2.2.2.2.2.2.2.2.2.1, x.2.2.2.2.2.2.2.2.2.2.2.2.1, x.2.2.2.2.2.2.2.2.2.2.2.2.2.1, x.2.2.2.2.2.2.2.2.2.2.2.2.2.2.1, x.2.2.2.2.2.2.2.2.2.2.2.2.2.2.2.1, x.2.2.2.2.2.2.2.2.2.2.2.2.2.2.2.2.1, x.2.2.2.2.2.2.2.2.2.2.2.2.2.2.2.2.2.1, x.2.2.2.2.2.2.2.2.2.2.2.2.2.2.2.2.2.2.1, x.2.2.2.2.2.2.2.2.2.2.2.2.2.2.2.2.2.2.2⟩
section
variable (l : List VT) (k : Int) (s : Bool)
theorem ends_c3 (i : Nat) (q : Int) (n0 : Nat) (hl : l.length < 1000) (hi : i < 1000) (hR : ∀ (n : Nat) (p : List VT) (x : VT) (r : List VT), n0 < n → l = p ++ x :: r → x.1 = q → F5_c2 n l k (ofN p.length) s (ofN (i + 1)) = some true) : ∀ (r p : List VT) (n : Nat) (nx : Int), l = p ++ r → (nx = -1 ∨ ∃ (p' : List VT) (x : VT) (r' : List VT), l = p' ++ x :: r' ∧ x.1 = q ∧ nx = ofN p'.length) → n0 + r.length + 1 < n →
    F5_c3 n l k s (ofN i) q nx (ofN p.length) = some true
  | _, _, 0, _, _, _, h => by omega
  | [], p, n + 1, nx, hp, hx, h => by
    rw [List.append_nil] at hp
    rw [← hp]
    simp only [List.length_nil] at h
    simp only [F5_c3, lt_out, cond_false, wakes16, Option.bind_some]
    have e : iadd .i64 (ofN i) 1 = ofN (i + 1) := by simp only [iadd, ofN]; rw [wrap_mid (by omega) (by omega)]; omega
    rcases hx with rfl | ⟨p', x, r', h1, h2, rfl⟩
    · rfl
    · rw [show ilt (ofN p'.length) 0 = false from decide_eq_false (by simp only [ofN]; omega), cond_false, e]
      exact hR n p' x r' (by omega) h1 h2
  | x :: r, p, n + 1, nx, hp, hx, h => by
    simp only [List.length_cons] at h
    have e1 : ilt (ofN p.length) (ofN l.length) = true := by rw [hp]; exact lt_in
    have e2 : inb (ofN p.length) l.length = true := by rw [hp]; exact inb_in
    have e5 : ∀ d, l.getD (ofN p.length).toNat d = x := fun d => by rw [hp]; exact get_in
    have hlen : p.length < 1000 := by rw [hp] at hl; simp at hl; omega
    simp only [F5_c3, e1, e2, e5, cond_true]
    rw [add_in (x := x) (by omega), ieq_dec]
    have h1 := fun nx hx => ends_c3 i q n0 hl hi hR r (p ++ [x]) n nx (by rw [hp, in_eq]) hx (by omega)
    by_cases e : x.1 = q
    · rw [decide_eq_true e, cond_true]
      exact h1 _ (.inr ⟨p, x, r, hp, e, rfl⟩)
    · rw [decide_eq_false e, cond_false]
      exact h1 _ hx
theorem ends_c2 (hl : l.length ≤ 8) (hr : ∀ x ∈ l, rightV (vwT x) = true) : ∀ (m i : Nat) (n : Nat) (p : List VT) (x : VT) (r : List VT), l = p ++ x :: r → i + l.countP (fun y => decide (rnd y.1 k < rnd x.1 k)) + 1 ≤ l.length → l.length = i + m → m * 100 < n →
    F5_c2 n l k (ofN p.length) s (ofN i) = some true
  | 0, i, n, p, x, r, _, h, hm, _ => by omega
  | m + 1, i, 0, p, x, r, _, _, _, h => by omega
  | m + 1, i, n + 1, p, x, r, hp, h, hm, hn => by
    have hf := fuel_big
    have e1 : ilt (ofN i) (ofN l.length) = true := decide_eq_true (by simp only [ofN]; omega)
    have e2 : inb (ofN p.length) l.length = true := by rw [hp]; exact inb_in
    have e5 : ∀ d, l.getD (ofN p.length).toNat d = x := fun d => by rw [hp]; exact get_in
    have hx := hr x (by rw [hp]; simp)
    obtain ⟨h1, h2, h3, h4⟩ := nextV_ok (k := k) (s := s) hx
    obtain ⟨f1, f2⟩ := firstV_ok hx
    have hid := (rightV_parts hx).1
    simp only [F5_c2, e1, e2, e5, cond_true]
    rw [hnext_p (show 2000 < FUEL by omega) x.1 x.2.1 x.2.2.1 x.2.2.2.1 x.2.2.2.2.1 x.2.2.2.2.2.1 x.2.2.2.2.2.2.1 x.2.2.2.2.2.2.2.1 x.2.2.2.2.2.2.2.2.1 x.2.2.2.2.2.2.2.2.2.1 x.2.2.2.2.2.2.2.2.2.2.1 x.2.2.2.2.2.2.2.2.2.2.2.1 x.2.2.2.2.2.2.2.2.2.2.2.2.1 x.2.2.2.2.2.2.2.2.2.2.2.2.2.1 x.2.2.2.2.2.2.2.2.2.2.2.2.2.2.1 x.2.2.2.2.2.2.2.2.2.2.2.2.2.2.2.1 x.2.2.2.2.2.2.2.2.2.2.2.2.2.2.2.2.1 x.2.2.2.2.2.2.2.2.2.2.2.2.2.2.2.2.2.1 x.2.2.2.2.2.2.2.2.2.2.2.2.2.2.2.2.2.2.1 x.2.2.2.2.2.2.2.2.2.2.2.2.2.2.2.2.2.2.2 k s, wakes16]
    show (Option.bind (some (nextV (vwT x) k s)) _) = _
    rw [Option.bind_some]
    generalize nextV (vwT x) k s = w at *
    obtain ⟨q, o⟩ := w
    simp only at h1 h2 h3 h4 ⊢
    cases o
    · obtain ⟨hu, h5, h6, _⟩ := h4 rfl
      have hc := next_closer hid f1 f2 h1 h2 hu h5 h6
      have hc' : closer k x.1 q = true := hc.2.2.1
      rw [cond_false, closer_p, Option.bind_some, hc']
      simp only [Bool.not_true, cond_false]
      have h0 : (0 : Int) = ofN ([] : List VT).length := rfl
      rw [h0]
      refine ends_c3 l k s i q (m * 100) (by omega) (by omega) ?_ l [] n (-1) rfl (.inl rfl) (by omega)
      intro n' p' y r' hn' hp' hy
      refine ends_c2 hl hr m (i + 1) n' p' y r' hp' ?_ (by omega) hn'
      have hlt := cnt_lt (fun z : VT => rnd z.1 k) l y (rnd x.1 k) (by rw [hp']; simp) (by rw [hy]; exact of_decide_eq_true hc')
      omega
    · rw [cond_true, Option.bind_some]
theorem ends_c1 (a : Int) (x : VT) (p s0 : List VT) (hL : l = p ++ x :: s0) (hl : l.length < 1000) (n0 : Nat) (hR : ∀ n, n0 < n → F5_c0 n l k a s (ofN (p ++ [x]).length) = some true) : ∀ (r q : List VT) (n : Nat), p = q ++ r → n0 + r.length + 1 < n →
    F5_c1 n l k a s (ofN p.length) (ofN q.length) = some true
  | _, _, 0, _, h => by omega
  | [], q, n + 1, hp, h => by
    rw [List.append_nil] at hp
    rw [← hp]
    simp only [List.length_nil] at h
    have hlen : p.length < 1000 := by rw [hL] at hl; simp at hl; omega
    simp only [F5_c1, lt_out, cond_false]
    rw [add_in (x := x) (by omega)]
    exact hR n (by omega)
  | y :: r, q, n + 1, hp, h => by
    have hlen : p.length < 1000 := by rw [hL] at hl; simp at hl; omega
    simp only [List.length_cons] at h
    have e1 : ilt (ofN q.length) (ofN p.length) = true := by rw [hp]; exact lt_in
    have e2 : l = q ++ y :: (r ++ x :: s0) := by rw [hL, hp]; simp
    have e3 : inb (ofN q.length) l.length = true := by rw [e2]; exact inb_in
    have e4 : inb (ofN p.length) l.length = true := by rw [hL]; exact inb_in
    have e5 : ∀ d, l.getD (ofN q.length).toNat d = y := fun d => by rw [e2]; exact get_in
    have e6 : ∀ d, l.getD (ofN p.length).toNat d = x := fun d => by rw [hL]; exact get_in
    have hq : q.length < 1000 := by rw [hp] at hlen; simp at hlen; omega
    simp only [F5_c1, e1, e3, e4, e5, e6, cond_true]
    rw [add_in (x := y) (by omega), ends_c1 a x p s0 hL hl n0 hR r (q ++ [y]) n (by rw [hp, in_eq]) (by omega), wakes16]
    cases ieq y.1 x.1 <;> rfl
theorem ends_c0 (a : Int) (hl : l.length ≤ 8) (hne : l ≠ []) (hw : ∀ x ∈ l, x.2.2.1.length ≤ 9223372036854775807) : ∀ (r p : List VT) (n : Nat), l = p ++ r → (∀ x ∈ p, rightV (vwT x) = true) → r.length * 100 + 2000 < n →
    F5_c0 n l k a s (ofN p.length) = some true
  | _, _, 0, _, _, h => by omega
  | [], p, n + 1, hp, hr, hn => by
    rw [List.append_nil] at hp
    rw [← hp] at hr ⊢
    have hpos : 0 < l.length := by
      cases l with
      | nil => exact absurd rfl hne
      | cons _ _ => simp
    have e1 : inz (ofN l.length) = true := decide_eq_true (by simp only [ofN]; omega)
    simp only [F5_c0, lt_out, cond_false, e1, cond_true]
    have b1 := Int.tmod_lt_of_pos a (b := (l.length : Int)) (by omega)
    have b2 := Int.lt_tmod_of_pos a (b := (l.length : Int)) (by omega)
    have ea : irem (iadd .i64 (irem a (ofN l.length)) (ofN l.length)) (ofN l.length) = ofN ((a.tmod (ofN l.length) + ofN l.length) % ofN l.length).toNat := by
      simp only [irem, iadd, ofN]
      rw [wrap_mid (by omega) (by omega), Int.tmod_eq_emod_of_nonneg (by omega)]
      have := Int.emod_nonneg (a.tmod (l.length : Int) + l.length) (b := (l.length : Int)) (by omega)
      omega
    rw [ea]
    have hlt : ((a.tmod (ofN l.length) + ofN l.length) % ofN l.length).toNat < l.length := by
      simp only [ofN]
      have h1 := Int.emod_nonneg (a.tmod (l.length : Int) + l.length) (b := (l.length : Int)) (by omega)
      have h2 := Int.emod_lt_of_pos (a.tmod (l.length : Int) + l.length) (b := (l.length : Int)) (by omega)
      omega
    obtain ⟨p', x, r', h1, h2⟩ := split_at hlt
    rw [← h2]
    have h0 : (0 : Int) = ofN 0 := rfl
    rw [h0]
    have hc := cnt_len (fun z : VT => rnd z.1 k) l x (by rw [h1]; simp)
    exact ends_c2 l k s hl hr l.length 0 n p' x r' h1 (by omega) (by omega) (by simp only [List.length_nil] at hn; omega)
  | x :: r, p, n + 1, hp, hr, hn => by
    have hf := fuel_big
    simp only [List.length_cons] at hn
    have e1 : ilt (ofN p.length) (ofN l.length) = true := by rw [hp]; exact lt_in
    have e2 : inb (ofN p.length) l.length = true := by rw [hp]; exact inb_in
    have e5 : ∀ d, l.getD (ofN p.length).toNat d = x := fun d => by rw [hp]; exact get_in
    have hplen : p.length ≤ 8 := by rw [hp] at hl; simp at hl; omega
    simp only [F5_c0, e1, e2, e5, cond_true]
    rw [viewR_r (show 70000 < FUEL by omega) x.1 x.2.1 x.2.2.1 x.2.2.2.1 x.2.2.2.2.1 x.2.2.2.2.2.1 x.2.2.2.2.2.2.1 x.2.2.2.2.2.2.2.1 x.2.2.2.2.2.2.2.2.1 x.2.2.2.2.2.2.2.2.2.1 x.2.2.2.2.2.2.2.2.2.2.1 x.2.2.2.2.2.2.2.2.2.2.2.1 x.2.2.2.2.2.2.2.2.2.2.2.2.1 x.2.2.2.2.2.2.2.2.2.2.2.2.2.1 x.2.2.2.2.2.2.2.2.2.2.2.2.2.2.1 x.2.2.2.2.2.2.2.2.2.2.2.2.2.2.2.1 x.2.2.2.2.2.2.2.2.2.2.2.2.2.2.2.2.1 x.2.2.2.2.2.2.2.2.2.2.2.2.2.2.2.2.2.1 x.2.2.2.2.2.2.2.2.2.2.2.2.2.2.2.2.2.2.1 x.2.2.2.2.2.2.2.2.2.2.2.2.2.2.2.2.2.2.2 (hw x (by rw [hp]; simp)), wakes16]
    show (Option.bind (some (rightV (vwT x))) _) = _
    rw [Option.bind_some]
    cases hx : rightV (vwT x)
    · rfl
    · simp only [Bool.not_true, cond_false]
      refine ends_c1 l k s a x p r hp (by omega) (r.length * 100 + 2000) (fun m hm => ?_) p [] n rfl (by omega)
      refine ends_c0 a hl hne hw r (p ++ [x]) m (by rw [hp, in_eq]) (fun y hy => ?_) hm
      rcases List.mem_append.1 hy with hy | hy
      · exact hr y hy
      · rw [List.mem_singleton] at hy; rw [hy]; exact hx
end
theorem plain_HopEnds (n : Nat) (l : List VT) (k a : Int) (s : Bool) (hw : ∀ x ∈ l, x.2.2.1.length ≤ 9223372036854775807) (hn : 100000 < n) : F5 n l k a s = some true := by
  unfold F5
  rw [wakes16]
  by_cases hl : l.length ≤ 8
  · rw [show igt (ofN l.length) 8 = false from decide_eq_false (by simp only [ofN]; omega), cond_false]
    by_cases hne : l = []
    · subst hne; rfl
    · have hpos : ¬ l.length = 0 := fun h => hne (List.eq_nil_of_length_eq_zero h)
      rw [show ieq (ofN l.length) 0 = false by rw [ieq_dec]; exact decide_eq_false (by simp only [ofN]; omega), cond_false]
      have := ends_c0 l k s a hl hne hw l [] n rfl (fun x hx => by simp at hx) (by omega)
      simpa [ofN] using this
  · rw [show igt (ofN l.length) 8 = true from decide_eq_true (by simp only [ofN]; omega)]; rfl
end Go.Proofs.Ytlbdcdflffgehaa
