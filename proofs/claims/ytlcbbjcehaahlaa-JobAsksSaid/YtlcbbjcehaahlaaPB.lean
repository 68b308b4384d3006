/-
  In plain words: views.
-/
import Derived.Test.YtlcbbjcehaahlaaPA
namespace Go.Proofs.Ytlcbbjcehaahlaa
open Go Go.RowKit

/-- A view: its place, the base, the list, who is ahead, the fingers. -/
structure VW where
  id : Int
  base : List Int
  lst : List Int
  pred : Int
  f0 : Int
  f1 : Int
  f2 : Int
  f3 : Int
  f4 : Int
  f5 : Int
  f6 : Int
  f7 : Int
  f8 : Int
  f9 : Int
  f10 : Int
  f11 : Int
  f12 : Int
  f13 : Int
  f14 : Int
  f15 : Int
  deriving DecidableEq

def VW.fg (v : VW) : List Int := [v.f0, v.f1, v.f2, v.f3, v.f4, v.f5, v.f6, v.f7, v.f8, v.f9, v.f10, v.f11, v.f12, v.f13, v.f14, v.f15]
/-- -1, or a place that is not id. -/
def oth (id n : Int) : Bool := decide (n = -1) || (isP n && decide (n ≠ id))
def ris : Int → List Int → Bool
  | _, [] => true
  | d, x :: r => isP x && (decide (d < x) && ris x r)
def goodBase (l : List Int) : Bool := decide (2 ≤ l.length) && (decide (l.length ≤ 4) && ris (-1) l)
def rightV (v : VW) : Bool := isP v.id && (goodBase v.base && (good v.id v.lst && (oth v.id v.pred && v.fg.all (oth v.id))))
theorem rightV_len {v : VW} (h : rightV v = true) : v.base.length ≤ 4 ∧ v.lst.length ≤ 3 := by
  unfold rightV goodBase at h
  simp only [Bool.and_eq_true, decide_eq_true_eq] at h
  exact ⟨h.2.1.2.1, good_len h.2.2.1⟩

theorem oth_r (n : Nat) (a0 : Int) (a1 a2 : List Int) (a3 a4 a5 a6 a7 a8 a9 a10 a11 a12 a13 a14 a15 a16 a17 a18 a19 : Int) (x : Int) : F10 n a0 a1 a2 a3 a4 a5 a6 a7 a8 a9 a10 a11 a12 a13 a14 a15 a16 a17 a18 a19 x = some (oth a0 x) := by
  unfold F10 oth
  simp only [isp_ref13, Option.bind_some, ieq, ine]
  by_cases h : x = -1
  · simp [h]
  · have : (x == -1) = false := beq_eq_false_iff_ne.2 h
    rw [this, cond_false, decide_eq_false h, Bool.false_or]
    cases isP x
    · rfl
    · by_cases h2 : x = a0 <;> simp [h2]

/-! ### The base. -/
theorem base_pc : ∀ (r p : List Int) (n : Nat), r.length < n → (p ++ r).length < 1000 → F34_c0 n (p ++ r) (p ++ r) (ofN (p ++ r).length) (ofN p.length) = some (ris (p.getLastD (-1)) r)
  | _, _, 0, h, _ => by omega
  | [], p, n + 1, _, _ => by simp only [F34_c0, List.append_nil, lt_out, cond_false]; rfl
  | x :: r, p, n + 1, h, hb => by
    simp only [F34_c0, lt_in, inb_in, get_in, cond_true, isp_view, Option.bind_some]
    simp only [List.length_append, List.length_cons] at h hb
    rw [add_in (x := x) (by omega)]
    have h1 := base_pc r (p ++ [x]) n (by omega) (by simp; omega)
    rw [← in_eq, show (p ++ [x]).getLastD (-1) = x by simp] at h1
    rw [h1, ris]
    cases hx : isP x
    · rfl
    · simp only [Bool.not_true, cond_false, Bool.true_and]
      rcases List.eq_nil_or_concat p with rfl | ⟨q, v, hqv⟩
      · have e2 : igt (ofN ([] : List Int).length) 0 = false := rfl
        rw [e2, cond_false]
        have := isP_iff.1 hx
        rw [show ([] : List Int).getLastD (-1) = -1 from rfl, decide_eq_true (by omega : (-1 : Int) < x), Bool.true_and]
      · rw [List.concat_eq_append] at hqv
        subst hqv
        have e2 : igt (ofN (q ++ [v]).length) 0 = true := by simp [igt, ofN]
        have e3 : isub .i64 (ofN (q ++ [v]).length) 1 = ofN q.length := sub_in (by simp at hb; omega)
        have e4 : (q ++ [v]) ++ x :: r = q ++ v :: (x :: r) := by simp
        have e6 : (q ++ [v]).getLastD (-1) = v := by simp
        rw [e2, cond_true, e3, e6, e4]
        simp only [inb_in, get_in, cond_true, ile]
        by_cases hd : v < x
        · rw [decide_eq_false (by omega : ¬ x ≤ v), decide_eq_true hd]; rfl
        · rw [decide_eq_true (by omega : x ≤ v), decide_eq_false hd]; rfl
theorem base_p {n : Nat} (hn : 2000 < n) (l : List Int) : F34 n l = some (goodBase l) := by
  unfold F34 goodBase
  by_cases h1 : 2 ≤ l.length
  · have e : ilt (ofN l.length) 2 = false := decide_eq_false (by simp only [ofN, List.length_append, List.length_cons, List.length_nil]; omega)
    rw [e, cond_false, decide_eq_true h1, Bool.true_and]
    by_cases h2 : l.length ≤ 4
    · have e : igt (ofN l.length) 4 = false := decide_eq_false (by simp only [ofN, List.length_append, List.length_cons, List.length_nil]; omega)
      rw [e, cond_false, decide_eq_true h2, Bool.true_and]
      simpa [ofN] using base_pc l [] n (by omega) (by simp; omega)
    · have e : igt (ofN l.length) 4 = true := decide_eq_true (by simp only [ofN, List.length_append, List.length_cons, List.length_nil]; omega)
      rw [e, cond_true, decide_eq_false h2, Bool.false_and]
  · have e : ilt (ofN l.length) 2 = true := decide_eq_true (by simp only [ofN, List.length_append, List.length_cons, List.length_nil]; omega)
    rw [e, cond_true, decide_eq_false h1, Bool.false_and]

/-! ### Sixteen fingers, one by one. -/
theorem fg_ofN (k : Nat) (h : k < 16) : iadd .i64 (ofN k) 1 = ofN (k + 1) := by
  simp only [iadd, ofN]; rw [wrap_mid (by omega) (by omega)]; omega
theorem drop_getD {l : List Int} {k : Nat} (h : k < l.length) : l.drop k = l.getD k 0 :: l.drop (k + 1) := by
  rw [List.drop_eq_getElem_cons h]
  simp [List.getD, h]
theorem ofN_toNat (k : Nat) : (ofN k).toNat = k := by simp [ofN]
theorem lt16 {k : Nat} (h : k < 16) : ilt (ofN k) 16 = true ∧ inb (ofN k) 16 = true ∧ nlt k 16 = true := by
  refine ⟨?_, ?_, ?_⟩
  · exact decide_eq_true (by simp only [ofN, List.length_append, List.length_cons, List.length_nil]; omega)
  · unfold inb ofN; rw [decide_eq_true (by omega : (0 : Int) ≤ k), decide_eq_true (by omega : (k : Int) < (16 : Nat))]; rfl
  · exact decide_eq_true h

theorem viewR0 {n : Nat} (h : 0 < n) : F18_c0 n = some false := by
  obtain ⟨m, rfl⟩ : ∃ m, n = m + 1 := Nat.exists_eq_succ_of_ne_zero (by omega)
  rfl
theorem oth_of (id x : Int) (R : Option Bool) : (bif ine x (-1) then (bif !(isP x) then some false else (bif ieq x id then some false else R)) else R) = bif oth id x then R else some false := by
  unfold oth
  simp only [ine, ieq]
  by_cases h : x = -1
  · simp [h]
  · have : (x != -1) = true := by simpa using h
    rw [this, cond_true, decide_eq_false h, Bool.false_or]
    cases isP x
    · rfl
    · by_cases h2 : x = id
      · simp [h2]
      · have : (x == id) = false := beq_eq_false_iff_ne.2 h2
        rw [this]; simp [h2]
theorem fing_pc (x0 x1 x2 x3 x4 x5 x6 x7 x8 x9 x10 x11 x12 x13 x14 x15 : Int) (id : Int) (b l : List Int) (pr y0 y1 y2 y3 y4 y5 y6 y7 y8 y9 y10 y11 y12 y13 y14 y15 : Int) : ∀ (j k : Nat) (n : Nat), k + j = 16 → j + 2 ≤ n → F18_c1 n x0 x1 x2 x3 x4 x5 x6 x7 x8 x9 x10 x11 x12 x13 x14 x15 (ofN k) id b l pr y0 y1 y2 y3 y4 y5 y6 y7 y8 y9 y10 y11 y12 y13 y14 y15 = some ((([x0, x1, x2, x3, x4, x5, x6, x7, x8, x9, x10, x11, x12, x13, x14, x15] : List Int).drop k).all (oth id))
  | _, _, 0, _, h => by omega
  | 0, k, n + 1, hk, _ => by
    have : k = 16 := by omega
    subst this
    have e : ilt (ofN 16) 16 = false := by decide
    simp only [F18_c1, e, cond_false]; rfl
  | j + 1, k, n + 1, hk, hn => by
    obtain ⟨e1, e2, _⟩ := lt16 (show k < 16 by omega)
    simp only [F18_c1, e1, e2, cond_true, isp_view, Option.bind_some, ofN_toNat]
    rw [viewR0 (by omega), fg_ofN k (by omega), fing_pc x0 x1 x2 x3 x4 x5 x6 x7 x8 x9 x10 x11 x12 x13 x14 x15 id b l pr y0 y1 y2 y3 y4 y5 y6 y7 y8 y9 y10 y11 y12 y13 y14 y15 j (k + 1) n (by omega) (by omega), drop_getD (k := k) (by simp; omega), List.all_cons]
    have := oth_of id ([x0, x1, x2, x3, x4, x5, x6, x7, x8, x9, x10, x11, x12, x13, x14, x15].getD k 0) (some ((([x0, x1, x2, x3, x4, x5, x6, x7, x8, x9, x10, x11, x12, x13, x14, x15] : List Int).drop (k + 1)).all (oth id)))
    rw [this]
    cases oth id ([x0, x1, x2, x3, x4, x5, x6, x7, x8, x9, x10, x11, x12, x13, x14, x15].getD k 0) <;> rfl
theorem viewR_p {n : Nat} (hn : 70000 < n) (a0 : Int) (a1 a2 : List Int) (a3 a4 a5 a6 a7 a8 a9 a10 a11 a12 a13 a14 a15 a16 a17 a18 a19 : Int) : F18 n a0 a1 a2 a3 a4 a5 a6 a7 a8 a9 a10 a11 a12 a13 a14 a15 a16 a17 a18 a19 = some (rightV ⟨a0, a1, a2, a3, a4, a5, a6, a7, a8, a9, a10, a11, a12, a13, a14, a15, a16, a17, a18, a19⟩) := by
  unfold F18 rightV
  have hf := fuel_big
  rw [viewR0 (by omega)]
  simp only [isp_view, base_p (show 2000 < FUEL by omega), right_p (show 2000 < FUEL by omega), Option.bind_some]
  have h0 : (0 : Int) = ofN 0 := rfl
  rw [h0, fing_pc a4 a5 a6 a7 a8 a9 a10 a11 a12 a13 a14 a15 a16 a17 a18 a19 a0 a1 a2 a3 a4 a5 a6 a7 a8 a9 a10 a11 a12 a13 a14 a15 a16 a17 a18 a19 16 0 n (by omega) (by omega), oth_of, List.drop_zero]
  simp only [VW.fg]
  cases isP a0
  · rfl
  · cases goodBase a1
    · rfl
    · cases good a0 a2
      · rfl
      · cases oth a0 a3 <;> rfl

theorem fing_rc (a0 : Int) (a1 a2 : List Int) (a3 a4 a5 a6 a7 a8 a9 a10 a11 a12 a13 a14 a15 a16 a17 a18 a19 : Int) : ∀ (j k : Nat) (n : Nat), k + j = 16 → j < n → F5_c1 n (ofN k) a0 a1 a2 a3 a4 a5 a6 a7 a8 a9 a10 a11 a12 a13 a14 a15 a16 a17 a18 a19 = some ((([a4, a5, a6, a7, a8, a9, a10, a11, a12, a13, a14, a15, a16, a17, a18, a19] : List Int).drop k).all (oth a0))
  | _, _, 0, _, h => by omega
  | 0, k, n + 1, hk, _ => by
    have : k = 16 := by omega
    subst this
    have e : ilt (ofN 16) 16 = false := by decide
    simp only [F5_c1, e, cond_false]; rfl
  | j + 1, k, n + 1, hk, hn => by
    obtain ⟨e1, e2, e3⟩ := lt16 (show k < 16 by omega)
    simp only [F5_c1, e1, e2, cond_true, oth_r, Option.bind_some, ofN_toNat, e3]
    rw [fg_ofN k (by omega), fing_rc a0 a1 a2 a3 a4 a5 a6 a7 a8 a9 a10 a11 a12 a13 a14 a15 a16 a17 a18 a19 j (k + 1) n (by omega) (by omega), drop_getD (k := k) (by simp; omega), List.all_cons]
    cases oth a0 ([a4, a5, a6, a7, a8, a9, a10, a11, a12, a13, a14, a15, a16, a17, a18, a19].getD k 0) <;> rfl
theorem base_rc (a0 : Int) (a1 a2 : List Int) (a3 a4 a5 a6 a7 a8 a9 a10 a11 a12 a13 a14 a15 a16 a17 a18 a19 : Int) : ∀ (r p : List Int) (n : Nat), a1 = p ++ r → r.length + 20 < n → a1.length < 1000 → F5_c0 n (ofN p.length) a0 a1 a2 a3 a4 a5 a6 a7 a8 a9 a10 a11 a12 a13 a14 a15 a16 a17 a18 a19 = some (ris (p.getLastD (-1)) r && ([a4, a5, a6, a7, a8, a9, a10, a11, a12, a13, a14, a15, a16, a17, a18, a19] : List Int).all (oth a0))
  | _, _, 0, _, h, _ => by omega
  | [], p, n + 1, ha, h, _ => by
    rw [List.append_nil] at ha
    subst ha
    have h0 : (0 : Int) = ofN 0 := rfl
    simp only [F5_c0, lt_out, cond_false, ris, Bool.true_and]
    rw [h0, fing_rc a0 a1 a2 a3 a4 a5 a6 a7 a8 a9 a10 a11 a12 a13 a14 a15 a16 a17 a18 a19 16 0 n (by omega) (by omega), List.drop_zero]
  | x :: r, p, n + 1, ha, h, hb => by
    have h1 := base_rc a0 a1 a2 a3 a4 a5 a6 a7 a8 a9 a10 a11 a12 a13 a14 a15 a16 a17 a18 a19 r (p ++ [x]) n (by rw [ha, in_eq]) (by simp at h; omega) hb
    rw [show (p ++ [x]).getLastD (-1) = x by simp] at h1
    rw [ha] at hb
    subst ha
    simp only [List.length_append, List.length_cons] at h hb
    simp only [F5_c0, lt_in, inb_in, get_in, cond_true, isp_ref13, Option.bind_some]
    rw [add_in (x := x) (by omega), h1, ris]
    cases hx : isP x
    · rfl
    · simp only [Bool.not_true, cond_false, Bool.true_and]
      rcases List.eq_nil_or_concat p with rfl | ⟨q, v, hqv⟩
      · have e2 : igt (ofN ([] : List Int).length) 0 = false := rfl
        rw [e2, cond_false]
        have := isP_iff.1 hx
        rw [show ([] : List Int).getLastD (-1) = -1 from rfl, decide_eq_true (by omega : (-1 : Int) < x), Bool.true_and]
      · rw [List.concat_eq_append] at hqv
        subst hqv
        have e2 : igt (ofN (q ++ [v]).length) 0 = true := by simp [igt, ofN]
        have e3 : isub .i64 (ofN (q ++ [v]).length) 1 = ofN q.length := sub_in (by simp at hb; omega)
        have e4 : (q ++ [v]) ++ x :: r = q ++ v :: (x :: r) := by simp
        have e6 : (q ++ [v]).getLastD (-1) = v := by simp
        rw [e2, cond_true, e3, e6, e4]
        simp only [inb_in, get_in, cond_true, ile]
        by_cases hd : v < x
        · rw [decide_eq_false (by omega : ¬ x ≤ v), decide_eq_true hd]; rfl
        · rw [decide_eq_true (by omega : x ≤ v), decide_eq_false hd]; rfl
theorem viewR_r {n : Nat} (hn : 70000 < n) (a0 : Int) (a1 a2 : List Int) (a3 a4 a5 a6 a7 a8 a9 a10 a11 a12 a13 a14 a15 a16 a17 a18 a19 : Int) (h2 : a2.length ≤ 9223372036854775807) : F5 n a0 a1 a2 a3 a4 a5 a6 a7 a8 a9 a10 a11 a12 a13 a14 a15 a16 a17 a18 a19 = some (rightV ⟨a0, a1, a2, a3, a4, a5, a6, a7, a8, a9, a10, a11, a12, a13, a14, a15, a16, a17, a18, a19⟩) := by
  unfold F5 rightV goodBase
  have hf := fuel_big
  simp only [isp_ref13, right_r (show 70000 < FUEL by omega) a0 a2 h2, oth_r, Option.bind_some, VW.fg]
  cases isP a0
  · rfl
  · simp only [Bool.not_true, cond_false, Bool.true_and]
    by_cases h1 : 2 ≤ a1.length
    · have e : ilt (ofN a1.length) 2 = false := decide_eq_false (by simp only [ofN, List.length_append, List.length_cons, List.length_nil]; omega)
      rw [e, cond_false, decide_eq_true h1, Bool.true_and]
      by_cases h3 : a1.length ≤ 4
      · have e : igt (ofN a1.length) 4 = false := decide_eq_false (by simp only [ofN, List.length_append, List.length_cons, List.length_nil]; omega)
        rw [e, cond_false, decide_eq_true h3, Bool.true_and]
        have h0 : (0 : Int) = ofN ([] : List Int).length := rfl
        rw [h0, base_rc a0 a1 a2 a3 a4 a5 a6 a7 a8 a9 a10 a11 a12 a13 a14 a15 a16 a17 a18 a19 a1 [] n rfl (by omega) (by omega), show ([] : List Int).getLastD (-1) = -1 from rfl]
        cases good a0 a2
        · simp
        · cases oth a0 a3
          · simp
          · rfl
      · have e : igt (ofN a1.length) 4 = true := decide_eq_true (by simp only [ofN, List.length_append, List.length_cons, List.length_nil]; omega)
        rw [e, cond_true, decide_eq_false h3]; rfl
    · have e : ilt (ofN a1.length) 2 = true := decide_eq_true (by simp only [ofN, List.length_append, List.length_cons, List.length_nil]; omega)
      rw [e, cond_true, decide_eq_false h1]; rfl

/-! ### Memory of its own. -/
theorem clone_p (n : Nat) (l : List Int) (h : l.length < 1000) : F30 n l = some l := by
  unfold F30
  have e : room (0 + l.length) 8 = true := room_all (by omega) (by omega)
  rw [e]
  cases l with
  | nil => rfl
  | cons x r => rfl
theorem own_r (n : Nat) (a0 : Int) (a1 a2 : List Int) (a3 a4 a5 a6 a7 a8 a9 a10 a11 a12 a13 a14 a15 a16 a17 a18 a19 : Int) (h1 : a1.length < 1000) (h2 : a2.length < 1000) : F44 n a0 a1 a2 a3 a4 a5 a6 a7 a8 a9 a10 a11 a12 a13 a14 a15 a16 a17 a18 a19 = some ⟨a0, a3, a4, a5, a6, a7, a8, a9, a10, a11, a12, a13, a14, a15, a16, a17, a18, a19, a1, a2⟩ := by
  unfold F44
  have e1 : room (0 + a1.length) 8 = true := room_all (by omega) (by omega)
  have e2 : room (0 + a2.length) 8 = true := room_all (by omega) (by omega)
  rw [e1, e2]; rfl
end Go.Proofs.Ytlcbbjcehaahlaa
