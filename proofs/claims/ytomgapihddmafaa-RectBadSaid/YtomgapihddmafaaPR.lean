/-
  In plain words: who is ahead.
-/
import Derived.Test.YtomgapihddmafaaPB
namespace Go.Proofs.Ytomgapihddmafaa
open Go Go.RowKit

/-- Is x better ahead of id than p? -/
def better (id p x : Int) : Bool := isP x && (decide (x ≠ id) && (decide (p = -1) || cut p id x))
/-- Who is ahead behind all that told. -/
def ntf (id : Int) : Int → List Int → Int
  | p, [] => p
  | p, x :: r => ntf id (if better id p x then x else p) r

theorem better_oth {id p x : Int} (h : better id p x = true) : oth id x = true := by
  unfold better at h; unfold oth
  simp only [Bool.and_eq_true, decide_eq_true_eq] at h
  simp [h.1, h.2.1]
theorem rightV_pred {id : Int} {b l : List Int} {p q f0 f1 f2 f3 f4 f5 f6 f7 f8 f9 f10 f11 f12 f13 f14 f15 : Int} (h : rightV ⟨id, b, l, p, f0, f1, f2, f3, f4, f5, f6, f7, f8, f9, f10, f11, f12, f13, f14, f15⟩ = true) (hq : oth id q = true) : rightV ⟨id, b, l, q, f0, f1, f2, f3, f4, f5, f6, f7, f8, f9, f10, f11, f12, f13, f14, f15⟩ = true := by
  unfold rightV at h ⊢
  simp only [Bool.and_eq_true, VW.fg] at h ⊢
  exact ⟨h.1, h.2.1, h.2.2.1, hq, h.2.2.2.2⟩
theorem rightV_oth {v : VW} (h : rightV v = true) : oth v.id v.pred = true := by
  unfold rightV at h; simp only [Bool.and_eq_true] at h; exact h.2.2.2.1
theorem rightV_id {v : VW} (h : rightV v = true) : isP v.id = true := by
  unfold rightV at h; simp only [Bool.and_eq_true] at h; exact h.1

theorem great_r (n : Nat) (a0 : Int) (a1 a2 : List Int) (a3 a4 a5 a6 a7 a8 a9 a10 a11 a12 a13 a14 a15 a16 a17 a18 a19 : Int) : F8 n a0 a1 a2 a3 a4 a5 a6 a7 a8 a9 a10 a11 a12 a13 a14 a15 a16 a17 a18 a19 = some (decide (20 < a1.length) || decide (20 < a2.length)) := by
  unfold F8
  have e : ∀ l : List Int, igt (ofN l.length) 20 = decide (20 < l.length) := fun l => by
    unfold igt ofN; apply decide_eq_decide.2; omega
  rw [e, e]
  cases decide (20 < a1.length) <;> rfl

theorem better_p (n : Nat) (a0 : Int) (a1 a2 : List Int) (a3 a4 a5 a6 a7 a8 a9 a10 a11 a12 a13 a14 a15 a16 a17 a18 a19 : Int) (x : Int) : F12 n a0 a1 a2 a3 a4 a5 a6 a7 a8 a9 a10 a11 a12 a13 a14 a15 a16 a17 a18 a19 x = some (rightV ⟨a0, a1, a2, a3, a4, a5, a6, a7, a8, a9, a10, a11, a12, a13, a14, a15, a16, a17, a18, a19⟩ && better a0 a3 x) := by
  unfold F12 better
  have hf := fuel_big
  simp only [viewR_p (show 70000 < FUEL by omega), isp_rect, in_p, Option.bind_some, ieq_dec]
  cases rightV ⟨a0, a1, a2, a3, a4, a5, a6, a7, a8, a9, a10, a11, a12, a13, a14, a15, a16, a17, a18, a19⟩
  · rfl
  · simp only [cond_true, Bool.true_and]
    cases isP x
    · rfl
    · by_cases h1 : x = a0
      · simp [h1]
      · by_cases h2 : a3 = -1 <;> simp [h1, h2]
theorem better_r (n : Nat) (a0 : Int) (a1 a2 : List Int) (a3 a4 a5 a6 a7 a8 a9 a10 a11 a12 a13 a14 a15 a16 a17 a18 a19 : Int) (x : Int) (h : a2.length ≤ 9223372036854775807) : F13 n a0 a1 a2 a3 a4 a5 a6 a7 a8 a9 a10 a11 a12 a13 a14 a15 a16 a17 a18 a19 x = some (rightV ⟨a0, a1, a2, a3, a4, a5, a6, a7, a8, a9, a10, a11, a12, a13, a14, a15, a16, a17, a18, a19⟩ && better a0 a3 x) := by
  unfold F13 better
  have hf := fuel_big
  rw [viewR_r (show 70000 < FUEL by omega) a0 a1 a2 a3 a4 a5 a6 a7 a8 a9 a10 a11 a12 a13 a14 a15 a16 a17 a18 a19 h]
  simp only [in_r, Option.bind_some, ieq_dec, ine_dec, isP, ige, ilt, ge_iff_le]
  cases rightV ⟨a0, a1, a2, a3, a4, a5, a6, a7, a8, a9, a10, a11, a12, a13, a14, a15, a16, a17, a18, a19⟩
  · rfl
  · simp only [cond_true, Bool.true_and]
    by_cases h0 : 0 ≤ x
    · by_cases h00 : x < 65536
      · by_cases h1 : x = a0
        · simp [h0, h00, h1]
        · by_cases h2 : a3 = -1 <;> simp [h0, h00, h1, h2]
      · simp [h0, h00]
    · simp [h0]

theorem notify_pc (z1 z2 z3 z4 z5 z6 z7 z8 z9 z10 z11 z12 z13 z14 z15 z16 z17 z18 id f0 f1 f2 f3 f4 f5 f6 f7 f8 f9 f10 f11 f12 f13 f14 f15 : Int) (b l : List Int) : ∀ (r p : List Int) (n : Nat) (pr : Int), r.length < n → (p ++ r).length < 1000 → F15_c1 n (p ++ r) (ofN (p ++ r).length) (ofN p.length) z1 z2 z3 z4 z5 z6 z7 z8 z9 z10 z11 z12 z13 z14 z15 z16 z17 z18 id pr f0 f1 f2 f3 f4 f5 f6 f7 f8 f9 f10 f11 f12 f13 f14 f15 b l = some ⟨id, ntf id pr r, f0, f1, f2, f3, f4, f5, f6, f7, f8, f9, f10, f11, f12, f13, f14, f15, b, l⟩
  | _, _, 0, _, h, _ => by omega
  | [], p, n + 1, pr, _, _ => by simp only [F15_c1, List.append_nil, lt_out, cond_false]; rfl
  | x :: r, p, n + 1, pr, h, hb => by
    simp only [F15_c1, lt_in, inb_in, get_in, cond_true, isp_rect, in_p, Option.bind_some]
    simp only [List.length_append, List.length_cons] at h hb
    rw [add_in (x := x) (by omega)]
    have h1 := notify_pc z1 z2 z3 z4 z5 z6 z7 z8 z9 z10 z11 z12 z13 z14 z15 z16 z17 z18 id f0 f1 f2 f3 f4 f5 f6 f7 f8 f9 f10 f11 f12 f13 f14 f15 b l r (p ++ [x]) n pr (by omega) (by simp; omega)
    have h2 := notify_pc z1 z2 z3 z4 z5 z6 z7 z8 z9 z10 z11 z12 z13 z14 z15 z16 z17 z18 id f0 f1 f2 f3 f4 f5 f6 f7 f8 f9 f10 f11 f12 f13 f14 f15 b l r (p ++ [x]) n x (by omega) (by simp; omega)
    rw [← in_eq] at h1 h2
    rw [h1, h2, ntf]
    unfold better
    simp only [ieq_dec]
    cases isP x
    · rfl
    · by_cases e1 : x = id
      · simp [e1]
      · by_cases e2 : pr = -1
        · simp [e1, e2]
        · cases cut pr id x <;> simp [e1, e2]
theorem notify_p {n : Nat} (hn : 2000 < n) (a0 : Int) (a1 a2 : List Int) (a3 a4 a5 a6 a7 a8 a9 a10 a11 a12 a13 a14 a15 a16 a17 a18 a19 : Int) (l : List Int) (h1 : a1.length < 1000) (h2 : a2.length < 1000) (h3 : l.length < 1000) :
    F15 n a0 a1 a2 a3 a4 a5 a6 a7 a8 a9 a10 a11 a12 a13 a14 a15 a16 a17 a18 a19 l = some ⟨a0, if rightV ⟨a0, a1, a2, a3, a4, a5, a6, a7, a8, a9, a10, a11, a12, a13, a14, a15, a16, a17, a18, a19⟩ then ntf a0 a3 l else a3, a4, a5, a6, a7, a8, a9, a10, a11, a12, a13, a14, a15, a16, a17, a18, a19, a1, a2⟩ := by
  unfold F15
  have hf := fuel_big
  rw [own_p FUEL a0 a1 a2 a3 a4 a5 a6 a7 a8 a9 a10 a11 a12 a13 a14 a15 a16 a17 a18 a19 h1 h2, viewR_p (show 70000 < FUEL by omega)]
  simp only [Option.bind_some]
  cases rightV ⟨a0, a1, a2, a3, a4, a5, a6, a7, a8, a9, a10, a11, a12, a13, a14, a15, a16, a17, a18, a19⟩
  · obtain ⟨m, rfl⟩ : ∃ m, n = m + 1 := Nat.exists_eq_succ_of_ne_zero (by omega)
    rfl
  · have := notify_pc 0 0 0 0 0 0 0 0 0 0 0 0 0 0 0 0 0 0 a0 a4 a5 a6 a7 a8 a9 a10 a11 a12 a13 a14 a15 a16 a17 a18 a19 a1 a2 l [] n a3 (by omega) (by simpa using h3)
    simp only [Bool.not_true, cond_false, if_true]
    simpa [ofN] using this

theorem notify_rc (z1 z2 z3 z4 z5 z6 z7 z8 z9 z10 z11 z12 z13 z14 z15 z16 z17 z18 id f0 f1 f2 f3 f4 f5 f6 f7 f8 f9 f10 f11 f12 f13 f14 f15 : Int) (b l : List Int) (hl : l.length ≤ 9223372036854775807) : ∀ (r p : List Int) (n : Nat) (pr : Int), r.length < n → (p ++ r).length < 1000 →
    F16_c0 n (p ++ r) (ofN p.length) id pr f0 f1 f2 f3 f4 f5 f6 f7 f8 f9 f10 f11 f12 f13 f14 f15 z1 z2 z3 z4 z5 z6 z7 z8 z9 z10 z11 z12 z13 z14 z15 z16 z17 z18 b l = some ⟨id, if rightV ⟨id, b, l, pr, f0, f1, f2, f3, f4, f5, f6, f7, f8, f9, f10, f11, f12, f13, f14, f15⟩ then ntf id pr r else pr, f0, f1, f2, f3, f4, f5, f6, f7, f8, f9, f10, f11, f12, f13, f14, f15, b, l⟩
  | _, _, 0, _, h, _ => by omega
  | [], p, n + 1, pr, _, _ => by simp only [F16_c0, List.append_nil, lt_out, cond_false, ntf, ite_self]
  | x :: r, p, n + 1, pr, h, hb => by
    simp only [F16_c0, lt_in, inb_in, get_in, cond_true]
    rw [better_r FUEL id b l pr f0 f1 f2 f3 f4 f5 f6 f7 f8 f9 f10 f11 f12 f13 f14 f15 x hl, Option.bind_some]
    simp only [List.length_append, List.length_cons] at h hb
    rw [add_in (x := x) (by omega)]
    have h1 := notify_rc z1 z2 z3 z4 z5 z6 z7 z8 z9 z10 z11 z12 z13 z14 z15 z16 z17 z18 id f0 f1 f2 f3 f4 f5 f6 f7 f8 f9 f10 f11 f12 f13 f14 f15 b l hl r (p ++ [x]) n pr (by omega) (by simp; omega)
    have h2 := notify_rc z1 z2 z3 z4 z5 z6 z7 z8 z9 z10 z11 z12 z13 z14 z15 z16 z17 z18 id f0 f1 f2 f3 f4 f5 f6 f7 f8 f9 f10 f11 f12 f13 f14 f15 b l hl r (p ++ [x]) n x (by omega) (by simp; omega)
    rw [← in_eq] at h1 h2
    rw [h1, h2, ntf]
    cases hr : rightV ⟨id, b, l, pr, f0, f1, f2, f3, f4, f5, f6, f7, f8, f9, f10, f11, f12, f13, f14, f15⟩
    · simp
    · cases hbt : better id pr x
      · simp
      · have := rightV_pred hr (better_oth hbt)
        rw [this]; simp
theorem notify_r {n : Nat} (hn : 2000 < n) (a0 : Int) (a1 a2 : List Int) (a3 a4 a5 a6 a7 a8 a9 a10 a11 a12 a13 a14 a15 a16 a17 a18 a19 : Int) (l : List Int) (h1 : a1.length < 1000) (h2 : a2.length < 1000) (h3 : l.length < 1000) :
    F16 n a0 a1 a2 a3 a4 a5 a6 a7 a8 a9 a10 a11 a12 a13 a14 a15 a16 a17 a18 a19 l = some ⟨a0, if rightV ⟨a0, a1, a2, a3, a4, a5, a6, a7, a8, a9, a10, a11, a12, a13, a14, a15, a16, a17, a18, a19⟩ then ntf a0 a3 l else a3, a4, a5, a6, a7, a8, a9, a10, a11, a12, a13, a14, a15, a16, a17, a18, a19, a1, a2⟩ := by
  unfold F16
  rw [own_r FUEL a0 a1 a2 a3 a4 a5 a6 a7 a8 a9 a10 a11 a12 a13 a14 a15 a16 a17 a18 a19 h1 h2]
  simp only [Option.bind_some]
  have := notify_rc 0 0 0 0 0 0 0 0 0 0 0 0 0 0 0 0 0 0 a0 a4 a5 a6 a7 a8 a9 a10 a11 a12 a13 a14 a15 a16 a17 a18 a19 a1 a2 (by omega) l [] n a3 (by omega) (by simpa using h3)
  simpa [ofN] using this

/-- Who is asked. -/
def askV (v : VW) : Int × Bool := if rightV v && decide (v.pred ≠ -1) then (v.pred, true) else (0, false)
theorem oth_neg {id x : Int} (h : oth id x = true) : x < 0 ↔ x = -1 := by
  unfold oth at h
  simp only [Bool.or_eq_true, Bool.and_eq_true, decide_eq_true_eq] at h
  rcases h with h | ⟨h, _⟩
  · omega
  · have := isP_iff.1 h; omega
theorem asks_p (n : Nat) (a0 : Int) (a1 a2 : List Int) (a3 a4 a5 a6 a7 a8 a9 a10 a11 a12 a13 a14 a15 a16 a17 a18 a19 : Int) : F10 n a0 a1 a2 a3 a4 a5 a6 a7 a8 a9 a10 a11 a12 a13 a14 a15 a16 a17 a18 a19 = some (askV ⟨a0, a1, a2, a3, a4, a5, a6, a7, a8, a9, a10, a11, a12, a13, a14, a15, a16, a17, a18, a19⟩) := by
  unfold F10 askV
  have hf := fuel_big
  simp only [viewR_p (show 70000 < FUEL by omega), Option.bind_some, ieq_dec]
  cases rightV ⟨a0, a1, a2, a3, a4, a5, a6, a7, a8, a9, a10, a11, a12, a13, a14, a15, a16, a17, a18, a19⟩
  · rfl
  · by_cases h : a3 = -1 <;> simp [h]
theorem asks_r (n : Nat) (a0 : Int) (a1 a2 : List Int) (a3 a4 a5 a6 a7 a8 a9 a10 a11 a12 a13 a14 a15 a16 a17 a18 a19 : Int) (h : a2.length ≤ 9223372036854775807) : F11 n a0 a1 a2 a3 a4 a5 a6 a7 a8 a9 a10 a11 a12 a13 a14 a15 a16 a17 a18 a19 = some (askV ⟨a0, a1, a2, a3, a4, a5, a6, a7, a8, a9, a10, a11, a12, a13, a14, a15, a16, a17, a18, a19⟩) := by
  unfold F11 askV
  have hf := fuel_big
  rw [viewR_r (show 70000 < FUEL by omega) a0 a1 a2 a3 a4 a5 a6 a7 a8 a9 a10 a11 a12 a13 a14 a15 a16 a17 a18 a19 h]
  simp only [Option.bind_some, ilt]
  cases hr : rightV ⟨a0, a1, a2, a3, a4, a5, a6, a7, a8, a9, a10, a11, a12, a13, a14, a15, a16, a17, a18, a19⟩
  · rfl
  · have := oth_neg (rightV_oth hr)
    by_cases h : a3 = -1
    · simp [h]
    · have h2 : ¬ a3 < 0 := fun h2 => h (this.1 h2)
      simp [h, h2]

/-- Is a key the view's own? -/
def ownsV (v : VW) (key : Int) : Bool := rightV v && (decide (v.pred ≠ -1) && upt v.pred v.id key)
theorem owns_p (n : Nat) (a0 : Int) (a1 a2 : List Int) (a3 a4 a5 a6 a7 a8 a9 a10 a11 a12 a13 a14 a15 a16 a17 a18 a19 : Int) (x : Int) : F17 n a0 a1 a2 a3 a4 a5 a6 a7 a8 a9 a10 a11 a12 a13 a14 a15 a16 a17 a18 a19 x = some (ownsV ⟨a0, a1, a2, a3, a4, a5, a6, a7, a8, a9, a10, a11, a12, a13, a14, a15, a16, a17, a18, a19⟩ x) := by
  unfold F17 ownsV
  have hf := fuel_big
  simp only [viewR_p (show 70000 < FUEL by omega), upto_p, Option.bind_some, ine_dec]
  cases rightV ⟨a0, a1, a2, a3, a4, a5, a6, a7, a8, a9, a10, a11, a12, a13, a14, a15, a16, a17, a18, a19⟩
  · rfl
  · by_cases h : a3 = -1 <;> simp [h]
theorem owns_r (n : Nat) (a0 : Int) (a1 a2 : List Int) (a3 a4 a5 a6 a7 a8 a9 a10 a11 a12 a13 a14 a15 a16 a17 a18 a19 : Int) (x : Int) (h : a2.length ≤ 9223372036854775807) : F18 n a0 a1 a2 a3 a4 a5 a6 a7 a8 a9 a10 a11 a12 a13 a14 a15 a16 a17 a18 a19 x = some (ownsV ⟨a0, a1, a2, a3, a4, a5, a6, a7, a8, a9, a10, a11, a12, a13, a14, a15, a16, a17, a18, a19⟩ x) := by
  unfold F18 ownsV
  have hf := fuel_big
  rw [viewR_r (show 70000 < FUEL by omega) a0 a1 a2 a3 a4 a5 a6 a7 a8 a9 a10 a11 a12 a13 a14 a15 a16 a17 a18 a19 h]
  simp only [upto_r, Option.bind_some, ige, ge_iff_le]
  cases hr : rightV ⟨a0, a1, a2, a3, a4, a5, a6, a7, a8, a9, a10, a11, a12, a13, a14, a15, a16, a17, a18, a19⟩
  · rfl
  · have := oth_neg (rightV_oth hr)
    by_cases h : a3 = -1
    · simp [h]
    · have h2 : 0 ≤ a3 := by
        rcases Int.lt_or_le a3 0 with h2 | h2
        · exact absurd (this.1 h2) h
        · exact h2
      simp [h, h2]

/-! ### Who is gone. -/
theorem index_c : ∀ (r p : List Int) (n : Nat) (v : Int), r.length < n → (p ++ r).length ≤ 9223372036854775807 → ∃ k, F49_c0 n (p ++ r) v (ofN (p ++ r).length) (ofN p.length) = some k ∧ ige k 0 = decide (v ∈ r)
  | _, _, 0, _, h, _ => by omega
  | [], p, n + 1, v, _, _ => ⟨-1, by simp only [F49_c0, List.append_nil, lt_out, cond_false], by simp [ige]⟩
  | x :: r, p, n + 1, v, h, hb => by
    simp only [F49_c0, lt_in, inb_in, get_in, cond_true]
    simp only [List.length_append, List.length_cons] at h hb
    rw [add_in (x := x) (by omega)]
    by_cases hx : v = x
    · refine ⟨ofN p.length, by simp [ieq, hx], ?_⟩
      simp [ige, ofN, hx]
    · obtain ⟨k, h1, h2⟩ := index_c r (p ++ [x]) n v (by omega) (by simp; omega)
      rw [← in_eq] at h1
      have e : ieq v x = false := by simp [ieq, hx]
      exact ⟨k, by rw [e, cond_false]; exact h1, by rw [h2]; simp [hx]⟩
theorem contains_p {n : Nat} (l : List Int) (v : Int) (h : l.length < 1000) : F33 n l v = some (decide (v ∈ l)) := by
  unfold F33 F49
  have hf := fuel_big
  obtain ⟨k, h1, h2⟩ := index_c l [] FUEL v (by omega) (by simp; omega)
  have h1' : F49_c0 FUEL l v (ofN l.length) 0 = some k := by simpa [ofN] using h1
  rw [h1', Option.bind_some, h2]

def goneV (v : VW) (d : Int) : Int := if rightV v && (decide (v.pred = d) && !decide (d ∈ v.base)) then -1 else v.pred
theorem gone_p (n : Nat) (a0 : Int) (a1 a2 : List Int) (a3 a4 a5 a6 a7 a8 a9 a10 a11 a12 a13 a14 a15 a16 a17 a18 a19 : Int) (d : Int) (h1 : a1.length < 1000) (h2 : a2.length < 1000) : F19 n a0 a1 a2 a3 a4 a5 a6 a7 a8 a9 a10 a11 a12 a13 a14 a15 a16 a17 a18 a19 d = some ⟨a0, goneV ⟨a0, a1, a2, a3, a4, a5, a6, a7, a8, a9, a10, a11, a12, a13, a14, a15, a16, a17, a18, a19⟩ d, a4, a5, a6, a7, a8, a9, a10, a11, a12, a13, a14, a15, a16, a17, a18, a19, a1, a2⟩ := by
  unfold F19 goneV
  have hf := fuel_big
  rw [own_p FUEL a0 a1 a2 a3 a4 a5 a6 a7 a8 a9 a10 a11 a12 a13 a14 a15 a16 a17 a18 a19 h1 h2, viewR_p (show 70000 < FUEL by omega), contains_p a1 d h1]
  simp only [Option.bind_some, ine_dec]
  cases rightV ⟨a0, a1, a2, a3, a4, a5, a6, a7, a8, a9, a10, a11, a12, a13, a14, a15, a16, a17, a18, a19⟩
  · rfl
  · by_cases h : a3 = d
    · by_cases h2 : d ∈ a1 <;> simp [h, h2]
    · simp [h]
theorem gone_rc (d : Int) (z1 z2 z3 z4 z5 z6 z7 z8 z9 z10 z11 z12 z13 z14 z15 z16 z17 z18 id pr f0 f1 f2 f3 f4 f5 f6 f7 f8 f9 f10 f11 f12 f13 f14 f15 : Int) (l : List Int) (hl : l.length ≤ 9223372036854775807) : ∀ (r p : List Int) (n : Nat) (t : Bool), r.length < n → (p ++ r).length < 1000 →
    F20_c0 n d t (ofN p.length) id pr f0 f1 f2 f3 f4 f5 f6 f7 f8 f9 f10 f11 f12 f13 f14 f15 z1 z2 z3 z4 z5 z6 z7 z8 z9 z10 z11 z12 z13 z14 z15 z16 z17 z18 (p ++ r) l = some ⟨id, if rightV ⟨id, p ++ r, l, pr, f0, f1, f2, f3, f4, f5, f6, f7, f8, f9, f10, f11, f12, f13, f14, f15⟩ && (decide (pr = d) && !(t || decide (d ∈ r))) then -1 else pr, f0, f1, f2, f3, f4, f5, f6, f7, f8, f9, f10, f11, f12, f13, f14, f15, p ++ r, l⟩
  | _, _, 0, _, h, _ => by omega
  | [], p, n + 1, t, _, _ => by
    have hf := fuel_big
    simp only [F20_c0, List.append_nil, lt_out, cond_false]
    rw [viewR_r (show 70000 < FUEL by omega) id p l pr f0 f1 f2 f3 f4 f5 f6 f7 f8 f9 f10 f11 f12 f13 f14 f15 hl]
    simp only [Option.bind_some, ieq_dec]
    cases rightV ⟨id, p, l, pr, f0, f1, f2, f3, f4, f5, f6, f7, f8, f9, f10, f11, f12, f13, f14, f15⟩
    · rfl
    · by_cases h : pr = d <;> cases t <;> simp [h]
  | x :: r, p, n + 1, t, h, hb => by
    simp only [F20_c0, lt_in, inb_in, get_in, nlt_in, cond_true]
    simp only [List.length_append, List.length_cons] at h hb
    rw [add_in (x := x) (by omega)]
    have h1 := fun t => gone_rc d z1 z2 z3 z4 z5 z6 z7 z8 z9 z10 z11 z12 z13 z14 z15 z16 z17 z18 id pr f0 f1 f2 f3 f4 f5 f6 f7 f8 f9 f10 f11 f12 f13 f14 f15 l hl r (p ++ [x]) n t (by omega) (by simp; omega)
    rw [← in_eq] at h1
    rw [h1, h1]
    cases t
    · simp only [cond_false]
      by_cases hx : x = d
      · simp [ieq, hx]
      · have : d ≠ x := fun e => hx e.symm
        simp [ieq, hx, this]
    · simp
theorem gone_r {n : Nat} (hn : 2000 < n) (a0 : Int) (a1 a2 : List Int) (a3 a4 a5 a6 a7 a8 a9 a10 a11 a12 a13 a14 a15 a16 a17 a18 a19 : Int) (d : Int) (h1 : a1.length < 1000) (h2 : a2.length < 1000) : F20 n a0 a1 a2 a3 a4 a5 a6 a7 a8 a9 a10 a11 a12 a13 a14 a15 a16 a17 a18 a19 d = some ⟨a0, goneV ⟨a0, a1, a2, a3, a4, a5, a6, a7, a8, a9, a10, a11, a12, a13, a14, a15, a16, a17, a18, a19⟩ d, a4, a5, a6, a7, a8, a9, a10, a11, a12, a13, a14, a15, a16, a17, a18, a19, a1, a2⟩ := by
  unfold F20
  rw [own_r FUEL a0 a1 a2 a3 a4 a5 a6 a7 a8 a9 a10 a11 a12 a13 a14 a15 a16 a17 a18 a19 h1 h2]
  simp only [Option.bind_some]
  have := gone_rc d 0 0 0 0 0 0 0 0 0 0 0 0 0 0 0 0 0 0 a0 a3 a4 a5 a6 a7 a8 a9 a10 a11 a12 a13 a14 a15 a16 a17 a18 a19 a2 (by omega) a1 [] n false (by omega) (by simpa using h1)
  unfold goneV
  simpa [ofN] using this
end Go.Proofs.Ytomgapihddmafaa
