/-
  Chapter 21, in plain words: what a job that begins asks.
-/
import Derived.Test.YtlcbbjcehaahlaaPL
namespace Go.Proofs.Ytlcbbjcehaahlaa
open Go Go.RowKit

theorem wakes21 : F6 FUEL = some true := by kernel_rfl
theorem beqb_me (b : Bool) : beqb b b = true := by cases b <;> rfl
theorem ieq_me (b : Int) : ieq b b = true := by simp [ieq]
theorem ine_me (b : Int) : ine b b = false := by simp [ine]
theorem steq_me (b : ByteArray) : steq b b = true := by simp [steq]
section
variable {α : Type}
theorem eqT {b : Bool} {x y z : α} (hb : b = true) (h : x = z) : (bif b then x else y) = z := by rw [hb]; exact h
theorem eqF {b : Bool} {x y z : α} (hb : b = false) (h : y = z) : (bif b then x else y) = z := by rw [hb]; exact h
theorem exD {b : Bool} {x y : Option α} {P : α → Prop} (h1 : b = true → ∃ r, x = some r ∧ P r) (h2 : b = false → ∃ r, y = some r ∧ P r) : ∃ r, (bif b then x else y) = some r ∧ P r := by
  cases b
  · exact h2 rfl
  · exact h1 rfl
theorem exT {b : Bool} {x y : Option α} {P : α → Prop} (hb : b = true) (h : ∃ r, x = some r ∧ P r) : ∃ r, (bif b then x else y) = some r ∧ P r := by
  rw [hb]; exact h
theorem exF {b : Bool} {x y : Option α} {P : α → Prop} (hb : b = false) (h : ∃ r, y = some r ∧ P r) : ∃ r, (bif b then x else y) = some r ∧ P r := by
  rw [hb]; exact h
end
theorem ieq_t {a b : Int} (h : a = b) : ieq a b = true := by rw [h]; exact ieq_me b
theorem ieq_f {a b : Int} (h : a ≠ b) : ieq a b = false := by rw [ieq_dec]; exact decide_eq_false h
theorem ine_f {a b : Int} (h : a = b) : ine a b = false := by rw [h]; exact ine_me b
theorem room_small {n b : Nat} (h : n < 1000) (hb : b ≤ 1000) : room n b = true := by
  have := Nat.mul_le_mul (show n ≤ 1000 by omega) hb
  simp only [room, Bool.and_eq_true, decide_eq_true_eq]; omega
theorem add_one {i : Nat} (h : i < 1000) : iadd .i64 (ofN i) 1 = ofN (i + 1) := by
  simp only [iadd, ofN]; rw [wrap_mid (by omega) (by omega)]; omega
theorem toN (i : Nat) : (ofN i).toNat = i := rfl
theorem ilt_t {i k : Nat} (h : i < k) : ilt (ofN i) (ofN k) = true := by unfold ilt ofN; exact decide_eq_true (show (i : Int) < (k : Int) by omega)
theorem ilt_f {i k : Nat} (h : k ≤ i) : ilt (ofN i) (ofN k) = false := by unfold ilt ofN; exact decide_eq_false (show ¬ ((i : Int) < (k : Int)) by omega)
theorem inb_t {i k : Nat} (h : i < k) : inb (ofN i) k = true := by
  unfold inb ofN; simp only [Bool.and_eq_true, decide_eq_true_eq]; omega
theorem igt_len {k : Nat} {m : Int} (h : igt (ofN k) m = false) : (k : Int) ≤ m := by
  have h2 : ¬ ((k : Int) > m) := of_decide_eq_false h
  omega
theorem great15 (n : Nat) (a0 : Int) (a1 a2 : List Int) (a3 a4 a5 a6 a7 a8 a9 a10 a11 a12 a13 a14 a15 a16 a17 a18 a19 : Int) : ∃ g, F4 n a0 a1 a2 a3 a4 a5 a6 a7 a8 a9 a10 a11 a12 a13 a14 a15 a16 a17 a18 a19 = some g ∧ (g = false → a1.length ≤ 20 ∧ a2.length ≤ 20) := by
  unfold F4
  cases h1 : igt (ofN a1.length) 20
  · cases h2 : igt (ofN a2.length) 20
    · have k1 := igt_len h1
      have k2 := igt_len h2
      exact ⟨_, rfl, fun _ => by omega⟩
    · exact ⟨_, rfl, fun h => by cases h⟩
  · exact ⟨_, rfl, fun h => by cases h⟩

theorem mixgo_c (k : ByteArray) (hk : k.size ≤ 20) : ∀ (d i n : Nat) (y : Int), k.size = i + d → d < n → ∃ r, F62_c0 n (ofN k.size) (ofN i) k y = some r ∧ True := by
  intro d
  induction d with
  | zero =>
    intro i n y hd hn
    obtain ⟨m, rfl⟩ : ∃ m, n = m + 1 := Nat.exists_eq_succ_of_ne_zero (by omega)
    rw [F62_c0]
    exact exF (ilt_f (by omega)) ⟨_, rfl, trivial⟩
  | succ d ih =>
    intro i n y hd hn
    obtain ⟨m, rfl⟩ : ∃ m, n = m + 1 := Nat.exists_eq_succ_of_ne_zero (by omega)
    rw [F62_c0]
    refine exT (ilt_t (by omega)) (exT (inb_t (by omega)) ?_)
    unfold F84 F82
    simp only [Option.bind_some]
    rw [add_one (by omega)]
    exact ih _ _ _ (by omega) (by omega)
theorem mixof (k : ByteArray) : ∃ r, F31 FUEL k = some r ∧ True := by
  have hf := fuel_big
  unfold F31
  have z : ∀ n, 0 < n → ∃ r, F31_c0 n = some r ∧ True := fun n hn => by
    obtain ⟨m, rfl⟩ : ∃ m, n = m + 1 := Nat.exists_eq_succ_of_ne_zero (by omega)
    exact ⟨_, rfl, trivial⟩
  refine exD (fun _ => z _ (by omega)) fun _ => exD (fun _ => z _ (by omega)) fun h => ?_
  have h2 : (k.size : Int) ≤ 20 := igt_len h
  unfold F62 F82
  simp only [Option.bind_some]
  obtain ⟨r, e, _⟩ := mixgo_c k (by omega) k.size 0 FUEL (bits .and .i64 7 65535) (by omega) (by omega)
  have e' : F62_c0 FUEL (stlen k) 0 k (bits .and .i64 7 65535) = some r := e
  rw [e']
  exact ⟨_, rfl, trivial⟩
theorem begun_p (w p : Int) (k : ByteArray) (v r : Int) (g : Bool) : ∃ y, F17 FUEL w p k v r g = some y ∧ (y.q5 = true → (w = 1 ∨ w = 2) ∨ (w = 3 ∧ y.q1 = k ∧ y.q2 = 0 ∧ y.q3 = 0 ∧ y.q4 = false)) := by
  unfold F17
  refine exD (fun h => exD (fun _ => ⟨_, rfl, fun _ => .inl (.inl (by simpa [ieq] using h))⟩) fun _ => ⟨_, rfl, fun _ => .inl (.inl (by simpa [ieq] using h))⟩) fun _ => ?_
  obtain ⟨x, ex, _⟩ := mixof k
  refine exD (fun h => ?_) fun _ => exD (fun h => ?_) fun _ => ⟨_, rfl, fun h => by cases h⟩
  · rw [ex, Option.bind_some, pair_p]
    exact exD (fun _ => ⟨_, rfl, fun _ => .inl (.inr (by simpa [ieq] using h))⟩) fun _ => ⟨_, rfl, fun h => by cases h⟩
  · rw [ex, Option.bind_some]
    exact ⟨_, rfl, fun _ => .inr ⟨by simpa [ieq] using h, rfl, rfl, rfl, rfl⟩⟩

/-- What a job that begins asks is such. -/
theorem jbegin (a0 : Int) (a1 a2 : List Int) (a3 a4 a5 a6 a7 a8 a9 a10 a11 a12 a13 a14 a15 a16 a17 a18 a19 : Int) (w p : Int) (k : ByteArray) (v r : Int) (g : Bool) (h2 : a2.length ≤ 20) (hv : rightV ⟨a0, a1, a2, a3, a4, a5, a6, a7, a8, a9, a10, a11, a12, a13, a14, a15, a16, a17, a18, a19⟩ = true) : ∃ y, F7 FUEL a0 a1 a2 a3 a4 a5 a6 a7 a8 a9 a10 a11 a12 a13 a14 a15 a16 a17 a18 a19 w p k v r g = some y ∧ (y.q0 = w ∧ y.q14 = false ∧ ((y.q1 = 5 ∧ y.q16 = []) ∨
    ∃ a, y.q16 = [a] ∧ a.2.2.2.1 ≠ a0 ∧ a.2.2.1 = 0 ∧ a.2.1 = 0 ∧ ((y.q1 = 1 ∧ a.1 = 4 ∧ a.2.2.2.1 = y.q3) ∨ (y.q1 = 2 ∧ a.1 = 1) ∨ (y.q1 = 4 ∧ a.1 = 6 ∧ a.2.2.2.2.2.2.2.2.2.2.1 = k ∧ a.2.2.2.2.2.2.2.2.2.2.2.1 = 0 ∧ a.2.2.2.2.2.2.2.2.2.2.2.2.1 = 0 ∧ a.2.2.2.2.2.2.2.2.2.2.2.2.2.1 = false)))) := by
  have hf := fuel_big
  unfold F7
  obtain ⟨y, ey, hy⟩ := begun_p w p k v r g
  rw [ey, Option.bind_some, viewR_p (by omega), begin_p, hv]
  simp only [Option.bind_some]
  refine exD (fun _ => ⟨_, rfl, rfl, rfl, .inl ⟨rfl, rfl⟩⟩) fun hq => ?_
  have hw := hy (by simpa using hq)
  have hb : beginV ⟨a0, a1, a2, a3, a4, a5, a6, a7, a8, a9, a10, a11, a12, a13, a14, a15, a16, a17, a18, a19⟩ y.q0 = ⟨pl y.q0, (nextV ⟨a0, a1, a2, a3, a4, a5, a6, a7, a8, a9, a10, a11, a12, a13, a14, a15, a16, a17, a18, a19⟩ (pl y.q0) false).1, 0, false, (nextV ⟨a0, a1, a2, a3, a4, a5, a6, a7, a8, a9, a10, a11, a12, a13, a14, a15, a16, a17, a18, a19⟩ (pl y.q0) false).2, 0⟩ := by unfold beginV; rw [hv]; rfl
  rw [hb]
  obtain ⟨n1, n2, _⟩ := nextV_ok (v := ⟨a0, a1, a2, a3, a4, a5, a6, a7, a8, a9, a10, a11, a12, a13, a14, a15, a16, a17, a18, a19⟩) (k := pl y.q0) (s := false) hv
  generalize nextV ⟨a0, a1, a2, a3, a4, a5, a6, a7, a8, a9, a10, a11, a12, a13, a14, a15, a16, a17, a18, a19⟩ (pl y.q0) false = e at n1 n2 ⊢
  obtain ⟨t, fd⟩ := e
  simp only at n1 n2 ⊢
  refine exF rfl (exF rfl ?_)
  cases fd
  · refine exF rfl ?_
    rw [lask_p]
    have hr : (rightL ⟨pl y.q0, t, 0, false, false, 0⟩ && !overL ⟨pl y.q0, t, 0, false, false, 0⟩) = true := by
      unfold rightL overL
      rw [isP_of_pl, n1]; rfl
    rw [hr]
    simp only [Option.bind_some, cond_true]
    exact exT rfl ⟨_, rfl, rfl, rfl, .inr ⟨_, rfl, n2, rfl, rfl, .inl ⟨rfl, rfl, rfl⟩⟩⟩
  · refine exT rfl ?_
    obtain ⟨m, hm⟩ : ∃ m, FUEL = m + 1 := Nat.exists_eq_succ_of_ne_zero (by omega)
    rw [hm, F7_c1]
    have z : ∀ n, 0 < n → ∀ x0 x1 x2 x3 x4 x5 x6 x7 x8 x9 x10 x11 x12 x13 x14 x15 x16 x17 x18 x19 x20 x21 x22 x23 x24 x25 x26 x27 x28 x29 x30 x31 x32 x33 x34 x35 x36 x37 x38 x39 x40 x41 x42 x43 x44 x45 x46 x47 x48, ∃ y, F7_c2 n x0 x1 x2 x3 x4 x5 x6 x7 x8 x9 x10 x11 x12 x13 x14 x15 x16 x17 x18 x19 x20 x21 x22 x23 x24 x25 x26 x27 x28 x29 x30 x31 x32 x33 x34 x35 x36 x37 x38 x39 x40 x41 x42 x43 x44 x45 x46 x47 x48 = some y ∧ (y.q0 = x20 ∧ y.q14 = x34 ∧ y.q1 = 5 ∧ y.q16 = []) := fun n hn x0 x1 x2 x3 x4 x5 x6 x7 x8 x9 x10 x11 x12 x13 x14 x15 x16 x17 x18 x19 x20 x21 x22 x23 x24 x25 x26 x27 x28 x29 x30 x31 x32 x33 x34 x35 x36 x37 x38 x39 x40 x41 x42 x43 x44 x45 x46 x47 x48 => by
      obtain ⟨m, rfl⟩ : ∃ m, n = m + 1 := Nat.exists_eq_succ_of_ne_zero (by omega)
      exact ⟨_, rfl, rfl, rfl, rfl, rfl⟩
    refine exD (fun h1 => ?_) fun h1 => exD (fun h2 => exF (ieq_f n2) (exD (fun _ => exT rfl ⟨_, rfl, rfl, rfl, .inr ⟨_, rfl, n2, rfl, rfl, .inr (.inl ⟨rfl, rfl⟩)⟩⟩) fun h3 => by rw [h2] at h3; cases h3)) fun h2 => exF h2 (exF (ieq_f n2) (exT rfl ?_))
    · obtain ⟨y2, e1, k0, k1, k2, k3⟩ := z m (by omega) _ _ _ _ _ _ _ _ _ _ _ _ _ _ _ _ _ _ _ _ _ _ _ _ _ _ _ _ _ _ _ _ _ _ _ _ _ _ _ _ _ _ _ _ _ _ _ _ _
      exact ⟨y2, e1, k0, k1, .inl ⟨k2, k3⟩⟩
    · have c1 : w ≠ 1 := by intro e; rw [e] at h1; cases h1
      have c2 : w ≠ 2 := by intro e; rw [e] at h2; cases h2
      rcases hw with hw | ⟨_, q1, q2, q3, q4⟩
      · omega
      · exact ⟨_, rfl, rfl, rfl, .inr ⟨_, rfl, n2, rfl, rfl, .inr (.inr ⟨rfl, rfl, q1, rfl, rfl, rfl⟩)⟩⟩

theorem i11 : ieq 1 1 = true := rfl
theorem i13 : ieq 1 3 = false := rfl
theorem i12 : ieq 1 2 = false := rfl
theorem i14 : ieq 1 4 = false := rfl
theorem i21 : ieq 2 1 = false := rfl
theorem i23 : ieq 2 3 = false := rfl
theorem i22 : ieq 2 2 = true := rfl
theorem i24 : ieq 2 4 = false := rfl
theorem i41 : ieq 4 1 = false := rfl
theorem i43 : ieq 4 3 = false := rfl
theorem i42 : ieq 4 2 = false := rfl
theorem i44 : ieq 4 4 = true := rfl
theorem asks_none {n : Nat} (hn : 10 < n) {x0 x1 x2 x3 x4 x5 x6 x7 x8 x9 x10 x11 x12 x13 x14 x15 x16 x17 x18 x19 x20 x21 x22 x23 x24 x25 x26 x27 x28 x29 x30 x31 x32 x33 x34 x35 x36 x37 x38 x40} : F3_c0 n x0 x1 x2 x3 x4 x5 x6 x7 x8 x9 x10 x11 x12 x13 x14 x15 x16 x17 x18 x19 x20 x21 x22 x23 x24 x25 x26 x27 x28 x29 x30 x31 x32 x33 x34 x35 x36 x37 x38 [] x40 = some true ∨ ¬ (0 ≤ x0) := by
  by_cases h : 0 ≤ x0
  · left
    obtain ⟨m, rfl⟩ : ∃ m, n = m + 1 := Nat.exists_eq_succ_of_ne_zero (by omega)
    rw [F3_c0]
    refine eqF (by unfold ilt ofN; exact decide_eq_false (by simp; omega)) ?_
    rw [wakes21]; rfl
  · exact .inr h
theorem asks_end {n : Nat} (hn : 10 < n) {x1 x2 x3 x4 x5 x6 x7 x8 x9 x10 x11 x12 x13 x14 x15 x16 x17 x18 x19 x20 x21 x22 x23 x24 x25 x26 x27 x28 x29 x30 x31 x32 x33 x34 x35 x36 x37 x38 a x40} : F3_c0 n 1 x1 x2 x3 x4 x5 x6 x7 x8 x9 x10 x11 x12 x13 x14 x15 x16 x17 x18 x19 x20 x21 x22 x23 x24 x25 x26 x27 x28 x29 x30 x31 x32 x33 x34 x35 x36 x37 x38 [a] x40 = some true := by
  obtain ⟨m, rfl⟩ : ∃ m, n = m + 1 := Nat.exists_eq_succ_of_ne_zero (by omega)
  rw [F3_c0]
  refine eqF rfl ?_
  rw [wakes21]; rfl
theorem asks_one {n : Nat} (hn : 100 < n) {x1 x2 x3 x4 x5 x6 x7 x8 x9 x10 x11 x12 x13 x14 x15 x16 x17 x18 x19 x20 x21 x22 x23 x24 x25 x26 x27 x28 x29 x30 x31 x32 x33 x34 x35 x36 x37 x38 x40} (a) (h1 : a.2.2.2.1 ≠ x1) (h2 : a.2.2.1 = 0) (h3 : a.2.1 = 0)
    (h : (x26 = 1 ∧ a.1 = 4 ∧ a.2.2.2.1 = x28) ∨ (x26 = 2 ∧ a.1 = 1) ∨ (x26 = 4 ∧ a.1 = 6 ∧ a.2.2.2.2.2.2.2.2.2.2.1 = x21 ∧ a.2.2.2.2.2.2.2.2.2.2.2.1 = 0 ∧ a.2.2.2.2.2.2.2.2.2.2.2.2.1 = 0 ∧ a.2.2.2.2.2.2.2.2.2.2.2.2.2.1 = false)) :
    F3_c0 n 0 x1 x2 x3 x4 x5 x6 x7 x8 x9 x10 x11 x12 x13 x14 x15 x16 x17 x18 x19 x20 x21 x22 x23 x24 x25 x26 x27 x28 x29 x30 x31 x32 x33 x34 x35 x36 x37 x38 [a] x40 = some true := by
  obtain ⟨m, rfl⟩ : ∃ m, n = m + 1 := Nat.exists_eq_succ_of_ne_zero (by omega)
  have hg : ∀ d, List.getD [a] (Int.toNat 0) d = a := fun d => rfl
  have hs : iadd .i64 0 1 = 1 := rfl
  rw [F3_c0]
  simp only [hg, hs]
  refine eqT rfl (eqT rfl (eqT rfl (eqF (ieq_f h1) (eqF (ine_f h2) (eqF (ine_f h3) ?_)))))
  have fin : F3_c0 m 1 x1 x2 x3 x4 x5 x6 x7 x8 x9 x10 x11 x12 x13 x14 x15 x16 x17 x18 x19 x20 x21 x22 x23 x24 x25 x26 x27 x28 x29 x30 x31 x32 x33 x34 x35 x36 x37 x38 [a] x40 = some true := asks_end (by omega)
  rcases h with ⟨e, k1, k2⟩ | ⟨e, k1⟩ | ⟨e, k1, k2, k3, k4, k5⟩
  · subst e
    simp only [i11, i13, i12, i14, cond_true, cond_false, k1, k2, ine_me]
    exact fin
  · subst e
    simp only [i21, i23, i22, i24, cond_true, cond_false, k1, ine_me]
    exact fin
  · subst e
    simp only [i41, i43, i42, i44, cond_true, cond_false, k1, k2, k3, k4, k5, ine_me, steq_me, ieq_me, beqb_me, Bool.and_self, Bool.not_true]
    exact fin

theorem plain_JobAsks (a0 : Int) (a1 a2 : List Int) (a3 a4 a5 a6 a7 a8 a9 a10 a11 a12 a13 a14 a15 a16 a17 a18 a19 : Int) (w p : Int) (k : ByteArray) (v r : Int) (g : Bool) : F3 FUEL a0 a1 a2 a3 a4 a5 a6 a7 a8 a9 a10 a11 a12 a13 a14 a15 a16 a17 a18 a19 w p k v r g = some true := by
  have hf := fuel_big
  unfold F3
  obtain ⟨gr, eg, hg⟩ := great15 FUEL a0 a1 a2 a3 a4 a5 a6 a7 a8 a9 a10 a11 a12 a13 a14 a15 a16 a17 a18 a19
  rw [eg, Option.bind_some, wakes21]
  cases gr
  · obtain ⟨h1, h2⟩ := hg rfl
    rw [cond_false, viewR_r (by omega) a0 a1 a2 a3 a4 a5 a6 a7 a8 a9 a10 a11 a12 a13 a14 a15 a16 a17 a18 a19 (by omega), Option.bind_some]
    cases hv : rightV ⟨a0, a1, a2, a3, a4, a5, a6, a7, a8, a9, a10, a11, a12, a13, a14, a15, a16, a17, a18, a19⟩
    · rfl
    · cases hk : igt (stlen k) 300
      · simp only [Bool.not_true, cond_false]
        obtain ⟨y, ey, y0, y14, hy⟩ := jbegin a0 a1 a2 a3 a4 a5 a6 a7 a8 a9 a10 a11 a12 a13 a14 a15 a16 a17 a18 a19 w p k v r g h2 hv
        rw [ey, Option.bind_some]
        refine eqF (ine_f y0) ?_
        rcases hy with ⟨k1, k2⟩ | ⟨a, ea, c1, c2, c3, c4⟩
        · rw [k1, k2]
          refine eqF rfl (eqF y14 ?_)
          rcases asks_none (n := FUEL) (by omega) (x0 := 0) with h | h
          · exact h
          · exact (h (Int.le_refl 0)).elim
        · rw [ea]
          refine eqF ?_ (eqF y14 (asks_one (by omega) a c1 c2 c3 c4))
          have : y.q1 ≠ 5 := by
            rcases c4 with c | c | c
            · omega
            · omega
            · omega
          rw [ieq_f this]; rfl
      · rfl
  · rfl

end Go.Proofs.Ytlcbbjcehaahlaa
