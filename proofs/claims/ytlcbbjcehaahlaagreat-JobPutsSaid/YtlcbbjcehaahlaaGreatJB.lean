/-
  Chapter 21, in plain words: where a job stands still.
-/
import Derived.Test.YtlcbbjcehaahlaaGreatJA
namespace Go.Proofs.YtlcbbjcehaahlaaGreat
open Go Go.RowKit

theorem wakes21 : F8 FUEL = some true := by kernel_rfl
theorem beqb_me (b : Bool) : beqb b b = true := by cases b <;> rfl
theorem ieq_me (b : Int) : ieq b b = true := by simp [ieq]
theorem ine_me (b : Int) : ine b b = false := by simp [ine]
theorem steq_me (b : ByteArray) : steq b b = true := by simp [steq]

theorem jsame_c (b0 : Int) (b1 : Int) (b2 : Int) (b3 : Int) (b4 : Int) (b5 : Bool) (b6 : Bool) (b7 : Int) (b8 : ByteArray) (b9 : Int) (b10 : Int) (b11 : Bool) (b12 : Int) (b13 : List Int) (b14 : Int) (hb : b13.length ≤ 40) : ∀ (d i n : Nat), b13.length = i + d → d < n → F13_c0 n (ofN i) b0 b1 b2 b3 b4 b5 b6 b7 b8 b9 b10 b11 b12 b13 b14 b0 b1 b2 b3 b4 b5 b6 b7 b8 b9 b10 b11 b12 b13 b14 = some true := by
  intro d
  induction d with
  | zero =>
    intro i n hL hn
    obtain ⟨m, rfl⟩ : ∃ m, n = m + 1 := Nat.exists_eq_succ_of_ne_zero (by omega)
    rw [F13_c0, ilt_f (by omega)]
    simp only [ieq_me, beqb_me, steq_me, Bool.and_self, cond_true, cond_false]
  | succ d ih =>
    intro i n hL hn
    obtain ⟨m, rfl⟩ : ∃ m, n = m + 1 := Nat.exists_eq_succ_of_ne_zero (by omega)
    rw [F13_c0, ilt_t (by omega), inb_t (by omega), ine_me, add_one (by omega)]
    simp only [cond_true, cond_false]
    exact ih _ _ (by omega) (by omega)
theorem jsame {n : Nat} (hn : 100 < n) (b0 : Int) (b1 : Int) (b2 : Int) (b3 : Int) (b4 : Int) (b5 : Bool) (b6 : Bool) (b7 : Int) (b8 : ByteArray) (b9 : Int) (b10 : Int) (b11 : Bool) (b12 : Int) (b13 : List Int) (b14 : Int) (hb : b13.length ≤ 40) : F13 n b0 b1 b2 b3 b4 b5 b6 b7 b8 b9 b10 b11 b12 b13 b14 b0 b1 b2 b3 b4 b5 b6 b7 b8 b9 b10 b11 b12 b13 b14 = some true := by
  unfold F13
  rw [ine_me, cond_false]
  exact jsame_c b0 b1 b2 b3 b4 b5 b6 b7 b8 b9 b10 b11 b12 b13 b14 hb b13.length 0 n (by omega) (by omega)

theorem igt_len {k : Nat} {m : Int} (h : igt (ofN k) m = false) : (k : Int) ≤ m := by
  have h2 : ¬ ((k : Int) > m) := of_decide_eq_false h
  omega
theorem great21 (n : Nat) (a0 : Int) (a1 a2 : List Int) (a3 a4 a5 a6 a7 a8 a9 a10 a11 a12 a13 a14 a15 a16 a17 a18 a19 : Int) (b0 : Int) (b1 : Int) (b2 : Int) (b3 : Int) (b4 : Int) (b5 : Bool) (b6 : Bool) (b7 : Int) (b8 : ByteArray) (b9 : Int) (b10 : Int) (b11 : Bool) (b12 : Int) (b13 : List Int) (b14 : Int) (m0 : Int) (m1 : Int) (m2 : Int) (m3 : Int) (m4 : Int) (m5 : Bool) (m6 : Bool) (m7 : Int) (m8 : Int) (m9 : List Int) (m10 : ByteArray) (m11 : Int) (m12 : Int) (m13 : Bool) (m14 : Int) : ∃ g, F14 n a0 a1 a2 a3 a4 a5 a6 a7 a8 a9 a10 a11 a12 a13 a14 a15 a16 a17 a18 a19 b0 b1 b2 b3 b4 b5 b6 b7 b8 b9 b10 b11 b12 b13 b14 m0 m1 m2 m3 m4 m5 m6 m7 m8 m9 m10 m11 m12 m13 m14 = some g ∧ (g = false → a1.length ≤ 20 ∧ a2.length ≤ 20 ∧ b13.length ≤ 40 ∧ m9.length ≤ 40) := by
  unfold F14 F6
  cases h1 : igt (ofN a1.length) 20
  · simp only [cond_false, Option.bind_some]
    cases h2 : igt (ofN a2.length) 20
    · simp only [cond_false]
      cases h3 : igt (ofN b13.length) 40
      · simp only [cond_false]
        cases h4 : igt (stlen b8) 300
        · simp only [cond_false]
          cases h5 : igt (ofN m9.length) 40
          · have k1 := igt_len h1
            have k2 := igt_len h2
            have k3 := igt_len h3
            have k5 := igt_len h5
            exact ⟨_, rfl, fun _ => by omega⟩
          · exact ⟨_, rfl, fun h => by cases h⟩
        · exact ⟨_, rfl, fun h => by cases h⟩
      · exact ⟨_, rfl, fun h => by cases h⟩
    · exact ⟨_, rfl, fun h => by cases h⟩
  · exact ⟨_, rfl, fun h => by cases h⟩

theorem plain_JobStands (a0 : Int) (a1 a2 : List Int) (a3 a4 a5 a6 a7 a8 a9 a10 a11 a12 a13 a14 a15 a16 a17 a18 a19 : Int) (b0 : Int) (b1 : Int) (b2 : Int) (b3 : Int) (b4 : Int) (b5 : Bool) (b6 : Bool) (b7 : Int) (b8 : ByteArray) (b9 : Int) (b10 : Int) (b11 : Bool) (b12 : Int) (b13 : List Int) (b14 : Int) (m0 : Int) (m1 : Int) (m2 : Int) (m3 : Int) (m4 : Int) (m5 : Bool) (m6 : Bool) (m7 : Int) (m8 : Int) (m9 : List Int) (m10 : ByteArray) (m11 : Int) (m12 : Int) (m13 : Bool) (m14 : Int) (p : Int) : F4 FUEL a0 a1 a2 a3 a4 a5 a6 a7 a8 a9 a10 a11 a12 a13 a14 a15 a16 a17 a18 a19 b0 b1 b2 b3 b4 b5 b6 b7 b8 b9 b10 b11 b12 b13 b14 m0 m1 m2 m3 m4 m5 m6 m7 m8 m9 m10 m11 m12 m13 m14 p = some true := by
  have hf := fuel_big
  unfold F4
  obtain ⟨g, eg, hg⟩ := great21 FUEL a0 a1 a2 a3 a4 a5 a6 a7 a8 a9 a10 a11 a12 a13 a14 a15 a16 a17 a18 a19 b0 b1 b2 b3 b4 b5 b6 b7 b8 b9 b10 b11 b12 b13 b14 m0 m1 m2 m3 m4 m5 m6 m7 m8 m9 m10 m11 m12 m13 m14
  rw [eg, Option.bind_some, wakes21]
  cases g
  · obtain ⟨h1, h2, h3, h4⟩ := hg rfl
    rw [cond_false, viewR_r (by omega) a0 a1 a2 a3 a4 a5 a6 a7 a8 a9 a10 a11 a12 a13 a14 a15 a16 a17 a18 a19 (by omega), Option.bind_some]
    cases hv : rightV ⟨a0, a1, a2, a3, a4, a5, a6, a7, a8, a9, a10, a11, a12, a13, a14, a15, a16, a17, a18, a19⟩
    · rfl
    · obtain ⟨y6, e6, s6⟩ := jtold a0 a1 a2 a3 a4 a5 a6 a7 a8 a9 a10 a11 a12 a13 a14 a15 a16 a17 a18 a19 b0 b1 b2 b3 b4 b5 b6 b7 b8 b9 b10 b11 b12 b13 b14 m0 m1 m2 m3 m4 m5 m6 m7 m8 m9 m10 m11 m12 m13 m14 h1 h2 h3 h4
      obtain ⟨y7, e7, s7⟩ := jfailed a0 a1 a2 a3 a4 a5 a6 a7 a8 a9 a10 a11 a12 a13 a14 a15 a16 a17 a18 a19 b0 b1 b2 b3 b4 b5 b6 b7 b8 b9 b10 b11 b12 b13 b14 p h1 h2 h3
      rw [jown_r _ _ _ _ _ _ _ _ _ _ _ _ _ _ _ h3, e6, e7]
      simp only [Option.bind_some, Bool.not_true, cond_false]
      rw [jsame (by omega) b0 b1 b2 b3 b4 b5 b6 b7 b8 b9 b10 b11 b12 b13 b14 h3]
      simp only [Option.bind_some, Bool.not_true, cond_false]
      cases c1 : ilt b1 1
      · cases c2 : igt b1 4
        · simp only [cond_false]
          cases c3 : ine m3 a0
          · cases c4 : ile m0 6
            · simp only [cond_false]
              rw [mright_r FUEL m0 m1 m2 m3 m4 m5 m6 m7 m8 m9 m10 m11 m12 m13 m14 (by omega), Option.bind_some]
              cases c5 : rightM ⟨m0, m1, m2, m3, m4, m5, m6, m7, m8, m9, m10, m11, m12, m13, m14⟩
              · have := s6 (.inr (.inr (.inr (.inr c5))))
                subst this
                rw [jsame (by omega) b0 b1 b2 b3 b4 b5 b6 b7 b8 b9 b10 b11 b12 b13 b14 h3]
                rfl
              · rfl
            · have := s6 (.inr (.inr (.inr (.inl (by simpa [ile] using c4)))))
              subst this
              simp only [cond_false, cond_true]
              rw [jsame (by omega) b0 b1 b2 b3 b4 b5 b6 b7 b8 b9 b10 b11 b12 b13 b14 h3]
              rfl
          · have := s6 (.inr (.inr (.inl (by simpa [ine] using c3))))
            subst this
            simp only [cond_true]
            rw [jsame (by omega) b0 b1 b2 b3 b4 b5 b6 b7 b8 b9 b10 b11 b12 b13 b14 h3]
            rfl
        · have k : 4 < b1 := by simpa [igt] using c2
          have := s6 (.inr (.inl k))
          subst this
          have := s7 (.inr k)
          subst this
          simp only [cond_false, cond_true]
          rw [jsame (by omega) b0 b1 b2 b3 b4 b5 b6 b7 b8 b9 b10 b11 b12 b13 b14 h3]
          rfl
      · have k : b1 < 1 := by simpa [ilt] using c1
        have := s6 (.inl k)
        subst this
        have := s7 (.inl k)
        subst this
        simp only [cond_true]
        rw [jsame (by omega) b0 b1 b2 b3 b4 b5 b6 b7 b8 b9 b10 b11 b12 b13 b14 h3]
        rfl
  · rfl

end Go.Proofs.YtlcbbjcehaahlaaGreat
