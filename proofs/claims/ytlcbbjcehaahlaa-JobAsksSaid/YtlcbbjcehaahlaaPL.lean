/-
  In plain words: looks.
-/
import Derived.Test.YtlcbbjcehaahlaaPN
namespace Go.Proofs.Ytlcbbjcehaahlaa
open Go Go.RowKit

/-- A look. -/
structure LW where
  key : Int
  at' : Int
  hops : Int
  slow : Bool
  found : Bool
  code : Int
  deriving DecidableEq
def rightL (l : LW) : Bool := isP l.key && (isP l.at' && (decide (0 ≤ l.hops) && (decide (l.hops ≤ 41) && (bif decide (40 < l.hops) then decide (l.code = 211) && !l.found else decide (l.code = 0)))))
def overL (l : LW) : Bool := l.found || !decide (l.code = 0)
theorem rightL_hops {l : LW} (h : rightL l = true) : 0 ≤ l.hops ∧ l.hops ≤ 41 := by
  unfold rightL at h
  simp only [Bool.and_eq_true, decide_eq_true_eq] at h
  exact ⟨h.2.2.1, h.2.2.2.1⟩
theorem rightL_open {l : LW} (h : rightL l = true) (ho : overL l = false) : l.hops ≤ 40 ∧ l.code = 0 ∧ l.found = false := by
  unfold rightL at h
  unfold overL at ho
  simp only [Bool.and_eq_true, decide_eq_true_eq] at h
  simp only [Bool.or_eq_false_iff, Bool.not_eq_false', decide_eq_true_eq] at ho
  refine ⟨?_, ho.2, ho.1⟩
  obtain ⟨_, _, _, _, h5⟩ := h
  rcases Int.lt_or_le 40 l.hops with h6 | h6
  · rw [decide_eq_true h6, cond_true] at h5
    simp [ho.2] at h5
  · exact h6
theorem inc_hops {h : Int} (h0 : 0 ≤ h) (h1 : h ≤ 41) : iadd .i64 h 1 = h + 1 := by simp only [iadd]; rw [wrap_mid (by omega) (by omega)]

theorem isp_look' (n : Nat) (a : Int) : F90 n a = some (isP a) := isp_of
section
variable (k a h : Int) (s f : Bool) (c : Int)
theorem right_tail : (bif ilt h 0 then some false else bif igt h 41 then some false else bif igt h 40 then (bif ieq c 211 then some (!f) else some false) else some (ieq c 0)) = some (decide (0 ≤ h) && (decide (h ≤ 41) && (bif decide (40 < h) then decide (c = 211) && !f else decide (c = 0)))) := by
  have e1 : ilt h 0 = !decide (0 ≤ h) := by unfold ilt; rw [← decide_not]; apply decide_eq_decide.2; omega
  have e2 : igt h 41 = !decide (h ≤ 41) := by unfold igt; rw [← decide_not]; apply decide_eq_decide.2; omega
  have e3 : igt h 40 = decide (40 < h) := rfl
  rw [e1, e2, e3, ieq_dec, ieq_dec]
  cases decide (0 ≤ h) <;> cases decide (h ≤ 41) <;> cases decide (40 < h) <;> cases decide (c = 211) <;> rfl
theorem lright_p (n : Nat) : F72 n k a h s f c = some (rightL ⟨k, a, h, s, f, c⟩) := by
  unfold F72 rightL
  simp only [isp_look', Option.bind_some, right_tail]
  cases isP k
  · rfl
  · cases isP a <;> rfl
theorem over_of : (bif f then some true else some (ine c 0)) = some (overL ⟨k, a, h, s, f, c⟩) := by
  rw [lad3, ine_dec]; rfl
theorem lover_p (n : Nat) : F71 n k a h s f c = some (overL ⟨k, a, h, s, f, c⟩) := over_of k a h s f c
theorem lask_p (n : Nat) : F39 n k a h s f c = some (bif rightL ⟨k, a, h, s, f, c⟩ && !overL ⟨k, a, h, s, f, c⟩ then ⟨4, 0, 0, a, k, s, false, 0, 0, ByteArray.empty, 0, 0, false, 0, true⟩ else ⟨0, 0, 0, 0, 0, false, false, 0, 0, ByteArray.empty, 0, 0, false, 0, false⟩) := by
  unfold F39
  rw [lover_p, lright_p]
  simp only [Option.bind_some]
  cases overL ⟨k, a, h, s, f, c⟩ <;> cases rightL ⟨k, a, h, s, f, c⟩ <;> rfl
end
/-- On to p. -/
def onV (v : VW) (l : LW) (p : Int) (o : Bool) : LW := bif decide (p = v.id) && !o then { l with at' := (nextV v l.key l.slow).1, found := (nextV v l.key l.slow).2 } else { l with at' := p, found := o }
def beginV (v : VW) (key : Int) : LW := bif rightV v then ⟨pl key, (nextV v (pl key) false).1, 0, false, (nextV v (pl key) false).2, 0⟩ else ⟨0, 0, 0, false, false, 0⟩
/-- Does a message count? -/
def cntL (v : VW) (l : LW) (m : MW) : Bool := (rightV v && (rightL l && !overL l)) && (rightM m && (decide (m.k = 10) && (decide (m.f = l.at') && decide (m.t = v.id))))
def stepL (l : LW) : LW := { l with hops := l.hops + 1 }
def toldV (v : VW) (l : LW) (m : MW) : LW := bif cntL v l m then (bif decide (40 < l.hops + 1) then { stepL l with code := 211 } else onV v (stepL l) m.p m.d) else l
def againV (v : VW) (l : LW) : LW := bif rightV v && (rightL l && !overL l) then (bif decide (40 < l.hops + 1) then { stepL l with code := 211 } else onV v { stepL l with slow := true } v.id false) else l

theorem begin_p (n : Nat) (a0 : Int) (a1 a2 : List Int) (a3 a4 a5 a6 a7 a8 a9 a10 a11 a12 a13 a14 a15 a16 a17 a18 a19 : Int) (key : Int) : F19 n a0 a1 a2 a3 a4 a5 a6 a7 a8 a9 a10 a11 a12 a13 a14 a15 a16 a17 a18 a19 key = some ⟨(beginV ⟨a0, a1, a2, a3, a4, a5, a6, a7, a8, a9, a10, a11, a12, a13, a14, a15, a16, a17, a18, a19⟩ key).key, (beginV ⟨a0, a1, a2, a3, a4, a5, a6, a7, a8, a9, a10, a11, a12, a13, a14, a15, a16, a17, a18, a19⟩ key).at', (beginV ⟨a0, a1, a2, a3, a4, a5, a6, a7, a8, a9, a10, a11, a12, a13, a14, a15, a16, a17, a18, a19⟩ key).hops, (beginV ⟨a0, a1, a2, a3, a4, a5, a6, a7, a8, a9, a10, a11, a12, a13, a14, a15, a16, a17, a18, a19⟩ key).slow, (beginV ⟨a0, a1, a2, a3, a4, a5, a6, a7, a8, a9, a10, a11, a12, a13, a14, a15, a16, a17, a18, a19⟩ key).found, (beginV ⟨a0, a1, a2, a3, a4, a5, a6, a7, a8, a9, a10, a11, a12, a13, a14, a15, a16, a17, a18, a19⟩ key).code⟩ := by
  unfold F19 beginV
  have hf := fuel_big
  rw [viewR_p (show 70000 < FUEL by omega), place_p]
  simp only [Option.bind_some]
  rw [hnext_p (show 2000 < FUEL by omega)]
  cases rightV ⟨a0, a1, a2, a3, a4, a5, a6, a7, a8, a9, a10, a11, a12, a13, a14, a15, a16, a17, a18, a19⟩ <;> rfl
theorem hopped_p (n : Nat) (k t h : Int) (s f : Bool) (c : Int) (h0 : 0 ≤ h) (h1 : h ≤ 41) : F78 n k t h s f c = some (bif decide (40 < h + 1) then ⟨k, t, h + 1, s, f, 211, false⟩ else ⟨k, t, h + 1, s, f, c, true⟩) := by
  unfold F78
  rw [inc_hops h0 h1, show igt (h + 1) 40 = decide (40 < h + 1) from rfl]
  cases decide (40 < h + 1) <;> rfl
theorem told_p {n : Nat} (hn : 0 < n) (a0 : Int) (a1 a2 : List Int) (a3 a4 a5 a6 a7 a8 a9 a10 a11 a12 a13 a14 a15 a16 a17 a18 a19 : Int) (k t h : Int) (s f : Bool) (c : Int) (m0 : Int) (m1 : Int) (m2 : Int) (m3 : Int) (m4 : Int) (m5 : Bool) (m6 : Bool) (m7 : Int) (m8 : Int) (m9 : List Int) (m10 : ByteArray) (m11 : Int) (m12 : Int) (m13 : Bool) (m14 : Int) (hm : m9.length < 1000) :
    F53 n a0 a1 a2 a3 a4 a5 a6 a7 a8 a9 a10 a11 a12 a13 a14 a15 a16 a17 a18 a19 k t h s f c m0 m1 m2 m3 m4 m5 m6 m7 m8 m9 m10 m11 m12 m13 m14 = some ⟨(toldV ⟨a0, a1, a2, a3, a4, a5, a6, a7, a8, a9, a10, a11, a12, a13, a14, a15, a16, a17, a18, a19⟩ ⟨k, t, h, s, f, c⟩ ⟨m0, m1, m2, m3, m4, m5, m6, m7, m8, m9, m10, m11, m12, m13, m14⟩).key, (toldV ⟨a0, a1, a2, a3, a4, a5, a6, a7, a8, a9, a10, a11, a12, a13, a14, a15, a16, a17, a18, a19⟩ ⟨k, t, h, s, f, c⟩ ⟨m0, m1, m2, m3, m4, m5, m6, m7, m8, m9, m10, m11, m12, m13, m14⟩).at', (toldV ⟨a0, a1, a2, a3, a4, a5, a6, a7, a8, a9, a10, a11, a12, a13, a14, a15, a16, a17, a18, a19⟩ ⟨k, t, h, s, f, c⟩ ⟨m0, m1, m2, m3, m4, m5, m6, m7, m8, m9, m10, m11, m12, m13, m14⟩).hops, (toldV ⟨a0, a1, a2, a3, a4, a5, a6, a7, a8, a9, a10, a11, a12, a13, a14, a15, a16, a17, a18, a19⟩ ⟨k, t, h, s, f, c⟩ ⟨m0, m1, m2, m3, m4, m5, m6, m7, m8, m9, m10, m11, m12, m13, m14⟩).slow, (toldV ⟨a0, a1, a2, a3, a4, a5, a6, a7, a8, a9, a10, a11, a12, a13, a14, a15, a16, a17, a18, a19⟩ ⟨k, t, h, s, f, c⟩ ⟨m0, m1, m2, m3, m4, m5, m6, m7, m8, m9, m10, m11, m12, m13, m14⟩).found, (toldV ⟨a0, a1, a2, a3, a4, a5, a6, a7, a8, a9, a10, a11, a12, a13, a14, a15, a16, a17, a18, a19⟩ ⟨k, t, h, s, f, c⟩ ⟨m0, m1, m2, m3, m4, m5, m6, m7, m8, m9, m10, m11, m12, m13, m14⟩).code⟩ := by
  have hf := fuel_big
  unfold F53 toldV cntL onV stepL
  obtain ⟨j, rfl⟩ : ∃ j, n = j + 1 := Nat.exists_eq_succ_of_ne_zero (by omega)
  rw [viewR_p (show 70000 < FUEL by omega), lright_p, lover_p, mright_p (show 2000 < FUEL by omega) m0 m1 m2 m3 m4 m5 m6 m7 m8 m9 m10 m11 m12 m13 m14 hm]
  simp only [Option.bind_some, F53_c0, ine_dec]
  cases hr : rightV ⟨a0, a1, a2, a3, a4, a5, a6, a7, a8, a9, a10, a11, a12, a13, a14, a15, a16, a17, a18, a19⟩
  · rfl
  · cases hl : rightL ⟨k, t, h, s, f, c⟩
    · rfl
    · obtain ⟨h0, h1⟩ := rightL_hops hl
      simp only at h0 h1
      rw [hopped_p FUEL k t h s f c h0 h1]
      simp only [Option.bind_some]
      cases ho : overL ⟨k, t, h, s, f, c⟩
      · by_cases e1 : m0 = 10
        · by_cases e2 : m2 = t
          · by_cases e3 : m3 = a0
            · cases hmr : rightM ⟨m0, m1, m2, m3, m4, m5, m6, m7, m8, m9, m10, m11, m12, m13, m14⟩
              · simp [e1, e2, e3]
              · subst e1; subst e2; subst e3
                simp only [decide_true, Bool.not_true, cond_false, Bool.not_false, Bool.and_self, cond_true]
                cases h4 : decide (40 < h + 1)
                · simp only [cond_false, Bool.not_true, ieq_dec]
                  rw [hnext_p (show 2000 < FUEL by omega)]
                  cases decide (m7 = m3)
                  · rfl
                  · cases m6 <;> rfl
                · rfl
            · simp [e1, e2, e3]
          · simp [e1, e2]
        · simp [e1]
      · rfl
theorem again_p {n : Nat} (hn : 0 < n) (a0 : Int) (a1 a2 : List Int) (a3 a4 a5 a6 a7 a8 a9 a10 a11 a12 a13 a14 a15 a16 a17 a18 a19 : Int) (k t h : Int) (s f : Bool) (c : Int) :
    F60 n a0 a1 a2 a3 a4 a5 a6 a7 a8 a9 a10 a11 a12 a13 a14 a15 a16 a17 a18 a19 k t h s f c = some ⟨(againV ⟨a0, a1, a2, a3, a4, a5, a6, a7, a8, a9, a10, a11, a12, a13, a14, a15, a16, a17, a18, a19⟩ ⟨k, t, h, s, f, c⟩).key, (againV ⟨a0, a1, a2, a3, a4, a5, a6, a7, a8, a9, a10, a11, a12, a13, a14, a15, a16, a17, a18, a19⟩ ⟨k, t, h, s, f, c⟩).at', (againV ⟨a0, a1, a2, a3, a4, a5, a6, a7, a8, a9, a10, a11, a12, a13, a14, a15, a16, a17, a18, a19⟩ ⟨k, t, h, s, f, c⟩).hops, (againV ⟨a0, a1, a2, a3, a4, a5, a6, a7, a8, a9, a10, a11, a12, a13, a14, a15, a16, a17, a18, a19⟩ ⟨k, t, h, s, f, c⟩).slow, (againV ⟨a0, a1, a2, a3, a4, a5, a6, a7, a8, a9, a10, a11, a12, a13, a14, a15, a16, a17, a18, a19⟩ ⟨k, t, h, s, f, c⟩).found, (againV ⟨a0, a1, a2, a3, a4, a5, a6, a7, a8, a9, a10, a11, a12, a13, a14, a15, a16, a17, a18, a19⟩ ⟨k, t, h, s, f, c⟩).code⟩ := by
  have hf := fuel_big
  unfold F60 againV stepL
  obtain ⟨j, rfl⟩ : ∃ j, n = j + 1 := Nat.exists_eq_succ_of_ne_zero (by omega)
  rw [viewR_p (show 70000 < FUEL by omega), lright_p, lover_p]
  simp only [Option.bind_some, F60_c0]
  cases hr : rightV ⟨a0, a1, a2, a3, a4, a5, a6, a7, a8, a9, a10, a11, a12, a13, a14, a15, a16, a17, a18, a19⟩
  · rfl
  · cases hl : rightL ⟨k, t, h, s, f, c⟩
    · rfl
    · obtain ⟨h0, h1⟩ := rightL_hops hl
      simp only at h0 h1
      rw [hopped_p FUEL k t h s f c h0 h1]
      simp only [Option.bind_some]
      cases ho : overL ⟨k, t, h, s, f, c⟩
      · simp only [Bool.not_true, cond_false, Bool.not_false, Bool.and_self, cond_true]
        cases h4 : decide (40 < h + 1)
        · simp only [cond_false, Bool.not_true]
          rw [hnext_p (show 2000 < FUEL by omega)]
          simp only [onV, decide_true, Bool.not_false, Bool.and_self, cond_true, Option.bind_some]
        · rfl
      · rfl
end Go.Proofs.Ytlcbbjcehaahlaa
