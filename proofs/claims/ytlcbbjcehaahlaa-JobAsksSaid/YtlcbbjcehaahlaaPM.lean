/-
  In plain words: messages that may be.
-/
import Derived.Test.YtlcbbjcehaahlaaPC
namespace Go.Proofs.Ytlcbbjcehaahlaa
open Go Go.RowKit

theorem lad5 (b x y : Bool) : (bif b then some x else some y) = some (bif b then x else y) := by cases b <;> rfl

def noIt (m : MW) : Bool := decide (m.ik = ByteArray.empty) && (decide (m.iv = 0) && (decide (m.ir = 0) && decide (m.ig = false)))
/-- What a message's kind does not have is nothing. -/
def restM (m : MW) : Bool :=
  (decide (m.k = 4) || (decide (m.key = 0) && decide (m.s = false))) && ((decide (m.k = 10) || (decide (m.p = 0) && decide (m.d = false))) && ((decide (m.k = 7) || (decide (m.pr = 0) && decide (m.l = []))) &&
    ((decide (m.k = 5) || (decide (m.k = 6) || (decide (m.k = 12) || noIt m))) && (decide (m.k = 11) || (decide (m.k = 12) || decide (m.cd = 0))))))
/-- What a message's kind has is right. -/
def hasM (m : MW) : Bool :=
  bif decide (m.k = 4) then isP m.key else bif decide (m.k = 5) then pairB m.ik m.iv m.ir else bif decide (m.k = 6) then isKeyB m.ik && (decide (m.iv = 0) && (decide (m.ir = 0) && decide (m.ig = false)))
  else bif decide (m.k = 7) then (decide (m.pr = -1) || isP m.pr) && (lstB m.f [] m.l && decide (m.l.length ≤ 3)) else bif decide (m.k = 10) then isP m.p else bif decide (m.k = 11) then decide (m.cd = 0) || decide (m.cd = 200)
  else bif decide (m.k = 12) then (decide (m.cd = 0) && pairB m.ik m.iv m.ir) || (decide (m.cd = 201) && noIt m) else true
/-- A message that may be. -/
def rightM (m : MW) : Bool := (decide (1 ≤ m.k) && decide (m.k < 13)) && (isP m.f && (isP m.t && (!decide (m.f = m.t) && (callB (askerV m.k m.f m.t) m.c && (restM m && hasM m)))))

def holdP (m : MW) : Bool :=
  bif decide (m.k = 5) then pairB m.ik m.iv m.ir else bif decide (m.k = 6) then isKeyB m.ik else bif decide (m.k = 7) then decide (m.l.length ≤ 3) && aptB m.f [] m.l else bif decide (m.k = 11) then decide (m.cd = 0) || decide (m.cd = 200)
  else bif decide (m.k = 12) then (decide (m.cd = 0) && pairB m.ik m.iv m.ir) || (decide (m.cd = 201) && noIt m) else true
theorem len3 (l : List Int) : ile (ofN l.length) 3 = decide (l.length ≤ 3) := by unfold ile ofN; apply decide_eq_decide.2; omega

theorem holds_p (n : Nat) (a0 : Int) (a1 : Int) (a2 : Int) (a3 : Int) (a4 : Int) (a5 : Bool) (a6 : Bool) (a7 : Int) (a8 : Int) (a9 : List Int) (a10 : ByteArray) (a11 : Int) (a12 : Int) (a13 : Bool) (a14 : Int) (h : a9.length < 1000) : F45 n a0 a1 a2 a3 a4 a5 a6 a7 a8 a9 a10 a11 a12 a13 a14 = some (holdP ⟨a0, a1, a2, a3, a4, a5, a6, a7, a8, a9, a10, a11, a12, a13, a14⟩) := by
  have hf := fuel_big
  unfold F45 holdP noIt
  rw [pair_p, isKey_p, apart_p (by omega) a2 a9 h]
  simp only [Option.bind_some, ieq_dec, steq_dec, beqb_dec, Bool.and_true, len3, lad5]
  congr 1
  grind

/-- What is beside a message's own. -/
def bareM (m : MW) : MW :=
  if m.k = 4 then { m with key := 0, s := false }
  else if m.k = 5 then { m with ik := ByteArray.empty, iv := 0, ir := 0, ig := false }
  else if m.k = 6 then { m with ik := ByteArray.empty, iv := 0, ir := 0, ig := false }
  else if m.k = 7 then { m with pr := 0, l := [] }
  else if m.k = 10 then { m with p := 0, d := false }
  else if m.k = 11 then { m with cd := 0 }
  else if m.k = 12 then { m with cd := 0, ik := ByteArray.empty, iv := 0, ir := 0, ig := false }
  else m
theorem beside_p (n : Nat) (a0 : Int) (a1 : Int) (a2 : Int) (a3 : Int) (a4 : Int) (a5 : Bool) (a6 : Bool) (a7 : Int) (a8 : Int) (a9 : List Int) (a10 : ByteArray) (a11 : Int) (a12 : Int) (a13 : Bool) (a14 : Int) (h : a9.length < 1000) : (Option.bind (F51 n a0 a1 a2 a3 a4 a5 a6 a7 a8 a10 a11 a12 a13 a14) fun y =>
    bif y.q0 then (Option.bind (F50 FUEL y.q1 y.q2 y.q3 y.q4 y.q5 y.q6 y.q7 y.q8 y.q9 a9 y.q10 y.q11 y.q12 y.q13 y.q14 0 0 0 0 0 false false 0 0 [] ByteArray.empty 0 0 false 0) fun z => some z)
    else (Option.bind (F50 FUEL y.q1 y.q2 y.q3 y.q4 y.q5 y.q6 y.q7 y.q8 y.q9 [] y.q10 y.q11 y.q12 y.q13 y.q14 0 0 0 0 0 false false 0 0 [] ByteArray.empty 0 0 false 0) fun z => some z))
    = some (restM ⟨a0, a1, a2, a3, a4, a5, a6, a7, a8, a9, a10, a11, a12, a13, a14⟩ && (!decide (a0 = 6) || (decide (a11 = 0) && (decide (a12 = 0) && decide (a13 = false))))) := by
  unfold F51
  simp only [ieq_dec]
  by_cases k4 : a0 = 4
  · subst k4
    simp only [decide_true, cond_true, Option.bind_some]
    rw [msame_p (by omega)]
    simp only [Option.bind_some, Option.some.injEq, sameM, restM, noIt]
    grind
  by_cases k5 : a0 = 5
  · subst k5
    simp only [decide_true, cond_true, cond_false, decide_false, Option.bind_some, k4]
    rw [msame_p (by omega)]
    simp only [Option.bind_some, Option.some.injEq, sameM, restM, noIt]
    grind
  by_cases k6 : a0 = 6
  · subst k6
    simp only [decide_true, cond_true, cond_false, decide_false, Option.bind_some, k4, k5]
    rw [msame_p (by omega)]
    simp only [Option.bind_some, Option.some.injEq, sameM, restM, noIt]
    grind
  by_cases k7 : a0 = 7
  · subst k7
    simp only [decide_true, cond_true, cond_false, decide_false, Option.bind_some, k4, k5, k6]
    rw [msame_p (by simp)]
    simp only [Option.bind_some, Option.some.injEq, sameM, restM, noIt]
    grind
  by_cases k10 : a0 = 10
  · subst k10
    simp only [decide_true, cond_true, cond_false, decide_false, Option.bind_some, k4, k5, k6, k7]
    rw [msame_p (by omega)]
    simp only [Option.bind_some, Option.some.injEq, sameM, restM, noIt]
    grind
  by_cases k11 : a0 = 11
  · subst k11
    simp only [decide_true, cond_true, cond_false, decide_false, Option.bind_some, k4, k5, k6, k7, k10]
    rw [msame_p (by omega)]
    simp only [Option.bind_some, Option.some.injEq, sameM, restM, noIt]
    grind
  by_cases k12 : a0 = 12
  · subst k12
    simp only [decide_true, cond_true, cond_false, decide_false, Option.bind_some, k4, k5, k6, k7, k10, k11]
    rw [msame_p (by omega)]
    simp only [Option.bind_some, Option.some.injEq, sameM, restM, noIt]
    grind
  simp only [cond_true, cond_false, decide_false, Option.bind_some, k4, k5, k6, k7, k10, k11, k12]
  rw [msame_p (by omega)]
  simp only [Option.bind_some, Option.some.injEq, sameM, restM, noIt]
  grind

theorem val0 : isValB 0 = true := by decide
theorem pair0 (k : ByteArray) (v r : Int) (g : Bool) : (pairB k v r && (decide (v = 0) && (decide (r = 0) && g))) = (isKeyB k && (decide (v = 0) && (decide (r = 0) && g))) := by
  unfold pairB
  have := val0
  by_cases hv : v = 0
  · by_cases hr : r = 0
    · subst hv; subst hr; simp [this]
    · simp [hr]
  · simp [hv]
theorem mright0 {n : Nat} (h : 0 < n) : F26_c0 n = some false := by
  obtain ⟨m, rfl⟩ : ∃ m, n = m + 1 := Nat.exists_eq_succ_of_ne_zero (by omega)
  rfl
theorem mright_c (a0 : Int) (a1 : Int) (a2 : Int) (a3 : Int) (a4 : Int) (a5 : Bool) (a6 : Bool) (a7 : Int) (a8 : Int) (a9 : List Int) (a10 : ByteArray) (a11 : Int) (a12 : Int) (a13 : Bool) (a14 : Int) : ∀ (r p : List Int) (n : Nat), r.length + 1 < n → (p ++ r).length < 1000 →
    F26_c1 n (p ++ r) (ofN (p ++ r).length) (ofN p.length) a0 a1 a2 a3 a4 a5 a6 a7 a8 a9 a10 a11 a12 a13 a14 = bif r.all isP then F26_c1 2 [] (ofN 0) (ofN 0) a0 a1 a2 a3 a4 a5 a6 a7 a8 a9 a10 a11 a12 a13 a14 else some false
  | _, _, 0, h, _ => by omega
  | [], p, n + 1, hn, _ => by
    have e0 : ilt (ofN 0) (ofN 0) = false := by decide
    simp only [List.length_nil] at hn
    simp only [List.all_nil, cond_true, F26_c1, List.append_nil, lt_out, cond_false, e0, mright0 (show 0 < n by omega), mright0 (show 0 < 1 by omega)]
  | x :: r, p, n + 1, h, hb => by
    simp only [List.length_cons] at h
    simp only [F26_c1, lt_in, inb_in, get_in, cond_true, isp_msg, Option.bind_some, mright0 (show 0 < n by omega)]
    simp only [List.length_append, List.length_cons] at hb
    have h1 := mright_c a0 a1 a2 a3 a4 a5 a6 a7 a8 a9 a10 a11 a12 a13 a14 r (p ++ [x]) n (by omega) (by simp; omega)
    rw [← in_eq] at h1
    rw [add_in (x := x) (by omega), h1, List.all_cons]
    cases isP x <;> rfl
theorem mright_p {n : Nat} (hn : 2000 < n) (a0 : Int) (a1 : Int) (a2 : Int) (a3 : Int) (a4 : Int) (a5 : Bool) (a6 : Bool) (a7 : Int) (a8 : Int) (a9 : List Int) (a10 : ByteArray) (a11 : Int) (a12 : Int) (a13 : Bool) (a14 : Int) (h : a9.length < 1000) : F26 n a0 a1 a2 a3 a4 a5 a6 a7 a8 a9 a10 a11 a12 a13 a14 = some (rightM ⟨a0, a1, a2, a3, a4, a5, a6, a7, a8, a9, a10, a11, a12, a13, a14⟩) := by
  have hf := fuel_big
  unfold F26
  rw [mright0 (by omega)]
  have hc := mright_c a0 a1 a2 a3 a4 a5 a6 a7 a8 a9 a10 a11 a12 a13 a14 a9 [] n (by omega) (by simpa using h)
  simp only [List.nil_append, List.length_nil] at hc
  have h0 : (0 : Int) = ofN 0 := rfl
  have e0 : ilt (ofN 0) (ofN 0) = false := by decide
  simp only [F26_c1, e0, cond_false, mright0 (show 0 < 1 by omega)] at hc
  rw [holds_p FUEL a0 a1 a2 a3 a4 a5 a6 a7 a8 a9 a10 a11 a12 a13 a14 h]
  simp only [isp_msg, Option.bind_some]
  unfold rightM
  by_cases hk1 : a0 < 1
  · rw [show ilt a0 1 = true from decide_eq_true hk1]
    simp only [cond_true]
    rw [decide_eq_false (by omega : ¬ 1 ≤ a0)]; rfl
  rw [show ilt a0 1 = false from decide_eq_false hk1, cond_false]
  by_cases hk2 : 13 ≤ a0
  · rw [show ige a0 13 = true from decide_eq_true hk2]
    simp only [cond_true]
    rw [decide_eq_false (by omega : ¬ a0 < 13), Bool.and_false]; rfl
  rw [show ige a0 13 = false from decide_eq_false hk2, cond_false]
  cases h2 : isP a2
  · simp
  cases h3 : isP a3
  · simp
  have ha := asker_place (k := a0) h2 h3
  rw [asker_p] at hc ⊢
  simp only [Option.bind_some] at hc ⊢
  rw [iscall_p FUEL ha] at hc ⊢
  simp only [Option.bind_some] at hc ⊢
  rw [beside_p FUEL a0 a1 a2 a3 a4 a5 a6 a7 a8 a9 a10 a11 a12 a13 a14 h] at hc ⊢
  simp only [ieq_dec, ine_dec, lad5] at hc ⊢
  rw [← h0] at hc
  rw [hc]
  simp only [lad5, Option.some.injEq]
  have hl := lstB_apt a2 a9 []
  have hv := val0
  unfold holdP hasM
  simp only
  simp only [restM, noIt]
  have hp := pair0 a10 a11 a12 (decide (a13 = false))
  by_cases k4 : a0 = 4
  · subst k4; simp; grind
  by_cases k5 : a0 = 5
  · subst k5; simp; grind
  by_cases k6 : a0 = 6
  · subst k6; simp; grind
  by_cases k7 : a0 = 7
  · subst k7; simp; grind
  by_cases k10 : a0 = 10
  · subst k10; simp; grind
  by_cases k11 : a0 = 11
  · subst k11; simp; grind
  by_cases k12 : a0 = 12
  · subst k12; simp; grind
  simp [k4, k5, k6, k7, k10, k11, k12]; grind
/-- What is told to a message. -/
def tellM (m : MW) : MW := if askB m.k then ⟨m.k + 6, m.c, m.t, m.f, 0, false, false, 0, 0, [], ByteArray.empty, 0, 0, false, 0⟩ else ⟨0, 0, 0, 0, 0, false, false, 0, 0, [], ByteArray.empty, 0, 0, false, 0⟩
theorem told_k {k : Int} (h : askB k = true) : iadd .u8 k 6 = k + 6 := by
  unfold askB at h
  simp only [Bool.and_eq_true, decide_eq_true_eq] at h
  simp only [iadd, IntKind.wrap, IntKind.bits, IntKind.signed]
  simp
  omega
end Go.Proofs.Ytlcbbjcehaahlaa
