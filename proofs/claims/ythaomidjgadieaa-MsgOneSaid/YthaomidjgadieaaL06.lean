/-
  Chapter 6, in plain words.
-/
import Derived.Test.YthaomidjgadieaaPM
namespace Go.Proofs.Ythaomidjgadieaa
open Go Go.RowKit

theorem wakes06 : F14 FUEL = some true := by kernel_rfl

theorem mgreat (n : Nat) (a0 : Int) (a1 : Int) (a2 : Int) (a3 : Int) (a4 : Int) (a5 : Bool) (a6 : Bool) (a7 : Int) (a8 : Int) (a9 : List Int) (a10 : ByteArray) (a11 : Int) (a12 : Int) (a13 : Bool) (a14 : Int) : F13 n a0 a1 a2 a3 a4 a5 a6 a7 a8 a9 a10 a11 a12 a13 a14 = some (decide (30 < a9.length) || decide (100 < a10.size)) := by
  unfold F13
  have e1 : igt (ofN a9.length) 30 = decide (30 < a9.length) := by unfold igt ofN; apply decide_eq_decide.2; omega
  have e2 : igt (stlen a10) 100 = decide (100 < a10.size) := by unfold igt stlen; apply decide_eq_decide.2; omega
  rw [e1, e2]
  cases decide (30 < a9.length) <;> rfl
theorem mgreat_cases {l : List Int} {k : ByteArray} (h : (decide (30 < l.length) || decide (100 < k.size)) = false) : l.length ≤ 30 := by
  simp only [Bool.or_eq_false_iff, decide_eq_false_iff_not] at h
  omega

theorem plain_MsgTells (n : Nat) (a0 : Int) (a1 : Int) (a2 : Int) (a3 : Int) (a4 : Int) (a5 : Bool) (a6 : Bool) (a7 : Int) (a8 : Int) (a9 : List Int) (a10 : ByteArray) (a11 : Int) (a12 : Int) (a13 : Bool) (a14 : Int) (b0 : Int) (b1 : Int) (b2 : Int) (b3 : Int) (b4 : Int) (b5 : Bool) (b6 : Bool) (b7 : Int) (b8 : Int) (b9 : List Int) (b10 : ByteArray) (b11 : Int) (b12 : Int) (b13 : Bool) (b14 : Int) (k : ByteArray) (v r : Int) (g : Bool) (x y : Int) : F3 n a0 a1 a2 a3 a4 a5 a6 a7 a8 a9 a10 a11 a12 a13 a14 b0 b1 b2 b3 b4 b5 b6 b7 b8 b9 b10 b11 b12 b13 b14 k v r g x y = some true := by
  unfold F3
  have hf := fuel_big
  rw [mgreat, mgreat, wakes06]
  simp only [Option.bind_some]
  cases hg : (decide (30 < a9.length) || decide (100 < a10.size))
  · rw [cond_false]
    have h1 := mgreat_cases hg
    cases hg' : (decide (30 < b9.length) || decide (100 < b10.size))
    · rw [cond_false]
      have h2 := mgreat_cases hg'
      cases igt (stlen k) 100
      · rw [cond_false, call_p (by omega), call_r, pair_p, pair_r, mright_p (by omega) a0 a1 a2 a3 a4 a5 a6 a7 a8 a9 a10 a11 a12 a13 a14 (by omega), mright_r FUEL a0 a1 a2 a3 a4 a5 a6 a7 a8 a9 a10 a11 a12 a13 a14 (by omega), msgasks_p, msgasks_r, asker_p, asker_r, tell_p, tell_r, msame_p (by omega), msame_r (n := FUEL) (a0 := a0) (b0 := b0) (a1 := a1) (b1 := b1) (a2 := a2) (b2 := b2) (a3 := a3) (b3 := b3) (a4 := a4) (b4 := b4) (a5 := a5) (b5 := b5) (a6 := a6) (b6 := b6) (a7 := a7) (b7 := b7) (a8 := a8) (b8 := b8) (a9 := a9) (b9 := b9) (a10 := a10) (b10 := b10) (a11 := a11) (b11 := b11) (a12 := a12) (b12 := b12) (a13 := a13) (b13 := b13) (a14 := a14) (b14 := b14) (by omega) (by omega), mown_p FUEL a0 a1 a2 a3 a4 a5 a6 a7 a8 a9 a10 a11 a12 a13 a14 (by omega)]
        simp only [Option.bind_some]
        rw [msame_r (by simp; omega) (by simp), msame_r (by omega) (by omega), sameM_self, sameM_self]
        have e : ∀ b : Bool, beqb b b = true := fun b => by simp [beqb]
        have e2 : ∀ b : Int, ieq b b = true := fun b => by simp [ieq]
        simp only [e, e2, Option.bind_some, cond_true]
      · rfl
    · rfl
  · rfl

/-! ### What is told. -/
theorem rightM_told {a0 : Int} {a1 : Int} {a2 : Int} {a3 : Int} {a4 : Int} {a5 : Bool} {a6 : Bool} {a7 : Int} {a8 : Int} {a9 : List Int} {a10 : ByteArray} {a11 : Int} {a12 : Int} {a13 : Bool} {a14 : Int} (h : rightM ⟨a0, a1, a2, a3, a4, a5, a6, a7, a8, a9, a10, a11, a12, a13, a14⟩ = true) (hk : askB a0 = true) : (decide (1 ≤ a0) && decide (a0 < 13)) = true ∧ isP a2 = true ∧ isP a3 = true ∧ a2 ≠ a3 ∧ callB a2 a1 = true := by
  unfold rightM at h
  simp only [Bool.and_eq_true, askerV, hk, if_true] at h
  obtain ⟨h1, h2, h3, h4, h5, _⟩ := h
  refine ⟨by simpa using h1, h2, h3, by simpa using h4, h5⟩

theorem told_right {k c f t cd : Int} {ik : ByteArray} {iv ir : Int} {ig : Bool} (hk : askB k = true) (hf : isP f = true) (ht : isP t = true) (hn : f ≠ t) (hc : callB f c = true) :
    rightM ⟨k + 6, c, t, f, 0, false, false, 0, 0, [], ik, iv, ir, ig, cd⟩ = (restM ⟨k + 6, c, t, f, 0, false, false, 0, 0, [], ik, iv, ir, ig, cd⟩ && hasM ⟨k + 6, c, t, f, 0, false, false, 0, 0, [], ik, iv, ir, ig, cd⟩) := by
  have hk' := hk
  unfold askB at hk
  simp only [Bool.and_eq_true, decide_eq_true_eq] at hk
  have e : askB (k + 6) = false := by
    unfold askB; rw [decide_eq_false (by omega : ¬ k + 6 ≤ 6), Bool.and_false]
  have hn' : ¬ t = f := fun h => hn h.symm
  unfold rightM
  simp only [askerV, e, Bool.false_eq_true, if_false, hf, ht, hc, decide_eq_false hn', Bool.not_false, Bool.true_and]
  rw [decide_eq_true (by omega : 1 ≤ k + 6), decide_eq_true (by omega : k + 6 < 13)]; rfl

theorem plain_MsgTold (n : Nat) (a0 : Int) (a1 : Int) (a2 : Int) (a3 : Int) (a4 : Int) (a5 : Bool) (a6 : Bool) (a7 : Int) (a8 : Int) (a9 : List Int) (a10 : ByteArray) (a11 : Int) (a12 : Int) (a13 : Bool) (a14 : Int) (k : ByteArray) (v r : Int) (g : Bool) : F4 n a0 a1 a2 a3 a4 a5 a6 a7 a8 a9 a10 a11 a12 a13 a14 k v r g = some true := by
  unfold F4
  have hf := fuel_big
  rw [mgreat, wakes06]
  simp only [Option.bind_some]
  cases hg : (decide (30 < a9.length) || decide (100 < a10.size))
  · rw [cond_false]
    have h1 := mgreat_cases hg
    cases igt (stlen k) 100
    · rw [cond_false, mright_r FUEL a0 a1 a2 a3 a4 a5 a6 a7 a8 a9 a10 a11 a12 a13 a14 (by omega), Option.bind_some]
      cases hr : rightM ⟨a0, a1, a2, a3, a4, a5, a6, a7, a8, a9, a10, a11, a12, a13, a14⟩
      · rfl
      · rw [tell_p, msgasks_p, Option.bind_some, Option.bind_some]
        simp only [Bool.not_true, cond_false]
        cases hk : askB a0
        · simp only [Bool.not_false, cond_true, cond_false]
          rw [msame_r (by simp; omega) (by simp), sameM_self]; rfl
        · simp only [Bool.not_true, cond_false, cond_true]
          obtain ⟨_, h2, h3, h4, h5⟩ := rightM_told hr hk
          have hk' := hk
          unfold askB at hk'
          simp only [Bool.and_eq_true, decide_eq_true_eq] at hk'
          have e : askB (a0 + 6) = false := by
            unfold askB; rw [decide_eq_false (by omega : ¬ a0 + 6 ≤ 6), Bool.and_false]
          rw [msgasks_p, asker_p, asker_p]
          simp only [Option.bind_some, e, cond_false, askerV, hk, if_true, Bool.false_eq_true, if_false, ine_dec, decide_true, Bool.not_true]
          rw [mright_p (by omega) (a0 + 6) a1 a3 a2 0 false false 0 0 [] ByteArray.empty 0 0 false 0 (by simp), mright_p (by omega) (a0 + 6) a1 a3 a2 0 false false 0 0 [] ByteArray.empty 0 0 false 201 (by simp), mright_p (by omega) (a0 + 6) a1 a3 a2 0 false false 0 0 [] k v r g 0 (by simp), pair_r]
          simp only [Option.bind_some]
          rw [told_right hk h2 h3 h4 h5, told_right hk h2 h3 h4 h5, told_right hk h2 h3 h4 h5]
          by_cases h6 : a0 = 6
          · subst h6
            have e1 : ∀ b : Bool, beqb (true && b) b = true := fun b => by simp [beqb]
            simp [restM, hasM, noIt, beqb]
          · rw [decide_eq_false h6]
            simp only [Bool.not_false, cond_true]
            have : (restM ⟨a0 + 6, a1, a3, a2, 0, false, false, 0, 0, [], ByteArray.empty, 0, 0, false, 0⟩ && hasM ⟨a0 + 6, a1, a3, a2, 0, false, false, 0, 0, [], ByteArray.empty, 0, 0, false, 0⟩) = true := by
              have e4 : ¬ a0 + 6 = 4 := by omega
              have e5 : ¬ a0 + 6 = 5 := by omega
              have e6 : ¬ a0 + 6 = 6 := by omega
              have e12 : ¬ a0 + 6 = 12 := by omega
              have e0 : isP 0 = true := by decide
              simp only [restM, hasM, noIt, e4, e5, e6, e12, lstB, e0]
              simp
            rw [this]; rfl
    · rfl
  · rfl

/-! ### Calls. -/
theorem callV_ok {a n : Int} (h : (callV a n).2 = 0) : isP a = true ∧ 1 ≤ n ∧ n ≤ 1048576 ∧ (callV a n).1 = a * 1048576 + n := by
  unfold callV at h ⊢
  split at h
  · rename_i hc
    rw [if_pos hc]
    simp only [Bool.and_eq_true, decide_eq_true_eq] at hc
    exact ⟨hc.1, hc.2.1, hc.2.2, rfl⟩
  · cases h
theorem callV_bad {a n : Int} (h : ¬ (callV a n).2 = 0) : callV a n = (0, 2) ∧ (isP a && (decide (1 ≤ n) && decide (n ≤ 1048576))) = false := by
  unfold callV at h ⊢
  split at h
  · exact absurd rfl h
  · rename_i hc
    rw [if_neg hc]
    exact ⟨rfl, by simpa using hc⟩
/-- What the law asks of one that is none. -/
theorem callV_fine (a n : Int) : (bif ige a 0 then bif ilt a 65536 then bif ige n 1 then bif beqb (ieq (callV a n).2 0) (ile n 1048576) then bif ieq (callV a n).2 0 then some true else bif ieq (callV a n).2 2 then bif ieq (callV a n).1 0 then some true else some false else some false else some false
      else bif beqb (ieq (callV a n).2 0) false then bif ieq (callV a n).2 0 then some true else bif ieq (callV a n).2 2 then bif ieq (callV a n).1 0 then some true else some false else some false else some false
      else bif beqb (ieq (callV a n).2 0) false then bif ieq (callV a n).2 0 then some true else bif ieq (callV a n).2 2 then bif ieq (callV a n).1 0 then some true else some false else some false else some false
      else bif beqb (ieq (callV a n).2 0) false then bif ieq (callV a n).2 0 then some true else bif ieq (callV a n).2 2 then bif ieq (callV a n).1 0 then some true else some false else some false else some false) = some true := by
  by_cases h : (callV a n).2 = 0
  · obtain ⟨h1, h2, h3, _⟩ := callV_ok h
    have := isP_iff.1 h1
    rw [show ige a 0 = true from decide_eq_true (by omega), show ilt a 65536 = true from decide_eq_true (by omega), show ige n 1 = true from decide_eq_true (by omega), show ile n 1048576 = true from decide_eq_true h3, h]; rfl
  · obtain ⟨h1, h2⟩ := callV_bad h
    rw [h1]
    by_cases a1 : 0 ≤ a
    · rw [show ige a 0 = true from decide_eq_true (by omega)]
      by_cases a2 : a < 65536
      · rw [show ilt a 65536 = true from decide_eq_true (by omega)]
        have : isP a = true := isP_iff.2 ⟨a1, a2⟩
        rw [this, Bool.true_and] at h2
        by_cases a3 : 1 ≤ n
        · rw [show ige n 1 = true from decide_eq_true (by omega)]
          rw [decide_eq_true a3, Bool.true_and, decide_eq_false_iff_not] at h2
          rw [show ile n 1048576 = false from decide_eq_false h2]; rfl
        · rw [show ige n 1 = false from decide_eq_false (by omega)]; rfl
      · rw [show ilt a 65536 = false from decide_eq_false (by omega)]; rfl
    · rw [show ige a 0 = false from decide_eq_false (by omega)]; rfl

theorem ping_right {a b c : Int} (hf : isP a = true) (ht : isP b = true) (hn : a ≠ b) : rightM ⟨2, c, a, b, 0, false, false, 0, 0, [], ByteArray.empty, 0, 0, false, 0⟩ = callB a c := by
  have e : askB 2 = true := by decide
  unfold rightM
  simp only [askerV, e, if_true, hf, ht, decide_eq_false hn, restM, hasM, noIt]
  simp
theorem pong_right {a b c : Int} (hf : isP a = true) (ht : isP b = true) (hn : a ≠ b) : rightM ⟨8, c, a, b, 0, false, false, 0, 0, [], ByteArray.empty, 0, 0, false, 0⟩ = callB b c := by
  have e : askB 8 = false := by decide
  unfold rightM
  simp only [askerV, e, Bool.false_eq_true, if_false, hf, ht, decide_eq_false hn, restM, hasM, noIt]
  simp
theorem callB_own {a n : Int} (h1 : 1 ≤ n) (h2 : n ≤ 1048576) : callB a (a * 1048576 + n) = true := by
  unfold callB; rw [decide_eq_true (by omega), decide_eq_true (by omega)]; rfl
theorem callB_not {a b n : Int} (h : a ≠ b) (h1 : 1 ≤ n) (h2 : n ≤ 1048576) : callB a (b * 1048576 + n) = false := by
  unfold callB
  by_cases h3 : a * 1048576 < b * 1048576 + n
  · rw [decide_eq_false (by omega : ¬ b * 1048576 + n ≤ a * 1048576 + 1048576), Bool.and_false]
  · rw [decide_eq_false h3, Bool.false_and]

theorem plain_MsgCalls (n : Nat) (a b x y : Int) : F6 n a b x y = some true := by
  unfold F6
  have hf := fuel_big
  rw [call_p (by omega), call_p (by omega), wakes06]
  simp only [Option.bind_some, callV_fine]
  by_cases h1 : (callV a x).2 = 0
  · by_cases h2 : (callV b y).2 = 0
    · obtain ⟨p1, q1, r1, e1⟩ := callV_ok h1
      obtain ⟨p2, q2, r2, e2⟩ := callV_ok h2
      rw [h1, h2, e1, e2, show ine 0 0 = false from rfl]
      simp only [cond_false]
      by_cases h3 : a = b
      · subst h3
        rw [show ieq a a = true by simp [ieq]]
        simp only [cond_true]
        have : bneb (ieq (a * 1048576 + x) (a * 1048576 + y)) (ieq x y) = false := by
          rw [bneb_dec, ieq_dec, ieq_dec]
          by_cases h4 : x = y
          · simp [h4]
          · have : ¬ a * 1048576 + x = a * 1048576 + y := by omega
            simp [h4, this]
        rw [this]; rfl
      · rw [show ieq a b = false by simp [ieq, h3]]
        simp only [cond_false]
        have : bneb (ieq (a * 1048576 + x) (b * 1048576 + y)) false = false := by
          rw [bneb_dec, ieq_dec]
          have : ¬ a * 1048576 + x = b * 1048576 + y := by omega
          simp [this]
        rw [this, mright_p (by omega) 2 (a * 1048576 + x) a b 0 false false 0 0 [] ByteArray.empty 0 0 false 0 (by simp), mright_p (by omega) 8 (b * 1048576 + y) a b 0 false false 0 0 [] ByteArray.empty 0 0 false 0 (by simp),
          mright_p (by omega) 2 (b * 1048576 + y) a b 0 false false 0 0 [] ByteArray.empty 0 0 false 0 (by simp), mright_p (by omega) 8 (a * 1048576 + x) a b 0 false false 0 0 [] ByteArray.empty 0 0 false 0 (by simp)]
        simp only [Option.bind_some]
        have h3' : b ≠ a := fun h => h3 h.symm
        rw [ping_right p1 p2 h3, ping_right p1 p2 h3, pong_right p1 p2 h3, pong_right p1 p2 h3, callB_own q1 r1, callB_own q2 r2, callB_not h3 q2 r2, callB_not h3' q1 r1]; rfl
    · have : ine (callV b y).2 0 = true := by simp [ine, h2]
      rw [h1, this, show ine 0 0 = false from rfl]; rfl
  · have : ine (callV a x).2 0 = true := by simp [ine, h1]
    rw [this]; rfl

/-! ### Lists that are told. -/
section
variable (l : List Int) (f pr t : Int)
def stateM : MW := ⟨7, t * 1048576 + 1, f, t, 0, false, false, 0, pr, l, ByteArray.empty, 0, 0, false, 0⟩
theorem lists_end (hl : l.length ≤ 6) (ht : isP t = true) (b : Bool) (n : Nat) (hb : b = rightM (stateM l f pr t)) : F7_c0 (n + 1) l f pr t b (ofN l.length) = some true := by
  have hf := fuel_big
  simp only [F7_c0, lt_out, cond_false]
  have e : iadd .i64 (imul .i64 t 1048576) 1 = t * 1048576 + 1 := call_num ht (by omega) (by omega)
  rw [e, mown_p FUEL 7 (t * 1048576 + 1) f t 0 false false 0 pr l ByteArray.empty 0 0 false 0 (by omega), mright_p (by omega) 7 (t * 1048576 + 1) f t 0 false false 0 pr l ByteArray.empty 0 0 false 0 (by omega)]
  simp only [Option.bind_some]
  rw [msame_p (by omega), sameM_self, wakes06, hb]
  unfold stateM
  have e1 : ∀ b : Bool, beqb b b = true := fun b => by simp [beqb]
  have e2 : ∀ b : Int, ieq b b = true := fun b => by simp [ieq]
  simp only [e1, e2, Option.bind_some, cond_true]
theorem lists_in (x : Int) (p s0 : List Int) (hL : l = p ++ x :: s0) (hl : l.length ≤ 6) (n0 : Nat) : ∀ (s q : List Int) (n : Nat) (b : Bool), p = q ++ s → n0 + s.length + 1 < n →
    (∀ n', n0 < n' → F7_c0 n' l f pr t (b && !decide (x ∈ s)) (ofN (p ++ [x]).length) = some true) → F7_c1 n l f pr t b (ofN p.length) (ofN q.length) = some true
  | _, _, 0, _, _, h, _ => by omega
  | [], q, n + 1, b, hp, h, hR => by
    rw [List.append_nil] at hp
    subst hp
    simp only [List.length_nil] at h
    have hlen : p.length < 1000 := by rw [hL] at hl; simp at hl; omega
    simp only [F7_c1, lt_out, cond_false]
    rw [add_in (x := x) (by omega)]
    have := hR n (by omega)
    simpa using this
  | y :: s, q, n + 1, b, hp, h, hR => by
    have hlen : p.length < 1000 := by rw [hL] at hl; simp at hl; omega
    simp only [List.length_cons] at h
    have e1 : ilt (ofN q.length) (ofN p.length) = true := by rw [hp]; exact lt_in
    have e2 : l = q ++ y :: (s ++ x :: s0) := by rw [hL, hp]; simp
    have e3 : inb (ofN q.length) l.length = true := by rw [e2]; exact inb_in
    have e4 : inb (ofN p.length) l.length = true := by rw [hL]; exact inb_in
    have e5 : l.getD (ofN q.length).toNat 0 = y := by rw [e2]; exact get_in
    have e6 : l.getD (ofN p.length).toNat 0 = x := by rw [hL]; exact get_in
    have hq : q.length < 1000 := by rw [hp] at hlen; simp at hlen; omega
    have h1 := fun b' hR' => lists_in x p s0 hL hl n0 s (q ++ [y]) n b' (by rw [hp, in_eq]) (by omega) hR'
    simp only [F7_c1, e1, e3, e4, e5, e6, cond_true]
    rw [add_in (x := y) (by omega)]
    cases b
    · rw [cond_false]
      refine h1 _ fun n' hn' => ?_
      simpa using hR n' hn'
    · rw [cond_true]
      refine h1 _ fun n' hn' => ?_
      have := hR n' hn'
      rw [ine_dec]
      by_cases hy : x = y
      · simpa [hy] using this
      · simpa [hy] using this
theorem lists_c (hl : l.length ≤ 6) (ht : isP t = true) : ∀ (r p : List Int) (n : Nat) (b : Bool), l = p ++ r → r.length * 100 + 1 < n → (b && lstB f p r) = rightM (stateM l f pr t) → F7_c0 n l f pr t b (ofN p.length) = some true
  | _, _, 0, _, _, h, _ => by omega
  | [], p, n + 1, b, hp, _, hb => by
    rw [List.append_nil] at hp
    rw [← hp]
    exact lists_end l f pr t hl ht b n (by simpa [lstB] using hb)
  | x :: r, p, n + 1, b, hp, h, hb => by
    simp only [List.length_cons] at h
    have e1 : ilt (ofN p.length) (ofN l.length) = true := by rw [hp]; exact lt_in
    have e4 : inb (ofN p.length) l.length = true := by rw [hp]; exact inb_in
    have e6 : l.getD (ofN p.length).toNat 0 = x := by rw [hp]; exact get_in
    have hlen : p.length ≤ 6 := by rw [hp] at hl; simp at hl; omega
    simp only [F7_c0, e1, e4, e6, cond_true]
    have go : ∀ b', (b' && !decide (x ∈ p)) = (b && (isP x && (decide (x ≠ f) && !decide (x ∈ p)))) → F7_c1 n l f pr t b' (ofN p.length) 0 = some true := by
      intro b' h'
      refine lists_in l f pr t x p r hp hl (r.length * 100 + 1) p [] n b' rfl (by omega) fun n' hn' => ?_
      refine lists_c hl ht r (p ++ [x]) n' _ (by rw [hp, in_eq]) hn' ?_
      rw [h', ← hb, lstB]
      cases b <;> cases isP x <;> cases decide (x ≠ f) <;> cases decide (x ∈ p) <;> rfl
    cases b
    · exact go false (by simp)
    · rw [cond_true]
      by_cases h1 : 0 ≤ x
      · rw [show ige x 0 = true from decide_eq_true h1, cond_true]
        by_cases h2 : x < 65536
        · rw [show ilt x 65536 = true from decide_eq_true h2, cond_true]
          refine go _ ?_
          rw [isP_iff.2 ⟨h1, h2⟩, ine_dec, decide_not]
          cases decide (x = f) <;> cases decide (x ∈ p) <;> rfl
        · rw [show ilt x 65536 = false from decide_eq_false h2, cond_false]
          refine go _ ?_
          have : isP x = false := by unfold isP; rw [decide_eq_false h2, Bool.and_false]
          rw [this]; simp
      · rw [show ige x 0 = false from decide_eq_false h1, cond_false]
        refine go _ ?_
        have : isP x = false := by unfold isP; rw [decide_eq_false h1, Bool.false_and]
        rw [this]; simp
theorem state_right (hf : isP f = true) (ht : isP t = true) (hn : f ≠ t) : rightM (stateM l f pr t) = ((decide (pr = -1) || isP pr) && (lstB f [] l && decide (l.length ≤ 3))) := by
  have e : askB 7 = false := by decide
  have hc := callB_own (a := t) (n := 1) (by omega) (by omega)
  unfold rightM stateM
  simp only [askerV, e, Bool.false_eq_true, if_false, hf, ht, decide_eq_false hn, restM, hasM, noIt, hc]
  simp
end
theorem plain_MsgLists (n : Nat) (l : List Int) (f pr : Int) (hn : 2000 < n) : F7 n l f pr = some true := by
  unfold F7
  rw [wakes06]
  by_cases hl : l.length ≤ 6
  · rw [show igt (ofN l.length) 6 = false from decide_eq_false (by simp only [ofN]; omega), cond_false]
    by_cases h1 : f < 0
    · rw [show ilt f 0 = true from decide_eq_true h1]; rfl
    rw [show ilt f 0 = false from decide_eq_false h1, cond_false]
    by_cases h2 : 65535 < f
    · rw [show igt f 65535 = true from decide_eq_true h2]; rfl
    rw [show igt f 65535 = false from decide_eq_false h2, cond_false, show inz 65536 = true by decide, cond_true]
    have hfp : isP f = true := isP_iff.2 (by omega)
    have et : irem (iadd .i64 f 1) 65536 = (f + 1) % 65536 := by
      simp only [irem, iadd]
      rw [wrap_mid (by omega) (by omega), Int.tmod_eq_emod_of_nonneg (by omega)]
    rw [et]
    have ht : isP ((f + 1) % 65536) = true := isP_iff.2 (by omega)
    have hne : f ≠ (f + 1) % 65536 := by omega
    have hs := state_right l f pr _ hfp ht hne
    have go : ∀ b, b = (decide (l.length ≤ 3) && (decide (-1 ≤ pr) && decide (pr < 65536))) → F7_c0 n l f pr ((f + 1) % 65536) b 0 = some true := by
      intro b hb
      refine lists_c l f pr _ hl ht l [] n b rfl (by omega) ?_
      rw [hs, hb]
      have : (decide (pr = -1) || isP pr) = (decide (-1 ≤ pr) && decide (pr < 65536)) := by
        unfold isP
        by_cases h3 : pr = -1
        · subst h3; rfl
        · rw [decide_eq_false h3, Bool.false_or]
          congr 1
          apply decide_eq_decide.2; omega
      rw [this]
      cases decide (l.length ≤ 3) <;> cases lstB f [] l <;> simp
    rw [len3]
    cases h3 : decide (l.length ≤ 3)
    · exact go false (by rw [h3]; rfl)
    · rw [cond_true]
      by_cases h4 : -1 ≤ pr
      · rw [show ige pr (-1) = true from decide_eq_true h4]
        exact go _ (by rw [h3, decide_eq_true h4]; rfl)
      · rw [show ige pr (-1) = false from decide_eq_false h4]
        exact go _ (by rw [decide_eq_false h4]; simp)
  · rw [show igt (ofN l.length) 6 = true from decide_eq_true (by simp only [ofN]; omega)]; rfl
end Go.Proofs.Ythaomidjgadieaa
