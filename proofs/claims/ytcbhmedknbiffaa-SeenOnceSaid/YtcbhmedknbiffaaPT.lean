/-
  In plain words: messages of any length; calls.
-/
import Derived.Test.YtcbhmedknbiffaaPM
namespace Go.Proofs.Ytcbhmedknbiffaa
open Go Go.RowKit

/-! ### Lists of any length that may be told. -/
theorem pigeon : ∀ (N : Nat) (p : List Int), p.Nodup → (∀ x ∈ p, 0 ≤ x ∧ x < N) → p.length ≤ N
  | 0, p, _, h => by
    cases p with
    | nil => simp
    | cons x r => have := h x (by simp); omega
  | N + 1, p, hn, h => by
    have h1 := pigeon N (p.filter fun x => decide (x ≠ (N : Int))) (hn.filter _) (fun x hx => by
      obtain ⟨h2, h3⟩ := List.mem_filter.1 hx
      have := h x h2
      have : x ≠ (N : Int) := by simpa using h3
      omega)
    have h2 : p.length ≤ (p.filter fun x => decide (x ≠ (N : Int))).length + 1 := by
      clear h h1
      induction p with
      | nil => simp
      | cons x r ih =>
        rw [List.nodup_cons] at hn
        rw [List.filter_cons]
        by_cases hx : x = (N : Int)
        · have : (r.filter fun x => decide (x ≠ (N : Int))) = r := List.filter_eq_self.2 fun y hy => by
            have : y ≠ (N : Int) := fun e => hn.1 (by rw [hx, ← e]; exact hy)
            simpa using this
          rw [this]
          simp [hx]
        · have := ih hn.2
          simp [hx] at this ⊢
          omega
    omega
theorem list_l1 (f x : Int) (L : List Int) (p s : List Int) (hL : L = p ++ x :: s) (hb : p.length < 70000) :
    ∀ (r q : List Int) (n : Nat), p = q ++ r → r.length < n → F52_c1 n L f (ofN p.length) (ofN q.length) = if x ∈ r then some false else F52_c0 (n - r.length - 1) L f (ofN (p ++ [x]).length)
  | _, _, 0, _, h => by omega
  | [], q, n + 1, hp, h => by
    rw [List.append_nil] at hp
    subst hp
    simp only [F52_c1, lt_out, cond_false]
    rw [add_in (x := x) (by omega)]
    simp
  | y :: r, q, n + 1, hp, h => by
    simp only [List.length_cons] at h
    have h1 := list_l1 f x L p s hL hb r (q ++ [y]) n (by rw [hp, in_eq]) (by omega)
    have e1 : ilt (ofN q.length) (ofN p.length) = true := by rw [hp]; exact lt_in
    have e2 : L = q ++ y :: (r ++ x :: s) := by rw [hL, hp]; simp
    have e3 : inb (ofN q.length) L.length = true := by rw [e2]; exact inb_in
    have e4 : inb (ofN p.length) L.length = true := by rw [hL]; exact inb_in
    have e5 : L.getD (ofN q.length).toNat 0 = y := by rw [e2]; exact get_in
    have e6 : L.getD (ofN p.length).toNat 0 = x := by rw [hL]; exact get_in
    have hq : q.length < 70000 := by rw [hp] at hb; simp at hb; omega
    simp only [F52_c1, e1, e3, e4, e5, e6, cond_true]
    rw [add_in (x := y) (by omega), h1, ieq_dec]
    by_cases hy : x = y
    · simp [hy]
    · have : y ≠ x := fun e => hy e.symm
      simp [hy, this]
theorem list_lc (f : Int) (r : List Int) : ∀ (p : List Int) (n k : Nat), p.Nodup → (∀ x ∈ p, isP x = true) → k + p.length = 65537 → k * 70000 + 1 < n → (p ++ r).length ≤ 9223372036854775807 → F52_c0 n (p ++ r) f (ofN p.length) = some (lstB f p r && decide ((p ++ r).length ≤ 3)) := by
  induction r with
  | nil =>
    intro p n k _ _ _ h _
    obtain ⟨n, rfl⟩ : ∃ m, n = m + 1 := ⟨n - 1, by omega⟩
    simp only [F52_c0, List.append_nil, lt_out, cond_false, lstB, Bool.true_and]
    congr 1
    unfold ile ofN; apply decide_eq_decide.2; omega
  | cons x r ihr =>
    intro p n k hn hp hk h hb
    obtain ⟨n, rfl⟩ : ∃ m, n = m + 1 := ⟨n - 1, by omega⟩
    have hpl : p.length ≤ 65536 := pigeon 65536 p hn fun y hy => by have := isP_iff.1 (hp y hy); omega
    obtain ⟨k, rfl⟩ : ∃ m, k = m + 1 := ⟨k - 1, by omega⟩
    rw [Nat.add_mul, Nat.one_mul] at h
    have hfu : k * 70000 + 1 < n - p.length - 1 := by
      generalize k * 70000 = z at h ⊢
      omega
    have hfp : p.length < n := by
      generalize k * 70000 = z at h
      omega
    simp only [F52_c0, lt_in, inb_in, get_in, cond_true, isp_ref06, Option.bind_some]
    have h0 : (0 : Int) = ofN ([] : List Int).length := rfl
    rw [h0, list_l1 f x (p ++ x :: r) p r rfl (by omega) p [] n rfl hfp, ieq_dec, lstB, decide_not]
    cases hx : isP x
    · rfl
    · by_cases hf : x = f
      · rw [decide_eq_true hf]; rfl
      · rw [decide_eq_false hf]
        by_cases hxp : x ∈ p
        · rw [if_pos hxp, decide_eq_true hxp]; rfl
        · have ih := ihr (p ++ [x]) (n - p.length - 1) k (by
            rw [List.nodup_append]
            exact ⟨hn, by simp, fun a ha b hb e => hxp (by rw [← List.mem_singleton.1 hb, ← e]; exact ha)⟩) (fun y hy => by
            rcases List.mem_append.1 hy with hy | hy
            · exact hp y hy
            · rw [List.mem_singleton.1 hy]; exact hx) (by rw [List.length_append, List.length_singleton]; omega) hfu (by rw [← in_eq]; exact hb)
          rw [← in_eq] at ih
          rw [if_neg hxp, ih, decide_eq_false hxp]; rfl
theorem list_rl0 (n k : Nat) (hk : k = 65537) (hn : k * 70000 + 1 < n) (l : List Int) (f : Int) (h : l.length ≤ 9223372036854775807) : F52 n l f = some (lstB f [] l && decide (l.length ≤ 3)) :=
  list_lc f l [] n k List.nodup_nil (fun x hx => by cases hx) hk hn h
theorem list_rl {n : Nat} (hn : 5000000000 < n) (l : List Int) (f : Int) (h : l.length ≤ 9223372036854775807) : F52 n l f = some (lstB f [] l && decide (l.length ≤ 3)) :=
  list_rl0 n (65536 + 1) rfl (by omega) l f h
theorem msame_r0 {n : Nat} {a0 : Int} {a1 : Int} {a2 : Int} {a3 : Int} {a4 : Int} {a5 : Bool} {a6 : Bool} {a7 : Int} {a8 : Int} {a9 : List Int} {a10 : ByteArray} {a11 : Int} {a12 : Int} {a13 : Bool} {a14 : Int} {b0 b1 b2 b3 b4 : Int} {b5 b6 : Bool} {b7 b8 : Int} {b10 : ByteArray} {b11 b12 : Int} {b13 : Bool} {b14 : Int} (hn : 0 < n) : F15 n a0 a1 a2 a3 a4 a5 a6 a7 a8 a9 a10 a11 a12 a13 a14 b0 b1 b2 b3 b4 b5 b6 b7 b8 [] b10 b11 b12 b13 b14 = some (sameM ⟨a0, a1, a2, a3, a4, a5, a6, a7, a8, a9, a10, a11, a12, a13, a14⟩ ⟨b0, b1, b2, b3, b4, b5, b6, b7, b8, [], b10, b11, b12, b13, b14⟩) := by
  cases a9 with
  | nil => exact msame_r (by simpa using hn) (by simp)
  | cons x r =>
    unfold F15 sameM
    have e : ine (ofN (x :: r).length) (ofN ([] : List Int).length) = true := by simp [ine, ofN]; omega
    rw [e, cond_true]
    simp
theorem has_rl (n : Nat) (a0 : Int) (a1 : Int) (a2 : Int) (a3 : Int) (a4 : Int) (a5 : Bool) (a6 : Bool) (a7 : Int) (a8 : Int) (a9 : List Int) (a10 : ByteArray) (a11 : Int) (a12 : Int) (a13 : Bool) (a14 : Int) (h : a9.length ≤ 9223372036854775807) : F41 n a0 a1 a2 a3 a4 a5 a6 a7 a8 a9 a10 a11 a12 a13 a14 = some (hasM ⟨a0, a1, a2, a3, a4, a5, a6, a7, a8, a9, a10, a11, a12, a13, a14⟩) := by
  have hf : 5000000000 < FUEL := by unfold FUEL; omega
  unfold F41 hasM noIt
  rw [pair_r, list_rl hf a9 a2 h]
  simp only [isp_ref06, Option.bind_some, ieq_dec, steq_dec, beqb_dec, Bool.and_true, lad5, decide_true, Bool.true_and]
  congr 1
  have hp := pair0 a10 a11 a12 (decide (a13 = false))
  grind
theorem bare_rl (n : Nat) (a0 : Int) (a1 : Int) (a2 : Int) (a3 : Int) (a4 : Int) (a5 : Bool) (a6 : Bool) (a7 : Int) (a8 : Int) (a9 : List Int) (a10 : ByteArray) (a11 : Int) (a12 : Int) (a13 : Bool) (a14 : Int) (h : a9.length ≤ 9223372036854775807) : (Option.bind (F40 n a0 a1 a2 a3 a4 a5 a6 a7 a8 a10 a11 a12 a13 a14) fun y =>
    bif y.q0 then (Option.bind (F15 FUEL y.q1 y.q2 y.q3 y.q4 y.q5 y.q6 y.q7 y.q8 y.q9 a9 y.q10 y.q11 y.q12 y.q13 y.q14 a0 a1 a2 a3 0 false false 0 0 [] ByteArray.empty 0 0 false 0) fun z => bif z then (Option.bind (F41 FUEL a0 a1 a2 a3 a4 a5 a6 a7 a8 a9 a10 a11 a12 a13 a14) fun u => some u) else some false)
    else (Option.bind (F15 FUEL y.q1 y.q2 y.q3 y.q4 y.q5 y.q6 y.q7 y.q8 y.q9 [] y.q10 y.q11 y.q12 y.q13 y.q14 a0 a1 a2 a3 0 false false 0 0 [] ByteArray.empty 0 0 false 0) fun z => bif z then (Option.bind (F41 FUEL a0 a1 a2 a3 a4 a5 a6 a7 a8 a9 a10 a11 a12 a13 a14) fun u => some u) else some false))
    = some (restM ⟨a0, a1, a2, a3, a4, a5, a6, a7, a8, a9, a10, a11, a12, a13, a14⟩ && hasM ⟨a0, a1, a2, a3, a4, a5, a6, a7, a8, a9, a10, a11, a12, a13, a14⟩) := by
  have hf := fuel_big
  rw [has_rl FUEL a0 a1 a2 a3 a4 a5 a6 a7 a8 a9 a10 a11 a12 a13 a14 h]
  unfold F40
  generalize hasM ⟨a0, a1, a2, a3, a4, a5, a6, a7, a8, a9, a10, a11, a12, a13, a14⟩ = hm
  simp only [ieq_dec]
  by_cases k4 : a0 = 4
  · subst k4
    simp only [decide_true, cond_true, Option.bind_some]
    rw [msame_r0 (by omega)]
    simp only [Option.bind_some, Option.some.injEq, lad1, sameM, restM, noIt]
    grind
  by_cases k5 : a0 = 5
  · subst k5
    simp only [decide_true, cond_true, cond_false, decide_false, Option.bind_some, k4]
    rw [msame_r0 (by omega)]
    simp only [Option.bind_some, Option.some.injEq, lad1, sameM, restM, noIt]
    grind
  by_cases k6 : a0 = 6
  · subst k6
    simp only [decide_true, cond_true, cond_false, decide_false, Option.bind_some, k4, k5]
    rw [msame_r0 (by omega)]
    simp only [Option.bind_some, Option.some.injEq, lad1, sameM, restM, noIt]
    grind
  by_cases k7 : a0 = 7
  · subst k7
    simp only [decide_true, cond_true, cond_false, decide_false, Option.bind_some, k4, k5, k6]
    rw [msame_r (by simp; omega) (by simp)]
    simp only [Option.bind_some, Option.some.injEq, lad1, sameM, restM, noIt]
    grind
  by_cases k10 : a0 = 10
  · subst k10
    simp only [decide_true, cond_true, cond_false, decide_false, Option.bind_some, k4, k5, k6, k7]
    rw [msame_r0 (by omega)]
    simp only [Option.bind_some, Option.some.injEq, lad1, sameM, restM, noIt]
    grind
  by_cases k11 : a0 = 11
  · subst k11
    simp only [decide_true, cond_true, cond_false, decide_false, Option.bind_some, k4, k5, k6, k7, k10]
    rw [msame_r0 (by omega)]
    simp only [Option.bind_some, Option.some.injEq, lad1, sameM, restM, noIt]
    grind
  by_cases k12 : a0 = 12
  · subst k12
    simp only [decide_true, cond_true, cond_false, decide_false, Option.bind_some, k4, k5, k6, k7, k10, k11]
    rw [msame_r0 (by omega)]
    simp only [Option.bind_some, Option.some.injEq, lad1, sameM, restM, noIt]
    grind
  simp only [cond_true, cond_false, decide_false, Option.bind_some, k4, k5, k6, k7, k10, k11, k12]
  rw [msame_r0 (by omega)]
  simp only [Option.bind_some, Option.some.injEq, lad1, sameM, restM, noIt]
  grind
theorem mright_rl (n : Nat) (a0 : Int) (a1 : Int) (a2 : Int) (a3 : Int) (a4 : Int) (a5 : Bool) (a6 : Bool) (a7 : Int) (a8 : Int) (a9 : List Int) (a10 : ByteArray) (a11 : Int) (a12 : Int) (a13 : Bool) (a14 : Int) (h : a9.length ≤ 9223372036854775807) : F25 n a0 a1 a2 a3 a4 a5 a6 a7 a8 a9 a10 a11 a12 a13 a14 = some (rightM ⟨a0, a1, a2, a3, a4, a5, a6, a7, a8, a9, a10, a11, a12, a13, a14⟩) := by
  unfold F25
  simp only [isp_ref06, Option.bind_some]
  unfold rightM
  by_cases hk1 : a0 < 1
  · rw [show ilt a0 1 = true from decide_eq_true hk1]
    simp only [cond_true]
    rw [decide_eq_false (by omega : ¬ 1 ≤ a0)]; rfl
  rw [show ilt a0 1 = false from decide_eq_false hk1, cond_false]
  by_cases hk2 : 13 ≤ a0
  · rw [show ige a0 13 = true from decide_eq_true hk2]
    simp only [cond_true]
    rw [decide_eq_false (by omega : ¬ a0 < 13), Bool.and_false]; rfl
  rw [show ige a0 13 = false from decide_eq_false hk2, cond_false, decide_eq_true (by omega : 1 ≤ a0), decide_eq_true (by omega : a0 < 13)]
  cases h2 : isP a2
  · simp
  cases h3 : isP a3
  · simp
  rw [asker_r, bare_rl FUEL a0 a1 a2 a3 a4 a5 a6 a7 a8 a9 a10 a11 a12 a13 a14 h]
  simp only [Option.bind_some]
  rw [iscall_r (asker_place h2 h3)]
  simp only [ieq_dec, lad2, Bool.not_true, cond_false, Bool.true_and]
end Go.Proofs.Ytcbhmedknbiffaa
