/-
  In plain words: the laws of chapter 10.
-/
import Derived.Test.YtcbhmedknbiffaaDoorPM
namespace Go.Proofs.YtcbhmedknbiffaaDoor
open Go Go.RowKit

/-! ### Lists of any length that may be told. -/
theorem pigeon : ∀ (N : Nat) (p : List Int), p.Nodup → (∀ x ∈ p, 0 ≤ x ∧ x < N) → p.length ≤ N
  | 0, p, _, h => by
    cases p with
    | nil => simp
    | cons x r => have := h x (by simp); omega
  | N + 1, p, hn, h => by
    have h1 := pigeon N (p.filter fun x => decide (x ≠ (N : Int))) (hn.filter _) (fun x hx => by
      obtain ⟨h2, h3⟩ := List.mem_filter.1 hx
      have := h x h2
      have : x ≠ (N : Int) := by simpa using h3
      omega)
    have h2 : p.length ≤ (p.filter fun x => decide (x ≠ (N : Int))).length + 1 := by
      clear h h1
      induction p with
      | nil => simp
      | cons x r ih =>
        rw [List.nodup_cons] at hn
        rw [List.filter_cons]
        by_cases hx : x = (N : Int)
        · have : (r.filter fun x => decide (x ≠ (N : Int))) = r := List.filter_eq_self.2 fun y hy => by
            have : y ≠ (N : Int) := fun e => hn.1 (by rw [hx, ← e]; exact hy)
            simpa using this
          rw [this]
          simp [hx]
        · have := ih hn.2
          simp [hx] at this ⊢
          omega
    omega
theorem list_l1 (f x : Int) (L : List Int) (p s : List Int) (hL : L = p ++ x :: s) (hb : p.length < 70000) :
    ∀ (r q : List Int) (n : Nat), p = q ++ r → r.length < n → F60_c1 n L f (ofN p.length) (ofN q.length) = if x ∈ r then some false else F60_c0 (n - r.length - 1) L f (ofN (p ++ [x]).length)
  | _, _, 0, _, h => by omega
  | [], q, n + 1, hp, h => by
    rw [List.append_nil] at hp
    subst hp
    simp only [F60_c1, lt_out, cond_false]
    rw [add_in (x := x) (by omega)]
    simp
  | y :: r, q, n + 1, hp, h => by
    simp only [List.length_cons] at h
    have h1 := list_l1 f x L p s hL hb r (q ++ [y]) n (by rw [hp, in_eq]) (by omega)
    have e1 : ilt (ofN q.length) (ofN p.length) = true := by rw [hp]; exact lt_in
    have e2 : L = q ++ y :: (r ++ x :: s) := by rw [hL, hp]; simp
    have e3 : inb (ofN q.length) L.length = true := by rw [e2]; exact inb_in
    have e4 : inb (ofN p.length) L.length = true := by rw [hL]; exact inb_in
    have e5 : L.getD (ofN q.length).toNat 0 = y := by rw [e2]; exact get_in
    have e6 : L.getD (ofN p.length).toNat 0 = x := by rw [hL]; exact get_in
    have hq : q.length < 70000 := by rw [hp] at hb; simp at hb; omega
    simp only [F60_c1, e1, e3, e4, e5, e6, cond_true]
    rw [add_in (x := y) (by omega), h1, ieq_dec]
    by_cases hy : x = y
    · simp [hy]
    · have : y ≠ x := fun e => hy e.symm
      simp [hy, this]
theorem list_lc (f : Int) (r : List Int) : ∀ (p : List Int) (n k : Nat), p.Nodup → (∀ x ∈ p, isP x = true) → k + p.length = 65537 → k * 70000 + 1 < n → (p ++ r).length ≤ 9223372036854775807 → F60_c0 n (p ++ r) f (ofN p.length) = some (lstB f p r && decide ((p ++ r).length ≤ 3)) := by
  induction r with
  | nil =>
    intro p n k _ _ _ h _
    obtain ⟨n, rfl⟩ : ∃ m, n = m + 1 := ⟨n - 1, by omega⟩
    simp only [F60_c0, List.append_nil, lt_out, cond_false, lstB, Bool.true_and]
    congr 1
    unfold ile ofN; apply decide_eq_decide.2; omega
  | cons x r ihr =>
    intro p n k hn hp hk h hb
    obtain ⟨n, rfl⟩ : ∃ m, n = m + 1 := ⟨n - 1, by omega⟩
    have hpl : p.length ≤ 65536 := pigeon 65536 p hn fun y hy => by have := isP_iff.1 (hp y hy); omega
    obtain ⟨k, rfl⟩ : ∃ m, k = m + 1 := ⟨k - 1, by omega⟩
    rw [Nat.add_mul, Nat.one_mul] at h
    have hfu : k * 70000 + 1 < n - p.length - 1 := by
      generalize k * 70000 = z at h ⊢
      omega
    have hfp : p.length < n := by
      generalize k * 70000 = z at h
      omega
    simp only [F60_c0, lt_in, inb_in, get_in, cond_true, isp_ref06, Option.bind_some]
    have h0 : (0 : Int) = ofN ([] : List Int).length := rfl
    rw [h0, list_l1 f x (p ++ x :: r) p r rfl (by omega) p [] n rfl hfp, ieq_dec, lstB, decide_not]
    cases hx : isP x
    · rfl
    · by_cases hf : x = f
      · rw [decide_eq_true hf]; rfl
      · rw [decide_eq_false hf]
        by_cases hxp : x ∈ p
        · rw [if_pos hxp, decide_eq_true hxp]; rfl
        · have ih := ihr (p ++ [x]) (n - p.length - 1) k (by
            rw [List.nodup_append]
            exact ⟨hn, by simp, fun a ha b hb e => hxp (by rw [← List.mem_singleton.1 hb, ← e]; exact ha)⟩) (fun y hy => by
            rcases List.mem_append.1 hy with hy | hy
            · exact hp y hy
            · rw [List.mem_singleton.1 hy]; exact hx) (by rw [List.length_append, List.length_singleton]; omega) hfu (by rw [← in_eq]; exact hb)
          rw [← in_eq] at ih
          rw [if_neg hxp, ih, decide_eq_false hxp]; rfl
theorem list_rl0 (n k : Nat) (hk : k = 65537) (hn : k * 70000 + 1 < n) (l : List Int) (f : Int) (h : l.length ≤ 9223372036854775807) : F60 n l f = some (lstB f [] l && decide (l.length ≤ 3)) :=
  list_lc f l [] n k List.nodup_nil (fun x hx => by cases hx) hk hn h
theorem list_rl {n : Nat} (hn : 5000000000 < n) (l : List Int) (f : Int) (h : l.length ≤ 9223372036854775807) : F60 n l f = some (lstB f [] l && decide (l.length ≤ 3)) :=
  list_rl0 n (65536 + 1) rfl (by omega) l f h
theorem msame_r0 {n : Nat} {a0 : Int} {a1 : Int} {a2 : Int} {a3 : Int} {a4 : Int} {a5 : Bool} {a6 : Bool} {a7 : Int} {a8 : Int} {a9 : List Int} {a10 : ByteArray} {a11 : Int} {a12 : Int} {a13 : Bool} {a14 : Int} {b0 b1 b2 b3 b4 : Int} {b5 b6 : Bool} {b7 b8 : Int} {b10 : ByteArray} {b11 b12 : Int} {b13 : Bool} {b14 : Int} (hn : 0 < n) : F22 n a0 a1 a2 a3 a4 a5 a6 a7 a8 a9 a10 a11 a12 a13 a14 b0 b1 b2 b3 b4 b5 b6 b7 b8 [] b10 b11 b12 b13 b14 = some (sameM ⟨a0, a1, a2, a3, a4, a5, a6, a7, a8, a9, a10, a11, a12, a13, a14⟩ ⟨b0, b1, b2, b3, b4, b5, b6, b7, b8, [], b10, b11, b12, b13, b14⟩) := by
  cases a9 with
  | nil => exact msame_r (by simpa using hn) (by simp)
  | cons x r =>
    unfold F22 sameM
    have e : ine (ofN (x :: r).length) (ofN ([] : List Int).length) = true := by simp [ine, ofN]; omega
    rw [e, cond_true]
    simp
theorem has_rl (n : Nat) (a0 : Int) (a1 : Int) (a2 : Int) (a3 : Int) (a4 : Int) (a5 : Bool) (a6 : Bool) (a7 : Int) (a8 : Int) (a9 : List Int) (a10 : ByteArray) (a11 : Int) (a12 : Int) (a13 : Bool) (a14 : Int) (h : a9.length ≤ 9223372036854775807) : F36 n a0 a1 a2 a3 a4 a5 a6 a7 a8 a9 a10 a11 a12 a13 a14 = some (hasM ⟨a0, a1, a2, a3, a4, a5, a6, a7, a8, a9, a10, a11, a12, a13, a14⟩) := by
  have hf : 5000000000 < FUEL := by unfold FUEL; omega
  unfold F36 hasM noIt
  rw [pair_r, list_rl hf a9 a2 h]
  simp only [isp_ref06, Option.bind_some, ieq_dec, steq_dec, beqb_dec, Bool.and_true, lad5, decide_true, Bool.true_and]
  congr 1
  have hp := pair0 a10 a11 a12 (decide (a13 = false))
  grind
theorem bare_rl (n : Nat) (a0 : Int) (a1 : Int) (a2 : Int) (a3 : Int) (a4 : Int) (a5 : Bool) (a6 : Bool) (a7 : Int) (a8 : Int) (a9 : List Int) (a10 : ByteArray) (a11 : Int) (a12 : Int) (a13 : Bool) (a14 : Int) (h : a9.length ≤ 9223372036854775807) : (Option.bind (F35 n a0 a1 a2 a3 a4 a5 a6 a7 a8 a10 a11 a12 a13 a14) fun y =>
    bif y.q0 then (Option.bind (F22 FUEL y.q1 y.q2 y.q3 y.q4 y.q5 y.q6 y.q7 y.q8 y.q9 a9 y.q10 y.q11 y.q12 y.q13 y.q14 a0 a1 a2 a3 0 false false 0 0 [] ByteArray.empty 0 0 false 0) fun z => bif z then (Option.bind (F36 FUEL a0 a1 a2 a3 a4 a5 a6 a7 a8 a9 a10 a11 a12 a13 a14) fun u => some u) else some false)
    else (Option.bind (F22 FUEL y.q1 y.q2 y.q3 y.q4 y.q5 y.q6 y.q7 y.q8 y.q9 [] y.q10 y.q11 y.q12 y.q13 y.q14 a0 a1 a2 a3 0 false false 0 0 [] ByteArray.empty 0 0 false 0) fun z => bif z then (Option.bind (F36 FUEL a0 a1 a2 a3 a4 a5 a6 a7 a8 a9 a10 a11 a12 a13 a14) fun u => some u) else some false))
    = some (restM ⟨a0, a1, a2, a3, a4, a5, a6, a7, a8, a9, a10, a11, a12, a13, a14⟩ && hasM ⟨a0, a1, a2, a3, a4, a5, a6, a7, a8, a9, a10, a11, a12, a13, a14⟩) := by
  have hf := fuel_big
  rw [has_rl FUEL a0 a1 a2 a3 a4 a5 a6 a7 a8 a9 a10 a11 a12 a13 a14 h]
  unfold F35
  generalize hasM ⟨a0, a1, a2, a3, a4, a5, a6, a7, a8, a9, a10, a11, a12, a13, a14⟩ = hm
  simp only [ieq_dec]
  by_cases k4 : a0 = 4
  · subst k4
    simp only [decide_true, cond_true, Option.bind_some]
    rw [msame_r0 (by omega)]
    simp only [Option.bind_some, Option.some.injEq, lad1, sameM, restM, noIt]
    grind
  by_cases k5 : a0 = 5
  · subst k5
    simp only [decide_true, cond_true, cond_false, decide_false, Option.bind_some, k4]
    rw [msame_r0 (by omega)]
    simp only [Option.bind_some, Option.some.injEq, lad1, sameM, restM, noIt]
    grind
  by_cases k6 : a0 = 6
  · subst k6
    simp only [decide_true, cond_true, cond_false, decide_false, Option.bind_some, k4, k5]
    rw [msame_r0 (by omega)]
    simp only [Option.bind_some, Option.some.injEq, lad1, sameM, restM, noIt]
    grind
  by_cases k7 : a0 = 7
  · subst k7
    simp only [decide_true, cond_true, cond_false, decide_false, Option.bind_some, k4, k5, k6]
    rw [msame_r (by simp; omega) (by simp)]
    simp only [Option.bind_some, Option.some.injEq, lad1, sameM, restM, noIt]
    grind
  by_cases k10 : a0 = 10
  · subst k10
    simp only [decide_true, cond_true, cond_false, decide_false, Option.bind_some, k4, k5, k6, k7]
    rw [msame_r0 (by omega)]
    simp only [Option.bind_some, Option.some.injEq, lad1, sameM, restM, noIt]
    grind
  by_cases k11 : a0 = 11
  · subst k11
    simp only [decide_true, cond_true, cond_false, decide_false, Option.bind_some, k4, k5, k6, k7, k10]
    rw [msame_r0 (by omega)]
    simp only [Option.bind_some, Option.some.injEq, lad1, sameM, restM, noIt]
    grind
  by_cases k12 : a0 = 12
  · subst k12
    simp only [decide_true, cond_true, cond_false, decide_false, Option.bind_some, k4, k5, k6, k7, k10, k11]
    rw [msame_r0 (by omega)]
    simp only [Option.bind_some, Option.some.injEq, lad1, sameM, restM, noIt]
    grind
  simp only [cond_true, cond_false, decide_false, Option.bind_some, k4, k5, k6, k7, k10, k11, k12]
  rw [msame_r0 (by omega)]
  simp only [Option.bind_some, Option.some.injEq, lad1, sameM, restM, noIt]
  grind
theorem mright_rl (n : Nat) (a0 : Int) (a1 : Int) (a2 : Int) (a3 : Int) (a4 : Int) (a5 : Bool) (a6 : Bool) (a7 : Int) (a8 : Int) (a9 : List Int) (a10 : ByteArray) (a11 : Int) (a12 : Int) (a13 : Bool) (a14 : Int) (h : a9.length ≤ 9223372036854775807) : F11 n a0 a1 a2 a3 a4 a5 a6 a7 a8 a9 a10 a11 a12 a13 a14 = some (rightM ⟨a0, a1, a2, a3, a4, a5, a6, a7, a8, a9, a10, a11, a12, a13, a14⟩) := by
  unfold F11
  simp only [isp_ref06, Option.bind_some]
  unfold rightM
  by_cases hk1 : a0 < 1
  · rw [show ilt a0 1 = true from decide_eq_true hk1]
    simp only [cond_true]
    rw [decide_eq_false (by omega : ¬ 1 ≤ a0)]; rfl
  rw [show ilt a0 1 = false from decide_eq_false hk1, cond_false]
  by_cases hk2 : 13 ≤ a0
  · rw [show ige a0 13 = true from decide_eq_true hk2]
    simp only [cond_true]
    rw [decide_eq_false (by omega : ¬ a0 < 13), Bool.and_false]; rfl
  rw [show ige a0 13 = false from decide_eq_false hk2, cond_false, decide_eq_true (by omega : 1 ≤ a0), decide_eq_true (by omega : a0 < 13)]
  cases h2 : isP a2
  · simp
  cases h3 : isP a3
  · simp
  rw [asker_r, bare_rl FUEL a0 a1 a2 a3 a4 a5 a6 a7 a8 a9 a10 a11 a12 a13 a14 h]
  simp only [Option.bind_some]
  rw [iscall_r (asker_place h2 h3)]
  simp only [ieq_dec, lad2, Bool.not_true, cond_false, Bool.true_and]

abbrev CLT := Int × Int × Int × Int × Int × Int × Bool × Bool × Int × Int × (List Int) × ByteArray × Int × Int × Bool × Int × Int × Int × Int × Int
abbrev MT := Int × Int × Int × Int × Int × Bool × Bool × Int × Int × (List Int) × ByteArray × Int × Int × Bool × Int
theorem lad6 (b y : Bool) : (bif !b then some false else some y) = some (b && y) := by cases b <;> rfl
theorem bcf (b y : Bool) : (bif b then y else false) = (b && y) := by cases b <;> rfl
theorem bct (b y : Bool) : (bif b then false else y) = (!b && y) := by cases b <;> rfl
/-- A call's message. -/
def cm (x : CLT) : MW := ⟨x.2.1, x.2.2.1, x.2.2.2.1, x.2.2.2.2.1, x.2.2.2.2.2.1, x.2.2.2.2.2.2.1, x.2.2.2.2.2.2.2.1, x.2.2.2.2.2.2.2.2.1, x.2.2.2.2.2.2.2.2.2.1, x.2.2.2.2.2.2.2.2.2.2.1, x.2.2.2.2.2.2.2.2.2.2.2.1, x.2.2.2.2.2.2.2.2.2.2.2.2.1, x.2.2.2.2.2.2.2.2.2.2.2.2.2.1, x.2.2.2.2.2.2.2.2.2.2.2.2.2.2.1, x.2.2.2.2.2.2.2.2.2.2.2.2.2.2.2.1⟩
def cmT (x : CLT) : MT := (x.2.1, x.2.2.1, x.2.2.2.1, x.2.2.2.2.1, x.2.2.2.2.2.1, x.2.2.2.2.2.2.1, x.2.2.2.2.2.2.2.1, x.2.2.2.2.2.2.2.2.1, x.2.2.2.2.2.2.2.2.2.1, x.2.2.2.2.2.2.2.2.2.2.1, x.2.2.2.2.2.2.2.2.2.2.2.1, x.2.2.2.2.2.2.2.2.2.2.2.2.1, x.2.2.2.2.2.2.2.2.2.2.2.2.2.1, x.2.2.2.2.2.2.2.2.2.2.2.2.2.2.1, x.2.2.2.2.2.2.2.2.2.2.2.2.2.2.2.1)
def mkC (x : CLT) : Si6b2i2lsi2bi5 := ⟨x.1, x.2.1, x.2.2.1, x.2.2.2.1, x.2.2.2.2.1, x.2.2.2.2.2.1, x.2.2.2.2.2.2.1, x.2.2.2.2.2.2.2.1, x.2.2.2.2.2.2.2.2.1, x.2.2.2.2.2.2.2.2.2.1, x.2.2.2.2.2.2.2.2.2.2.1, x.2.2.2.2.2.2.2.2.2.2.2.1, x.2.2.2.2.2.2.2.2.2.2.2.2.1, x.2.2.2.2.2.2.2.2.2.2.2.2.2.1, x.2.2.2.2.2.2.2.2.2.2.2.2.2.2.1, x.2.2.2.2.2.2.2.2.2.2.2.2.2.2.2.1, x.2.2.2.2.2.2.2.2.2.2.2.2.2.2.2.2.1, x.2.2.2.2.2.2.2.2.2.2.2.2.2.2.2.2.2.1, x.2.2.2.2.2.2.2.2.2.2.2.2.2.2.2.2.2.2.1, x.2.2.2.2.2.2.2.2.2.2.2.2.2.2.2.2.2.2.2⟩
def cwhy (x : CLT) : Int := x.2.2.2.2.2.2.2.2.2.2.2.2.2.2.2.2.1
def csent (x : CLT) : Int := x.2.2.2.2.2.2.2.2.2.2.2.2.2.2.2.2.2.2.1
def ctries (x : CLT) : Int := x.2.2.2.2.2.2.2.2.2.2.2.2.2.2.2.2.2.2.2
abbrev zC : CLT := (0, 0, 0, 0, 0, 0, false, false, 0, 0, [], ByteArray.empty, 0, 0, false, 0, 0, 0, 0, 0)
def isT (t : Int) : Bool := decide (0 ≤ t) && decide (t ≤ 1099511627776)
theorem isT_of (t : Int) : (bif ige t 0 then some (ile t 1099511627776) else some false) = some (isT t) := by rw [lad1]; rfl
theorem capc {m : Nat} (h : m < 1000) : (inn 0 && ile 0 (ofN m) && decide (ofN m * 176 ≤ 281474976710656) && decide (ofN m ≤ 9223372036854775807)) = true :=
  Bool.and_eq_true_iff.2 ⟨Bool.and_eq_true_iff.2 ⟨Bool.and_eq_true_iff.2 ⟨decide_eq_true (by decide), decide_eq_true (by simp only [ofN]; omega)⟩, decide_eq_true (by simp only [ofN]; omega)⟩, decide_eq_true (by simp only [ofN]; omega)⟩
/-- Calls whose messages' lists are short. -/
def shortC (l : List CLT) : Prop := ∀ x ∈ l, (cm x).l.length < 1000
theorem shortC_at {p r : List CLT} {x : CLT} (h : shortC (p ++ x :: r)) : (cm x).l.length < 1000 := h x (by simp)

theorem istime_p (n : Nat) (t : Int) : F29 n t = some (isT t) := isT_of t
theorem tick_r (n : Nat) (t : Int) : F45 n t = some (isT t) := isT_of t

/-! ### In memory of its own. -/
theorem ownc_p (n : Nat) (x : CLT) (h : (cm x).l.length < 1000) : F64 n x.1 x.2.1 x.2.2.1 x.2.2.2.1 x.2.2.2.2.1 x.2.2.2.2.2.1 x.2.2.2.2.2.2.1 x.2.2.2.2.2.2.2.1 x.2.2.2.2.2.2.2.2.1 x.2.2.2.2.2.2.2.2.2.1 x.2.2.2.2.2.2.2.2.2.2.1 x.2.2.2.2.2.2.2.2.2.2.2.1 x.2.2.2.2.2.2.2.2.2.2.2.2.1 x.2.2.2.2.2.2.2.2.2.2.2.2.2.1 x.2.2.2.2.2.2.2.2.2.2.2.2.2.2.1 x.2.2.2.2.2.2.2.2.2.2.2.2.2.2.2.1 x.2.2.2.2.2.2.2.2.2.2.2.2.2.2.2.2.1 x.2.2.2.2.2.2.2.2.2.2.2.2.2.2.2.2.2.1 x.2.2.2.2.2.2.2.2.2.2.2.2.2.2.2.2.2.2.1 x.2.2.2.2.2.2.2.2.2.2.2.2.2.2.2.2.2.2.2 = some (mkC x) := by
  unfold F64
  rw [mown_p FUEL x.2.1 x.2.2.1 x.2.2.2.1 x.2.2.2.2.1 x.2.2.2.2.2.1 x.2.2.2.2.2.2.1 x.2.2.2.2.2.2.2.1 x.2.2.2.2.2.2.2.2.1 x.2.2.2.2.2.2.2.2.2.1 x.2.2.2.2.2.2.2.2.2.2.1 x.2.2.2.2.2.2.2.2.2.2.2.1 x.2.2.2.2.2.2.2.2.2.2.2.2.1 x.2.2.2.2.2.2.2.2.2.2.2.2.2.1 x.2.2.2.2.2.2.2.2.2.2.2.2.2.2.1 x.2.2.2.2.2.2.2.2.2.2.2.2.2.2.2.1 h]; rfl
theorem cown_c (id many : Int) : ∀ (r p : List CLT) (n : Nat) (a : List CLT), r.length < n → (p ++ r).length < 1000 → a.length + r.length < 1000 → shortC (p ++ r) → F27_c0 n (p ++ r) (ofN (p ++ r).length) (ofN p.length) 0 0 id many 0 0 a = some (id, many, a ++ r)
  | _, _, 0, _, h, _, _, _ => by omega
  | [], p, n + 1, a, _, _, _, _ => by simp only [F27_c0, List.append_nil, lt_out, cond_false]
  | x :: r, p, n + 1, a, h, hb, ha, hs => by
    simp only [F27_c0, lt_in, inb_in, get_in, cond_true]
    simp only [List.length_append, List.length_cons] at h hb ha
    rw [ownc_p FUEL x (shortC_at hs)]
    simp only [Option.bind_some, mkC]
    rw [room_all (by simp; omega) (by decide), cond_true, add_in (x := x) (by omega)]
    have h1 := cown_c id many r (p ++ [x]) n (a ++ [x]) (by omega) (by simp; omega) (by simp; omega) (by rw [← in_eq]; exact hs)
    rw [← in_eq] at h1
    simpa using h1
theorem cown_p {n : Nat} (hn : 2000 < n) (id many : Int) (l : List CLT) (h : l.length < 1000) (hs : shortC l) : F27 n id many l = some (id, many, l) := by
  unfold F27
  rw [capc h, cond_true]
  have := cown_c id many l [] n [] (by omega) (by simpa using h) (by simpa using h) (by simpa using hs)
  simpa [ofN] using this

/-! ### The same? -/
def cqC (x y : CLT) : Bool := decide (x.1 = y.1) && (sameM (cm x) (cm y) && (decide (cwhy x = cwhy y) && (decide (x.2.2.2.2.2.2.2.2.2.2.2.2.2.2.2.2.2.1 = y.2.2.2.2.2.2.2.2.2.2.2.2.2.2.2.2.2.1) && (decide (csent x = csent y) && decide (ctries x = ctries y)))))
theorem cqC_iff (x y : CLT) : cqC x y = true ↔ x = y := by
  obtain ⟨x0, x1, x2, x3, x4, x5, x6, x7, x8, x9, x10, x11, x12, x13, x14, x15, x16, x17, x18, x19⟩ := x
  obtain ⟨y0, y1, y2, y3, y4, y5, y6, y7, y8, y9, y10, y11, y12, y13, y14, y15, y16, y17, y18, y19⟩ := y
  unfold cqC
  simp only [Bool.and_eq_true, sameM_iff, cwhy, csent, ctries, cm, MW.mk.injEq, Prod.mk.injEq, decide_eq_true_eq]
  grind
theorem cqC_self (x : CLT) : cqC x x = true := (cqC_iff x x).2 rfl
def leqC : List CLT → List CLT → Bool
  | [], [] => true
  | x :: r, y :: s => cqC x y && leqC r s
  | _, _ => false
theorem leqC_iff : ∀ (l m : List CLT), leqC l m = true ↔ l = m
  | [], [] => by simp [leqC]
  | [], _ :: _ => by simp [leqC]
  | _ :: _, [] => by simp [leqC]
  | x :: r, y :: s => by rw [leqC, Bool.and_eq_true, cqC_iff, leqC_iff r s, List.cons.injEq]
theorem leqC_self (l : List CLT) : leqC l l = true := (leqC_iff l l).2 rfl
theorem leqC_len : ∀ {l m : List CLT}, l.length ≠ m.length → leqC l m = false := fun {l m} h => by
  cases h2 : leqC l m
  · rfl
  · exact absurd (congrArg List.length ((leqC_iff l m).1 h2)) h
theorem call_rs (n : Nat) (x y : CLT) (h : (cm x).l.length < 1000) : F15 n x.1 x.2.1 x.2.2.1 x.2.2.2.1 x.2.2.2.2.1 x.2.2.2.2.2.1 x.2.2.2.2.2.2.1 x.2.2.2.2.2.2.2.1 x.2.2.2.2.2.2.2.2.1 x.2.2.2.2.2.2.2.2.2.1 x.2.2.2.2.2.2.2.2.2.2.1 x.2.2.2.2.2.2.2.2.2.2.2.1 x.2.2.2.2.2.2.2.2.2.2.2.2.1 x.2.2.2.2.2.2.2.2.2.2.2.2.2.1 x.2.2.2.2.2.2.2.2.2.2.2.2.2.2.1 x.2.2.2.2.2.2.2.2.2.2.2.2.2.2.2.1 x.2.2.2.2.2.2.2.2.2.2.2.2.2.2.2.2.1 x.2.2.2.2.2.2.2.2.2.2.2.2.2.2.2.2.2.1 x.2.2.2.2.2.2.2.2.2.2.2.2.2.2.2.2.2.2.1 x.2.2.2.2.2.2.2.2.2.2.2.2.2.2.2.2.2.2.2 y.1 y.2.1 y.2.2.1 y.2.2.2.1 y.2.2.2.2.1 y.2.2.2.2.2.1 y.2.2.2.2.2.2.1 y.2.2.2.2.2.2.2.1 y.2.2.2.2.2.2.2.2.1 y.2.2.2.2.2.2.2.2.2.1 y.2.2.2.2.2.2.2.2.2.2.1 y.2.2.2.2.2.2.2.2.2.2.2.1 y.2.2.2.2.2.2.2.2.2.2.2.2.1 y.2.2.2.2.2.2.2.2.2.2.2.2.2.1 y.2.2.2.2.2.2.2.2.2.2.2.2.2.2.1 y.2.2.2.2.2.2.2.2.2.2.2.2.2.2.2.1 y.2.2.2.2.2.2.2.2.2.2.2.2.2.2.2.2.1 y.2.2.2.2.2.2.2.2.2.2.2.2.2.2.2.2.2.1 y.2.2.2.2.2.2.2.2.2.2.2.2.2.2.2.2.2.2.1 y.2.2.2.2.2.2.2.2.2.2.2.2.2.2.2.2.2.2.2 = some (cqC x y) := by
  have hf := fuel_big
  unfold F15 cqC
  have hs : F22 FUEL x.2.1 x.2.2.1 x.2.2.2.1 x.2.2.2.2.1 x.2.2.2.2.2.1 x.2.2.2.2.2.2.1 x.2.2.2.2.2.2.2.1 x.2.2.2.2.2.2.2.2.1 x.2.2.2.2.2.2.2.2.2.1 x.2.2.2.2.2.2.2.2.2.2.1 x.2.2.2.2.2.2.2.2.2.2.2.1 x.2.2.2.2.2.2.2.2.2.2.2.2.1 x.2.2.2.2.2.2.2.2.2.2.2.2.2.1 x.2.2.2.2.2.2.2.2.2.2.2.2.2.2.1 x.2.2.2.2.2.2.2.2.2.2.2.2.2.2.2.1 y.2.1 y.2.2.1 y.2.2.2.1 y.2.2.2.2.1 y.2.2.2.2.2.1 y.2.2.2.2.2.2.1 y.2.2.2.2.2.2.2.1 y.2.2.2.2.2.2.2.2.1 y.2.2.2.2.2.2.2.2.2.1 y.2.2.2.2.2.2.2.2.2.2.1 y.2.2.2.2.2.2.2.2.2.2.2.1 y.2.2.2.2.2.2.2.2.2.2.2.2.1 y.2.2.2.2.2.2.2.2.2.2.2.2.2.1 y.2.2.2.2.2.2.2.2.2.2.2.2.2.2.1 y.2.2.2.2.2.2.2.2.2.2.2.2.2.2.2.1 = some (sameM (cm x) (cm y)) := msame_r (show (cm x).l.length < FUEL by omega) (show (cm x).l.length ≤ 9223372036854775807 by omega)
  rw [hs]
  simp only [Option.bind_some, ieq_dec, lad5, bcf]
  rfl
theorem calls_rc (r : List CLT) : ∀ (s p q : List CLT) (n : Nat), r.length < n → p.length = q.length → r.length = s.length → (p ++ r).length < 1000 → shortC (p ++ r) → F19_c0 n (p ++ r) (q ++ s) (ofN p.length) = some (leqC r s) := by
  induction r with
  | nil =>
    intro s p q n h hp hs hb hsh
    obtain ⟨n, rfl⟩ : ∃ m, n = m + 1 := ⟨n - 1, by omega⟩
    cases s with
    | nil => simp only [F19_c0, List.append_nil, lt_out, cond_false]; rfl
    | cons y s => simp at hs
  | cons x r ih =>
    intro s p q n h hp hs hb hsh
    obtain ⟨n, rfl⟩ : ∃ m, n = m + 1 := ⟨n - 1, by omega⟩
    cases s with
    | nil => simp at hs
    | cons y s =>
      have e1 : inb (ofN p.length) (q ++ y :: s).length = true := by rw [hp]; exact inb_in
      have e2 : ∀ d, (q ++ y :: s).getD (ofN p.length).toNat d = y := fun d => by rw [hp]; exact get_in
      simp only [F19_c0, lt_in, inb_in, get_in, cond_true, e1, e2]
      simp only [List.length_append, List.length_cons] at h hb hs
      rw [call_rs FUEL x y (shortC_at hsh), Option.bind_some, add_in (x := x) (by omega)]
      have h1 := ih s (p ++ [x]) (q ++ [y]) n (by omega) (by simp [hp]) (by omega) (by simp; omega) (by rw [← in_eq]; exact hsh)
      rw [← in_eq, ← in_eq] at h1
      rw [h1, leqC, lad6]
theorem calls_rs {n : Nat} (hn : 2000 < n) (l m : List CLT) (h : l.length < 1000) (hs : shortC l) : F19 n l m = some (leqC l m) := by
  unfold F19
  by_cases hl : l.length = m.length
  · have e : ine (ofN l.length) (ofN m.length) = false := by simp [ine, ofN, hl]
    rw [e, cond_false]
    exact calls_rc l m [] [] n (by omega) rfl hl (by simpa using h) (by simpa using hs)
  · have e : ine (ofN l.length) (ofN m.length) = true := by simp [ine, ofN]; omega
    rw [e, cond_true, leqC_len hl]
theorem csame_r (n : Nat) (id many : Int) (l : List CLT) (id' many' : Int) (l' : List CLT) (h : l.length < 1000) (hs : shortC l) : F12 n id many l id' many' l' = some (decide (id = id') && (decide (many = many') && leqC l l')) := by
  have hf := fuel_big
  unfold F12
  rw [calls_rs (by omega) l l' h hs]
  simp only [Option.bind_some, ieq_dec]
  cases decide (id = id')
  · rfl
  · cases decide (many = many') <;> rfl

/-! ### Right. -/
/-- A call of a node. -/
def callC (id many : Int) (x : CLT) : Bool := rightM (cm x) && (askB (cm x).k && (decide ((cm x).f = id) && (decide (x.1 = (cm x).c) && (decide (x.1 ≤ id * 1048576 + many) && (decide (1 ≤ ctries x) && (decide (ctries x ≤ 3) && isT (csent x)))))))
def rcB (id many : Int) : Int → List CLT → Bool
  | _, [] => true
  | p, x :: r => callC id many x && (decide (p < x.1) && rcB id many x.1 r)
def rightC (id many : Int) (l : List CLT) : Bool := isP id && (decide (0 ≤ many) && (decide (many ≤ 1048576) && (decide (l.length ≤ 16) && rcB id many (id * 1048576) l)))
theorem rightM_call {m : MW} (h : rightM m = true) (hk : askB m.k = true) : callB m.f m.c = true := by
  unfold rightM at h
  simp only [Bool.and_eq_true, askerV, hk, if_true] at h
  exact h.2.2.2.2.1
theorem callC_lo {id many : Int} {x : CLT} (h : callC id many x = true) : id * 1048576 < x.1 ∧ x.1 ≤ id * 1048576 + many := by
  unfold callC at h
  simp only [Bool.and_eq_true, decide_eq_true_eq] at h
  obtain ⟨h1, h2, h3, h4, h5, _⟩ := h
  have := rightM_call h1 h2
  unfold callB at this
  simp only [Bool.and_eq_true, decide_eq_true_eq] at this
  rw [h3, ← h4] at this
  exact ⟨this.1, h5⟩
theorem rightM_len {m : MW} (h : rightM m = true) : m.l.length ≤ 3 := by
  unfold rightM at h
  simp only [Bool.and_eq_true] at h
  have h1 := h.2.2.2.2.2.1
  have h2 := h.2.2.2.2.2.2
  by_cases hk : m.k = 7
  · unfold hasM at h2
    rw [hk] at h2
    simp at h2
    exact h2.2.2
  · unfold restM at h1
    simp [hk] at h1
    rw [h1.2.2.1.2]; simp
theorem rcB_all {id many : Int} : ∀ {l : List CLT} {p : Int}, rcB id many p l = true → ∀ x ∈ l, callC id many x = true ∧ p < x.1
  | [], _, _, x, hx => by cases hx
  | y :: r, p, h, x, hx => by
    unfold rcB at h
    simp only [Bool.and_eq_true, decide_eq_true_eq] at h
    rcases List.mem_cons.1 hx with rfl | hx
    · exact ⟨h.1, h.2.1⟩
    · have := rcB_all h.2.2 x hx
      exact ⟨this.1, by omega⟩
theorem rightC_parts {id many : Int} {l : List CLT} (h : rightC id many l = true) : isP id = true ∧ 0 ≤ many ∧ many ≤ 1048576 ∧ l.length ≤ 16 ∧ rcB id many (id * 1048576) l = true := by
  unfold rightC at h
  simpa only [Bool.and_eq_true, decide_eq_true_eq] using h
theorem rightC_short {id many : Int} {l : List CLT} (h : rightC id many l = true) : shortC l := fun x hx => by
  have := (rcB_all (rightC_parts h).2.2.2.2 x hx).1
  unfold callC at this
  simp only [Bool.and_eq_true] at this
  have := rightM_len this.1; omega
theorem iscallc_p (n : Nat) {id many : Int} (hi : isP id = true) (hm : 0 ≤ many ∧ many ≤ 1048576) (l : List CLT) (x : CLT) (h : (cm x).l.length < 1000) : F44 n id many l x.1 x.2.1 x.2.2.1 x.2.2.2.1 x.2.2.2.2.1 x.2.2.2.2.2.1 x.2.2.2.2.2.2.1 x.2.2.2.2.2.2.2.1 x.2.2.2.2.2.2.2.2.1 x.2.2.2.2.2.2.2.2.2.1 x.2.2.2.2.2.2.2.2.2.2.1 x.2.2.2.2.2.2.2.2.2.2.2.1 x.2.2.2.2.2.2.2.2.2.2.2.2.1 x.2.2.2.2.2.2.2.2.2.2.2.2.2.1 x.2.2.2.2.2.2.2.2.2.2.2.2.2.2.1 x.2.2.2.2.2.2.2.2.2.2.2.2.2.2.2.1 x.2.2.2.2.2.2.2.2.2.2.2.2.2.2.2.2.1 x.2.2.2.2.2.2.2.2.2.2.2.2.2.2.2.2.2.1 x.2.2.2.2.2.2.2.2.2.2.2.2.2.2.2.2.2.2.1 x.2.2.2.2.2.2.2.2.2.2.2.2.2.2.2.2.2.2.2 = some (callC id many x) := by
  have hf := fuel_big
  have hP := isP_iff.1 hi
  unfold F44
  rw [call_p (by omega)]
  have e0 : (callV id 1).2 = 0 := by unfold callV; rw [hi]; rfl
  have e1 : (callV id 1).1 = id * 1048576 + 1 := by unfold callV; rw [hi]; rfl
  have e2 : iadd .i64 (id * 1048576 + 1) many = id * 1048576 + 1 + many := by simp only [iadd]; rw [wrap_mid (by omega) (by omega)]
  have hr : F31 FUEL x.2.1 x.2.2.1 x.2.2.2.1 x.2.2.2.2.1 x.2.2.2.2.2.1 x.2.2.2.2.2.2.1 x.2.2.2.2.2.2.2.1 x.2.2.2.2.2.2.2.2.1 x.2.2.2.2.2.2.2.2.2.1 x.2.2.2.2.2.2.2.2.2.2.1 x.2.2.2.2.2.2.2.2.2.2.2.1 x.2.2.2.2.2.2.2.2.2.2.2.2.1 x.2.2.2.2.2.2.2.2.2.2.2.2.2.1 x.2.2.2.2.2.2.2.2.2.2.2.2.2.2.1 x.2.2.2.2.2.2.2.2.2.2.2.2.2.2.2.1 = some (rightM (cm x)) := mright_p (by omega) x.2.1 x.2.2.1 x.2.2.2.1 x.2.2.2.2.1 x.2.2.2.2.2.1 x.2.2.2.2.2.2.1 x.2.2.2.2.2.2.2.1 x.2.2.2.2.2.2.2.2.1 x.2.2.2.2.2.2.2.2.2.1 x.2.2.2.2.2.2.2.2.2.2.1 x.2.2.2.2.2.2.2.2.2.2.2.1 x.2.2.2.2.2.2.2.2.2.2.2.2.1 x.2.2.2.2.2.2.2.2.2.2.2.2.2.1 x.2.2.2.2.2.2.2.2.2.2.2.2.2.2.1 x.2.2.2.2.2.2.2.2.2.2.2.2.2.2.2.1 h
  have ha : F30 FUEL x.2.1 x.2.2.1 x.2.2.2.1 x.2.2.2.2.1 x.2.2.2.2.2.1 x.2.2.2.2.2.2.1 x.2.2.2.2.2.2.2.1 x.2.2.2.2.2.2.2.2.1 x.2.2.2.2.2.2.2.2.2.1 x.2.2.2.2.2.2.2.2.2.2.1 x.2.2.2.2.2.2.2.2.2.2.2.1 x.2.2.2.2.2.2.2.2.2.2.2.2.1 x.2.2.2.2.2.2.2.2.2.2.2.2.2.1 x.2.2.2.2.2.2.2.2.2.2.2.2.2.2.1 x.2.2.2.2.2.2.2.2.2.2.2.2.2.2.2.1 = some (askB (cm x).k) := msgasks_p FUEL x.2.1 x.2.2.1 x.2.2.2.1 x.2.2.2.2.1 x.2.2.2.2.2.1 x.2.2.2.2.2.2.1 x.2.2.2.2.2.2.2.1 x.2.2.2.2.2.2.2.2.1 x.2.2.2.2.2.2.2.2.2.1 x.2.2.2.2.2.2.2.2.2.2.1 x.2.2.2.2.2.2.2.2.2.2.2.1 x.2.2.2.2.2.2.2.2.2.2.2.2.1 x.2.2.2.2.2.2.2.2.2.2.2.2.2.1 x.2.2.2.2.2.2.2.2.2.2.2.2.2.2.1 x.2.2.2.2.2.2.2.2.2.2.2.2.2.2.2.1
  rw [hr, ha, istime_p]
  simp only [Option.bind_some, e0, e1, e2]
  have e3 : ine 0 0 = false := rfl
  rw [e3, cond_false]
  simp only [ieq_dec, lad5, bcf, bct]
  congr 1
  unfold callC ilt ige ile
  rw [Bool.eq_iff_iff]
  simp only [Bool.and_eq_true, Bool.not_eq_true', decide_eq_false_iff_not, decide_eq_true_eq]
  constructor
  · rintro ⟨a1, a2, a3, a4, a5, a6, a7, a8, a9⟩
    exact ⟨a6, a5, a4, a3.symm, by omega, a7, a8, a9⟩
  · rintro ⟨a1, a2, a3, a4, a5, a6, a7, a8⟩
    have := rightM_call a1 a2
    unfold callB at this
    simp only [Bool.and_eq_true, decide_eq_true_eq] at this
    rw [a3, ← a4] at this
    exact ⟨by omega, by omega, a4.symm, a3, a2, a1, a6, a7, a8⟩

theorem rcB_iff {id many : Int} : ∀ {l : List CLT} {p : Int}, rcB id many p l = true ↔ (∀ x ∈ l, callC id many x = true ∧ p < x.1) ∧ l.Pairwise (fun a b => a.1 < b.1)
  | [], _ => by simp [rcB]
  | x :: r, p => by
    rw [rcB, Bool.and_eq_true, Bool.and_eq_true, rcB_iff (l := r) (p := x.1), List.pairwise_cons, decide_eq_true_eq]
    constructor
    · rintro ⟨h1, h2, h3, h4⟩
      refine ⟨fun y hy => ?_, fun y hy => (h3 y hy).2, h4⟩
      rcases List.mem_cons.1 hy with rfl | hy
      · exact ⟨h1, h2⟩
      · have := h3 y hy
        exact ⟨this.1, by omega⟩
    · rintro ⟨h1, h2, h3⟩
      exact ⟨(h1 x (by simp)).1, (h1 x (by simp)).2, fun y hy => ⟨(h1 y (by simp [hy])).1, h2 y hy⟩, h3⟩
theorem rcB_lo {id many : Int} (hi : 0 ≤ id) (l : List CLT) : rcB id many 0 l = rcB id many (id * 1048576) l := by
  rw [Bool.eq_iff_iff, rcB_iff, rcB_iff]
  constructor
  · rintro ⟨h1, h2⟩
    exact ⟨fun x hx => ⟨(h1 x hx).1, (callC_lo (h1 x hx).1).1⟩, h2⟩
  · rintro ⟨h1, h2⟩
    exact ⟨fun x hx => ⟨(h1 x hx).1, by have := callC_lo (h1 x hx).1; omega⟩, h2⟩
theorem rightC_iff {id many : Int} {l : List CLT} : rightC id many l = true ↔ isP id = true ∧ (0 ≤ many ∧ many ≤ 1048576) ∧ l.length ≤ 16 ∧ (∀ x ∈ l, callC id many x = true) ∧ l.Pairwise (fun a b => a.1 < b.1) := by
  unfold rightC
  simp only [Bool.and_eq_true, decide_eq_true_eq, rcB_iff]
  constructor
  · rintro ⟨h1, h2, h3, h4, h5, h6⟩
    exact ⟨h1, ⟨h2, h3⟩, h4, fun x hx => (h5 x hx).1, h6⟩
  · rintro ⟨h1, ⟨h2, h3⟩, h4, h5, h6⟩
    exact ⟨h1, h2, h3, h4, fun x hx => ⟨h5 x hx, (callC_lo (h5 x hx)).1⟩, h6⟩

/-! ### Right. -/
theorem cright_0 {n : Nat} (h : 0 < n) : F17_c0 n = some false := by
  obtain ⟨m, rfl⟩ : ∃ m, n = m + 1 := ⟨n - 1, by omega⟩
  rfl
theorem cright_c {id many : Int} (hi : isP id = true) (hm : 0 ≤ many ∧ many ≤ 1048576) (L : List CLT) : ∀ (r p : List CLT) (n : Nat) (last : Int), r.length + 1 < n → (p ++ r).length < 1000 → shortC (p ++ r) → F17_c1 n last (p ++ r) (ofN (p ++ r).length) (ofN p.length) id many L = some (rcB id many last r)
  | _, _, 0, _, h, _, _ => by omega
  | [], p, n + 1, last, _, _, _ => by simp only [F17_c1, List.append_nil, lt_out, cond_false, rcB]
  | x :: r, p, n + 1, last, h, hb, hs => by
    simp only [F17_c1, lt_in, inb_in, get_in, cond_true]
    simp only [List.length_append, List.length_cons] at h hb
    rw [cright_0 (by omega), iscallc_p FUEL hi hm L x (shortC_at hs), Option.bind_some, add_in (x := x) (by omega)]
    have h1 := cright_c hi hm L r (p ++ [x]) n x.1 (by omega) (by simp; omega) (by rw [← in_eq]; exact hs)
    rw [← in_eq] at h1
    rw [h1, lad6, lad2, rcB]
    congr 1
    unfold ile
    rw [Bool.eq_iff_iff]
    simp only [Bool.and_eq_true, Bool.not_eq_true', decide_eq_false_iff_not, decide_eq_true_eq]
    constructor
    · rintro ⟨a, b, c⟩; exact ⟨b, by omega, c⟩
    · rintro ⟨a, b, c⟩; exact ⟨by omega, a, c⟩
theorem cright_p {n : Nat} (hn : 2000 < n) (id many : Int) (l : List CLT) (hs : shortC l) : F17 n id many l = some (rightC id many l) := by
  unfold F17
  rw [cright_0 (by omega)]
  by_cases h1 : isP id = true
  case neg =>
    have : rightC id many l = false := by unfold rightC; simp [h1]
    rw [this]
    rw [isP_iff] at h1
    by_cases h2 : id < 0
    · rw [show ilt id 0 = true from decide_eq_true h2, cond_true]
    · rw [show ilt id 0 = false from decide_eq_false h2, show ige id 65536 = true from decide_eq_true (by omega), cond_false, cond_true]
  have hP := isP_iff.1 h1
  rw [show ilt id 0 = false from decide_eq_false (by omega), show ige id 65536 = false from decide_eq_false (by omega), cond_false, cond_false]
  by_cases h2 : many < 0
  · have : rightC id many l = false := by unfold rightC; simp [show ¬ 0 ≤ many by omega]
    rw [this, show ilt many 0 = true from decide_eq_true h2, cond_true]
  rw [show ilt many 0 = false from decide_eq_false h2, cond_false]
  by_cases h3 : many > 1048576
  · have : rightC id many l = false := by unfold rightC; simp [show ¬ many ≤ 1048576 by omega]
    rw [this, show igt many 1048576 = true from decide_eq_true h3, cond_true]
  rw [show igt many 1048576 = false from decide_eq_false h3, cond_false]
  by_cases h4 : l.length ≤ 16
  case neg =>
    have : rightC id many l = false := by unfold rightC; simp [h4]
    rw [this, show igt (ofN l.length) 16 = true from decide_eq_true (by simp only [ofN]; omega), cond_true]
  rw [show igt (ofN l.length) 16 = false from decide_eq_false (by simp only [ofN]; omega), cond_false]
  have := cright_c (many := many) h1 (by omega) l l [] n 0 (by omega) (by simp; omega) (by simpa using hs)
  have e : rightC id many l = rcB id many 0 l := by
    rw [rcB_lo hP.1]; unfold rightC
    simp [h1, h4, show 0 ≤ many by omega, show many ≤ 1048576 by omega]
  rw [e]
  simpa [ofN] using this
/-- The number of the call ahead. -/
def prvC (id : Int) (p : List CLT) : Int := (p.getLast?.map (·.1)).getD (id * 1048576)
theorem prvC_at (id : Int) (p : List CLT) (x : CLT) : prvC id (p ++ [x]) = x.1 := by simp [prvC]
theorem cright_rc {id many : Int} (hi : isP id = true) (hm : 0 ≤ many ∧ many ≤ 1048576) : ∀ (r p : List CLT) (n : Nat), r.length + 1 < n → (p ++ r).length < 1000 → (∀ x ∈ r, (cm x).l.length ≤ 9223372036854775807) → F18_c0 n (ofN p.length) id many (p ++ r) = some (rcB id many (prvC id p) r)
  | _, _, 0, h, _, _ => by omega
  | [], p, n + 1, _, _, _ => by simp only [F18_c0, List.append_nil, lt_out, cond_false, rcB]
  | x :: r, p, n + 1, h, hb, hs => by
    have hP := isP_iff.1 hi
    simp only [F18_c0, lt_in, inb_in, get_in, cond_true]
    simp only [List.length_append, List.length_cons] at h hb
    have hx := hs x (by simp)
    have hr : F11 FUEL x.2.1 x.2.2.1 x.2.2.2.1 x.2.2.2.2.1 x.2.2.2.2.2.1 x.2.2.2.2.2.2.1 x.2.2.2.2.2.2.2.1 x.2.2.2.2.2.2.2.2.1 x.2.2.2.2.2.2.2.2.2.1 x.2.2.2.2.2.2.2.2.2.2.1 x.2.2.2.2.2.2.2.2.2.2.2.1 x.2.2.2.2.2.2.2.2.2.2.2.2.1 x.2.2.2.2.2.2.2.2.2.2.2.2.2.1 x.2.2.2.2.2.2.2.2.2.2.2.2.2.2.1 x.2.2.2.2.2.2.2.2.2.2.2.2.2.2.2.1 = some (rightM (cm x)) := mright_rl FUEL x.2.1 x.2.2.1 x.2.2.2.1 x.2.2.2.2.1 x.2.2.2.2.2.1 x.2.2.2.2.2.2.1 x.2.2.2.2.2.2.2.1 x.2.2.2.2.2.2.2.2.1 x.2.2.2.2.2.2.2.2.2.1 x.2.2.2.2.2.2.2.2.2.2.1 x.2.2.2.2.2.2.2.2.2.2.2.1 x.2.2.2.2.2.2.2.2.2.2.2.2.1 x.2.2.2.2.2.2.2.2.2.2.2.2.2.1 x.2.2.2.2.2.2.2.2.2.2.2.2.2.2.1 x.2.2.2.2.2.2.2.2.2.2.2.2.2.2.2.1 hx
    have ha : F37 FUEL x.2.1 x.2.2.1 x.2.2.2.1 x.2.2.2.2.1 x.2.2.2.2.2.1 x.2.2.2.2.2.2.1 x.2.2.2.2.2.2.2.1 x.2.2.2.2.2.2.2.2.1 x.2.2.2.2.2.2.2.2.2.1 x.2.2.2.2.2.2.2.2.2.2.1 x.2.2.2.2.2.2.2.2.2.2.2.1 x.2.2.2.2.2.2.2.2.2.2.2.2.1 x.2.2.2.2.2.2.2.2.2.2.2.2.2.1 x.2.2.2.2.2.2.2.2.2.2.2.2.2.2.1 x.2.2.2.2.2.2.2.2.2.2.2.2.2.2.2.1 = some (askB (cm x).k) := msgasks_r FUEL x.2.1 x.2.2.1 x.2.2.2.1 x.2.2.2.2.1 x.2.2.2.2.2.1 x.2.2.2.2.2.2.1 x.2.2.2.2.2.2.2.1 x.2.2.2.2.2.2.2.2.1 x.2.2.2.2.2.2.2.2.2.1 x.2.2.2.2.2.2.2.2.2.2.1 x.2.2.2.2.2.2.2.2.2.2.2.1 x.2.2.2.2.2.2.2.2.2.2.2.2.1 x.2.2.2.2.2.2.2.2.2.2.2.2.2.1 x.2.2.2.2.2.2.2.2.2.2.2.2.2.2.1 x.2.2.2.2.2.2.2.2.2.2.2.2.2.2.2.1
    have e1 : iadd .i64 (imul .i64 id 1048576) many = id * 1048576 + many := by
      simp only [iadd, imul]
      rw [wrap_mid (n := id * 1048576) (by omega) (by omega), wrap_mid (by omega) (by omega)]
    rw [hr, ha, tick_r, e1, add_in (x := x) (by omega)]
    have h1 := cright_rc hi hm r (p ++ [x]) n (by omega) (by simp; omega) (fun y hy => hs y (by simp [hy]))
    rw [← in_eq, prvC_at] at h1
    rw [h1]
    simp only [Option.bind_some, ine_dec]
    have key : ∀ (B : Bool), (prvC id p < x.1 → B = true) → (B = true → prvC id p < x.1 ∨ ¬ callC id many x = true) → (rightM (cm x) && (askB (cm x).k && (decide ((cm x).f = id) && (decide (x.1 = (cm x).c) && (!igt x.1 (id * 1048576 + many) && (B && (!ilt (ctries x) 1 && (!igt (ctries x) 3 && (isT (csent x) && rcB id many x.1 r))))))))) = rcB id many (prvC id p) (x :: r) := by
      intro c h0 hc
      unfold igt ilt
      rw [rcB, Bool.eq_iff_iff]
      have hcc : callC id many x = true ↔ rightM (cm x) = true ∧ askB (cm x).k = true ∧ (cm x).f = id ∧ x.1 = (cm x).c ∧ x.1 ≤ id * 1048576 + many ∧ 1 ≤ ctries x ∧ ctries x ≤ 3 ∧ isT (csent x) = true := by
        unfold callC; simp only [Bool.and_eq_true, decide_eq_true_eq]
      simp only [Bool.and_eq_true, Bool.not_eq_true', decide_eq_false_iff_not, decide_eq_true_eq]
      rw [hcc]
      constructor
      · rintro ⟨a1, a2, a3, a4, a5, a6, a7, a8, a9, a10⟩
        refine ⟨⟨a1, a2, a3, a4, by omega, by omega, by omega, a9⟩, ?_, a10⟩
        rcases hc a6 with a6 | a6
        · exact a6
        · exact absurd (hcc.2 ⟨a1, a2, a3, a4, by omega, by omega, by omega, a9⟩) a6
      · rintro ⟨⟨a1, a2, a3, a4, a5, a6, a7, a8⟩, a9, a10⟩
        exact ⟨a1, a2, a3, a4, by omega, h0 a9, by omega, by omega, a8, a10⟩
    rcases List.eq_nil_or_concat p with rfl | ⟨q, y, rfl⟩
    · have e2 : igt (ofN ([] : List CLT).length) 0 = false := by simp [igt, ofN]
      rw [e2, cond_false]
      have := key true (fun _ => rfl) (fun _ => by
        by_cases hc : callC id many x = true
        · exact Or.inl (by have := callC_lo hc; simp [prvC]; omega)
        · exact Or.inr hc)
      rw [← this]
      simp only [lad2, Bool.not_not, Bool.true_and, csent, ctries, cm]
      rfl
    · simp only [List.concat_eq_append] at *
      have e2 : igt (ofN (q ++ [y]).length) 0 = true := decide_eq_true (by simp [ofN])
      simp only [List.length_append, List.length_cons, List.length_nil] at hb
      have e3 : inb (ofN q.length) (q ++ [y] ++ x :: r).length = true := decide_eq_true (by simp [ofN]; omega)
      have e4 : ∀ d, (q ++ [y] ++ x :: r).getD (ofN q.length).toNat d = y := fun d => by simp [ofN]
      rw [e2, cond_true, sub_in (by omega), e3, cond_true, e4]
      have := key (!ile x.1 y.1) (by
        rw [prvC_at]; unfold ile
        simp only [Bool.not_eq_true', decide_eq_false_iff_not]
        intro h; omega) (by
        rw [prvC_at]; unfold ile
        simp only [Bool.not_eq_true', decide_eq_false_iff_not]
        intro h; exact Or.inl (by omega))
      rw [← this]
      simp only [lad2, Bool.not_not, csent, ctries, cm]
      rfl
theorem cright_r {n : Nat} (hn : 2000 < n) (id many : Int) (l : List CLT) (hs : ∀ x ∈ l, (cm x).l.length ≤ 9223372036854775807) : F18 n id many l = some (rightC id many l) := by
  unfold F18
  by_cases h1 : isP id = true
  case neg =>
    have : rightC id many l = false := by unfold rightC; simp [h1]
    rw [this]
    rw [isP_iff] at h1
    by_cases h2 : id < 0
    · rw [show ilt id 0 = true from decide_eq_true h2, cond_true]
    · rw [show ilt id 0 = false from decide_eq_false h2, show ige id 65536 = true from decide_eq_true (by omega), cond_false, cond_true]
  have hP := isP_iff.1 h1
  rw [show ilt id 0 = false from decide_eq_false (by omega), show ige id 65536 = false from decide_eq_false (by omega), cond_false, cond_false]
  by_cases h2 : many < 0
  · have : rightC id many l = false := by unfold rightC; simp [show ¬ 0 ≤ many by omega]
    rw [this, show ilt many 0 = true from decide_eq_true h2, cond_true]
  rw [show ilt many 0 = false from decide_eq_false h2, cond_false]
  by_cases h3 : many > 1048576
  · have : rightC id many l = false := by unfold rightC; simp [show ¬ many ≤ 1048576 by omega]
    rw [this, show igt many 1048576 = true from decide_eq_true h3, cond_true]
  rw [show igt many 1048576 = false from decide_eq_false h3, cond_false]
  by_cases h4 : l.length ≤ 16
  case neg =>
    have : rightC id many l = false := by unfold rightC; simp [h4]
    rw [this, show igt (ofN l.length) 16 = true from decide_eq_true (by simp only [ofN]; omega), cond_true]
  rw [show igt (ofN l.length) 16 = false from decide_eq_false (by simp only [ofN]; omega), cond_false]
  have := cright_rc (many := many) h1 (by omega) l [] n (by omega) (by simp; omega) hs
  have e : rightC id many l = rcB id many (id * 1048576) l := by
    unfold rightC
    simp [h1, h4, show 0 ≤ many by omega, show many ≤ 1048576 by omega]
  rw [e]
  simpa [ofN, prvC] using this

/-! ### Waits. -/
def ovrB (now : Int) (x : CLT) : Bool := decide (3 ≤ ctries x) && decide (4 ≤ isub .i64 now (csent x))
def dueB (now : Int) (x : CLT) : Bool := (decide (ctries x = 1) && decide (1 ≤ isub .i64 now (csent x))) || (decide (ctries x = 2) && decide (2 ≤ isub .i64 now (csent x)))
def nxtC (now : Int) (x : CLT) : CLT := if dueB now x then (x.1, x.2.1, x.2.2.1, x.2.2.2.1, x.2.2.2.2.1, x.2.2.2.2.2.1, x.2.2.2.2.2.2.1, x.2.2.2.2.2.2.2.1, x.2.2.2.2.2.2.2.2.1, x.2.2.2.2.2.2.2.2.2.1, x.2.2.2.2.2.2.2.2.2.2.1, x.2.2.2.2.2.2.2.2.2.2.2.1, x.2.2.2.2.2.2.2.2.2.2.2.2.1, x.2.2.2.2.2.2.2.2.2.2.2.2.2.1, x.2.2.2.2.2.2.2.2.2.2.2.2.2.2.1, x.2.2.2.2.2.2.2.2.2.2.2.2.2.2.2.1, x.2.2.2.2.2.2.2.2.2.2.2.2.2.2.2.2.1, x.2.2.2.2.2.2.2.2.2.2.2.2.2.2.2.2.2.1, now, x.2.2.2.2.2.2.2.2.2.2.2.2.2.2.2.2.2.2.2 + 1) else x
theorem wait_3 (n : Nat) (t : Int) (h : 3 ≤ t) : F62 n t = some 4 := by
  unfold F62
  have e : minI t 3 = 3 := by unfold minI; split <;> omega
  rw [e, show ilt t 1 = false from decide_eq_false (by omega)]
  rfl
theorem wait_12 (n : Nat) (t : Int) (h : t = 1 ∨ t = 2) : F62 n t = some t := by
  rcases h with rfl | rfl <;> rfl
theorem over_p (n : Nat) (x : CLT) (now : Int) : F42 n (csent x) (ctries x) now = some (ovrB now x) := by
  unfold F42 ovrB
  by_cases h : 3 ≤ ctries x
  · rw [show ige (ctries x) 3 = true from decide_eq_true h, wait_3 FUEL _ h, decide_eq_true h]
    rfl
  · rw [show ige (ctries x) 3 = false from decide_eq_false h, decide_eq_false h]
    rfl
theorem due_p (n : Nat) (x : CLT) (now : Int) : F43 n (csent x) (ctries x) now = some (dueB now x) := by
  unfold F43 dueB
  by_cases h1 : ctries x = 1
  · rw [h1]
    show some (decide (1 ≤ isub .i64 now (csent x))) = some (decide (1 ≤ isub .i64 now (csent x)) || false)
    rw [Bool.or_false]
  by_cases h2 : ctries x = 2
  · rw [h2]; rfl
  rw [decide_eq_false h1, decide_eq_false h2]
  by_cases h3 : ctries x < 1
  · rw [show ige (ctries x) 1 = false from decide_eq_false (by omega)]; rfl
  · rw [show ige (ctries x) 1 = true from decide_eq_true (by omega), show ilt (ctries x) 3 = false from decide_eq_false (by omega)]; rfl
theorem over_r (n : Nat) (x : CLT) (now : Int) : F20 n (csent x) (ctries x) now = some (ovrB now x) := by
  unfold F20 ovrB
  by_cases h : 3 ≤ ctries x
  · rw [show ige (ctries x) 3 = true from decide_eq_true h, decide_eq_true h]
    rfl
  · rw [show ige (ctries x) 3 = false from decide_eq_false h, decide_eq_false h]
    rfl
theorem due_r (n : Nat) (x : CLT) (now : Int) : F21 n (csent x) (ctries x) now = some (dueB now x) := by
  unfold F21 dueB
  by_cases h1 : ctries x = 1
  · rw [h1]
    show some (decide (1 ≤ isub .i64 now (csent x))) = some (decide (1 ≤ isub .i64 now (csent x)) || false)
    rw [Bool.or_false]
  by_cases h2 : ctries x = 2
  · rw [h2]; rfl
  rw [decide_eq_false h1, decide_eq_false h2, ieq_dec, ieq_dec, decide_eq_false h1, decide_eq_false h2]
  rfl

theorem zeroE : (0 : Int) = 0 := rfl
/-! ### Drop, Find. -/
theorem cdrop_c (id many why : Int) : ∀ (r p : List CLT) (n : Nat) (a : List CLT), r.length < n → (p ++ r).length < 1000 → a.length + r.length < 1000 → shortC (p ++ r) → F25_c1 n (p ++ r) (ofN (p ++ r).length) (ofN p.length) 0 0 id many 0 0 why a = some (id, many, a ++ r.filter (fun x => !decide (cwhy x = why)))
  | _, _, 0, _, h, _, _, _ => by omega
  | [], p, n + 1, a, _, _, _, _ => by simp only [F25_c1, List.append_nil, lt_out, cond_false, List.filter_nil]
  | x :: r, p, n + 1, a, h, hb, ha, hs => by
    simp only [F25_c1, lt_in, inb_in, get_in, cond_true]
    simp only [List.length_append, List.length_cons] at h hb ha
    rw [ownc_p FUEL x (shortC_at hs)]
    simp only [Option.bind_some, mkC]
    rw [room_all (by simp; omega) (by decide), cond_true, add_in (x := x) (by omega)]
    have h1 := fun a ha => cdrop_c id many why r (p ++ [x]) n a (by omega) (by simp; omega) ha (by rw [← in_eq]; exact hs)
    rw [← in_eq] at h1
    rw [h1 _ (by simp; omega), h1 _ (by omega), ine_dec, List.filter_cons]
    show (bif !decide (cwhy x = why) then _ else _) = _
    cases h : decide (cwhy x = why) <;> simp
theorem cdrop_p {n : Nat} (hn : 2000 < n) {id many : Int} {l : List CLT} (hr : rightC id many l = true) (why : Int) : F25 n id many l why = some (id, many, l.filter (fun x => !decide (cwhy x = why))) := by
  have hf := fuel_big
  have h16 := (rightC_parts hr).2.2.2.1
  have hs := rightC_short hr
  unfold F25
  rw [cright_p (by omega) id many l hs, hr, capc (by omega)]
  have := cdrop_c id many why l [] n [] (by omega) (by simp; omega) (by simp; omega) (by simpa using hs)
  simpa [ofN] using this
def firstC (why : Int) : List CLT → Option CLT
  | [] => none
  | x :: r => if cwhy x = why then some x else firstC why r
theorem cfind_c (why : Int) : ∀ (r p : List CLT) (n : Nat), r.length < n → (p ++ r).length < 1000 → shortC (p ++ r) → F24_c1 n (p ++ r) (ofN (p ++ r).length) (ofN p.length) why 0 0 0 0 0 0 false false 0 0 ByteArray.empty 0 0 false 0 0 0 0 0 false = some (match firstC why r with | some x => ⟨x.1, x.2.1, x.2.2.1, x.2.2.2.1, x.2.2.2.2.1, x.2.2.2.2.2.1, x.2.2.2.2.2.2.1, x.2.2.2.2.2.2.2.1, x.2.2.2.2.2.2.2.2.1, x.2.2.2.2.2.2.2.2.2.1, x.2.2.2.2.2.2.2.2.2.2.1, x.2.2.2.2.2.2.2.2.2.2.2.1, x.2.2.2.2.2.2.2.2.2.2.2.2.1, x.2.2.2.2.2.2.2.2.2.2.2.2.2.1, x.2.2.2.2.2.2.2.2.2.2.2.2.2.2.1, x.2.2.2.2.2.2.2.2.2.2.2.2.2.2.2.1, x.2.2.2.2.2.2.2.2.2.2.2.2.2.2.2.2.1, x.2.2.2.2.2.2.2.2.2.2.2.2.2.2.2.2.2.1, x.2.2.2.2.2.2.2.2.2.2.2.2.2.2.2.2.2.2.1, x.2.2.2.2.2.2.2.2.2.2.2.2.2.2.2.2.2.2.2, true⟩ | none => ⟨zC.1, zC.2.1, zC.2.2.1, zC.2.2.2.1, zC.2.2.2.2.1, zC.2.2.2.2.2.1, zC.2.2.2.2.2.2.1, zC.2.2.2.2.2.2.2.1, zC.2.2.2.2.2.2.2.2.1, zC.2.2.2.2.2.2.2.2.2.1, zC.2.2.2.2.2.2.2.2.2.2.1, zC.2.2.2.2.2.2.2.2.2.2.2.1, zC.2.2.2.2.2.2.2.2.2.2.2.2.1, zC.2.2.2.2.2.2.2.2.2.2.2.2.2.1, zC.2.2.2.2.2.2.2.2.2.2.2.2.2.2.1, zC.2.2.2.2.2.2.2.2.2.2.2.2.2.2.2.1, zC.2.2.2.2.2.2.2.2.2.2.2.2.2.2.2.2.1, zC.2.2.2.2.2.2.2.2.2.2.2.2.2.2.2.2.2.1, zC.2.2.2.2.2.2.2.2.2.2.2.2.2.2.2.2.2.2.1, zC.2.2.2.2.2.2.2.2.2.2.2.2.2.2.2.2.2.2.2, false⟩)
  | _, _, 0, h, _, _ => by omega
  | [], p, n + 1, _, _, _ => by simp only [F24_c1, List.append_nil, lt_out, cond_false, firstC]
  | x :: r, p, n + 1, h, hb, hs => by
    simp only [F24_c1, lt_in, inb_in, get_in, cond_true]
    simp only [List.length_append, List.length_cons] at h hb
    rw [ownc_p FUEL x (shortC_at hs)]
    simp only [Option.bind_some, mkC]
    rw [add_in (x := x) (by omega)]
    have h1 := cfind_c why r (p ++ [x]) n (by omega) (by simp; omega) (by rw [← in_eq]; exact hs)
    rw [← in_eq] at h1
    rw [h1, ieq_dec, firstC]
    show (bif decide (cwhy x = why) then _ else _) = _
    by_cases h : cwhy x = why
    · rw [decide_eq_true h, if_pos h]; rfl
    · rw [decide_eq_false h, if_neg h]; rfl
theorem cfind_p {n : Nat} (hn : 2000 < n) {id many : Int} {l : List CLT} (hr : rightC id many l = true) (why : Int) : F24 n id many l why = some (match firstC why l with | some x => ⟨x.1, x.2.1, x.2.2.1, x.2.2.2.1, x.2.2.2.2.1, x.2.2.2.2.2.1, x.2.2.2.2.2.2.1, x.2.2.2.2.2.2.2.1, x.2.2.2.2.2.2.2.2.1, x.2.2.2.2.2.2.2.2.2.1, x.2.2.2.2.2.2.2.2.2.2.1, x.2.2.2.2.2.2.2.2.2.2.2.1, x.2.2.2.2.2.2.2.2.2.2.2.2.1, x.2.2.2.2.2.2.2.2.2.2.2.2.2.1, x.2.2.2.2.2.2.2.2.2.2.2.2.2.2.1, x.2.2.2.2.2.2.2.2.2.2.2.2.2.2.2.1, x.2.2.2.2.2.2.2.2.2.2.2.2.2.2.2.2.1, x.2.2.2.2.2.2.2.2.2.2.2.2.2.2.2.2.2.1, x.2.2.2.2.2.2.2.2.2.2.2.2.2.2.2.2.2.2.1, x.2.2.2.2.2.2.2.2.2.2.2.2.2.2.2.2.2.2.2, true⟩ | none => ⟨zC.1, zC.2.1, zC.2.2.1, zC.2.2.2.1, zC.2.2.2.2.1, zC.2.2.2.2.2.1, zC.2.2.2.2.2.2.1, zC.2.2.2.2.2.2.2.1, zC.2.2.2.2.2.2.2.2.1, zC.2.2.2.2.2.2.2.2.2.1, zC.2.2.2.2.2.2.2.2.2.2.1, zC.2.2.2.2.2.2.2.2.2.2.2.1, zC.2.2.2.2.2.2.2.2.2.2.2.2.1, zC.2.2.2.2.2.2.2.2.2.2.2.2.2.1, zC.2.2.2.2.2.2.2.2.2.2.2.2.2.2.1, zC.2.2.2.2.2.2.2.2.2.2.2.2.2.2.2.1, zC.2.2.2.2.2.2.2.2.2.2.2.2.2.2.2.2.1, zC.2.2.2.2.2.2.2.2.2.2.2.2.2.2.2.2.2.1, zC.2.2.2.2.2.2.2.2.2.2.2.2.2.2.2.2.2.2.1, zC.2.2.2.2.2.2.2.2.2.2.2.2.2.2.2.2.2.2.2, false⟩) := by
  have hf := fuel_big
  have h16 := (rightC_parts hr).2.2.2.1
  have hs := rightC_short hr
  unfold F24
  rw [cright_p (by omega) id many l hs, hr]
  have := cfind_c why l [] n (by omega) (by simp; omega) (by simpa using hs)
  simpa [ofN] using this

/-! ### Late. -/
def lateO (now : Int) (l : List CLT) : List CLT := (l.filter (fun x => !ovrB now x)).map (nxtC now)
def lateV (now : Int) (l : List CLT) : List CLT := l.filter (ovrB now)
def lateA (now : Int) (l : List CLT) : List MT := ((l.filter (fun x => !ovrB now x)).filter (dueB now)).map cmT
theorem due_add {now : Int} {x : CLT} (h : dueB now x = true) : iadd .i64 (ctries x) 1 = ctries x + 1 := by
  unfold dueB at h
  simp only [Bool.or_eq_true, Bool.and_eq_true, decide_eq_true_eq] at h
  simp only [iadd]; rw [wrap_mid (by omega) (by omega)]
theorem clate_c (id many now : Int) : ∀ (r p : List CLT) (n : Nat) (a b : List CLT) (c : List MT), r.length < n → (p ++ r).length < 1000 → a.length + r.length < 1000 → b.length + r.length < 1000 → c.length + r.length < 1000 → shortC (p ++ r) → F16_c1 n (p ++ r) (ofN (p ++ r).length) (ofN p.length) 0 0 id many 0 0 now a b c = some ⟨id, many, a ++ lateO now r, c ++ lateA now r, b ++ lateV now r⟩
  | _, _, 0, _, _, _, h, _, _, _, _, _ => by omega
  | [], p, n + 1, a, b, c, _, _, _, _, _, _ => by simp only [F16_c1, List.append_nil, lt_out, cond_false, lateO, lateA, lateV, List.filter_nil, List.map_nil]
  | x :: r, p, n + 1, a, b, c, h, hb, ha, hb2, hc, hs => by
    simp only [F16_c1, lt_in, inb_in, get_in, cond_true]
    simp only [List.length_append, List.length_cons] at h hb ha hb2 hc
    rw [ownc_p FUEL x (shortC_at hs)]
    simp only [Option.bind_some, mkC]
    have ho : F42 FUEL x.2.2.2.2.2.2.2.2.2.2.2.2.2.2.2.2.2.2.1 x.2.2.2.2.2.2.2.2.2.2.2.2.2.2.2.2.2.2.2 now = some (ovrB now x) := over_p FUEL x now
    have hd : F43 FUEL x.2.2.2.2.2.2.2.2.2.2.2.2.2.2.2.2.2.2.1 x.2.2.2.2.2.2.2.2.2.2.2.2.2.2.2.2.2.2.2 now = some (dueB now x) := due_p FUEL x now
    have hw := mown_p FUEL x.2.1 x.2.2.1 x.2.2.2.1 x.2.2.2.2.1 x.2.2.2.2.2.1 x.2.2.2.2.2.2.1 x.2.2.2.2.2.2.2.1 x.2.2.2.2.2.2.2.2.1 x.2.2.2.2.2.2.2.2.2.1 x.2.2.2.2.2.2.2.2.2.2.1 x.2.2.2.2.2.2.2.2.2.2.2.1 x.2.2.2.2.2.2.2.2.2.2.2.2.1 x.2.2.2.2.2.2.2.2.2.2.2.2.2.1 x.2.2.2.2.2.2.2.2.2.2.2.2.2.2.1 x.2.2.2.2.2.2.2.2.2.2.2.2.2.2.2.1 (shortC_at hs)
    rw [ho, hd, hw]
    simp only [Option.bind_some]
    rw [room_all (by simp; omega) (by decide), room_all (by simp; omega) (by decide), room_all (by simp; omega) (by decide), room_all (by simp; omega) (by decide), cond_true, cond_true, cond_true, cond_true, add_in (x := x) (by omega)]
    have h1 := fun a b c ha hb2 hc => clate_c id many now r (p ++ [x]) n a b c (by omega) (by simp; omega) ha hb2 hc (by rw [← in_eq]; exact hs)
    rw [← in_eq] at h1
    rw [h1 _ _ _ (by omega) (by simp; omega) (by omega), h1 _ _ _ (by simp; omega) (by omega) (by simp; omega), h1 _ _ _ (by simp; omega) (by omega) (by omega)]
    unfold lateO lateA lateV
    rw [List.filter_cons, List.filter_cons]
    cases h2 : ovrB now x
    · cases h3 : dueB now x
      · have e : nxtC now x = x := by unfold nxtC; simp [h3]
        simp only [cond_false, Bool.not_false, if_true, Bool.false_eq_true, if_false, List.map_cons, e, List.filter_cons, h3]
        simp
      · have e : nxtC now x = (x.1, x.2.1, x.2.2.1, x.2.2.2.1, x.2.2.2.2.1, x.2.2.2.2.2.1, x.2.2.2.2.2.2.1, x.2.2.2.2.2.2.2.1, x.2.2.2.2.2.2.2.2.1, x.2.2.2.2.2.2.2.2.2.1, x.2.2.2.2.2.2.2.2.2.2.1, x.2.2.2.2.2.2.2.2.2.2.2.1, x.2.2.2.2.2.2.2.2.2.2.2.2.1, x.2.2.2.2.2.2.2.2.2.2.2.2.2.1, x.2.2.2.2.2.2.2.2.2.2.2.2.2.2.1, x.2.2.2.2.2.2.2.2.2.2.2.2.2.2.2.1, x.2.2.2.2.2.2.2.2.2.2.2.2.2.2.2.2.1, x.2.2.2.2.2.2.2.2.2.2.2.2.2.2.2.2.2.1, now, x.2.2.2.2.2.2.2.2.2.2.2.2.2.2.2.2.2.2.2 + 1) := by unfold nxtC; simp [h3]
        have e2 := due_add h3
        unfold ctries at e2
        rw [e2]
        simp only [cond_false, cond_true, Bool.not_false, if_true, Bool.false_eq_true, if_false, List.map_cons, e, List.filter_cons, h3]
        simp [cmT]
    · simp
theorem clate_p {n : Nat} (hn : 2000 < n) {id many : Int} {l : List CLT} (hr : rightC id many l = true) {now : Int} (ht : isT now = true) : F16 n id many l now = some ⟨id, many, lateO now l, lateA now l, lateV now l⟩ := by
  have hf := fuel_big
  have h16 := (rightC_parts hr).2.2.2.1
  have hs := rightC_short hr
  unfold F16
  rw [cright_p (by omega) id many l hs, hr, istime_p, ht, capc (by omega)]
  have := clate_c id many now l [] n [] [] [] (by omega) (by simp; omega) (by simp; omega) (by simp; omega) (by simp; omega) (by simpa using hs)
  simpa [ofN] using this

/-! ### Close. -/
def ofB (id : Int) (m : MW) (x : CLT) : Bool := decide (m.c = x.1) && (decide (m.f = (cm x).t) && (decide (m.t = id) && decide (m.k = iadd .u8 (cm x).k 6)))
/-- The last one that it is of. -/
def lastC (id : Int) (m : MW) : CLT → List CLT → CLT
  | c, [] => c
  | c, x :: r => lastC id m (if ofB id m x then x else c) r
theorem isof_p (n : Nat) (id many : Int) (l : List CLT) (x : CLT) (m : MW) : F40 n id many l x.1 x.2.1 x.2.2.1 x.2.2.2.1 x.2.2.2.2.1 x.2.2.2.2.2.1 x.2.2.2.2.2.2.1 x.2.2.2.2.2.2.2.1 x.2.2.2.2.2.2.2.2.1 x.2.2.2.2.2.2.2.2.2.1 x.2.2.2.2.2.2.2.2.2.2.1 x.2.2.2.2.2.2.2.2.2.2.2.1 x.2.2.2.2.2.2.2.2.2.2.2.2.1 x.2.2.2.2.2.2.2.2.2.2.2.2.2.1 x.2.2.2.2.2.2.2.2.2.2.2.2.2.2.1 x.2.2.2.2.2.2.2.2.2.2.2.2.2.2.2.1 x.2.2.2.2.2.2.2.2.2.2.2.2.2.2.2.2.1 x.2.2.2.2.2.2.2.2.2.2.2.2.2.2.2.2.2.1 x.2.2.2.2.2.2.2.2.2.2.2.2.2.2.2.2.2.2.1 x.2.2.2.2.2.2.2.2.2.2.2.2.2.2.2.2.2.2.2 m.k m.c m.f m.t m.key m.s m.d m.p m.pr m.l m.ik m.iv m.ir m.ig m.cd = some (ofB id m x) := by
  unfold F40
  simp only [ieq_dec, lad1]
  rfl
theorem cclose_c (id many : Int) (L : List CLT) (m : MW) : ∀ (r p : List CLT) (n : Nat) (cl : CLT) (fd : Bool) (a : List CLT), r.length < n → (p ++ r).length < 1000 → a.length + r.length < 1000 → shortC (p ++ r) → F14_c1 n (p ++ r) (ofN (p ++ r).length) (ofN p.length) 0 0 id many id many L 0 0 0 0 0 0 0 0 false false 0 0 ByteArray.empty 0 0 false 0 0 0 0 0 cl.1 cl.2.1 cl.2.2.1 cl.2.2.2.1 cl.2.2.2.2.1 cl.2.2.2.2.2.1 cl.2.2.2.2.2.2.1 cl.2.2.2.2.2.2.2.1 cl.2.2.2.2.2.2.2.2.1 cl.2.2.2.2.2.2.2.2.2.1 cl.2.2.2.2.2.2.2.2.2.2.1 cl.2.2.2.2.2.2.2.2.2.2.2.1 cl.2.2.2.2.2.2.2.2.2.2.2.2.1 cl.2.2.2.2.2.2.2.2.2.2.2.2.2.1 cl.2.2.2.2.2.2.2.2.2.2.2.2.2.2.1 cl.2.2.2.2.2.2.2.2.2.2.2.2.2.2.2.1 cl.2.2.2.2.2.2.2.2.2.2.2.2.2.2.2.2.1 cl.2.2.2.2.2.2.2.2.2.2.2.2.2.2.2.2.2.1 cl.2.2.2.2.2.2.2.2.2.2.2.2.2.2.2.2.2.2.1 cl.2.2.2.2.2.2.2.2.2.2.2.2.2.2.2.2.2.2.2 fd m.k m.c m.f m.t m.key m.s m.d m.p m.pr m.l m.ik m.iv m.ir m.ig m.cd a = some ⟨id, many, (lastC id m cl r).1, (lastC id m cl r).2.1, (lastC id m cl r).2.2.1, (lastC id m cl r).2.2.2.1, (lastC id m cl r).2.2.2.2.1, (lastC id m cl r).2.2.2.2.2.1, (lastC id m cl r).2.2.2.2.2.2.1, (lastC id m cl r).2.2.2.2.2.2.2.1, (lastC id m cl r).2.2.2.2.2.2.2.2.1, (lastC id m cl r).2.2.2.2.2.2.2.2.2.1, (lastC id m cl r).2.2.2.2.2.2.2.2.2.2.1, (lastC id m cl r).2.2.2.2.2.2.2.2.2.2.2.1, (lastC id m cl r).2.2.2.2.2.2.2.2.2.2.2.2.1, (lastC id m cl r).2.2.2.2.2.2.2.2.2.2.2.2.2.1, (lastC id m cl r).2.2.2.2.2.2.2.2.2.2.2.2.2.2.1, (lastC id m cl r).2.2.2.2.2.2.2.2.2.2.2.2.2.2.2.1, (lastC id m cl r).2.2.2.2.2.2.2.2.2.2.2.2.2.2.2.2.1, (lastC id m cl r).2.2.2.2.2.2.2.2.2.2.2.2.2.2.2.2.2.1, (lastC id m cl r).2.2.2.2.2.2.2.2.2.2.2.2.2.2.2.2.2.2.1, (lastC id m cl r).2.2.2.2.2.2.2.2.2.2.2.2.2.2.2.2.2.2.2, fd || r.any (ofB id m), a ++ r.filter (fun x => !ofB id m x)⟩
  | _, _, 0, _, _, _, h, _, _, _ => by omega
  | [], p, n + 1, cl, fd, a, _, _, _, _ => by simp only [F14_c1, List.append_nil, lt_out, cond_false, List.filter_nil, lastC, List.any_nil, Bool.or_false]
  | x :: r, p, n + 1, cl, fd, a, h, hb, ha, hs => by
    simp only [F14_c1, lt_in, inb_in, get_in, cond_true]
    simp only [List.length_append, List.length_cons] at h hb ha
    rw [ownc_p FUEL x (shortC_at hs)]
    simp only [Option.bind_some, mkC]
    rw [isof_p FUEL id many L x m]
    simp only [Option.bind_some]
    rw [room_all (by simp; omega) (by decide), cond_true, add_in (x := x) (by omega)]
    have h1 := fun cl fd a ha => cclose_c id many L m r (p ++ [x]) n cl fd a (by omega) (by simp; omega) ha (by rw [← in_eq]; exact hs)
    rw [← in_eq] at h1
    rw [h1 cl fd _ (by simp; omega), h1 x true _ (by omega), List.filter_cons, lastC]
    cases h : ofB id m x <;> simp [h]
theorem cclose_p {n : Nat} (hn : 2000 < n) {id many : Int} {l : List CLT} (hr : rightC id many l = true) (m : MW) (hm : m.l.length < 1000) : F14 n id many l m.k m.c m.f m.t m.key m.s m.d m.p m.pr m.l m.ik m.iv m.ir m.ig m.cd = some (if rightM m then ⟨id, many, (lastC id m zC l).1, (lastC id m zC l).2.1, (lastC id m zC l).2.2.1, (lastC id m zC l).2.2.2.1, (lastC id m zC l).2.2.2.2.1, (lastC id m zC l).2.2.2.2.2.1, (lastC id m zC l).2.2.2.2.2.2.1, (lastC id m zC l).2.2.2.2.2.2.2.1, (lastC id m zC l).2.2.2.2.2.2.2.2.1, (lastC id m zC l).2.2.2.2.2.2.2.2.2.1, (lastC id m zC l).2.2.2.2.2.2.2.2.2.2.1, (lastC id m zC l).2.2.2.2.2.2.2.2.2.2.2.1, (lastC id m zC l).2.2.2.2.2.2.2.2.2.2.2.2.1, (lastC id m zC l).2.2.2.2.2.2.2.2.2.2.2.2.2.1, (lastC id m zC l).2.2.2.2.2.2.2.2.2.2.2.2.2.2.1, (lastC id m zC l).2.2.2.2.2.2.2.2.2.2.2.2.2.2.2.1, (lastC id m zC l).2.2.2.2.2.2.2.2.2.2.2.2.2.2.2.2.1, (lastC id m zC l).2.2.2.2.2.2.2.2.2.2.2.2.2.2.2.2.2.1, (lastC id m zC l).2.2.2.2.2.2.2.2.2.2.2.2.2.2.2.2.2.2.1, (lastC id m zC l).2.2.2.2.2.2.2.2.2.2.2.2.2.2.2.2.2.2.2, l.any (ofB id m), l.filter (fun x => !ofB id m x)⟩ else ⟨id, many, zC.1, zC.2.1, zC.2.2.1, zC.2.2.2.1, zC.2.2.2.2.1, zC.2.2.2.2.2.1, zC.2.2.2.2.2.2.1, zC.2.2.2.2.2.2.2.1, zC.2.2.2.2.2.2.2.2.1, zC.2.2.2.2.2.2.2.2.2.1, zC.2.2.2.2.2.2.2.2.2.2.1, zC.2.2.2.2.2.2.2.2.2.2.2.1, zC.2.2.2.2.2.2.2.2.2.2.2.2.1, zC.2.2.2.2.2.2.2.2.2.2.2.2.2.1, zC.2.2.2.2.2.2.2.2.2.2.2.2.2.2.1, zC.2.2.2.2.2.2.2.2.2.2.2.2.2.2.2.1, zC.2.2.2.2.2.2.2.2.2.2.2.2.2.2.2.2.1, zC.2.2.2.2.2.2.2.2.2.2.2.2.2.2.2.2.2.1, zC.2.2.2.2.2.2.2.2.2.2.2.2.2.2.2.2.2.2.1, zC.2.2.2.2.2.2.2.2.2.2.2.2.2.2.2.2.2.2.2, false, l⟩) := by
  have hf := fuel_big
  have h16 := (rightC_parts hr).2.2.2.1
  have hs := rightC_short hr
  unfold F14
  have hR : F31 FUEL m.k m.c m.f m.t m.key m.s m.d m.p m.pr m.l m.ik m.iv m.ir m.ig m.cd = some (rightM m) := mright_p (by omega) m.k m.c m.f m.t m.key m.s m.d m.p m.pr m.l m.ik m.iv m.ir m.ig m.cd hm
  rw [cright_p (by omega) id many l hs, hr, hR, capc (by omega)]
  have := cclose_c id many l m l [] n zC false [] (by omega) (by simp; omega) (by simp; omega) (by simpa using hs)
  cases h : rightM m
  · simp only [Option.bind_some, Bool.not_true, cond_false, Bool.not_false, cond_true]
    obtain ⟨k, rfl⟩ : ∃ k, n = k + 1 := ⟨n - 1, by omega⟩
    simp only [F14_c0]
    rw [cown_p (by omega) id many l (by omega) hs]
    rfl
  · simp only [Option.bind_some, Bool.not_true, cond_false, cond_true, if_true]
    simpa [ofN] using this

/-! ### Open. -/
def newM (id many : Int) (m : MW) : MW := ⟨m.k, id * 1048576 + (many + 1), id, m.t, m.key, m.s, m.d, m.p, m.pr, m.l, m.ik, m.iv, m.ir, m.ig, m.cd⟩
def newC (m : MW) (why ref now : Int) : CLT := (m.c, m.k, m.c, m.f, m.t, m.key, m.s, m.d, m.p, m.pr, m.l, m.ik, m.iv, m.ir, m.ig, m.cd, why, ref, now, 1)
def okO (id many : Int) (m : MW) (now : Int) : Bool := isT now && (askB m.k && rightM (newM id many m))
theorem copen_p {n : Nat} (hn : 0 < n) {id many : Int} {l : List CLT} (hr : rightC id many l = true) (m : MW) (hm : m.l.length < 1000) (why ref now : Int) : F10 n id many l m.k m.c m.f m.t m.key m.s m.d m.p m.pr m.l m.ik m.iv m.ir m.ig m.cd why ref now = some (if l.length = 16 ∨ many = 1048576 then ⟨id, many, 0, 0, 0, 0, 0, false, false, 0, 0, [], ByteArray.empty, 0, 0, false, 0, 100, l⟩ else if okO id many m now then ⟨id, many + 1, (newM id many m).k, (newM id many m).c, (newM id many m).f, (newM id many m).t, (newM id many m).key, (newM id many m).s, (newM id many m).d, (newM id many m).p, (newM id many m).pr, (newM id many m).l, (newM id many m).ik, (newM id many m).iv, (newM id many m).ir, (newM id many m).ig, (newM id many m).cd, 0, l ++ [newC (newM id many m) why ref now]⟩ else ⟨id, many, 0, 0, 0, 0, 0, false, false, 0, 0, [], ByteArray.empty, 0, 0, false, 0, 2, l⟩) := by
  have hf := fuel_big
  obtain ⟨hi, h0, h1, h16, hB⟩ := rightC_parts hr
  have hP := isP_iff.1 hi
  have hs := rightC_short hr
  obtain ⟨k, rfl⟩ : ∃ k, n = k + 1 := ⟨n - 1, by omega⟩
  unfold F10
  simp only [F10_c0]
  rw [cown_p (by omega) id many l (by omega) hs, cright_p (by omega) id many l hs, hr]
  simp only [Option.bind_some, Bool.not_true, cond_false]
  by_cases h2 : l.length = 16
  · rw [if_pos (Or.inl h2), h2]; rfl
  by_cases h3 : many = 1048576
  · rw [if_pos (Or.inr h3), show ieq (ofN l.length) 16 = false from decide_eq_false (by simp only [ofN]; omega), h3]; rfl
  rw [if_neg (by omega), show ieq (ofN l.length) 16 = false from decide_eq_false (by simp only [ofN]; omega), show ieq many 1048576 = false from decide_eq_false h3]
  simp only [cond_false]
  have e1 : iadd .i64 many 1 = many + 1 := by simp only [iadd]; rw [wrap_mid (by omega) (by omega)]
  have e2 : callV id (many + 1) = (id * 1048576 + (many + 1), 0) := by
    unfold callV; simp [hi, show 1 ≤ many + 1 by omega, show many + 1 ≤ 1048576 by omega]
  rw [e1, call_p (by omega), e2, istime_p]
  simp only [Option.bind_some]
  have hR : F31 FUEL (newM id many m).k (newM id many m).c (newM id many m).f (newM id many m).t (newM id many m).key (newM id many m).s (newM id many m).d (newM id many m).p (newM id many m).pr (newM id many m).l (newM id many m).ik (newM id many m).iv (newM id many m).ir (newM id many m).ig (newM id many m).cd = some (rightM (newM id many m)) := mright_p (by omega) (newM id many m).k (newM id many m).c (newM id many m).f (newM id many m).t (newM id many m).key (newM id many m).s (newM id many m).d (newM id many m).p (newM id many m).pr (newM id many m).l (newM id many m).ik (newM id many m).iv (newM id many m).ir (newM id many m).ig (newM id many m).cd hm
  have hA : F30 FUEL (newM id many m).k (newM id many m).c (newM id many m).f (newM id many m).t (newM id many m).key (newM id many m).s (newM id many m).d (newM id many m).p (newM id many m).pr (newM id many m).l (newM id many m).ik (newM id many m).iv (newM id many m).ir (newM id many m).ig (newM id many m).cd = some (askB m.k) := msgasks_p FUEL (newM id many m).k (newM id many m).c (newM id many m).f (newM id many m).t (newM id many m).key (newM id many m).s (newM id many m).d (newM id many m).p (newM id many m).pr (newM id many m).l (newM id many m).ik (newM id many m).iv (newM id many m).ir (newM id many m).ig (newM id many m).cd
  have hW := mown_p FUEL (newM id many m).k (newM id many m).c (newM id many m).f (newM id many m).t (newM id many m).key (newM id many m).s (newM id many m).d (newM id many m).p (newM id many m).pr (newM id many m).l (newM id many m).ik (newM id many m).iv (newM id many m).ir (newM id many m).ig (newM id many m).cd hm
  simp only [newM] at hR hA hW
  rw [hR, hA, hW]
  simp only [Option.bind_some]
  rw [room_all (by simp; omega) (by decide)]
  unfold okO
  cases isT now
  · rfl
  cases askB m.k
  · rfl
  show (bif !rightM (newM id many m) then _ else _) = _
  cases rightM (newM id many m)
  · rfl
  · rfl
theorem cnew_p {n : Nat} (hn : 0 < n) (id : Int) : F7 n id = some (if isP id then (id, 0, 0) else (0, 0, 2)) := by
  obtain ⟨k, rfl⟩ : ∃ k, n = k + 1 := ⟨n - 1, by omega⟩
  unfold F7
  by_cases h1 : isP id = true
  · have hP := isP_iff.1 h1
    rw [show ilt id 0 = false from decide_eq_false (by omega), show ige id 65536 = false from decide_eq_false (by omega), if_pos h1]; rfl
  · rw [if_neg h1]
    rw [isP_iff] at h1
    by_cases h2 : id < 0
    · rw [show ilt id 0 = true from decide_eq_true h2]; rfl
    · rw [show ilt id 0 = false from decide_eq_false h2, show ige id 65536 = true from decide_eq_true (by omega)]; rfl

theorem wakes10 : F8 FUEL = some true := by kernel_rfl

theorem rightC_sub {id many : Int} {l m : List CLT} (h : rightC id many l = true) (hs : m.Sublist l) : rightC id many m = true := by
  rw [rightC_iff] at h ⊢
  obtain ⟨h1, h2, h3, h4, h5⟩ := h
  exact ⟨h1, h2, Nat.le_trans hs.length_le h3, fun x hx => h4 x (hs.subset hx), h5.sublist hs⟩
theorem great10 (n : Nat) (m : MW) : ∃ b, F9 n m.k m.c m.f m.t m.key m.s m.d m.p m.pr m.l m.ik m.iv m.ir m.ig m.cd = some b ∧ (b = false → m.l.length ≤ 20) := by
  unfold F9
  have e : igt (ofN m.l.length) 20 = decide (20 < m.l.length) := by unfold igt ofN; apply decide_eq_decide.2; omega
  rw [e]
  by_cases h : 20 < m.l.length
  · rw [decide_eq_true h]; exact ⟨true, rfl, by simp⟩
  · rw [decide_eq_false h]; exact ⟨_, rfl, fun _ => by omega⟩

/-! ### Without those for something. -/
theorem firstC_none {why : Int} : ∀ {l : List CLT}, (∀ x ∈ l, ¬ cwhy x = why) → firstC why l = none
  | [], _ => rfl
  | x :: r, h => by rw [firstC, if_neg (h x (by simp)), firstC_none (fun y hy => h y (by simp [hy]))]
theorem firstC_at {why : Int} {y : CLT} {s : List CLT} (hy : cwhy y = why) : ∀ {q : List CLT}, (∀ x ∈ q, ¬ cwhy x = why) → firstC why (q ++ y :: s) = some y
  | [], _ => by rw [List.nil_append, firstC, if_pos hy]
  | x :: q, h => by rw [List.cons_append, firstC, if_neg (h x (by simp)), firstC_at hy (fun z hz => h z (by simp [hz]))]
abbrev notW (why : Int) : CLT → Bool := fun x => !decide (cwhy x = why)
theorem drop_law {id many why : Int} {L : List CLT} (hr : rightC id many L = true) (ok : Bool) (f : CLT) (hf : match firstC why L with | some x => ok = true ∧ f = x | none => ok = false) : ∀ (r p : List CLT) (n : Nat) (fi : Int), L = p ++ r → r.length < n → (fi = -1 ∧ (∀ x ∈ p, ¬ cwhy x = why) ∨ ∃ q y s, p = q ++ y :: s ∧ fi = ofN q.length ∧ cwhy y = why ∧ ∀ x ∈ q, ¬ cwhy x = why) →
    F6_c0 n why ok (ofN (p.filter (notW why)).length) fi (ofN p.length) id many L f.1 f.2.1 f.2.2.1 f.2.2.2.1 f.2.2.2.2.1 f.2.2.2.2.2.1 f.2.2.2.2.2.2.1 f.2.2.2.2.2.2.2.1 f.2.2.2.2.2.2.2.2.1 f.2.2.2.2.2.2.2.2.2.1 f.2.2.2.2.2.2.2.2.2.2.1 f.2.2.2.2.2.2.2.2.2.2.2.1 f.2.2.2.2.2.2.2.2.2.2.2.2.1 f.2.2.2.2.2.2.2.2.2.2.2.2.2.1 f.2.2.2.2.2.2.2.2.2.2.2.2.2.2.1 f.2.2.2.2.2.2.2.2.2.2.2.2.2.2.2.1 f.2.2.2.2.2.2.2.2.2.2.2.2.2.2.2.2.1 f.2.2.2.2.2.2.2.2.2.2.2.2.2.2.2.2.2.1 f.2.2.2.2.2.2.2.2.2.2.2.2.2.2.2.2.2.2.1 f.2.2.2.2.2.2.2.2.2.2.2.2.2.2.2.2.2.2.2 id many (L.filter (notW why)) = some true
  | _, _, 0, _, _, h, _ => by omega
  | [], p, n + 1, fi, hL, h, hi => by
    have hff := fuel_big
    have h16 := (rightC_parts hr).2.2.2.1
    rw [List.append_nil] at hL
    subst hL
    have ho := rightC_sub hr (List.filter_sublist (p := notW why) (l := L))
    have hos := rightC_short ho
    have hs := rightC_short hr
    have hn : firstC why (L.filter (notW why)) = none := firstC_none (fun x hx => by have := (List.mem_filter.1 hx).2; simpa [notW] using this)
    simp only [F6_c0, lt_out, cond_false]
    rw [cfind_p (by omega) ho why, hn, cright_p (by omega) _ _ _ hos, ho, wakes10]
    have e1 : ine (ofN (L.filter (notW why)).length) (ofN (L.filter (notW why)).length) = false := by rw [ine_dec, decide_eq_true rfl]; rfl
    simp only [Option.bind_some, e1, cond_false, Bool.not_true]
    rcases hi with ⟨rfl, hi⟩ | ⟨q, y, s, rfl, rfl, hy, hq⟩
    · rw [firstC_none hi] at hf
      rw [show ok = false from hf]
      rfl
    · rw [firstC_at hy hq] at hf
      obtain ⟨h1, h2⟩ := hf
      rw [h1, h2]
      have e2 : ige (ofN q.length) 0 = true := decide_eq_true (by simp [ofN])
      rw [e2, inb_in]
      simp only [get_in]
      rw [call_rs FUEL y y (hs y (by simp)), cqC_self]
      rfl
  | x :: r, p, n + 1, fi, hL, h, hi => by
    have hff := fuel_big
    have h16 := (rightC_parts hr).2.2.2.1
    have hb := congrArg List.length hL
    simp only [List.length_append, List.length_cons] at hb
    have e1 : ilt (ofN p.length) (ofN L.length) = true := by rw [hL]; exact lt_in
    have e2 : inb (ofN p.length) L.length = true := by rw [hL]; exact inb_in
    have e3 : ∀ d, L.getD (ofN p.length).toNat d = x := fun d => by rw [hL]; exact get_in
    simp only [F6_c0, e1, e2, e3, cond_true]
    have hs : (cm x).l.length < 1000 := rightC_short hr x (by rw [hL]; simp)
    simp only [List.length_cons] at h
    rw [ieq_dec]
    show (bif decide (cwhy x = why) then _ else _) = _
    by_cases hw : cwhy x = why
    · rw [decide_eq_true hw, cond_true, add_in (x := x) (by omega)]
      have hfl : (p ++ [x]).filter (notW why) = p.filter (notW why) := by simp [notW, hw]
      have h1 := fun fi hi => drop_law hr ok f hf r (p ++ [x]) n fi (by rw [hL]; simp) (by omega) hi
      rw [hfl] at h1
      rcases hi with ⟨rfl, hi⟩ | ⟨q, y, s, rfl, rfl, hy, hq⟩
      · rw [show ilt (-1) 0 = true from rfl, cond_true]
        exact h1 _ (Or.inr ⟨p, x, [], rfl, rfl, hw, hi⟩)
      · rw [show ilt (ofN q.length) 0 = false from decide_eq_false (by simp [ofN]), cond_false]
        exact h1 _ (Or.inr ⟨q, y, s ++ [x], by simp, rfl, hy, hq⟩)
    · rw [decide_eq_false hw, cond_false]
      have hfl : (p ++ [x]).filter (notW why) = p.filter (notW why) ++ [x] := by simp [notW, hw]
      have ho : L.filter (notW why) = p.filter (notW why) ++ x :: r.filter (notW why) := by rw [hL]; simp [notW, hw]
      have hlf := List.length_filter_le (notW why) p
      have h1 := drop_law hr ok f hf r (p ++ [x]) n fi (by rw [hL]; simp) (by omega) (by
        rcases hi with ⟨rfl, hi⟩ | ⟨q, y, s, rfl, rfl, hy, hq⟩
        · exact Or.inl ⟨rfl, fun z hz => by
            rcases List.mem_append.1 hz with hz | hz
            · exact hi z hz
            · simp at hz; rw [hz]; exact hw⟩
        · exact Or.inr ⟨q, y, s ++ [x], by simp, rfl, hy, hq⟩)
      rw [hfl, ← add_in (x := x) (by omega), ← add_in (x := x) (by omega)] at h1
      have e4 : ige (ofN (p.filter (notW why)).length) (ofN (L.filter (notW why)).length) = false := by rw [ho]; exact decide_eq_false (by simp [ofN]; omega)
      have e5 : inb (ofN (p.filter (notW why)).length) (L.filter (notW why)).length = true := by rw [ho]; exact inb_in
      have e6 : nlt (ofN (p.filter (notW why)).length).toNat (L.filter (notW why)).length = true := by rw [ho]; exact nlt_in
      have e7 : ∀ d, (L.filter (notW why)).getD (ofN (p.filter (notW why)).length).toNat d = x := fun d => by rw [ho]; exact get_in
      rw [e4, e5, e6]
      simp only [cond_false, cond_true, e7]
      rw [call_rs FUEL x x hs, cqC_self, Option.bind_some, Bool.not_true, cond_false]
      exact h1
theorem plain_CallsDrop {n : Nat} (hn : 2000 < n) (id many : Int) (l : List CLT) (why : Int) (hl : ∀ x ∈ l, (cm x).l.length ≤ 9223372036854775807) : F6 n id many l why = some true := by
  have hff := fuel_big
  unfold F6
  rw [cright_r (by omega) id many l hl, wakes10]
  cases hr : rightC id many l
  · rfl
  have h16 := (rightC_parts hr).2.2.2.1
  rw [cfind_p (by omega) hr, cdrop_p (by omega) hr]
  simp only [Option.bind_some, Bool.not_true, cond_false]
  cases hc : firstC why l with
  | none =>
    have := drop_law hr false zC (by rw [hc]) l [] n (-1) rfl (by omega) (Or.inl ⟨rfl, by simp⟩)
    exact this
  | some x =>
    have := drop_law hr true x (by rw [hc]; exact ⟨rfl, rfl⟩) l [] n (-1) rfl (by omega) (Or.inl ⟨rfl, by simp⟩)
    exact this

/-! ### Late. -/
theorem nxt_1 (now : Int) (x : CLT) : (nxtC now x).1 = x.1 := by unfold nxtC; split <;> rfl
theorem nxt_cm (now : Int) (x : CLT) : cm (nxtC now x) = cm x := by unfold nxtC; split <;> rfl
theorem nxt_right {id many now : Int} {x : CLT} (h : callC id many x = true) (ht : isT now = true) : callC id many (nxtC now x) = true := by
  by_cases hd : dueB now x = true
  · have hd' := hd
    unfold dueB at hd
    simp only [Bool.or_eq_true, Bool.and_eq_true, decide_eq_true_eq] at hd
    have e3 : csent (nxtC now x) = now := by unfold nxtC; rw [if_pos hd']; rfl
    have e4 : ctries (nxtC now x) = ctries x + 1 := by unfold nxtC; rw [if_pos hd']; rfl
    unfold callC at h ⊢
    rw [nxt_cm, nxt_1, e3, e4]
    simp only [Bool.and_eq_true, decide_eq_true_eq] at h ⊢
    obtain ⟨a1, a2, a3, a4, a5, a6, a7, a8⟩ := h
    exact ⟨a1, a2, a3, a4, a5, by omega, by omega, ht⟩
  · have : nxtC now x = x := by unfold nxtC; rw [if_neg hd]
    rw [this]; exact h
theorem rightC_late {id many now : Int} {l : List CLT} (h : rightC id many l = true) (ht : isT now = true) : rightC id many (lateO now l) = true := by
  have h0 := rightC_sub h (List.filter_sublist (p := fun x => !ovrB now x) (l := l))
  rw [rightC_iff] at h0 ⊢
  obtain ⟨h1, h2, h3, h4, h5⟩ := h0
  unfold lateO
  refine ⟨h1, h2, by simpa using h3, fun x hx => ?_, ?_⟩
  · obtain ⟨y, hy, rfl⟩ := List.mem_map.1 hx
    exact nxt_right (h4 y hy) ht
  · rw [List.pairwise_map]
    simpa only [nxt_1] using h5
theorem late_quiet {now : Int} {x : CLT} (ho : ovrB now x = false) : ovrB now (nxtC now x) = false ∧ dueB now (nxtC now x) = false := by
  by_cases hd : dueB now x = true
  · have e3 : csent (nxtC now x) = now := by unfold nxtC; rw [if_pos hd]; rfl
    have e5 : isub .i64 now now = 0 := by simp only [isub]; rw [Int.sub_self]; rfl
    unfold ovrB dueB
    rw [e3, e5]
    simp
  · have : nxtC now x = x := by unfold nxtC; rw [if_neg hd]
    rw [this]; exact ⟨ho, by simpa using hd⟩
theorem late_again {now : Int} (l : List CLT) : lateO now (lateO now l) = lateO now l ∧ lateA now (lateO now l) = [] ∧ lateV now (lateO now l) = [] := by
  have hq : ∀ y ∈ lateO now l, ovrB now y = false ∧ dueB now y = false := fun y hy => by
    obtain ⟨x, hx, rfl⟩ := List.mem_map.1 hy
    exact late_quiet (by have := (List.mem_filter.1 hx).2; simpa using this)
  generalize lateO now l = o at hq
  have e1 : o.filter (fun x => !ovrB now x) = o := List.filter_eq_self.2 (fun y hy => by simp [(hq y hy).1])
  have e2 : o.filter (ovrB now) = [] := List.filter_eq_nil_iff.2 (fun y hy => by simp [(hq y hy).1])
  have e3 : o.filter (dueB now) = [] := List.filter_eq_nil_iff.2 (fun y hy => by simp [(hq y hy).2])
  have e4 : o.map (nxtC now) = o := by
    conv => rhs; rw [← List.map_id o]
    exact List.map_congr_left (fun y hy => by unfold nxtC; simp [(hq y hy).2])
  unfold lateO lateA lateV
  rw [e1, e2, e3, e4]
  exact ⟨rfl, rfl, rfl⟩
theorem nextcall_r (x z : CLT) (now : Int) (h : (cm z).l.length < 1000) {β : Type} (G : Bool → Option β) : (Option.bind (F23 FUEL x.1 x.2.1 x.2.2.1 x.2.2.2.1 x.2.2.2.2.1 x.2.2.2.2.2.1 x.2.2.2.2.2.2.1 x.2.2.2.2.2.2.2.1 x.2.2.2.2.2.2.2.2.1 x.2.2.2.2.2.2.2.2.2.1 x.2.2.2.2.2.2.2.2.2.2.2.1 x.2.2.2.2.2.2.2.2.2.2.2.2.1 x.2.2.2.2.2.2.2.2.2.2.2.2.2.1 x.2.2.2.2.2.2.2.2.2.2.2.2.2.2.1 x.2.2.2.2.2.2.2.2.2.2.2.2.2.2.2.1 x.2.2.2.2.2.2.2.2.2.2.2.2.2.2.2.2.1 x.2.2.2.2.2.2.2.2.2.2.2.2.2.2.2.2.2.1 x.2.2.2.2.2.2.2.2.2.2.2.2.2.2.2.2.2.2.1 x.2.2.2.2.2.2.2.2.2.2.2.2.2.2.2.2.2.2.2 now) fun y => Option.bind (F15 FUEL z.1 z.2.1 z.2.2.1 z.2.2.2.1 z.2.2.2.2.1 z.2.2.2.2.2.1 z.2.2.2.2.2.2.1 z.2.2.2.2.2.2.2.1 z.2.2.2.2.2.2.2.2.1 z.2.2.2.2.2.2.2.2.2.1 z.2.2.2.2.2.2.2.2.2.2.1 z.2.2.2.2.2.2.2.2.2.2.2.1 z.2.2.2.2.2.2.2.2.2.2.2.2.1 z.2.2.2.2.2.2.2.2.2.2.2.2.2.1 z.2.2.2.2.2.2.2.2.2.2.2.2.2.2.1 z.2.2.2.2.2.2.2.2.2.2.2.2.2.2.2.1 z.2.2.2.2.2.2.2.2.2.2.2.2.2.2.2.2.1 z.2.2.2.2.2.2.2.2.2.2.2.2.2.2.2.2.2.1 z.2.2.2.2.2.2.2.2.2.2.2.2.2.2.2.2.2.2.1 z.2.2.2.2.2.2.2.2.2.2.2.2.2.2.2.2.2.2.2 y.q0 y.q1 y.q2 y.q3 y.q4 y.q5 y.q6 y.q7 y.q8 y.q9 x.2.2.2.2.2.2.2.2.2.2.1 y.q10 y.q11 y.q12 y.q13 y.q14 y.q15 y.q16 y.q17 y.q18) G) = G (cqC z (nxtC now x)) := by
  have hd : F21 FUEL x.2.2.2.2.2.2.2.2.2.2.2.2.2.2.2.2.2.2.1 x.2.2.2.2.2.2.2.2.2.2.2.2.2.2.2.2.2.2.2 now = some (dueB now x) := due_r FUEL x now
  unfold F23
  rw [hd, Option.bind_some]
  cases h2 : dueB now x
  · have e : nxtC now x = (x.1, x.2.1, x.2.2.1, x.2.2.2.1, x.2.2.2.2.1, x.2.2.2.2.2.1, x.2.2.2.2.2.2.1, x.2.2.2.2.2.2.2.1, x.2.2.2.2.2.2.2.2.1, x.2.2.2.2.2.2.2.2.2.1, x.2.2.2.2.2.2.2.2.2.2.1, x.2.2.2.2.2.2.2.2.2.2.2.1, x.2.2.2.2.2.2.2.2.2.2.2.2.1, x.2.2.2.2.2.2.2.2.2.2.2.2.2.1, x.2.2.2.2.2.2.2.2.2.2.2.2.2.2.1, x.2.2.2.2.2.2.2.2.2.2.2.2.2.2.2.1, x.2.2.2.2.2.2.2.2.2.2.2.2.2.2.2.2.1, x.2.2.2.2.2.2.2.2.2.2.2.2.2.2.2.2.2.1, x.2.2.2.2.2.2.2.2.2.2.2.2.2.2.2.2.2.2.1, x.2.2.2.2.2.2.2.2.2.2.2.2.2.2.2.2.2.2.2) := by unfold nxtC; simp [h2]
    rw [e, cond_false, Option.bind_some]
    exact congrArg (fun o => Option.bind o G) (call_rs FUEL z (x.1, x.2.1, x.2.2.1, x.2.2.2.1, x.2.2.2.2.1, x.2.2.2.2.2.1, x.2.2.2.2.2.2.1, x.2.2.2.2.2.2.2.1, x.2.2.2.2.2.2.2.2.1, x.2.2.2.2.2.2.2.2.2.1, x.2.2.2.2.2.2.2.2.2.2.1, x.2.2.2.2.2.2.2.2.2.2.2.1, x.2.2.2.2.2.2.2.2.2.2.2.2.1, x.2.2.2.2.2.2.2.2.2.2.2.2.2.1, x.2.2.2.2.2.2.2.2.2.2.2.2.2.2.1, x.2.2.2.2.2.2.2.2.2.2.2.2.2.2.2.1, x.2.2.2.2.2.2.2.2.2.2.2.2.2.2.2.2.1, x.2.2.2.2.2.2.2.2.2.2.2.2.2.2.2.2.2.1, x.2.2.2.2.2.2.2.2.2.2.2.2.2.2.2.2.2.2.1, x.2.2.2.2.2.2.2.2.2.2.2.2.2.2.2.2.2.2.2) h)
  · have e : nxtC now x = (x.1, x.2.1, x.2.2.1, x.2.2.2.1, x.2.2.2.2.1, x.2.2.2.2.2.1, x.2.2.2.2.2.2.1, x.2.2.2.2.2.2.2.1, x.2.2.2.2.2.2.2.2.1, x.2.2.2.2.2.2.2.2.2.1, x.2.2.2.2.2.2.2.2.2.2.1, x.2.2.2.2.2.2.2.2.2.2.2.1, x.2.2.2.2.2.2.2.2.2.2.2.2.1, x.2.2.2.2.2.2.2.2.2.2.2.2.2.1, x.2.2.2.2.2.2.2.2.2.2.2.2.2.2.1, x.2.2.2.2.2.2.2.2.2.2.2.2.2.2.2.1, x.2.2.2.2.2.2.2.2.2.2.2.2.2.2.2.2.1, x.2.2.2.2.2.2.2.2.2.2.2.2.2.2.2.2.2.1, now, x.2.2.2.2.2.2.2.2.2.2.2.2.2.2.2.2.2.2.2 + 1) := by unfold nxtC; simp [h2]
    have e2 := due_add h2
    unfold ctries at e2
    rw [e, cond_true, Option.bind_some, e2]
    exact congrArg (fun o => Option.bind o G) (call_rs FUEL z (x.1, x.2.1, x.2.2.1, x.2.2.2.1, x.2.2.2.2.1, x.2.2.2.2.2.1, x.2.2.2.2.2.2.1, x.2.2.2.2.2.2.2.1, x.2.2.2.2.2.2.2.2.1, x.2.2.2.2.2.2.2.2.2.1, x.2.2.2.2.2.2.2.2.2.2.1, x.2.2.2.2.2.2.2.2.2.2.2.1, x.2.2.2.2.2.2.2.2.2.2.2.2.1, x.2.2.2.2.2.2.2.2.2.2.2.2.2.1, x.2.2.2.2.2.2.2.2.2.2.2.2.2.2.1, x.2.2.2.2.2.2.2.2.2.2.2.2.2.2.2.1, x.2.2.2.2.2.2.2.2.2.2.2.2.2.2.2.2.1, x.2.2.2.2.2.2.2.2.2.2.2.2.2.2.2.2.2.1, now, x.2.2.2.2.2.2.2.2.2.2.2.2.2.2.2.2.2.2.2 + 1) h)
theorem lateO_app (now : Int) (p r : List CLT) : lateO now (p ++ r) = lateO now p ++ lateO now r := by simp [lateO]
theorem lateV_app (now : Int) (p r : List CLT) : lateV now (p ++ r) = lateV now p ++ lateV now r := by simp [lateV]
theorem lateA_app (now : Int) (p r : List CLT) : lateA now (p ++ r) = lateA now p ++ lateA now r := by simp [lateA]
theorem lateO_len (now : Int) (p : List CLT) : (lateO now p).length ≤ p.length := by simpa [lateO] using List.length_filter_le _ p
theorem lateV_len (now : Int) (p : List CLT) : (lateV now p).length ≤ p.length := List.length_filter_le _ _
theorem lateA_len (now : Int) (p : List CLT) : (lateA now p).length ≤ (lateO now p).length := by simpa [lateA, lateO] using List.length_filter_le (dueB now) (p.filter (fun x => !ovrB now x))
theorem late_sum (now : Int) : ∀ (p : List CLT), (lateO now p).length + (lateV now p).length = p.length
  | [] => rfl
  | x :: r => by
    have h := late_sum now r
    unfold lateO lateV at h ⊢
    rw [List.length_map] at h ⊢
    rw [List.filter_cons, List.filter_cons]
    cases ovrB now x <;> simp <;> omega
section
variable {α : Type}
theorem at_ge {L p s : List α} {x : α} (h : L = p ++ x :: s) : ige (ofN p.length) (ofN L.length) = false := by rw [h]; exact decide_eq_false (by simp [ofN]; omega)
theorem at_inb {L p s : List α} {x : α} (h : L = p ++ x :: s) : inb (ofN p.length) L.length = true := by rw [h]; exact inb_in
theorem at_nlt {L p s : List α} {x : α} (h : L = p ++ x :: s) : nlt (ofN p.length).toNat L.length = true := by rw [h]; exact nlt_in
theorem at_get {L p s : List α} {x : α} (h : L = p ++ x :: s) (d : α) : L.getD (ofN p.length).toNat d = x := by rw [h]; exact get_in
theorem at_lt {L p s : List α} {x : α} (h : L = p ++ x :: s) : ilt (ofN p.length) (ofN L.length) = true := by rw [h]; exact lt_in
end
theorem late_law {id many now : Int} {L : List CLT} (hr : rightC id many L = true) (ht : isT now = true) : ∀ (r p : List CLT) (n : Nat), L = p ++ r → r.length < n →
    F5_c0 n now (ofN (lateA now p).length) (ofN (lateV now p).length) (ofN (lateO now p).length) (ofN p.length) id many L id many (lateA now L) (lateV now L) (lateO now L) = some true
  | _, _, 0, _, h => by omega
  | [], p, n + 1, hL, h => by
    have hff := fuel_big
    have h16 := (rightC_parts hr).2.2.2.1
    rw [List.append_nil] at hL
    subst hL
    have ho := rightC_late hr ht
    have hos := rightC_short ho
    have hol := lateO_len now L
    simp only [F5_c0, lt_out, cond_false]
    obtain ⟨q1, q2, q3⟩ := late_again (now := now) L
    rw [clate_p (by omega) ho ht, cright_p (by omega) _ _ _ hos, ho, wakes10]
    simp only [Option.bind_some, q1, q2, q3]
    rw [csame_r FUEL _ _ _ _ _ _ (by omega) hos, leqC_self]
    simp only [Option.bind_some, ieq_dec, decide_true, cond_true, Bool.and_true]
    rfl
  | x :: r, p, n + 1, hL, h => by
    have hff := fuel_big
    have h16 := (rightC_parts hr).2.2.2.1
    have hb := congrArg List.length hL
    simp only [List.length_append, List.length_cons] at hb
    have hs : (cm x).l.length < 1000 := rightC_short hr x (by rw [hL]; simp)
    have l1 := lateO_len now p
    have l2 := lateV_len now p
    have l3 := lateA_len now p
    have hL2 : L = (p ++ [x]) ++ r := by rw [hL]; simp
    simp only [F5_c0, at_lt hL, at_inb hL, at_get hL, cond_true]
    simp only [List.length_cons] at h
    have ho : F20 FUEL x.2.2.2.2.2.2.2.2.2.2.2.2.2.2.2.2.2.2.1 x.2.2.2.2.2.2.2.2.2.2.2.2.2.2.2.2.2.2.2 now = some (ovrB now x) := over_r FUEL x now
    have hd : F21 FUEL x.2.2.2.2.2.2.2.2.2.2.2.2.2.2.2.2.2.2.1 x.2.2.2.2.2.2.2.2.2.2.2.2.2.2.2.2.2.2.2 now = some (dueB now x) := due_r FUEL x now
    rw [ho, hd]
    simp only [Option.bind_some]
    have h1 := late_law hr ht r (p ++ [x]) n hL2 (by omega)
    rw [lateA_app, lateV_app, lateO_app, ← add_in (p := p) (x := x) (by omega)] at h1
    cases h2 : ovrB now x
    · have eO : lateO now [x] = [nxtC now x] := by simp [lateO, h2]
      have eV : lateV now [x] = [] := by simp [lateV, h2]
      have aO : lateO now L = lateO now p ++ nxtC now x :: lateO now r := by rw [hL2, lateO_app, lateO_app, eO]; simp
      rw [cond_false, at_ge aO, at_inb aO, at_nlt aO]
      simp only [at_get aO, cond_true, cond_false]
      rw [nextcall_r x (nxtC now x) now (by rw [nxt_cm]; exact hs), nextcall_r x (nxtC now x) now (by rw [nxt_cm]; exact hs), cqC_self]
      simp only [Bool.not_true, cond_false]
      rw [eO, eV, List.append_nil, ← add_in (by omega)] at h1
      cases h3 : dueB now x
      · have eA : lateA now [x] = [] := by simp [lateA, h2, h3]
        rw [eA, List.append_nil] at h1
        rw [cond_false]
        exact h1
      · have eA : lateA now [x] = [cmT x] := by simp [lateA, h2, h3]
        have aA : lateA now L = lateA now p ++ cmT x :: lateA now r := by rw [hL2, lateA_app, lateA_app, eA]; simp
        rw [eA, ← add_in (x := cmT x) (by omega)] at h1
        rw [at_ge aA, at_inb aA, at_nlt aA]
        simp only [at_get aA, cond_true, cond_false]
        have hS : F22 FUEL x.2.1 x.2.2.1 x.2.2.2.1 x.2.2.2.2.1 x.2.2.2.2.2.1 x.2.2.2.2.2.2.1 x.2.2.2.2.2.2.2.1 x.2.2.2.2.2.2.2.2.1 x.2.2.2.2.2.2.2.2.2.1 x.2.2.2.2.2.2.2.2.2.2.1 x.2.2.2.2.2.2.2.2.2.2.2.1 x.2.2.2.2.2.2.2.2.2.2.2.2.1 x.2.2.2.2.2.2.2.2.2.2.2.2.2.1 x.2.2.2.2.2.2.2.2.2.2.2.2.2.2.1 x.2.2.2.2.2.2.2.2.2.2.2.2.2.2.2.1 x.2.1 x.2.2.1 x.2.2.2.1 x.2.2.2.2.1 x.2.2.2.2.2.1 x.2.2.2.2.2.2.1 x.2.2.2.2.2.2.2.1 x.2.2.2.2.2.2.2.2.1 x.2.2.2.2.2.2.2.2.2.1 x.2.2.2.2.2.2.2.2.2.2.1 x.2.2.2.2.2.2.2.2.2.2.2.1 x.2.2.2.2.2.2.2.2.2.2.2.2.1 x.2.2.2.2.2.2.2.2.2.2.2.2.2.1 x.2.2.2.2.2.2.2.2.2.2.2.2.2.2.1 x.2.2.2.2.2.2.2.2.2.2.2.2.2.2.2.1 = some (sameM (cm x) (cm x)) := msame_r (show (cm x).l.length < FUEL by omega) (show (cm x).l.length ≤ 9223372036854775807 by omega)
        simp only [cmT]
        rw [hS, sameM_self]
        simp only [Option.bind_some, Bool.not_true, cond_false]
        exact h1
    · have eO : lateO now [x] = [] := by simp [lateO, h2]
      have eV : lateV now [x] = [x] := by simp [lateV, h2]
      have eA : lateA now [x] = [] := by simp [lateA, h2]
      have aV : lateV now L = lateV now p ++ x :: lateV now r := by rw [hL2, lateV_app, lateV_app, eV]; simp
      rw [cond_true, at_ge aV, at_inb aV, at_nlt aV]
      simp only [at_get aV, cond_true, cond_false]
      rw [call_rs FUEL x x hs, cqC_self]
      simp only [Option.bind_some, Bool.not_true, cond_false]
      rw [eO, eV, eA, List.append_nil, List.append_nil, ← add_in (x := x) (by omega)] at h1
      exact h1
theorem plain_CallsLate {n : Nat} (hn : 2000 < n) (id many : Int) (l : List CLT) (now : Int) (hl : ∀ x ∈ l, (cm x).l.length ≤ 9223372036854775807) : F5 n id many l now = some true := by
  have hff := fuel_big
  unfold F5
  rw [cright_r (by omega) id many l hl, wakes10]
  cases hr : rightC id many l
  · rfl
  have h16 := (rightC_parts hr).2.2.2.1
  simp only [Option.bind_some, Bool.not_true, cond_false]
  by_cases h0 : now < 0
  · rw [show ilt now 0 = true from decide_eq_true h0]; rfl
  by_cases h1 : now > 1099511627776
  · rw [show ilt now 0 = false from decide_eq_false h0, show igt now 1099511627776 = true from decide_eq_true h1]; rfl
  rw [show ilt now 0 = false from decide_eq_false h0, show igt now 1099511627776 = false from decide_eq_false h1]
  have ht : isT now = true := by unfold isT; simp; omega
  rw [clate_p (by omega) hr ht]
  exact late_law hr ht l [] n rfl (by omega)

/-! ### Close. -/
theorem lastC_none {id : Int} {m : MW} : ∀ {l : List CLT} {c : CLT}, (∀ x ∈ l, ofB id m x = false) → lastC id m c l = c
  | [], _, _ => rfl
  | x :: r, c, h => by rw [lastC, h x (by simp)]; exact lastC_none (fun y hy => h y (by simp [hy]))
theorem lastC_at {id : Int} {m : MW} {y : CLT} {s : List CLT} (hy : ofB id m y = true) (hs : ∀ x ∈ s, ofB id m x = false) : ∀ {q : List CLT} {c : CLT}, lastC id m c (q ++ y :: s) = y
  | [], c => by rw [List.nil_append, lastC, if_pos hy]; exact lastC_none hs
  | x :: q, c => by rw [List.cons_append, lastC]; exact lastC_at hy hs
theorem of_num {id : Int} {m : MW} {x : CLT} (h : ofB id m x = true) : m.c = x.1 := by
  unfold ofB at h; simp only [Bool.and_eq_true, decide_eq_true_eq] at h; exact h.1
theorem of_ne {id : Int} {m : MW} {x y : CLT} (h : ofB id m y = true) (hn : x.1 ≠ y.1) : ofB id m x = false := by
  cases h2 : ofB id m x
  · rfl
  · exact absurd ((of_num h2).symm.trans (of_num h)) hn
/-- Only one. -/
theorem of_one {id many : Int} {m : MW} {q s : List CLT} {y : CLT} (hr : rightC id many (q ++ y :: s) = true) (hy : ofB id m y = true) : (∀ x ∈ q, ofB id m x = false) ∧ ∀ x ∈ s, ofB id m x = false := by
  have hp := (rightC_iff.1 hr).2.2.2.2
  rw [List.pairwise_append, List.pairwise_cons] at hp
  obtain ⟨_, ⟨h1, _⟩, h2⟩ := hp
  exact ⟨fun x hx => of_ne hy (by have := h2 x hx y (by simp); omega), fun x hx => of_ne hy (by have := h1 x hx; omega)⟩
theorem close_at {id many : Int} {m : MW} {q s : List CLT} {y : CLT} (hr : rightC id many (q ++ y :: s) = true) (hy : ofB id m y = true) : lastC id m zC (q ++ y :: s) = y ∧ (q ++ y :: s).any (ofB id m) = true ∧ (q ++ y :: s).filter (fun x => !ofB id m x) = q ++ s := by
  obtain ⟨h1, h2⟩ := of_one hr hy
  refine ⟨lastC_at hy h2, by simp [hy], ?_⟩
  rw [List.filter_append, List.filter_cons, hy]
  have e1 : q.filter (fun x => !ofB id m x) = q := List.filter_eq_self.2 (fun x hx => by rw [h1 x hx]; rfl)
  have e2 : s.filter (fun x => !ofB id m x) = s := List.filter_eq_self.2 (fun x hx => by rw [h2 x hx]; rfl)
  rw [e1, e2]; rfl
theorem close_no {id : Int} {m : MW} {l : List CLT} (h : ∀ x ∈ l, ofB id m x = false) : lastC id m zC l = zC ∧ l.any (ofB id m) = false ∧ l.filter (fun x => !ofB id m x) = l := by
  refine ⟨lastC_none h, ?_, List.filter_eq_self.2 (fun x hx => by rw [h x hx]; rfl)⟩
  rw [List.any_eq_false]; intro x hx; rw [h x hx]; simp
theorem close_law {id many : Int} {L : List CLT} (hr : rightC id many L = true) (m : MW) (hm : m.l.length < 1000) : ∀ (r p : List CLT) (n : Nat) (fi : Int), L = p ++ r → r.length < n → (fi = -1 ∧ (∀ x ∈ p, (rightM m && ofB id m x) = false) ∨ ∃ q y s, p = q ++ y :: s ∧ fi = ofN q.length ∧ rightM m = true ∧ ofB id m y = true) →
    F4_c0 n fi (ofN p.length) id many L m.k m.c m.f m.t m.key m.s m.d m.p m.pr m.l m.ik m.iv m.ir m.ig m.cd = some true
  | _, _, 0, _, _, h, _ => by omega
  | [], p, n + 1, fi, hL, h, hi => by
    have hff := fuel_big
    have h16 := (rightC_parts hr).2.2.2.1
    rw [List.append_nil] at hL
    subst hL
    have hs := rightC_short hr
    simp only [F4_c0, lt_out, cond_false]
    rw [cclose_p (by omega) hr m hm, wakes10]
    rcases hi with ⟨rfl, hi⟩ | ⟨q, y, s, rfl, rfl, hR, hy⟩
    · have e : (if rightM m then (⟨id, many, (lastC id m zC L).1, (lastC id m zC L).2.1, (lastC id m zC L).2.2.1, (lastC id m zC L).2.2.2.1, (lastC id m zC L).2.2.2.2.1, (lastC id m zC L).2.2.2.2.2.1, (lastC id m zC L).2.2.2.2.2.2.1, (lastC id m zC L).2.2.2.2.2.2.2.1, (lastC id m zC L).2.2.2.2.2.2.2.2.1, (lastC id m zC L).2.2.2.2.2.2.2.2.2.1, (lastC id m zC L).2.2.2.2.2.2.2.2.2.2.1, (lastC id m zC L).2.2.2.2.2.2.2.2.2.2.2.1, (lastC id m zC L).2.2.2.2.2.2.2.2.2.2.2.2.1, (lastC id m zC L).2.2.2.2.2.2.2.2.2.2.2.2.2.1, (lastC id m zC L).2.2.2.2.2.2.2.2.2.2.2.2.2.2.1, (lastC id m zC L).2.2.2.2.2.2.2.2.2.2.2.2.2.2.2.1, (lastC id m zC L).2.2.2.2.2.2.2.2.2.2.2.2.2.2.2.2.1, (lastC id m zC L).2.2.2.2.2.2.2.2.2.2.2.2.2.2.2.2.2.1, (lastC id m zC L).2.2.2.2.2.2.2.2.2.2.2.2.2.2.2.2.2.2.1, (lastC id m zC L).2.2.2.2.2.2.2.2.2.2.2.2.2.2.2.2.2.2.2, L.any (ofB id m), L.filter (fun x => !ofB id m x)⟩ : Si8b2i2lsi2bi5bl_i6b2i2lsi2bi5_) else ⟨id, many, zC.1, zC.2.1, zC.2.2.1, zC.2.2.2.1, zC.2.2.2.2.1, zC.2.2.2.2.2.1, zC.2.2.2.2.2.2.1, zC.2.2.2.2.2.2.2.1, zC.2.2.2.2.2.2.2.2.1, zC.2.2.2.2.2.2.2.2.2.1, zC.2.2.2.2.2.2.2.2.2.2.1, zC.2.2.2.2.2.2.2.2.2.2.2.1, zC.2.2.2.2.2.2.2.2.2.2.2.2.1, zC.2.2.2.2.2.2.2.2.2.2.2.2.2.1, zC.2.2.2.2.2.2.2.2.2.2.2.2.2.2.1, zC.2.2.2.2.2.2.2.2.2.2.2.2.2.2.2.1, zC.2.2.2.2.2.2.2.2.2.2.2.2.2.2.2.2.1, zC.2.2.2.2.2.2.2.2.2.2.2.2.2.2.2.2.2.1, zC.2.2.2.2.2.2.2.2.2.2.2.2.2.2.2.2.2.2.1, zC.2.2.2.2.2.2.2.2.2.2.2.2.2.2.2.2.2.2.2, false, L⟩) = ⟨id, many, zC.1, zC.2.1, zC.2.2.1, zC.2.2.2.1, zC.2.2.2.2.1, zC.2.2.2.2.2.1, zC.2.2.2.2.2.2.1, zC.2.2.2.2.2.2.2.1, zC.2.2.2.2.2.2.2.2.1, zC.2.2.2.2.2.2.2.2.2.1, zC.2.2.2.2.2.2.2.2.2.2.1, zC.2.2.2.2.2.2.2.2.2.2.2.1, zC.2.2.2.2.2.2.2.2.2.2.2.2.1, zC.2.2.2.2.2.2.2.2.2.2.2.2.2.1, zC.2.2.2.2.2.2.2.2.2.2.2.2.2.2.1, zC.2.2.2.2.2.2.2.2.2.2.2.2.2.2.2.1, zC.2.2.2.2.2.2.2.2.2.2.2.2.2.2.2.2.1, zC.2.2.2.2.2.2.2.2.2.2.2.2.2.2.2.2.2.1, zC.2.2.2.2.2.2.2.2.2.2.2.2.2.2.2.2.2.2.1, zC.2.2.2.2.2.2.2.2.2.2.2.2.2.2.2.2.2.2.2, false, L⟩ := by
        cases h : rightM m
        · rfl
        · have hn := close_no (id := id) (m := m) (l := L) (fun x hx => by have := hi x hx; rw [h] at this; exact this)
          rw [hn.1, hn.2.1, hn.2.2]; rfl
      rw [e]
      simp only [Option.bind_some, ieq_dec, ine_dec, decide_true, Bool.not_true, cond_false, Bool.not_false, cond_true]
      rw [csame_r FUEL _ _ _ _ _ _ (by omega) hs, leqC_self]
      simp only [decide_true, Bool.and_true]
      rfl
    · obtain ⟨c1, c2, c3⟩ := close_at hr hy
      have hb : q.length + (s.length + 1) ≤ 16 := by simpa using h16
      rw [if_pos hR, c1, c2, c3]
      have e1 : bneb true (ige (ofN q.length) 0) = false := by rw [show ige (ofN q.length) 0 = true from decide_eq_true (by simp [ofN])]; rfl
      have e2 : (inn (ofN q.length) && inbs 0 (ofN q.length).toNat (q ++ y :: s).length) = true := by simp [inn, inbs, ofN]
      have e3 : List.drop 0 (List.take (ofN q.length).toNat (q ++ y :: s)) = q := take_in
      have e4 : iadd .i64 (ofN q.length) 1 = ofN (q ++ [y]).length := add_in (by omega)
      have e5 : (inn (ofN (q ++ [y]).length) && true && inbs (ofN (q ++ [y]).length).toNat (q ++ y :: s).length (q ++ y :: s).length) = true := by simp [inn, inbs, ofN]; omega
      have e6 : List.drop (ofN (q ++ [y]).length).toNat (List.take (q ++ y :: s).length (q ++ y :: s)) = s := by
        rw [List.take_length, in_eq]; simp [ofN]
      simp only [Option.bind_some, ine_dec, decide_true, Bool.not_true, cond_false, e1, e2, e3, e4, e5, e6, cond_true, inb_in, get_in, List.nil_append]
      rw [room_all (by omega) (by decide), room_all (by omega) (by decide), call_rs FUEL y y (hs y (by simp)), cqC_self, calls_rs (by omega) (q ++ s) (q ++ s) (by simp; omega) (rightC_short (rightC_sub hr (by simp))), leqC_self]
      rfl
  | x :: r, p, n + 1, fi, hL, h, hi => by
    have hff := fuel_big
    have h16 := (rightC_parts hr).2.2.2.1
    have hb := congrArg List.length hL
    simp only [List.length_append, List.length_cons] at hb
    have hL2 : L = (p ++ [x]) ++ r := by rw [hL]; simp
    simp only [List.length_cons] at h
    simp only [F4_c0, at_lt hL, at_inb hL, at_get hL, cond_true]
    have hR : F11 FUEL m.k m.c m.f m.t m.key m.s m.d m.p m.pr m.l m.ik m.iv m.ir m.ig m.cd = some (rightM m) := mright_rl FUEL m.k m.c m.f m.t m.key m.s m.d m.p m.pr m.l m.ik m.iv m.ir m.ig m.cd (by omega)
    rw [hR, add_in (x := x) (by omega)]
    have h1 := fun fi hi => close_law hr m hm r (p ++ [x]) n fi hL2 (by omega) hi
    have hA : (rightM m && ofB id m x) = true → F4_c0 n (ofN p.length) (ofN (p ++ [x]).length) id many L m.k m.c m.f m.t m.key m.s m.d m.p m.pr m.l m.ik m.iv m.ir m.ig m.cd = some true := fun h2 => by
      rw [Bool.and_eq_true] at h2
      exact h1 _ (Or.inr ⟨p, x, [], rfl, rfl, h2.1, h2.2⟩)
    have hB : (rightM m && ofB id m x) = false → F4_c0 n fi (ofN (p ++ [x]).length) id many L m.k m.c m.f m.t m.key m.s m.d m.p m.pr m.l m.ik m.iv m.ir m.ig m.cd = some true := fun h2 => by
      refine h1 _ ?_
      rcases hi with ⟨rfl, hi⟩ | ⟨q, y, s, rfl, rfl, hR, hy⟩
      · exact Or.inl ⟨rfl, fun z hz => by
          rcases List.mem_append.1 hz with hz | hz
          · exact hi z hz
          · simp at hz; rw [hz]; exact h2⟩
      · exact Or.inr ⟨q, y, s ++ [x], by simp, rfl, hR, hy⟩
    have e : ∀ X Y : Option Bool, (bif rightM m then (bif ieq x.1 m.c then (bif ieq m.f (cm x).t then (bif ieq m.t id then (bif ieq m.k (iadd .u8 (cm x).k 6) then X else Y) else Y) else Y) else Y) else Y) = bif rightM m && ofB id m x then X else Y := fun X Y => by
      unfold ofB
      simp only [ieq_dec, eq_comm (a := x.1)]
      cases rightM m
      · rfl
      cases decide (m.c = x.1)
      · rfl
      cases decide (m.f = (cm x).t)
      · rfl
      cases decide (m.t = id)
      · rfl
      cases decide (m.k = iadd .u8 (cm x).k 6) <;> rfl
    simp only [Option.bind_some]
    refine (e _ _).trans ?_
    cases h2 : rightM m && ofB id m x
    · exact hB h2
    · exact hA h2
theorem plain_CallsClose {n : Nat} (hn : 2000 < n) (id many : Int) (l : List CLT) (m : MW) (hl : ∀ x ∈ l, (cm x).l.length ≤ 9223372036854775807) : F4 n id many l m.k m.c m.f m.t m.key m.s m.d m.p m.pr m.l m.ik m.iv m.ir m.ig m.cd = some true := by
  have hff := fuel_big
  unfold F4
  rw [cright_r (by omega) id many l hl, wakes10]
  cases hr : rightC id many l
  · rfl
  have h16 := (rightC_parts hr).2.2.2.1
  obtain ⟨b, hb, hg⟩ := great10 FUEL m
  rw [hb]
  simp only [Option.bind_some, Bool.not_true, cond_false]
  cases b
  · rw [cond_false]
    have hm := hg rfl
    exact close_law hr m (by omega) l [] n (-1) rfl (by omega) (Or.inl ⟨rfl, by simp⟩)
  · rfl

/-! ### Once. -/
abbrev DT := Int × Int × Int × Int × Int × Int × Int × Bool × Bool × Int × Int × (List Int) × ByteArray × Int × Int × Bool × Int × Int
def dm (x : DT) : MW := ⟨x.2.2.1, x.2.2.2.1, x.2.2.2.2.1, x.2.2.2.2.2.1, x.2.2.2.2.2.2.1, x.2.2.2.2.2.2.2.1, x.2.2.2.2.2.2.2.2.1, x.2.2.2.2.2.2.2.2.2.1, x.2.2.2.2.2.2.2.2.2.2.1, x.2.2.2.2.2.2.2.2.2.2.2.1, x.2.2.2.2.2.2.2.2.2.2.2.2.1, x.2.2.2.2.2.2.2.2.2.2.2.2.2.1, x.2.2.2.2.2.2.2.2.2.2.2.2.2.2.1, x.2.2.2.2.2.2.2.2.2.2.2.2.2.2.2.1, x.2.2.2.2.2.2.2.2.2.2.2.2.2.2.2.2.1⟩
theorem low2 (a : Int) : bits .and .i64 a 3 = a % 4 := by
  have h1 : (BitVec.ofInt 64 a &&& BitVec.ofInt 64 3).toNat = (BitVec.ofInt 64 a).toNat % 4 := by
    have e : (BitVec.ofInt 64 3).toNat = 2 ^ 2 - 1 := by decide
    rw [BitVec.toNat_and, e, Nat.and_two_pow_sub_one_eq_mod]
  have h2 : (BitVec.ofInt 64 a).toNat = (a % 18446744073709551616).toNat := by rw [BitVec.toNat_ofInt]; rfl
  have h3 : bits .and .i64 a 3 = IntKind.i64.wrap ((BitVec.ofInt 64 a &&& BitVec.ofInt 64 3).toNat : Int) := rfl
  rw [h3, h1, h2, wrap_mid (by omega) (by omega)]
  omega
/-- What is told to a call. -/
def toldM (m : MW) (cd : Int) : MW := ⟨m.k + 6, m.c, m.t, m.f, 0, false, false, 0, 0, [], ByteArray.empty, 0, 0, false, cd⟩
theorem told_cd (k c f t : Int) (hk : askB k = true) (cd : Int) (h : k = 6 ∧ cd = 201 ∨ k ≠ 6 ∧ cd = 0) : (restM ⟨k + 6, c, t, f, 0, false, false, 0, 0, [], ByteArray.empty, 0, 0, false, cd⟩ && hasM ⟨k + 6, c, t, f, 0, false, false, 0, 0, [], ByteArray.empty, 0, 0, false, cd⟩) = true := by
  unfold askB at hk
  simp only [Bool.and_eq_true, decide_eq_true_eq] at hk
  have hk' : k = 1 ∨ k = 2 ∨ k = 3 ∨ k = 4 ∨ k = 5 ∨ k = 6 := by omega
  rcases h with ⟨rfl, rfl⟩ | ⟨h6, rfl⟩
  · simp [restM, hasM, noIt]
  · rcases hk' with rfl | rfl | rfl | rfl | rfl | rfl
    · simp [restM, hasM, noIt, lstB, isP]
    · simp [restM, hasM, noIt, lstB, isP]
    · simp [restM, hasM, noIt, lstB, isP]
    · simp [restM, hasM, noIt, lstB, isP]
    · simp [restM, hasM, noIt, lstB, isP]
    · exact absurd rfl h6
theorem rightM_toldM {m : MW} (h : rightM m = true) (hk : askB m.k = true) (cd : Int) (hc : m.k = 6 ∧ cd = 201 ∨ m.k ≠ 6 ∧ cd = 0) : rightM (toldM m cd) = true := by
  have h0 := told_cd m.k m.c m.f m.t hk cd hc
  have hk0 := hk
  unfold rightM at h
  simp only [Bool.and_eq_true, askerV, hk, if_true] at h
  obtain ⟨_, h2, h3, h4, h5, _⟩ := h
  unfold askB at hk
  simp only [Bool.and_eq_true, decide_eq_true_eq] at hk
  have e : askB (m.k + 6) = false := by
    unfold askB; rw [decide_eq_false (by omega : ¬ m.k + 6 ≤ 6), Bool.and_false]
  have hn' : ¬ m.t = m.f := fun h => by simp [h] at h4
  unfold rightM toldM
  simp only [askerV, e, Bool.false_eq_true, if_false, h2, h3, h5, decide_eq_false hn', Bool.not_false, Bool.true_and]
  rw [decide_eq_true (by omega : 1 ≤ m.k + 6), decide_eq_true (by omega : m.k + 6 < 13)]
  exact h0
theorem told_of {id many : Int} {z : CLT} (h : callC id many z = true) (cd : Int) : ofB id (toldM (cm z) cd) z = true := by
  unfold callC at h
  simp only [Bool.and_eq_true, decide_eq_true_eq] at h
  obtain ⟨_, h2, h3, h4, _⟩ := h
  unfold ofB toldM
  simp only [told_k h2, h3, h4, decide_true, Bool.and_true]
theorem callC_many {id many many' : Int} (h : many ≤ many') {x : CLT} (hc : callC id many x = true) : callC id many' x = true := by
  unfold callC at hc ⊢
  simp only [Bool.and_eq_true, decide_eq_true_eq] at hc ⊢
  obtain ⟨a1, a2, a3, a4, a5, a6⟩ := hc
  exact ⟨a1, a2, a3, a4, by omega, a6⟩
theorem rightC_open {id many : Int} {l : List CLT} (hr : rightC id many l = true) (h16 : l.length ≠ 16) (hm : many ≠ 1048576) {m : MW} {now : Int} (ho : okO id many m now = true) (why ref : Int) : rightC id (many + 1) (l ++ [newC (newM id many m) why ref now]) = true := by
  unfold okO at ho
  simp only [Bool.and_eq_true] at ho
  obtain ⟨ht, hk, hR⟩ := ho
  rw [rightC_iff] at hr ⊢
  obtain ⟨h1, h2, h3, h4, h5⟩ := hr
  refine ⟨h1, by omega, by simp; omega, fun x hx => ?_, ?_⟩
  · rcases List.mem_append.1 hx with hx | hx
    · exact callC_many (by omega) (h4 x hx)
    · simp only [List.mem_singleton] at hx
      rw [hx]
      unfold callC
      have e1 : cm (newC (newM id many m) why ref now) = newM id many m := rfl
      have e2 : (newC (newM id many m) why ref now).1 = id * 1048576 + (many + 1) := rfl
      have e3 : ctries (newC (newM id many m) why ref now) = 1 := rfl
      have e4 : csent (newC (newM id many m) why ref now) = now := rfl
      rw [e1, e2, e3, e4, hR, ht]
      show (true && (askB m.k && (decide (id = id) && (decide (id * 1048576 + (many + 1) = id * 1048576 + (many + 1)) && _)))) = true
      rw [hk]
      simp
  · rw [List.pairwise_append]
    refine ⟨h5, by simp, fun a ha b hb => ?_⟩
    simp only [List.mem_singleton] at hb
    rw [hb]
    have := callC_lo (h4 a ha)
    show a.1 < id * 1048576 + (many + 1)
    omega
theorem chk10 {id many e : Int} {l : List CLT} (hr : rightC id many l = true) (he : e = many) (Z : Option Bool) : (Option.bind (F17 FUEL id many l) fun y => bif !y then some false else bif ine many many then some false else bif ine many e then some false else bif igt (ofN l.length) 16 then some false else Z) = Z := by
  have hff := fuel_big
  have h16 := (rightC_parts hr).2.2.2.1
  rw [cright_p (by omega) id many l (rightC_short hr), hr, he, show ine many many = false by rw [ine_dec, decide_eq_true rfl]; rfl, show igt (ofN l.length) 16 = false from decide_eq_false (by simp only [ofN]; omega)]
  rfl
theorem ine_self (a : Int) : ine a a = false := by rw [ine_dec, decide_eq_true rfl]; rfl
theorem isum {e : Int} {k : Nat} (h0 : 0 ≤ e) (h1 : e ≤ 2000000) (hk : k ≤ 1000) : iadd .i64 e (ofN k) = e + k := by
  simp only [iadd, ofN]; rw [wrap_mid (by omega) (by omega)]
theorem once_law {id : Int} {L : List DT} (h60 : L.length ≤ 60) : ∀ (r p : List DT) (n : Nat) (now opened ended : Int) (l : List CLT), L = p ++ r → r.length < n → rightC id opened l = true → opened = ended + l.length → 0 ≤ ended → opened ≤ p.length → 0 ≤ now → now ≤ 4 * p.length →
    F3_c0 n id L now opened ended (ofN p.length) id opened l = some true
  | _, _, 0, _, _, _, _, _, h, _, _, _, _, _, _ => by omega
  | [], p, n + 1, now, opened, ended, l, hL, h, hr, ho, he, hop, hn0, hn1 => by
    rw [List.append_nil] at hL
    subst hL
    simp only [F3_c0, lt_out, cond_false, wakes10]
    rfl
  | x :: r, p, n + 1, now, opened, ended, l, hL, h, hr, ho, he, hop, hn0, hn1 => by
    have hff := fuel_big
    obtain ⟨hi, hm0, hm1, h16, hB⟩ := rightC_parts hr
    have hP := isP_iff.1 hi
    have hs := rightC_short hr
    have hb := congrArg List.length hL
    simp only [List.length_append, List.length_cons] at hb
    have hL2 : L = (p ++ [x]) ++ r := by rw [hL]; simp
    simp only [List.length_cons] at h
    have ht : isT now = true := by unfold isT; simp; omega
    have hi1 : iadd .i64 (ofN p.length) 1 = ofN (p ++ [x]).length := add_in (by omega)
    have hpl : (p ++ [x]).length = p.length + 1 := by simp
    have h1 := fun now opened ended l hr ho he hop hn0 hn1 => once_law (id := id) h60 r (p ++ [x]) n now opened ended l hL2 (by omega) hr ho he hop hn0 hn1
    obtain ⟨b, hb1, hg⟩ := great10 FUEL (dm x)
    have hb2 : F9 FUEL x.2.2.1 x.2.2.2.1 x.2.2.2.2.1 x.2.2.2.2.2.1 x.2.2.2.2.2.2.1 x.2.2.2.2.2.2.2.1 x.2.2.2.2.2.2.2.2.1 x.2.2.2.2.2.2.2.2.2.1 x.2.2.2.2.2.2.2.2.2.2.1 x.2.2.2.2.2.2.2.2.2.2.2.1 x.2.2.2.2.2.2.2.2.2.2.2.2.1 x.2.2.2.2.2.2.2.2.2.2.2.2.2.1 x.2.2.2.2.2.2.2.2.2.2.2.2.2.2.1 x.2.2.2.2.2.2.2.2.2.2.2.2.2.2.2.1 x.2.2.2.2.2.2.2.2.2.2.2.2.2.2.2.2.1 = some b := hb1
    simp only [F3_c0, at_lt hL, at_inb hL, at_get hL, cond_true]
    rw [hb2, Option.bind_some]
    cases b
    case true => rw [wakes10]; rfl
    have hm := hg rfl
    rw [cond_false, hi1]
    by_cases k0 : x.1 = 0
    · rw [show ieq x.1 0 = true from decide_eq_true k0, cond_true]
      have ha : F10 FUEL id opened l x.2.2.1 x.2.2.2.1 x.2.2.2.2.1 x.2.2.2.2.2.1 x.2.2.2.2.2.2.1 x.2.2.2.2.2.2.2.1 x.2.2.2.2.2.2.2.2.1 x.2.2.2.2.2.2.2.2.2.1 x.2.2.2.2.2.2.2.2.2.2.1 x.2.2.2.2.2.2.2.2.2.2.2.1 x.2.2.2.2.2.2.2.2.2.2.2.2.1 x.2.2.2.2.2.2.2.2.2.2.2.2.2.1 x.2.2.2.2.2.2.2.2.2.2.2.2.2.2.1 x.2.2.2.2.2.2.2.2.2.2.2.2.2.2.2.1 x.2.2.2.2.2.2.2.2.2.2.2.2.2.2.2.2.1 x.2.2.2.2.2.2.2.2.2.2.2.2.2.2.2.2.2 (ofN p.length) now = some (if l.length = 16 ∨ opened = 1048576 then ⟨id, opened, 0, 0, 0, 0, 0, false, false, 0, 0, [], ByteArray.empty, 0, 0, false, 0, 100, l⟩ else if okO id opened (dm x) now then ⟨id, opened + 1, (newM id opened (dm x)).k, (newM id opened (dm x)).c, (newM id opened (dm x)).f, (newM id opened (dm x)).t, (newM id opened (dm x)).key, (newM id opened (dm x)).s, (newM id opened (dm x)).d, (newM id opened (dm x)).p, (newM id opened (dm x)).pr, (newM id opened (dm x)).l, (newM id opened (dm x)).ik, (newM id opened (dm x)).iv, (newM id opened (dm x)).ir, (newM id opened (dm x)).ig, (newM id opened (dm x)).cd, 0, l ++ [newC (newM id opened (dm x)) x.2.2.2.2.2.2.2.2.2.2.2.2.2.2.2.2.2 (ofN p.length) now]⟩ else ⟨id, opened, 0, 0, 0, 0, 0, false, false, 0, 0, [], ByteArray.empty, 0, 0, false, 0, 2, l⟩) := copen_p (by omega) hr (dm x) (by omega) x.2.2.2.2.2.2.2.2.2.2.2.2.2.2.2.2.2 (ofN p.length) now
      rw [ha, Option.bind_some]
      by_cases hA : l.length = 16 ∨ opened = 1048576
      · have hA' : l.length = 16 := by omega
        rw [if_pos hA]
        simp only []
        rw [csame_r FUEL _ _ _ _ _ _ (by omega) hs, leqC_self]
        rw [show ieq 100 0 = false from rfl, show ieq 100 100 = true from rfl, show ilt (ofN l.length) 16 = false from decide_eq_false (by simp only [ofN]; omega), show ine 0 0 = false from rfl]
        simp only [Option.bind_some, decide_true, Bool.and_true, Bool.not_true, cond_false, cond_true]
        rw [chk10 hr (by rw [isum he (by omega) (by omega)]; omega)]
        exact h1 _ _ _ _ hr ho he (by omega) hn0 (by omega)
      · rw [if_neg hA]
        cases hok : okO id opened (dm x) now
        · rw [if_neg (by simp)]
          simp only []
          rw [csame_r FUEL _ _ _ _ _ _ (by omega) hs, leqC_self]
          rw [show ieq 2 0 = false from rfl, show ieq 2 100 = false from rfl, show ine 0 0 = false from rfl]
          simp only [Option.bind_some, decide_true, Bool.and_true, Bool.not_true, cond_false]
          rw [chk10 hr (by rw [isum he (by omega) (by omega)]; omega)]
          exact h1 _ _ _ _ hr ho he (by omega) hn0 (by omega)
        · rw [if_pos rfl]
          have hr2 := rightC_open hr (by omega) (by omega) hok x.2.2.2.2.2.2.2.2.2.2.2.2.2.2.2.2.2 (ofN p.length)
          have e1 : iadd .i64 opened 1 = opened + 1 := by simp only [iadd]; rw [wrap_mid (by omega) (by omega)]
          have e2 : iadd .i64 (imul .i64 id 1048576) (opened + 1) = id * 1048576 + (opened + 1) := by
            simp only [iadd, imul]
            rw [wrap_mid (n := id * 1048576) (by omega) (by omega), wrap_mid (by omega) (by omega)]
          have hR : F11 FUEL (newM id opened (dm x)).k (newM id opened (dm x)).c (newM id opened (dm x)).f (newM id opened (dm x)).t (newM id opened (dm x)).key (newM id opened (dm x)).s (newM id opened (dm x)).d (newM id opened (dm x)).p (newM id opened (dm x)).pr (newM id opened (dm x)).l (newM id opened (dm x)).ik (newM id opened (dm x)).iv (newM id opened (dm x)).ir (newM id opened (dm x)).ig (newM id opened (dm x)).cd = some true := by
            rw [mright_rl FUEL (newM id opened (dm x)).k (newM id opened (dm x)).c (newM id opened (dm x)).f (newM id opened (dm x)).t (newM id opened (dm x)).key (newM id opened (dm x)).s (newM id opened (dm x)).d (newM id opened (dm x)).p (newM id opened (dm x)).pr (newM id opened (dm x)).l (newM id opened (dm x)).ik (newM id opened (dm x)).iv (newM id opened (dm x)).ir (newM id opened (dm x)).ig (newM id opened (dm x)).cd (show (dm x).l.length ≤ 9223372036854775807 by omega)]
            unfold okO at hok
            simp only [Bool.and_eq_true] at hok
            exact congrArg some hok.2.2
          have hlen : (l ++ [newC (newM id opened (dm x)) x.2.2.2.2.2.2.2.2.2.2.2.2.2.2.2.2.2 (ofN p.length) now]).length = l.length + 1 := by simp
          have e3 : iadd .i64 (ofN l.length) 1 = ofN (l.length + 1) := by rw [add_in (x := zC) (by omega)]; simp
          have f1 : ine (newM id opened (dm x)).c (id * 1048576 + (opened + 1)) = false := ine_self _
          have f2 : ine (newM id opened (dm x)).f id = false := ine_self _
          have f3 : ine (newM id opened (dm x)).t x.2.2.2.2.2.1 = false := ine_self _
          have f4 : ine (ofN (l.length + 1)) (ofN (l.length + 1)) = false := ine_self _
          simp only [e1, e2, e3, hlen]
          rw [hR, f1, f2, f3, f4, show ieq 0 0 = true from rfl]
          simp only [Option.bind_some, Bool.not_true, cond_false, cond_true]
          have := chk10 (e := iadd .i64 ended (ofN (l.length + 1))) hr2 (by rw [isum he (by omega) (by omega)]; omega)
          rw [hlen] at this
          rw [this]
          exact h1 _ _ _ _ hr2 (by rw [hlen]; omega) he (by omega) hn0 (by omega)
    rw [show ieq x.1 0 = false from decide_eq_false k0, cond_false]
    by_cases k1 : x.1 = 1
    · rw [show ieq x.1 1 = true from decide_eq_true k1, cond_true]
      by_cases a0 : x.2.1 < 0
      · rw [show ilt x.2.1 0 = true from decide_eq_true a0, cond_true]
        exact h1 _ _ _ _ hr ho he (by omega) hn0 (by omega)
      rw [show ilt x.2.1 0 = false from decide_eq_false a0, cond_false]
      by_cases a1 : x.2.1 ≥ l.length
      · rw [show ige x.2.1 (ofN l.length) = true from decide_eq_true a1, cond_true]
        exact h1 _ _ _ _ hr ho he (by omega) hn0 (by omega)
      rw [show ige x.2.1 (ofN l.length) = false from decide_eq_false a1, cond_false]
      obtain ⟨q, z, s, hl, hat⟩ : ∃ q z s, l = q ++ z :: s ∧ x.2.1 = ofN q.length := by
        refine ⟨l.take x.2.1.toNat, l[x.2.1.toNat]'(by omega), l.drop (x.2.1.toNat + 1), ?_, ?_⟩
        · rw [List.getElem_cons_drop, List.take_append_drop]
        · simp only [ofN, List.length_take]; omega
      rw [hat]
      have hb3 := congrArg List.length hl
      simp only [List.length_append, List.length_cons] at hb3
      have hr' := hr
      rw [hl] at hr'
      have hz := (rightC_iff.1 hr).2.2.2.1 z (by rw [hl]; simp)
      have hz' := hz
      unfold callC at hz'
      simp only [Bool.and_eq_true] at hz'
      obtain ⟨hzR, hzk, _⟩ := hz'
      have hr3 : rightC id opened (q ++ s) = true := rightC_sub hr (by rw [hl]; simp)
      have e1 : isub .i64 (ofN l.length) 1 = ofN (q ++ s).length := by
        rw [sub_one (by omega)]; simp only [ofN, List.length_append]; omega
      have e2 : iadd .i64 ended 1 = ended + 1 := by simp only [iadd]; rw [wrap_mid (by omega) (by omega)]
      have e3 : iadd .i64 (ended + 1) (ofN (q ++ s).length) = opened := by
        rw [isum (by omega) (by omega) (by simp only [List.length_append]; omega)]; simp only [List.length_append]; omega
      have hT : F13 FUEL z.2.1 z.2.2.1 z.2.2.2.1 z.2.2.2.2.1 z.2.2.2.2.2.1 z.2.2.2.2.2.2.1 z.2.2.2.2.2.2.2.1 z.2.2.2.2.2.2.2.2.1 z.2.2.2.2.2.2.2.2.2.1 z.2.2.2.2.2.2.2.2.2.2.1 z.2.2.2.2.2.2.2.2.2.2.2.1 z.2.2.2.2.2.2.2.2.2.2.2.2.1 z.2.2.2.2.2.2.2.2.2.2.2.2.2.1 z.2.2.2.2.2.2.2.2.2.2.2.2.2.2.1 z.2.2.2.2.2.2.2.2.2.2.2.2.2.2.2.1 = some ⟨(cm z).k + 6, (cm z).c, (cm z).t, (cm z).f, 0, false, false, 0, 0, ByteArray.empty, 0, 0, false, 0⟩ := by
        have := tell_r FUEL z.2.1 z.2.2.1 z.2.2.2.1 z.2.2.2.2.1 z.2.2.2.2.2.1 z.2.2.2.2.2.2.1 z.2.2.2.2.2.2.2.1 z.2.2.2.2.2.2.2.2.1 z.2.2.2.2.2.2.2.2.2.1 z.2.2.2.2.2.2.2.2.2.2.1 z.2.2.2.2.2.2.2.2.2.2.2.1 z.2.2.2.2.2.2.2.2.2.2.2.2.1 z.2.2.2.2.2.2.2.2.2.2.2.2.2.1 z.2.2.2.2.2.2.2.2.2.2.2.2.2.2.1 z.2.2.2.2.2.2.2.2.2.2.2.2.2.2.2.1
        rw [show askB z.2.1 = true from hzk] at this
        exact this
      have hcl : ∀ cd, rightM (toldM (cm z) cd) = true → F14 FUEL id opened l (toldM (cm z) cd).k (toldM (cm z) cd).c (toldM (cm z) cd).f (toldM (cm z) cd).t (toldM (cm z) cd).key (toldM (cm z) cd).s (toldM (cm z) cd).d (toldM (cm z) cd).p (toldM (cm z) cd).pr (toldM (cm z) cd).l (toldM (cm z) cd).ik (toldM (cm z) cd).iv (toldM (cm z) cd).ir (toldM (cm z) cd).ig (toldM (cm z) cd).cd = some ⟨id, opened, z.1, z.2.1, z.2.2.1, z.2.2.2.1, z.2.2.2.2.1, z.2.2.2.2.2.1, z.2.2.2.2.2.2.1, z.2.2.2.2.2.2.2.1, z.2.2.2.2.2.2.2.2.1, z.2.2.2.2.2.2.2.2.2.1, z.2.2.2.2.2.2.2.2.2.2.1, z.2.2.2.2.2.2.2.2.2.2.2.1, z.2.2.2.2.2.2.2.2.2.2.2.2.1, z.2.2.2.2.2.2.2.2.2.2.2.2.2.1, z.2.2.2.2.2.2.2.2.2.2.2.2.2.2.1, z.2.2.2.2.2.2.2.2.2.2.2.2.2.2.2.1, z.2.2.2.2.2.2.2.2.2.2.2.2.2.2.2.2.1, z.2.2.2.2.2.2.2.2.2.2.2.2.2.2.2.2.2.1, z.2.2.2.2.2.2.2.2.2.2.2.2.2.2.2.2.2.2.1, z.2.2.2.2.2.2.2.2.2.2.2.2.2.2.2.2.2.2.2, true, q ++ s⟩ ∧ F14 FUEL id opened (q ++ s) (toldM (cm z) cd).k (toldM (cm z) cd).c (toldM (cm z) cd).f (toldM (cm z) cd).t (toldM (cm z) cd).key (toldM (cm z) cd).s (toldM (cm z) cd).d (toldM (cm z) cd).p (toldM (cm z) cd).pr (toldM (cm z) cd).l (toldM (cm z) cd).ik (toldM (cm z) cd).iv (toldM (cm z) cd).ir (toldM (cm z) cd).ig (toldM (cm z) cd).cd = some ⟨id, opened, zC.1, zC.2.1, zC.2.2.1, zC.2.2.2.1, zC.2.2.2.2.1, zC.2.2.2.2.2.1, zC.2.2.2.2.2.2.1, zC.2.2.2.2.2.2.2.1, zC.2.2.2.2.2.2.2.2.1, zC.2.2.2.2.2.2.2.2.2.1, zC.2.2.2.2.2.2.2.2.2.2.1, zC.2.2.2.2.2.2.2.2.2.2.2.1, zC.2.2.2.2.2.2.2.2.2.2.2.2.1, zC.2.2.2.2.2.2.2.2.2.2.2.2.2.1, zC.2.2.2.2.2.2.2.2.2.2.2.2.2.2.1, zC.2.2.2.2.2.2.2.2.2.2.2.2.2.2.2.1, zC.2.2.2.2.2.2.2.2.2.2.2.2.2.2.2.2.1, zC.2.2.2.2.2.2.2.2.2.2.2.2.2.2.2.2.2.1, zC.2.2.2.2.2.2.2.2.2.2.2.2.2.2.2.2.2.2.1, zC.2.2.2.2.2.2.2.2.2.2.2.2.2.2.2.2.2.2.2, false, q ++ s⟩ := fun cd hcd => by
        have hof := told_of hz cd
        obtain ⟨c1, c2, c3⟩ := close_at hr' hof
        obtain ⟨o1, o2⟩ := of_one hr' hof
        have hno := close_no (id := id) (m := toldM (cm z) cd) (l := q ++ s) (fun y hy => by
          rcases List.mem_append.1 hy with hy | hy
          · exact o1 y hy
          · exact o2 y hy)
        constructor
        · rw [cclose_p (by omega) hr (toldM (cm z) cd) (show (0 : Nat) < 1000 by decide), if_pos hcd, hl, c1, c2, c3]
        · rw [cclose_p (by omega) hr3 (toldM (cm z) cd) (show (0 : Nat) < 1000 by decide), if_pos hcd, hno.1, hno.2.1, hno.2.2]
      have g1 := at_inb hl
      have g2 := at_nlt hl
      have g3 := at_get hl
      have hcall := call_rs FUEL z z (hs z (by rw [hl]; simp))
      rw [cqC_self] at hcall
      have f1 : ine (ofN (q ++ s).length) (ofN (q ++ s).length) = false := ine_self _
      rw [g1, g2, g3]
      simp only [cond_true]
      rw [hT]
      simp only [Option.bind_some]
      by_cases k6 : (cm z).k = 6
      · obtain ⟨c1, c2⟩ := hcl 201 (rightM_toldM hzR hzk 201 (Or.inl ⟨k6, rfl⟩))
        simp only [toldM] at c1 c2
        rw [show ieq ((cm z).k + 6) 12 = true from decide_eq_true (by omega), cond_true, c1]
        simp only [Option.bind_some]
        simp only [cond_false, Bool.not_true]
        rw [hcall]
        simp only [Option.bind_some, cond_false, Bool.not_true]
        rw [e1, f1, cond_false, c2]
        simp only [Option.bind_some, cond_false]
        rw [e2, chk10 hr3 e3]
        exact h1 _ _ _ _ hr3 (by simp only [List.length_append]; omega) (by omega) (by omega) hn0 (by omega)
      · obtain ⟨c1, c2⟩ := hcl 0 (rightM_toldM hzR hzk 0 (Or.inr ⟨k6, rfl⟩))
        simp only [toldM] at c1 c2
        rw [show ieq ((cm z).k + 6) 12 = false from decide_eq_false (by omega), cond_false, c1]
        simp only [Option.bind_some]
        simp only [cond_false, Bool.not_true]
        rw [hcall]
        simp only [Option.bind_some, cond_false, Bool.not_true]
        rw [e1, f1, cond_false, c2]
        simp only [Option.bind_some, cond_false]
        rw [e2, chk10 hr3 e3]
        exact h1 _ _ _ _ hr3 (by simp only [List.length_append]; omega) (by omega) (by omega) hn0 (by omega)
    rw [show ieq x.1 1 = false from decide_eq_false k1, cond_false]
    by_cases k2 : x.1 = 2
    · rw [show ieq x.1 2 = true from decide_eq_true k2, cond_true, low2]
      have e1 : iadd .i64 (iadd .i64 now 1) (x.2.1 % 4) = now + 1 + x.2.1 % 4 := by
        simp only [iadd]
        rw [wrap_mid (n := now + 1) (by omega) (by omega), wrap_mid (by omega) (by omega)]
      rw [e1]
      have ht2 : isT (now + 1 + x.2.1 % 4) = true := by unfold isT; simp; omega
      generalize hnw : now + 1 + x.2.1 % 4 = nw at ht2
      have hr2 := rightC_late hr ht2
      have hsum := late_sum nw l
      have hAl := lateA_len nw l
      rw [clate_p (by omega) hr ht2]
      simp only [Option.bind_some]
      have e2 : iadd .i64 (ofN (lateO nw l).length) (ofN (lateV nw l).length) = ofN l.length := by
        rw [isum (by simp only [ofN]; omega) (by simp only [ofN]; omega) (by omega)]; simp only [ofN]; omega
      have e3 : iadd .i64 ended (ofN (lateV nw l).length) = ended + (lateV nw l).length := isum he (by omega) (by omega)
      rw [e2, show ine (ofN l.length) (ofN l.length) = false by rw [ine_dec, decide_eq_true rfl]; rfl, show igt (ofN (lateA nw l).length) (ofN (lateO nw l).length) = false from decide_eq_false (by simp only [ofN]; omega), e3]
      simp only [cond_false]
      rw [chk10 hr2 (by rw [isum (by omega) (by omega) (by omega)]; omega)]
      exact h1 _ _ _ _ hr2 (by omega) (by omega) (by omega) (by omega) (by omega)
    rw [show ieq x.1 2 = false from decide_eq_false k2, cond_false]
    have ha : F14 FUEL id opened l x.2.2.1 x.2.2.2.1 x.2.2.2.2.1 x.2.2.2.2.2.1 x.2.2.2.2.2.2.1 x.2.2.2.2.2.2.2.1 x.2.2.2.2.2.2.2.2.1 x.2.2.2.2.2.2.2.2.2.1 x.2.2.2.2.2.2.2.2.2.2.1 x.2.2.2.2.2.2.2.2.2.2.2.1 x.2.2.2.2.2.2.2.2.2.2.2.2.1 x.2.2.2.2.2.2.2.2.2.2.2.2.2.1 x.2.2.2.2.2.2.2.2.2.2.2.2.2.2.1 x.2.2.2.2.2.2.2.2.2.2.2.2.2.2.2.1 x.2.2.2.2.2.2.2.2.2.2.2.2.2.2.2.2.1 = some (if rightM (dm x) then ⟨id, opened, (lastC id (dm x) zC l).1, (lastC id (dm x) zC l).2.1, (lastC id (dm x) zC l).2.2.1, (lastC id (dm x) zC l).2.2.2.1, (lastC id (dm x) zC l).2.2.2.2.1, (lastC id (dm x) zC l).2.2.2.2.2.1, (lastC id (dm x) zC l).2.2.2.2.2.2.1, (lastC id (dm x) zC l).2.2.2.2.2.2.2.1, (lastC id (dm x) zC l).2.2.2.2.2.2.2.2.1, (lastC id (dm x) zC l).2.2.2.2.2.2.2.2.2.1, (lastC id (dm x) zC l).2.2.2.2.2.2.2.2.2.2.1, (lastC id (dm x) zC l).2.2.2.2.2.2.2.2.2.2.2.1, (lastC id (dm x) zC l).2.2.2.2.2.2.2.2.2.2.2.2.1, (lastC id (dm x) zC l).2.2.2.2.2.2.2.2.2.2.2.2.2.1, (lastC id (dm x) zC l).2.2.2.2.2.2.2.2.2.2.2.2.2.2.1, (lastC id (dm x) zC l).2.2.2.2.2.2.2.2.2.2.2.2.2.2.2.1, (lastC id (dm x) zC l).2.2.2.2.2.2.2.2.2.2.2.2.2.2.2.2.1, (lastC id (dm x) zC l).2.2.2.2.2.2.2.2.2.2.2.2.2.2.2.2.2.1, (lastC id (dm x) zC l).2.2.2.2.2.2.2.2.2.2.2.2.2.2.2.2.2.2.1, (lastC id (dm x) zC l).2.2.2.2.2.2.2.2.2.2.2.2.2.2.2.2.2.2.2, l.any (ofB id (dm x)), l.filter (fun y => !ofB id (dm x) y)⟩ else ⟨id, opened, zC.1, zC.2.1, zC.2.2.1, zC.2.2.2.1, zC.2.2.2.2.1, zC.2.2.2.2.2.1, zC.2.2.2.2.2.2.1, zC.2.2.2.2.2.2.2.1, zC.2.2.2.2.2.2.2.2.1, zC.2.2.2.2.2.2.2.2.2.1, zC.2.2.2.2.2.2.2.2.2.2.1, zC.2.2.2.2.2.2.2.2.2.2.2.1, zC.2.2.2.2.2.2.2.2.2.2.2.2.1, zC.2.2.2.2.2.2.2.2.2.2.2.2.2.1, zC.2.2.2.2.2.2.2.2.2.2.2.2.2.2.1, zC.2.2.2.2.2.2.2.2.2.2.2.2.2.2.2.1, zC.2.2.2.2.2.2.2.2.2.2.2.2.2.2.2.2.1, zC.2.2.2.2.2.2.2.2.2.2.2.2.2.2.2.2.2.1, zC.2.2.2.2.2.2.2.2.2.2.2.2.2.2.2.2.2.2.1, zC.2.2.2.2.2.2.2.2.2.2.2.2.2.2.2.2.2.2.2, false, l⟩) := cclose_p (by omega) hr (dm x) (by omega)
    rw [ha]
    simp only [Option.bind_some]
    have hno : (Option.bind (F17 FUEL id opened l) fun y => bif !y then some false else bif ine opened opened then some false else bif ine opened (iadd .i64 ended (ofN l.length)) then some false else bif igt (ofN l.length) 16 then some false else F3_c0 n id L now opened ended (ofN (p ++ [x]).length) id opened l) = some true := by
      rw [chk10 hr (by rw [isum he (by omega) (by omega)]; omega)]
      exact h1 _ _ _ _ hr ho he (by omega) hn0 (by omega)
    cases hR : rightM (dm x)
    · rw [if_neg (by simp)]
      exact hno
    · rw [if_pos rfl]
      cases hany : l.any (ofB id (dm x))
      · have := close_no (id := id) (m := dm x) (l := l) (fun y hy => by
          rw [List.any_eq_false] at hany
          have := hany y hy
          simpa using this)
        rw [this.2.2]
        exact hno
      · obtain ⟨y, hy, hof⟩ := List.any_eq_true.1 hany
        obtain ⟨q, s, hl⟩ := List.append_of_mem hy
        have hr' := hr
        rw [hl] at hr'
        obtain ⟨c1, c2, c3⟩ := close_at hr' hof
        have hb3 := congrArg List.length hl
        simp only [List.length_append, List.length_cons] at hb3
        have hr3 : rightC id opened (q ++ s) = true := rightC_sub hr (by rw [hl]; simp)
        have e3 : l.filter (fun y => !ofB id (dm x) y) = q ++ s := by rw [hl]; exact c3
        have e2 : iadd .i64 ended 1 = ended + 1 := by simp only [iadd]; rw [wrap_mid (by omega) (by omega)]
        rw [e3]
        simp only [cond_true, e2]
        rw [chk10 hr3 (by rw [isum (by omega) (by omega) (by simp only [List.length_append]; omega)]; simp only [List.length_append]; omega)]
        exact h1 _ _ _ _ hr3 (by simp only [List.length_append]; omega) (by omega) (by omega) hn0 (by omega)
theorem plain_CallsOnce {n : Nat} (hn : 2000 < n) (id : Int) (l : List DT) : F3 n id l = some true := by
  have hff := fuel_big
  unfold F3
  rw [cnew_p (by omega), Option.bind_some, wakes10]
  by_cases hi : isP id = true
  · rw [if_pos hi]
    have hP := isP_iff.1 hi
    by_cases h60 : l.length ≤ 60
    · rw [show igt (ofN l.length) 60 = false from decide_eq_false (by simp only [ofN]; omega)]
      have hr : rightC id 0 [] = true := by unfold rightC; rw [hi]; rfl
      exact once_law h60 l [] n 0 0 0 [] rfl (by omega) hr rfl (by omega) (by simp) (by omega) (by simp)
    · rw [show igt (ofN l.length) 60 = true from decide_eq_true (by simp only [ofN]; omega), show ige id 0 = true from decide_eq_true hP.1, show ilt id 65536 = true from decide_eq_true hP.2]
      rfl
  · rw [if_neg hi]
    by_cases h0 : 0 ≤ id
    · have h2 : ¬ id < 65536 := fun h => hi (isP_iff.2 ⟨h0, h⟩)
      rw [show ige id 0 = true from decide_eq_true h0, show ilt id 65536 = false from decide_eq_false h2]; rfl
    · rw [show ige id 0 = false from decide_eq_false h0]; rfl

end Go.Proofs.YtcbhmedknbiffaaDoor
