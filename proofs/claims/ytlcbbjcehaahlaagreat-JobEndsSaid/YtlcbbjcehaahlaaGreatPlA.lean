/-
  What the functions compute, in plain words.
-/
import Derived.Test.YtlcbbjcehaahlaaGreatEvY
import Derived.ProofKit
namespace Go.Proofs.YtlcbbjcehaahlaaGreat
open Go Go.RowKit
theorem fuel_big : 100000 < FUEL := by unfold FUEL; omega
theorem ieq_dec (a b : Int) : ieq a b = decide (a = b) := by
  unfold ieq
  by_cases h : a = b
  · rw [decide_eq_true h]; exact beq_iff_eq.2 h
  · rw [decide_eq_false h]; exact beq_eq_false_iff_ne.2 h
theorem ine_dec (a b : Int) : ine a b = !decide (a = b) := by
  unfold ine bne
  exact congrArg Bool.not (ieq_dec a b)
def pl (a : Int) : Int := a % 65536
def fr (a b : Int) : Int := (b - a) % 65536
def isP (a : Int) : Bool := decide (0 ≤ a) && decide (a < 65536)
def cut (w y x : Int) : Bool := decide (0 < fr w x) && (decide (fr w y = 0) || decide (fr w x < fr w y))
theorem wrap_mid {n : Int} (h1 : -9223372036854775808 ≤ n) (h2 : n < 9223372036854775808) : IntKind.i64.wrap n = n := by
  rw [IntKind.wrap_i64]; omega
theorem low16 (a : Int) : bits .and .i64 a 65535 = a % 65536 := by
  have h1 : (BitVec.ofInt 64 a &&& BitVec.ofInt 64 65535).toNat = (BitVec.ofInt 64 a).toNat % 65536 := by
    have e : (BitVec.ofInt 64 65535).toNat = 2 ^ 16 - 1 := by decide
    rw [BitVec.toNat_and, e, Nat.and_two_pow_sub_one_eq_mod]
  have h2 : (BitVec.ofInt 64 a).toNat = (a % 18446744073709551616).toNat := by rw [BitVec.toNat_ofInt]; rfl
  have h3 : bits .and .i64 a 65535 = IntKind.i64.wrap ((BitVec.ofInt 64 a &&& BitVec.ofInt 64 65535).toNat : Int) := rfl
  rw [h3, h1, h2, wrap_mid (by omega) (by omega)]
  omega
theorem pl_bd (a : Int) : 0 ≤ pl a ∧ pl a < 65536 := by unfold pl; omega
theorem fr_bd (a b : Int) : 0 ≤ fr a b ∧ fr a b < 65536 := by unfold fr; omega
theorem fr_pl (a b : Int) : fr (pl a) b = fr a b := by unfold fr pl; omega
theorem fr_self (a : Int) : fr a (pl a) = 0 := by unfold fr pl; omega
theorem isP_iff {a : Int} : isP a = true ↔ 0 ≤ a ∧ a < 65536 := by unfold isP; simp
theorem isP_pl {a : Int} (h : isP a = true) : pl a = a ∧ 0 ≤ a ∧ a < 65536 := by
  have := isP_iff.1 h; unfold pl; omega
theorem isP_of_pl (a : Int) : isP (pl a) = true := isP_iff.2 (pl_bd a)
theorem place_p (n : Nat) (a : Int) : F50 n a = some (pl a) := by unfold F50 pl; rw [low16]
theorem place_r (n : Nat) (a : Int) : F38 n a = some (pl a) := by
  unfold F38 pl
  have e1 : inz 65536 = true := by decide
  rw [e1]
  simp only [cond_true, Option.some.injEq, irem, iadd]
  have h1 := Int.tmod_lt_of_pos a (b := 65536) (by decide)
  have h2 := Int.lt_tmod_of_pos a (b := 65536) (by decide)
  rw [wrap_mid (by omega) (by omega), Int.tmod_eq_emod_of_nonneg (by omega)]
  have h3 : a.tmod 65536 = a % 65536 - ↑(if 0 ≤ a ∨ (65536 : Int) ∣ a then 0 else Int.natAbs 65536) := Int.tmod_eq_emod
  rw [h3]
  split <;> simp <;> omega
theorem far_p (n : Nat) (a b : Int) : F82 n a b = some (fr a b) := by
  unfold F82
  simp only [place_p, Option.bind_some, isub]
  have := pl_bd a; have := pl_bd b
  rw [wrap_mid (by omega) (by omega)]
  unfold pl fr; simp only [Option.some.injEq]; omega
theorem far_r (n : Nat) (a b : Int) : F75 n a b = some (fr a b) := by
  unfold F75
  simp only [place_r, Option.bind_some, isub]
  have := pl_bd a; have := pl_bd b
  rw [wrap_mid (by omega) (by omega)]
  unfold pl fr; simp only [Option.some.injEq]; omega
theorem in_p (n : Nat) (w x y : Int) : F113 n w x y = some (cut w y x) := by
  unfold F113 cut
  simp only [far_p, Option.bind_some, ieq, igt, ilt, GT.gt]
  by_cases h : fr w y = 0
  · have h1 : (fr w y == 0) = true := beq_iff_eq.2 h
    rw [h1, cond_true, decide_eq_true h, Bool.true_or, Bool.and_true]
  · have h1 : (fr w y == 0) = false := beq_eq_false_iff_ne.2 h
    rw [h1, cond_false, decide_eq_false h, Bool.false_or]
    by_cases h2 : 0 < fr w x
    · rw [decide_eq_true h2]; rfl
    · rw [decide_eq_false h2]; rfl
def upt (w y x : Int) : Bool := cut w y x || decide (pl x = pl y)
theorem upto_p (n : Nat) (w x y : Int) : F102 n w x y = some (upt w y x) := by
  unfold F102 upt
  simp only [in_p, place_p, Option.bind_some, ieq]
  by_cases h : pl x = pl y
  · simp [h]
  · have e : (pl x == pl y) = false := beq_eq_false_iff_ne.2 h
    rw [e, decide_eq_false h]; cases cut w y x <;> rfl
theorem isp_of {a : Int} : (bif ige a 0 then some (ilt a 65536) else some false) = some (isP a) := by
  unfold isP ige ilt
  by_cases h : 0 ≤ a <;> simp [h]
theorem isp_list (n : Nat) (a : Int) : F81 n a = some (isP a) := isp_of
theorem isp_ref12 (n : Nat) (a : Int) : F37 n a = some (isP a) := isp_of
theorem isp_view (n : Nat) (a : Int) : F46 n a = some (isP a) := isp_of
theorem isp_ref13 (n : Nat) (a : Int) : F18 n a = some (isP a) := isp_of
theorem isp_msg (n : Nat) (a : Int) : F63 n a = some (isP a) := isp_of
theorem isp_ref06 (n : Nat) (a : Int) : F32 n a = some (isP a) := isp_of
section
variable {α : Type} {p r : List α} {x : α}
theorem lt_in : ilt (ofN p.length) (ofN (p ++ x :: r).length) = true := decide_eq_true (by simp only [ofN, List.length_append, List.length_cons]; omega)
theorem lt_out : ilt (ofN p.length) (ofN p.length) = false := by simp [ilt, ofN]
theorem inb_in : inb (ofN p.length) (p ++ x :: r).length = true := by simp [inb, ofN]; omega
theorem get_in {d : α} : (p ++ x :: r).getD (ofN p.length).toNat d = x := by simp [ofN]
theorem add_in (h : p.length < 9223372036854775807) : iadd .i64 (ofN p.length) 1 = ofN (p ++ [x]).length := by
  simp only [iadd, ofN]; rw [wrap_mid (by omega) (by omega)]; simp
theorem in_eq : p ++ x :: r = (p ++ [x]) ++ r := by simp
theorem sub_one {n : Nat} (h : n < 9223372036854775807) : isub .i64 (ofN n) 1 = (n : Int) - 1 := by
  simp only [isub, ofN]; rw [wrap_mid (by omega) (by omega)]
theorem sub_in {q : List α} {v : α} (h : q.length < 9223372036854775806) : isub .i64 (ofN (q ++ [v]).length) 1 = ofN q.length := by
  rw [sub_one (by simp; omega)]; simp [ofN]
end
def fst1 : List Int → Int × Bool
  | [] => (0, false)
  | x :: _ => (x, true)
theorem first_p {n : Nat} (hn : 0 < n) (l : List Int) : F111 n l = some (fst1 l) := by
  unfold F111
  obtain ⟨m, rfl⟩ : ∃ m, n = m + 1 := Nat.exists_eq_succ_of_ne_zero (by omega)
  cases l with
  | nil => rfl
  | cons x r =>
    have e1 : ilt 0 (ofN (x :: r).length) = true := by simp [ilt, ofN]
    have e2 : inb 0 (x :: r).length = true := by simp [inb]
    simp only [F111_c0, e1, e2]; rfl
theorem farther_r (n : Nat) (a b c : Int) : F39 n a b c = some (decide (fr a b < fr a c)) := by
  unfold F39
  simp only [far_r, Option.bind_some, igt]
def rgt (w : Int) : Int → List Int → Bool
  | _, [] => true
  | d, x :: r => isP x && (decide (d < fr w x) && rgt w (fr w x) r)
theorem rgt_pl (w : Int) : ∀ (r : List Int) (d : Int), rgt (pl w) d r = rgt w d r
  | [], _ => rfl
  | x :: r, d => by simp only [rgt, fr_pl, rgt_pl w r]
def good (a : Int) (l : List Int) : Bool := rgt a 0 l && decide (l.length ≤ 3)
theorem good_len {a : Int} {l : List Int} (h : good a l = true) : l.length ≤ 3 := by
  unfold good at h; simp at h; exact h.2
theorem right_pc : ∀ (r p : List Int) (n : Nat) (w v : Int) (b : Bool), r.length < n → (p ++ r).length < 1000 → F48_c0 n v (p ++ r) (ofN (p ++ r).length) (ofN p.length) w b = some (rgt w (fr w v) r)
  | _, _, 0, _, _, _, h, _ => by omega
  | [], p, n + 1, w, v, b, _, _ => by simp only [F48_c0, List.append_nil, lt_out, cond_false]; rfl
  | x :: r, p, n + 1, w, v, b, h, hb => by
    simp only [F48_c0, lt_in, inb_in, get_in, cond_true, isp_list, far_p, Option.bind_some]
    simp only [List.length_append, List.length_cons] at h hb
    rw [add_in (x := x) (by omega)]
    have h1 := right_pc r (p ++ [x]) n w x b (by omega) (by simp; omega)
    rw [← in_eq] at h1
    rw [h1, rgt]
    cases isP x
    · rfl
    · simp only [Bool.not_true, cond_false, Bool.true_and, ile]
      by_cases hd : fr w x ≤ fr w v
      · rw [decide_eq_true hd, decide_eq_false (by omega : ¬ fr w v < fr w x)]; rfl
      · rw [decide_eq_false hd, decide_eq_true (by omega : fr w v < fr w x)]; rfl
theorem right_p {n : Nat} (hn : 2000 < n) (a : Int) (l : List Int) : F48 n a l = some (good a l) := by
  unfold F48 good
  rw [place_p, Option.bind_some]
  by_cases hl : l.length ≤ 3
  · have e : igt (ofN l.length) 3 = false := decide_eq_false (by simp only [ofN, List.length_append, List.length_cons, List.length_nil]; omega)
    rw [e, cond_false, decide_eq_true hl, Bool.and_true]
    have := right_pc l [] n (pl a) (pl a) false (by omega) (by simp; omega)
    rw [rgt_pl, fr_pl, fr_self] at this
    simpa [ofN] using this
  · have e : igt (ofN l.length) 3 = true := decide_eq_true (by simp only [ofN, List.length_append, List.length_cons, List.length_nil]; omega)
    rw [e, cond_true, decide_eq_false hl, Bool.and_false]
theorem right_rc : ∀ (r p : List Int) (n : Nat) (a : Int), 65536 - fr a (p.getLastD (pl a)) < n → (p ++ r).length ≤ 9223372036854775807 → F19_c0 n a (p ++ r) (ofN p.length) = some (rgt a (fr a (p.getLastD (pl a))) r && decide ((p ++ r).length ≤ 3))
  | _, p, 0, a, h, _ => by have := fr_bd a (p.getLastD (pl a)); omega
  | [], p, n + 1, a, _, _ => by
    simp only [F19_c0, List.append_nil, lt_out, cond_false, rgt, Bool.true_and]
    congr 1
    apply decide_eq_decide.2
    simp only [ofN]
    omega
  | x :: r, p, n + 1, a, h, hb => by
    simp only [F19_c0, lt_in, inb_in, get_in, cond_true, isp_ref12, place_r, farther_r, Option.bind_some]
    simp only [List.length_append, List.length_cons] at hb
    rw [add_in (x := x) (by omega)]
    have e5 : (p ++ [x]).getLastD (pl a) = x := by simp
    have step : fr a (p.getLastD (pl a)) < fr a x → F19_c0 n a (p ++ x :: r) (ofN (p ++ [x]).length) = some (rgt a (fr a x) r && decide ((p ++ x :: r).length ≤ 3)) := by
      intro hlt
      have h1 := right_rc r (p ++ [x]) n a (by rw [e5]; omega) (by simp; omega)
      rw [← in_eq, e5] at h1
      exact h1
    rw [rgt]
    cases hx : isP x
    · rfl
    · simp only [Bool.not_true, cond_false, Bool.true_and]
      by_cases hp : x = pl a
      · have e : ieq x (pl a) = true := by simp [ieq, hp]
        rw [e, cond_true, hp, fr_self]
        have := fr_bd a (p.getLastD (pl a))
        rw [decide_eq_false (by omega : ¬ fr a (p.getLastD (pl a)) < 0)]; rfl
      · have e : ieq x (pl a) = false := by simp [ieq, hp]
        rw [e, cond_false]
        rcases List.eq_nil_or_concat p with rfl | ⟨q, v, hqv⟩
        · have e2 : igt (ofN ([] : List Int).length) 0 = false := rfl
          rw [e2, cond_false]
          have e3 : fr a (([] : List Int).getLastD (pl a)) = 0 := fr_self a
          have e4 : 0 < fr a x := by
            obtain ⟨h2, h3, h4⟩ := isP_pl hx
            unfold fr pl at *; omega
          rw [step (by rw [e3]; exact e4), e3, decide_eq_true e4, Bool.true_and]
        · rw [List.concat_eq_append] at hqv
          subst hqv
          have e2 : igt (ofN (q ++ [v]).length) 0 = true := by simp [igt, ofN]
          have e3 : isub .i64 (ofN (q ++ [v]).length) 1 = ofN q.length := sub_in (by simp at hb; omega)
          rw [e2, cond_true, e3]
          have e4 : (q ++ [v]) ++ x :: r = q ++ v :: (x :: r) := by simp
          have e6 : (q ++ [v]).getLastD (pl a) = v := by simp
          rw [e6] at step ⊢
          by_cases hd : fr a v < fr a x
          · rw [step hd]
            rw [e4]
            simp only [inb_in, get_in, cond_true]
            rw [decide_eq_true hd]; rfl
          · rw [e4]
            simp only [inb_in, get_in, cond_true]
            rw [decide_eq_false hd]; rfl
theorem right_r {n : Nat} (hn : 70000 < n) (a : Int) (l : List Int) (h : l.length ≤ 9223372036854775807) : F19 n a l = some (good a l) := by
  unfold F19 good
  have := right_rc l [] n a (by rw [show fr a (([] : List Int).getLastD (pl a)) = 0 from fr_self a]; omega) (by simpa using h)
  rw [show fr a (([] : List Int).getLastD (pl a)) = 0 from fr_self a] at this
  simpa [ofN] using this
end Go.Proofs.YtlcbbjcehaahlaaGreat
namespace Go.Proofs.YtlcbbjcehaahlaaGreat
open Go Go.RowKit
structure VW where
  id : Int
  base : List Int
  lst : List Int
  pred : Int
  f0 : Int
  f1 : Int
  f2 : Int
  f3 : Int
  f4 : Int
  f5 : Int
  f6 : Int
  f7 : Int
  f8 : Int
  f9 : Int
  f10 : Int
  f11 : Int
  f12 : Int
  f13 : Int
  f14 : Int
  f15 : Int
  deriving DecidableEq
def VW.fg (v : VW) : List Int := [v.f0, v.f1, v.f2, v.f3, v.f4, v.f5, v.f6, v.f7, v.f8, v.f9, v.f10, v.f11, v.f12, v.f13, v.f14, v.f15]
def oth (id n : Int) : Bool := decide (n = -1) || (isP n && decide (n ≠ id))
def ris : Int → List Int → Bool
  | _, [] => true
  | d, x :: r => isP x && (decide (d < x) && ris x r)
def goodBase (l : List Int) : Bool := decide (2 ≤ l.length) && (decide (l.length ≤ 4) && ris (-1) l)
def rightV (v : VW) : Bool := isP v.id && (goodBase v.base && (good v.id v.lst && (oth v.id v.pred && v.fg.all (oth v.id))))
theorem rightV_len {v : VW} (h : rightV v = true) : v.base.length ≤ 4 ∧ v.lst.length ≤ 3 := by
  unfold rightV goodBase at h
  simp only [Bool.and_eq_true, decide_eq_true_eq] at h
  exact ⟨h.2.1.2.1, good_len h.2.2.1⟩
theorem oth_r (n : Nat) (a0 : Int) (a1 a2 : List Int) (a3 a4 a5 a6 a7 a8 a9 a10 a11 a12 a13 a14 a15 a16 a17 a18 a19 : Int) (x : Int) : F20 n a0 a1 a2 a3 a4 a5 a6 a7 a8 a9 a10 a11 a12 a13 a14 a15 a16 a17 a18 a19 x = some (oth a0 x) := by
  unfold F20 oth
  simp only [isp_ref13, Option.bind_some, ieq, ine]
  by_cases h : x = -1
  · simp [h]
  · have : (x == -1) = false := beq_eq_false_iff_ne.2 h
    rw [this, cond_false, decide_eq_false h, Bool.false_or]
    cases isP x
    · rfl
    · by_cases h2 : x = a0 <;> simp [h2]
theorem base_pc : ∀ (r p : List Int) (n : Nat), r.length < n → (p ++ r).length < 1000 → F47_c0 n (p ++ r) (p ++ r) (ofN (p ++ r).length) (ofN p.length) = some (ris (p.getLastD (-1)) r)
  | _, _, 0, h, _ => by omega
  | [], p, n + 1, _, _ => by simp only [F47_c0, List.append_nil, lt_out, cond_false]; rfl
  | x :: r, p, n + 1, h, hb => by
    simp only [F47_c0, lt_in, inb_in, get_in, cond_true, isp_view, Option.bind_some]
    simp only [List.length_append, List.length_cons] at h hb
    rw [add_in (x := x) (by omega)]
    have h1 := base_pc r (p ++ [x]) n (by omega) (by simp; omega)
    rw [← in_eq, show (p ++ [x]).getLastD (-1) = x by simp] at h1
    rw [h1, ris]
    cases hx : isP x
    · rfl
    · simp only [Bool.not_true, cond_false, Bool.true_and]
      rcases List.eq_nil_or_concat p with rfl | ⟨q, v, hqv⟩
      · have e2 : igt (ofN ([] : List Int).length) 0 = false := rfl
        rw [e2, cond_false]
        have := isP_iff.1 hx
        rw [show ([] : List Int).getLastD (-1) = -1 from rfl, decide_eq_true (by omega : (-1 : Int) < x), Bool.true_and]
      · rw [List.concat_eq_append] at hqv
        subst hqv
        have e2 : igt (ofN (q ++ [v]).length) 0 = true := by simp [igt, ofN]
        have e3 : isub .i64 (ofN (q ++ [v]).length) 1 = ofN q.length := sub_in (by simp at hb; omega)
        have e4 : (q ++ [v]) ++ x :: r = q ++ v :: (x :: r) := by simp
        have e6 : (q ++ [v]).getLastD (-1) = v := by simp
        rw [e2, cond_true, e3, e6, e4]
        simp only [inb_in, get_in, cond_true, ile]
        by_cases hd : v < x
        · rw [decide_eq_false (by omega : ¬ x ≤ v), decide_eq_true hd]; rfl
        · rw [decide_eq_true (by omega : x ≤ v), decide_eq_false hd]; rfl
theorem base_p {n : Nat} (hn : 2000 < n) (l : List Int) : F47 n l = some (goodBase l) := by
  unfold F47 goodBase
  by_cases h1 : 2 ≤ l.length
  · have e : ilt (ofN l.length) 2 = false := decide_eq_false (by simp only [ofN, List.length_append, List.length_cons, List.length_nil]; omega)
    rw [e, cond_false, decide_eq_true h1, Bool.true_and]
    by_cases h2 : l.length ≤ 4
    · have e : igt (ofN l.length) 4 = false := decide_eq_false (by simp only [ofN, List.length_append, List.length_cons, List.length_nil]; omega)
      rw [e, cond_false, decide_eq_true h2, Bool.true_and]
      simpa [ofN] using base_pc l [] n (by omega) (by simp; omega)
    · have e : igt (ofN l.length) 4 = true := decide_eq_true (by simp only [ofN, List.length_append, List.length_cons, List.length_nil]; omega)
      rw [e, cond_true, decide_eq_false h2, Bool.false_and]
  · have e : ilt (ofN l.length) 2 = true := decide_eq_true (by simp only [ofN, List.length_append, List.length_cons, List.length_nil]; omega)
    rw [e, cond_true, decide_eq_false h1, Bool.false_and]
theorem fg_ofN (k : Nat) (h : k < 16) : iadd .i64 (ofN k) 1 = ofN (k + 1) := by
  simp only [iadd, ofN]; rw [wrap_mid (by omega) (by omega)]; omega
theorem drop_getD {l : List Int} {k : Nat} (h : k < l.length) : l.drop k = l.getD k 0 :: l.drop (k + 1) := by
  rw [List.drop_eq_getElem_cons h]
  simp [List.getD, h]
theorem ofN_toNat (k : Nat) : (ofN k).toNat = k := by simp [ofN]
theorem lt16 {k : Nat} (h : k < 16) : ilt (ofN k) 16 = true ∧ inb (ofN k) 16 = true ∧ nlt k 16 = true := by
  refine ⟨?_, ?_, ?_⟩
  · exact decide_eq_true (by simp only [ofN, List.length_append, List.length_cons, List.length_nil]; omega)
  · unfold inb ofN; rw [decide_eq_true (by omega : (0 : Int) ≤ k), decide_eq_true (by omega : (k : Int) < (16 : Nat))]; rfl
  · exact decide_eq_true h
theorem viewR0 {n : Nat} (h : 0 < n) : F26_c0 n = some false := by
  obtain ⟨m, rfl⟩ : ∃ m, n = m + 1 := Nat.exists_eq_succ_of_ne_zero (by omega)
  rfl
theorem oth_of (id x : Int) (R : Option Bool) : (bif ine x (-1) then (bif !(isP x) then some false else (bif ieq x id then some false else R)) else R) = bif oth id x then R else some false := by
  unfold oth
  simp only [ine, ieq]
  by_cases h : x = -1
  · simp [h]
  · have : (x != -1) = true := by simpa using h
    rw [this, cond_true, decide_eq_false h, Bool.false_or]
    cases isP x
    · rfl
    · by_cases h2 : x = id
      · simp [h2]
      · have : (x == id) = false := beq_eq_false_iff_ne.2 h2
        rw [this]; simp [h2]
theorem fing_pc (x0 x1 x2 x3 x4 x5 x6 x7 x8 x9 x10 x11 x12 x13 x14 x15 : Int) (id : Int) (b l : List Int) (pr y0 y1 y2 y3 y4 y5 y6 y7 y8 y9 y10 y11 y12 y13 y14 y15 : Int) : ∀ (j k : Nat) (n : Nat), k + j = 16 → j + 2 ≤ n → F26_c1 n x0 x1 x2 x3 x4 x5 x6 x7 x8 x9 x10 x11 x12 x13 x14 x15 (ofN k) id b l pr y0 y1 y2 y3 y4 y5 y6 y7 y8 y9 y10 y11 y12 y13 y14 y15 = some ((([x0, x1, x2, x3, x4, x5, x6, x7, x8, x9, x10, x11, x12, x13, x14, x15] : List Int).drop k).all (oth id))
  | _, _, 0, _, h => by omega
  | 0, k, n + 1, hk, _ => by
    have : k = 16 := by omega
    subst this
    have e : ilt (ofN 16) 16 = false := by decide
    simp only [F26_c1, e, cond_false]; rfl
  | j + 1, k, n + 1, hk, hn => by
    obtain ⟨e1, e2, _⟩ := lt16 (show k < 16 by omega)
    simp only [F26_c1, e1, e2, cond_true, isp_view, Option.bind_some, ofN_toNat]
    rw [viewR0 (by omega), fg_ofN k (by omega), fing_pc x0 x1 x2 x3 x4 x5 x6 x7 x8 x9 x10 x11 x12 x13 x14 x15 id b l pr y0 y1 y2 y3 y4 y5 y6 y7 y8 y9 y10 y11 y12 y13 y14 y15 j (k + 1) n (by omega) (by omega), drop_getD (k := k) (by simp; omega), List.all_cons]
    have := oth_of id ([x0, x1, x2, x3, x4, x5, x6, x7, x8, x9, x10, x11, x12, x13, x14, x15].getD k 0) (some ((([x0, x1, x2, x3, x4, x5, x6, x7, x8, x9, x10, x11, x12, x13, x14, x15] : List Int).drop (k + 1)).all (oth id)))
    rw [this]
    cases oth id ([x0, x1, x2, x3, x4, x5, x6, x7, x8, x9, x10, x11, x12, x13, x14, x15].getD k 0) <;> rfl
theorem viewR_p {n : Nat} (hn : 70000 < n) (a0 : Int) (a1 a2 : List Int) (a3 a4 a5 a6 a7 a8 a9 a10 a11 a12 a13 a14 a15 a16 a17 a18 a19 : Int) : F26 n a0 a1 a2 a3 a4 a5 a6 a7 a8 a9 a10 a11 a12 a13 a14 a15 a16 a17 a18 a19 = some (rightV ⟨a0, a1, a2, a3, a4, a5, a6, a7, a8, a9, a10, a11, a12, a13, a14, a15, a16, a17, a18, a19⟩) := by
  unfold F26 rightV
  have hf := fuel_big
  rw [viewR0 (by omega)]
  simp only [isp_view, base_p (show 2000 < FUEL by omega), right_p (show 2000 < FUEL by omega), Option.bind_some]
  have h0 : (0 : Int) = ofN 0 := rfl
  rw [h0, fing_pc a4 a5 a6 a7 a8 a9 a10 a11 a12 a13 a14 a15 a16 a17 a18 a19 a0 a1 a2 a3 a4 a5 a6 a7 a8 a9 a10 a11 a12 a13 a14 a15 a16 a17 a18 a19 16 0 n (by omega) (by omega), oth_of, List.drop_zero]
  simp only [VW.fg]
  cases isP a0
  · rfl
  · cases goodBase a1
    · rfl
    · cases good a0 a2
      · rfl
      · cases oth a0 a3 <;> rfl
theorem fing_rc (a0 : Int) (a1 a2 : List Int) (a3 a4 a5 a6 a7 a8 a9 a10 a11 a12 a13 a14 a15 a16 a17 a18 a19 : Int) : ∀ (j k : Nat) (n : Nat), k + j = 16 → j < n → F7_c1 n (ofN k) a0 a1 a2 a3 a4 a5 a6 a7 a8 a9 a10 a11 a12 a13 a14 a15 a16 a17 a18 a19 = some ((([a4, a5, a6, a7, a8, a9, a10, a11, a12, a13, a14, a15, a16, a17, a18, a19] : List Int).drop k).all (oth a0))
  | _, _, 0, _, h => by omega
  | 0, k, n + 1, hk, _ => by
    have : k = 16 := by omega
    subst this
    have e : ilt (ofN 16) 16 = false := by decide
    simp only [F7_c1, e, cond_false]; rfl
  | j + 1, k, n + 1, hk, hn => by
    obtain ⟨e1, e2, e3⟩ := lt16 (show k < 16 by omega)
    simp only [F7_c1, e1, e2, cond_true, oth_r, Option.bind_some, ofN_toNat, e3]
    rw [fg_ofN k (by omega), fing_rc a0 a1 a2 a3 a4 a5 a6 a7 a8 a9 a10 a11 a12 a13 a14 a15 a16 a17 a18 a19 j (k + 1) n (by omega) (by omega), drop_getD (k := k) (by simp; omega), List.all_cons]
    cases oth a0 ([a4, a5, a6, a7, a8, a9, a10, a11, a12, a13, a14, a15, a16, a17, a18, a19].getD k 0) <;> rfl
theorem base_rc (a0 : Int) (a1 a2 : List Int) (a3 a4 a5 a6 a7 a8 a9 a10 a11 a12 a13 a14 a15 a16 a17 a18 a19 : Int) : ∀ (r p : List Int) (n : Nat), a1 = p ++ r → r.length + 20 < n → a1.length < 1000 → F7_c0 n (ofN p.length) a0 a1 a2 a3 a4 a5 a6 a7 a8 a9 a10 a11 a12 a13 a14 a15 a16 a17 a18 a19 = some (ris (p.getLastD (-1)) r && ([a4, a5, a6, a7, a8, a9, a10, a11, a12, a13, a14, a15, a16, a17, a18, a19] : List Int).all (oth a0))
  | _, _, 0, _, h, _ => by omega
  | [], p, n + 1, ha, h, _ => by
    rw [List.append_nil] at ha
    subst ha
    have h0 : (0 : Int) = ofN 0 := rfl
    simp only [F7_c0, lt_out, cond_false, ris, Bool.true_and]
    rw [h0, fing_rc a0 a1 a2 a3 a4 a5 a6 a7 a8 a9 a10 a11 a12 a13 a14 a15 a16 a17 a18 a19 16 0 n (by omega) (by omega), List.drop_zero]
  | x :: r, p, n + 1, ha, h, hb => by
    have h1 := base_rc a0 a1 a2 a3 a4 a5 a6 a7 a8 a9 a10 a11 a12 a13 a14 a15 a16 a17 a18 a19 r (p ++ [x]) n (by rw [ha, in_eq]) (by simp at h; omega) hb
    rw [show (p ++ [x]).getLastD (-1) = x by simp] at h1
    rw [ha] at hb
    subst ha
    simp only [List.length_append, List.length_cons] at h hb
    simp only [F7_c0, lt_in, inb_in, get_in, cond_true, isp_ref13, Option.bind_some]
    rw [add_in (x := x) (by omega), h1, ris]
    cases hx : isP x
    · rfl
    · simp only [Bool.not_true, cond_false, Bool.true_and]
      rcases List.eq_nil_or_concat p with rfl | ⟨q, v, hqv⟩
      · have e2 : igt (ofN ([] : List Int).length) 0 = false := rfl
        rw [e2, cond_false]
        have := isP_iff.1 hx
        rw [show ([] : List Int).getLastD (-1) = -1 from rfl, decide_eq_true (by omega : (-1 : Int) < x), Bool.true_and]
      · rw [List.concat_eq_append] at hqv
        subst hqv
        have e2 : igt (ofN (q ++ [v]).length) 0 = true := by simp [igt, ofN]
        have e3 : isub .i64 (ofN (q ++ [v]).length) 1 = ofN q.length := sub_in (by simp at hb; omega)
        have e4 : (q ++ [v]) ++ x :: r = q ++ v :: (x :: r) := by simp
        have e6 : (q ++ [v]).getLastD (-1) = v := by simp
        rw [e2, cond_true, e3, e6, e4]
        simp only [inb_in, get_in, cond_true, ile]
        by_cases hd : v < x
        · rw [decide_eq_false (by omega : ¬ x ≤ v), decide_eq_true hd]; rfl
        · rw [decide_eq_true (by omega : x ≤ v), decide_eq_false hd]; rfl
theorem viewR_r {n : Nat} (hn : 70000 < n) (a0 : Int) (a1 a2 : List Int) (a3 a4 a5 a6 a7 a8 a9 a10 a11 a12 a13 a14 a15 a16 a17 a18 a19 : Int) (h2 : a2.length ≤ 9223372036854775807) : F7 n a0 a1 a2 a3 a4 a5 a6 a7 a8 a9 a10 a11 a12 a13 a14 a15 a16 a17 a18 a19 = some (rightV ⟨a0, a1, a2, a3, a4, a5, a6, a7, a8, a9, a10, a11, a12, a13, a14, a15, a16, a17, a18, a19⟩) := by
  unfold F7 rightV goodBase
  have hf := fuel_big
  simp only [isp_ref13, right_r (show 70000 < FUEL by omega) a0 a2 h2, oth_r, Option.bind_some, VW.fg]
  cases isP a0
  · rfl
  · simp only [Bool.not_true, cond_false, Bool.true_and]
    by_cases h1 : 2 ≤ a1.length
    · have e : ilt (ofN a1.length) 2 = false := decide_eq_false (by simp only [ofN, List.length_append, List.length_cons, List.length_nil]; omega)
      rw [e, cond_false, decide_eq_true h1, Bool.true_and]
      by_cases h3 : a1.length ≤ 4
      · have e : igt (ofN a1.length) 4 = false := decide_eq_false (by simp only [ofN, List.length_append, List.length_cons, List.length_nil]; omega)
        rw [e, cond_false, decide_eq_true h3, Bool.true_and]
        have h0 : (0 : Int) = ofN ([] : List Int).length := rfl
        rw [h0, base_rc a0 a1 a2 a3 a4 a5 a6 a7 a8 a9 a10 a11 a12 a13 a14 a15 a16 a17 a18 a19 a1 [] n rfl (by omega) (by omega), show ([] : List Int).getLastD (-1) = -1 from rfl]
        cases good a0 a2
        · simp
        · cases oth a0 a3
          · simp
          · rfl
      · have e : igt (ofN a1.length) 4 = true := decide_eq_true (by simp only [ofN, List.length_append, List.length_cons, List.length_nil]; omega)
        rw [e, cond_true, decide_eq_false h3]; rfl
    · have e : ilt (ofN a1.length) 2 = true := decide_eq_true (by simp only [ofN, List.length_append, List.length_cons, List.length_nil]; omega)
      rw [e, cond_true, decide_eq_false h1]; rfl
end Go.Proofs.YtlcbbjcehaahlaaGreat
namespace Go.Proofs.YtlcbbjcehaahlaaGreat
open Go Go.RowKit
theorem fr_pos {id x : Int} (hi : isP id = true) (hx : isP x = true) : 0 < fr id x ↔ x ≠ id := by
  have := isP_iff.1 hi; have := isP_iff.1 hx; unfold fr; omega
theorem ris_all : ∀ (l : List Int) (d : Int), ris d l = true → ∀ x ∈ l, isP x = true ∧ d < x
  | [], _, _, x, hx => by simp at hx
  | y :: r, d, h, x, hx => by
    simp only [ris, Bool.and_eq_true, decide_eq_true_eq] at h
    rcases List.mem_cons.1 hx with rfl | hx
    · exact ⟨h.1, h.2.1⟩
    · have := ris_all r y h.2.2 x hx
      exact ⟨this.1, by omega⟩
theorem base_two {l : List Int} {id : Int} (h : goodBase l = true) : (∀ x ∈ l, isP x = true) ∧ ∃ x ∈ l, x ≠ id := by
  unfold goodBase at h
  simp only [Bool.and_eq_true, decide_eq_true_eq] at h
  obtain ⟨h1, _, h3⟩ := h
  refine ⟨fun x hx => (ris_all l _ h3 x hx).1, ?_⟩
  match l, h1, h3 with
  | x :: y :: r, _, h3 =>
    simp only [ris, Bool.and_eq_true, decide_eq_true_eq] at h3
    by_cases hx : x = id
    · exact ⟨y, by simp, by omega⟩
    · exact ⟨x, by simp, hx⟩
theorem rgt_all {w : Int} : ∀ (l : List Int) (d : Int), rgt w d l = true → ∀ x ∈ l, isP x = true ∧ d < fr w x
  | [], _, _, x, hx => by simp at hx
  | y :: r, d, h, x, hx => by
    simp only [rgt, Bool.and_eq_true, decide_eq_true_eq] at h
    rcases List.mem_cons.1 hx with rfl | hx
    · exact ⟨h.1, h.2.1⟩
    · have := rgt_all r _ h.2.2 x hx
      exact ⟨this.1, by omega⟩
theorem rightV_parts {v : VW} (h : rightV v = true) : isP v.id = true ∧ goodBase v.base = true ∧ good v.id v.lst = true ∧ oth v.id v.pred = true ∧ ∀ x ∈ v.fg, oth v.id x = true := by
  unfold rightV at h
  simp only [Bool.and_eq_true, List.all_eq_true] at h
  exact ⟨h.1, h.2.1, h.2.2.1, h.2.2.2.1, h.2.2.2.2⟩
theorem lst_all {v : VW} (h : rightV v = true) : ∀ x ∈ v.lst, isP x = true ∧ x ≠ v.id := by
  obtain ⟨h1, _, h3, _⟩ := rightV_parts h
  unfold good at h3
  simp only [Bool.and_eq_true] at h3
  intro x hx
  have := rgt_all _ _ h3.1 x hx
  exact ⟨this.1, (fr_pos h1 this.1).1 this.2⟩
theorem fg_all {v : VW} (h : rightV v = true) : ∀ x ∈ v.fg, (0 ≤ x ↔ x ≠ -1) ∧ (0 ≤ x → isP x = true ∧ x ≠ v.id) := by
  obtain ⟨h1, _, _, _, h5⟩ := rightV_parts h
  intro x hx
  have := h5 x hx
  unfold oth at this
  simp only [Bool.or_eq_true, Bool.and_eq_true, decide_eq_true_eq] at this
  rcases this with e | ⟨e1, e2⟩
  · exact ⟨by omega, fun h => by omega⟩
  · have := isP_iff.1 e1
    exact ⟨by omega, fun _ => ⟨e1, e2⟩⟩
def anch (id : Int) : Int → List Int → Int
  | q, [] => q
  | q, x :: r => anch id (if x ≠ id then (if q < 0 then x else if fr id x < fr id q then x else q) else q) r
theorem anch_ok {id : Int} : ∀ (r : List Int) (q : Int), (∀ x ∈ r, 0 ≤ x) → (anch id q r = q ∨ (anch id q r ∈ r ∧ anch id q r ≠ id)) ∧ (∀ x ∈ r, x ≠ id → 0 ≤ anch id q r ∧ fr id (anch id q r) ≤ fr id x) ∧ (0 ≤ q → 0 ≤ anch id q r ∧ fr id (anch id q r) ≤ fr id q)
  | [], q, _ => ⟨.inl rfl, fun x hx => by simp at hx, fun h => ⟨h, Int.le_refl _⟩⟩
  | x :: r, q, hp => by
    rw [anch]
    have hx0 := hp x (by simp)
    have hr : ∀ y ∈ r, 0 ≤ y := fun y hy => hp y (by simp [hy])
    by_cases h1 : x ≠ id
    · rw [if_pos h1]
      by_cases h2 : q < 0
      · rw [if_pos h2]
        obtain ⟨b1, b2, b3⟩ := anch_ok (id := id) r x hr
        refine ⟨?_, fun y hy hn => ?_, fun h => by omega⟩
        · rcases b1 with b1 | b1
          · rw [b1]; exact .inr ⟨by simp, h1⟩
          · exact .inr ⟨by simp [b1.1], b1.2⟩
        · rcases List.mem_cons.1 hy with rfl | hy
          · exact b3 hx0
          · exact b2 y hy hn
      · rw [if_neg h2]
        by_cases h3 : fr id x < fr id q
        · rw [if_pos h3]
          obtain ⟨b1, b2, b3⟩ := anch_ok (id := id) r x hr
          refine ⟨?_, fun y hy hn => ?_, fun h => ?_⟩
          · rcases b1 with b1 | b1
            · rw [b1]; exact .inr ⟨by simp, h1⟩
            · exact .inr ⟨by simp [b1.1], b1.2⟩
          · rcases List.mem_cons.1 hy with rfl | hy
            · exact b3 hx0
            · exact b2 y hy hn
          · have := b3 hx0
            exact ⟨this.1, by omega⟩
        · rw [if_neg h3]
          obtain ⟨b1, b2, b3⟩ := anch_ok (id := id) r q hr
          refine ⟨b1.imp (fun h => h) fun h => ⟨by simp [h.1], h.2⟩, fun y hy hn => ?_, b3⟩
          rcases List.mem_cons.1 hy with rfl | hy
          · have := b3 (by omega)
            exact ⟨this.1, by omega⟩
          · exact b2 y hy hn
    · rw [if_neg h1]
      obtain ⟨b1, b2, b3⟩ := anch_ok (id := id) r q hr
      refine ⟨b1.imp (fun h => h) fun h => ⟨by simp [h.1], h.2⟩, fun y hy hn => ?_, b3⟩
      rcases List.mem_cons.1 hy with rfl | hy
      · exact absurd hn h1
      · exact b2 y hy hn
theorem anchor_c (a0 : Int) (a1 a2 : List Int) (a3 a4 a5 a6 a7 a8 a9 a10 a11 a12 a13 a14 a15 a16 a17 a18 a19 : Int) : ∀ (r p : List Int) (n : Nat) (q : Int), r.length < n → (p ++ r).length < 1000 → F112_c0 n q (p ++ r) (ofN (p ++ r).length) (ofN p.length) a0 a1 a2 a3 a4 a5 a6 a7 a8 a9 a10 a11 a12 a13 a14 a15 a16 a17 a18 a19 = some (anch a0 q r)
  | _, _, 0, _, h, _ => by omega
  | [], p, n + 1, q, _, _ => by simp only [F112_c0, List.append_nil, lt_out, cond_false]; rfl
  | x :: r, p, n + 1, q, h, hb => by
    simp only [List.length_cons] at h
    simp only [F112_c0, lt_in, inb_in, get_in, cond_true, far_p, Option.bind_some]
    simp only [List.length_append, List.length_cons] at hb
    rw [add_in (x := x) (by omega)]
    have h1 := fun q => anchor_c a0 a1 a2 a3 a4 a5 a6 a7 a8 a9 a10 a11 a12 a13 a14 a15 a16 a17 a18 a19 r (p ++ [x]) n q (by omega) (by simp; omega)
    rw [← in_eq] at h1
    rw [h1, h1, ine_dec, anch]
    simp only [ilt]
    by_cases e1 : x = a0
    · simp [e1]
    · by_cases e2 : q < 0
      · simp [e1, e2]
      · by_cases e3 : fr a0 x < fr a0 q <;> simp [e1, e2, e3]
theorem anchor_p {n : Nat} (hn : 2000 < n) (a0 : Int) (a1 a2 : List Int) (a3 a4 a5 a6 a7 a8 a9 a10 a11 a12 a13 a14 a15 a16 a17 a18 a19 : Int) (h : a1.length < 1000) : F112 n a0 a1 a2 a3 a4 a5 a6 a7 a8 a9 a10 a11 a12 a13 a14 a15 a16 a17 a18 a19 = some (anch a0 (-1) a1) := by
  unfold F112
  simpa [ofN] using anchor_c a0 a1 a2 a3 a4 a5 a6 a7 a8 a9 a10 a11 a12 a13 a14 a15 a16 a17 a18 a19 a1 [] n (-1) (by omega) (by simpa using h)
def firstV (v : VW) : Int := if rightV v then (match v.lst with | x :: _ => x | [] => anch v.id (-1) v.base) else -1
theorem firstV_ok {v : VW} (h : rightV v = true) : isP (firstV v) = true ∧ firstV v ≠ v.id := by
  obtain ⟨h1, h2, _⟩ := rightV_parts h
  unfold firstV
  rw [if_pos h]
  cases hl : v.lst with
  | cons x r => exact lst_all h x (by rw [hl]; simp)
  | nil =>
    simp only
    obtain ⟨hp, y, hy, hne⟩ := base_two (id := v.id) h2
    obtain ⟨b1, b2, b3⟩ := anch_ok (id := v.id) v.base (-1) (fun z hz => (isP_iff.1 (hp z hz)).1)
    have b4 := b2 y hy hne
    rcases b1 with h | h
    · omega
    · exact ⟨hp _ h.1, h.2⟩
theorem first_v (n : Nat) (a0 : Int) (a1 a2 : List Int) (a3 a4 a5 a6 a7 a8 a9 a10 a11 a12 a13 a14 a15 a16 a17 a18 a19 : Int) : F101 n a0 a1 a2 a3 a4 a5 a6 a7 a8 a9 a10 a11 a12 a13 a14 a15 a16 a17 a18 a19 = some (firstV ⟨a0, a1, a2, a3, a4, a5, a6, a7, a8, a9, a10, a11, a12, a13, a14, a15, a16, a17, a18, a19⟩) := by
  unfold F101 firstV
  have hf := fuel_big
  rw [viewR_p (show 70000 < FUEL by omega), first_p (show 0 < FUEL by omega)]
  simp only [Option.bind_some]
  cases hr : rightV ⟨a0, a1, a2, a3, a4, a5, a6, a7, a8, a9, a10, a11, a12, a13, a14, a15, a16, a17, a18, a19⟩
  · rfl
  · have hl := (rightV_len hr).1
    rw [anchor_p (show 2000 < FUEL by omega) a0 a1 a2 a3 a4 a5 a6 a7 a8 a9 a10 a11 a12 a13 a14 a15 a16 a17 a18 a19 (by simp only at hl; omega)]
    cases a2 <;> rfl
end Go.Proofs.YtlcbbjcehaahlaaGreat
namespace Go.Proofs.YtlcbbjcehaahlaaGreat
open Go Go.RowKit
structure MW where
  k : Int
  c : Int
  f : Int
  t : Int
  key : Int
  s : Bool
  d : Bool
  p : Int
  pr : Int
  l : List Int
  ik : ByteArray
  iv : Int
  ir : Int
  ig : Bool
  cd : Int
  deriving DecidableEq
theorem lad1 (b y : Bool) : (bif b then some y else some false) = some (b && y) := by cases b <;> rfl
theorem lad2 (b y : Bool) : (bif b then some false else some y) = some (!b && y) := by cases b <;> rfl
theorem lad3 (b y : Bool) : (bif b then some true else some y) = some (b || y) := by cases b <;> rfl
theorem beqb_dec (a b : Bool) : beqb a b = decide (a = b) := by cases a <;> cases b <;> rfl
theorem steq_dec (a b : ByteArray) : steq a b = decide (a = b) := by
  unfold steq
  by_cases h : a = b
  · rw [decide_eq_true h]; exact beq_iff_eq.2 (by rw [h])
  · rw [decide_eq_false h]
    refine beq_eq_false_iff_ne.2 fun e => h ?_
    rw [ByteArray.toList_eq, ByteArray.toList_eq] at e
    exact WideShapes.bytes_inj e
def isKeyB (k : ByteArray) : Bool := decide (1 ≤ k.size) && decide (k.size ≤ 20)
def isValB (n : Int) : Bool := decide (0 ≤ n) && decide (n ≤ 1048576)
def pairB (k : ByteArray) (v r : Int) : Bool := isKeyB k && (isValB v && isValB r)
theorem stl1 (k : ByteArray) : ige (stlen k) 1 = decide (1 ≤ k.size) := by unfold ige stlen; apply decide_eq_decide.2; omega
theorem stl2 (k : ByteArray) : ile (stlen k) 20 = decide (k.size ≤ 20) := by unfold ile stlen; apply decide_eq_decide.2; omega
theorem isKey_p (n : Nat) (k : ByteArray) : F78 n k = some (isKeyB k) := by
  unfold F78 isKeyB; rw [stl1, stl2, lad1]
theorem isValue_p (n : Nat) (v : Int) : F79 n v = some (isValB v) := by
  unfold F79 isValB; rw [lad1]; rfl
theorem pair_p (n : Nat) (k : ByteArray) (v r : Int) (g : Bool) : F45 n k v r g = some (pairB k v r) := by
  unfold F45 pairB
  simp only [isKey_p, isValue_p, Option.bind_some, lad1]
theorem pair_r (n : Nat) (k : ByteArray) (v r : Int) (g : Bool) : F17 n k v r g = some (pairB k v r) := by
  unfold F17 pairB isKeyB isValB
  rw [stl1, stl2]
  simp only [ige, ile, lad1, Bool.and_assoc, ge_iff_le]
theorem call_num {a n : Int} (ha : isP a = true) (h1 : 1 ≤ n) (h2 : n ≤ 1048576) : iadd .i64 (imul .i64 a 1048576) n = a * 1048576 + n := by
  have := isP_iff.1 ha
  have e : IntKind.i64.wrap (a * 1048576) = a * 1048576 := wrap_mid (by omega) (by omega)
  simp only [iadd, imul]
  rw [e, wrap_mid (by omega) (by omega)]
def askB (k : Int) : Bool := decide (1 ≤ k) && decide (k ≤ 6)
def askerV (k f t : Int) : Int := if askB k then f else t
theorem askB_of (k : Int) : (bif ige k 1 then some (ile k 6) else some false) = some (askB k) := by rw [lad1]; rfl
theorem msgasks_p (n : Nat) (a0 : Int) (a1 : Int) (a2 : Int) (a3 : Int) (a4 : Int) (a5 : Bool) (a6 : Bool) (a7 : Int) (a8 : Int) (a9 : List Int) (a10 : ByteArray) (a11 : Int) (a12 : Int) (a13 : Bool) (a14 : Int) : F95 n a0 a1 a2 a3 a4 a5 a6 a7 a8 a9 a10 a11 a12 a13 a14 = some (askB a0) := askB_of a0
theorem msgasks_r (n : Nat) (a0 : Int) (a1 : Int) (a2 : Int) (a3 : Int) (a4 : Int) (a5 : Bool) (a6 : Bool) (a7 : Int) (a8 : Int) (a9 : List Int) (a10 : ByteArray) (a11 : Int) (a12 : Int) (a13 : Bool) (a14 : Int) : F73 n a0 a1 a2 a3 a4 a5 a6 a7 a8 a9 a10 a11 a12 a13 a14 = some (askB a0) := askB_of a0
theorem askerV_of (k f t : Int) : (bif askB k then some f else some t) = some (askerV k f t) := by unfold askerV; cases askB k <;> rfl
theorem asker_p (n : Nat) (a0 : Int) (a1 : Int) (a2 : Int) (a3 : Int) (a4 : Int) (a5 : Bool) (a6 : Bool) (a7 : Int) (a8 : Int) (a9 : List Int) (a10 : ByteArray) (a11 : Int) (a12 : Int) (a13 : Bool) (a14 : Int) : F65 n a0 a1 a2 a3 a4 a5 a6 a7 a8 a9 a10 a11 a12 a13 a14 = some (askerV a0 a2 a3) := by
  unfold F65; rw [msgasks_p, Option.bind_some, askerV_of]
theorem asker_r (n : Nat) (a0 : Int) (a1 : Int) (a2 : Int) (a3 : Int) (a4 : Int) (a5 : Bool) (a6 : Bool) (a7 : Int) (a8 : Int) (a9 : List Int) (a10 : ByteArray) (a11 : Int) (a12 : Int) (a13 : Bool) (a14 : Int) : F33 n a0 a1 a2 a3 a4 a5 a6 a7 a8 a9 a10 a11 a12 a13 a14 = some (askerV a0 a2 a3) := by
  unfold F33; rw [msgasks_r, Option.bind_some, askerV_of]
theorem asker_place {k f t : Int} (hf : isP f = true) (ht : isP t = true) : isP (askerV k f t) = true := by unfold askerV; split <;> assumption
def callB (a c : Int) : Bool := decide (a * 1048576 < c) && decide (c ≤ a * 1048576 + 1048576)
theorem iscall_p (n : Nat) {a : Int} (ha : isP a = true) (c : Int) : F64 n a c = some (callB a c) := by
  have := isP_iff.1 ha
  unfold F64 callB
  have e1 : imul .i64 a 1048576 = a * 1048576 := by simp only [imul]; rw [wrap_mid (by omega) (by omega)]
  have e2 : imul .i64 (iadd .i64 a 1) 1048576 = a * 1048576 + 1048576 := by
    have e : IntKind.i64.wrap (a + 1) = a + 1 := wrap_mid (by omega) (by omega)
    simp only [imul, iadd]; rw [e, wrap_mid (by omega) (by omega)]; omega
  rw [e1, e2, lad1]; rfl
theorem iscall_r {a : Int} (ha : isP a = true) (c : Int) (Y : Bool) : (bif ilt c (iadd .i64 (imul .i64 a 1048576) 1) then some false else bif ige c (iadd .i64 (iadd .i64 (imul .i64 a 1048576) 1) 1048576) then some false else some Y) = some (callB a c && Y) := by
  have := isP_iff.1 ha
  have e1 : iadd .i64 (imul .i64 a 1048576) 1 = a * 1048576 + 1 := by
    have e : IntKind.i64.wrap (a * 1048576) = a * 1048576 := wrap_mid (by omega) (by omega)
    simp only [imul, iadd]; rw [e, wrap_mid (by omega) (by omega)]
  have e2 : iadd .i64 (a * 1048576 + 1) 1048576 = a * 1048576 + 1048577 := by
    simp only [iadd]; rw [wrap_mid (by omega) (by omega)]; omega
  rw [e1, e2, lad2, lad2, ← Bool.and_assoc]
  congr 2
  unfold callB ilt ige
  rw [← decide_not, ← decide_not]
  congr 1
  · apply decide_eq_decide.2; omega
  · apply decide_eq_decide.2; omega
theorem equal_c : ∀ (r s p q : List Int) (n : Nat), r.length < n → p.length = q.length → r.length = s.length → (p ++ r).length ≤ 9223372036854775807 → F42_c0 n (p ++ r) (q ++ s) (ofN (p ++ r).length) (ofN p.length) = some (decide (r = s))
  | _, _, _, _, 0, h, _, _, _ => by omega
  | [], [], p, q, n + 1, _, _, _, _ => by simp only [F42_c0, List.append_nil, lt_out, cond_false]; rfl
  | x :: r, y :: s, p, q, n + 1, h, hp, hs, hb => by
    have e1 : inb (ofN p.length) (q ++ y :: s).length = true := by rw [hp]; exact inb_in
    have e2 : ∀ d, (q ++ y :: s).getD (ofN p.length).toNat d = y := fun d => by rw [hp]; exact get_in
    simp only [F42_c0, lt_in, inb_in, get_in, cond_true, e1, e2]
    simp only [List.length_append, List.length_cons] at h hb hs
    rw [add_in (x := x) (by omega)]
    have h1 := equal_c r s (p ++ [x]) (q ++ [y]) n (by omega) (by simp [hp]) (by omega) (by simp; omega)
    rw [← in_eq, ← in_eq] at h1
    rw [h1, ine_dec]
    by_cases hxy : x = y
    · subst hxy; simp
    · simp [hxy]
theorem equal_p {n : Nat} (l m : List Int) (hn : l.length < n) (h : l.length ≤ 9223372036854775807) : F42 n l m = some (decide (l = m)) := by
  unfold F42
  by_cases hl : l.length = m.length
  · have e : ine (ofN l.length) (ofN m.length) = false := by simp [ine, ofN, hl]
    rw [e, cond_false]
    simpa [ofN] using equal_c l m [] [] n (by omega) rfl hl (by simpa using h)
  · have e : ine (ofN l.length) (ofN m.length) = true := by simp [ine, ofN]; omega
    rw [e, cond_true, decide_eq_false (fun hh => hl (by rw [hh]))]
def sameM (a b : MW) : Bool := decide (a.l = b.l) && (decide (a.k = b.k) && (decide (a.c = b.c) && (decide (a.f = b.f) && (decide (a.t = b.t) && (decide (a.key = b.key) && (decide (a.s = b.s) && (decide (a.d = b.d) && (decide (a.p = b.p) && (decide (a.pr = b.pr) && ((decide (a.ik = b.ik) && (decide (a.iv = b.iv) && (decide (a.ir = b.ir) && decide (a.ig = b.ig)))) && decide (a.cd = b.cd)))))))))))
theorem msame_p {n : Nat} {a0 : Int} {a1 : Int} {a2 : Int} {a3 : Int} {a4 : Int} {a5 : Bool} {a6 : Bool} {a7 : Int} {a8 : Int} {a9 : List Int} {a10 : ByteArray} {a11 : Int} {a12 : Int} {a13 : Bool} {a14 : Int} {b0 : Int} {b1 : Int} {b2 : Int} {b3 : Int} {b4 : Int} {b5 : Bool} {b6 : Bool} {b7 : Int} {b8 : Int} {b9 : List Int} {b10 : ByteArray} {b11 : Int} {b12 : Int} {b13 : Bool} {b14 : Int} (h : a9.length < 100000) : F66 n a0 a1 a2 a3 a4 a5 a6 a7 a8 a9 a10 a11 a12 a13 a14 b0 b1 b2 b3 b4 b5 b6 b7 b8 b9 b10 b11 b12 b13 b14 = some (sameM ⟨a0, a1, a2, a3, a4, a5, a6, a7, a8, a9, a10, a11, a12, a13, a14⟩ ⟨b0, b1, b2, b3, b4, b5, b6, b7, b8, b9, b10, b11, b12, b13, b14⟩) := by
  have hf := fuel_big
  unfold F66 sameM
  rw [equal_p a9 b9 (by omega) (by omega)]
  simp only [Option.bind_some, lad1, ieq_dec, beqb_dec, steq_dec, Bool.and_true]
  congr 1
  grind
theorem msame_rc (a0 : Int) (a1 : Int) (a2 : Int) (a3 : Int) (a4 : Int) (a5 : Bool) (a6 : Bool) (a7 : Int) (a8 : Int) (a9 : List Int) (a10 : ByteArray) (a11 : Int) (a12 : Int) (a13 : Bool) (a14 : Int) (b0 : Int) (b1 : Int) (b2 : Int) (b3 : Int) (b4 : Int) (b5 : Bool) (b6 : Bool) (b7 : Int) (b8 : Int) (b9 : List Int) (b10 : ByteArray) (b11 : Int) (b12 : Int) (b13 : Bool) (b14 : Int) : ∀ (r s p q : List Int) (n : Nat), a9 = p ++ r → b9 = q ++ s → r.length < n → p.length = q.length → r.length = s.length → (p ++ r).length ≤ 9223372036854775807 →
    F34_c0 n (ofN p.length) a0 a1 a2 a3 a4 a5 a6 a7 a8 a9 a10 a11 a12 a13 a14 b0 b1 b2 b3 b4 b5 b6 b7 b8 b9 b10 b11 b12 b13 b14 = some (decide (r = s) && (decide (a0 = b0) && (decide (a1 = b1) && (decide (a2 = b2) && (decide (a3 = b3) && (decide (a4 = b4) && (decide (a5 = b5) && (decide (a6 = b6) && (decide (a7 = b7) && (decide (a8 = b8) && ((decide (a10 = b10) && (decide (a11 = b11) && (decide (a12 = b12) && decide (a13 = b13)))) && decide (a14 = b14))))))))))))
  | _, _, _, _, 0, _, _, h, _, _, _ => by omega
  | [], [], p, q, n + 1, ha, hb, _, _, _, _ => by
    rw [List.append_nil] at ha
    subst ha
    simp only [F34_c0, lt_out, cond_false, lad1, ieq_dec, beqb_dec, steq_dec, Bool.and_true]
    simp only [decide_true, Bool.true_and]
  | x :: r, y :: s, p, q, n + 1, ha, hb', h, hp, hs, hb => by
    have e1 : inb (ofN p.length) (q ++ y :: s).length = true := by rw [hp]; exact inb_in
    have e2 : ∀ d, (q ++ y :: s).getD (ofN p.length).toNat d = y := fun d => by rw [hp]; exact get_in
    simp only [List.length_append, List.length_cons] at h hb hs
    have h1 := msame_rc a0 a1 a2 a3 a4 a5 a6 a7 a8 a9 a10 a11 a12 a13 a14 b0 b1 b2 b3 b4 b5 b6 b7 b8 b9 b10 b11 b12 b13 b14 r s (p ++ [x]) (q ++ [y]) n (by rw [ha, in_eq]) (by rw [hb', in_eq]) (by omega) (by simp [hp]) (by omega) (by simp; omega)
    simp only [F34_c0]
    rw [show ilt (ofN p.length) (ofN a9.length) = true by rw [ha]; exact lt_in, show inb (ofN p.length) a9.length = true by rw [ha]; exact inb_in, show inb (ofN p.length) b9.length = true by rw [hb']; exact e1, show a9.getD (ofN p.length).toNat 0 = x by rw [ha]; exact get_in, show b9.getD (ofN p.length).toNat 0 = y by rw [hb']; exact e2 0]
    rw [add_in (x := x) (by omega), h1, ine_dec]
    by_cases hxy : x = y
    · subst hxy; simp
    · simp [hxy]
theorem msame_r {n : Nat} {a0 : Int} {a1 : Int} {a2 : Int} {a3 : Int} {a4 : Int} {a5 : Bool} {a6 : Bool} {a7 : Int} {a8 : Int} {a9 : List Int} {a10 : ByteArray} {a11 : Int} {a12 : Int} {a13 : Bool} {a14 : Int} {b0 : Int} {b1 : Int} {b2 : Int} {b3 : Int} {b4 : Int} {b5 : Bool} {b6 : Bool} {b7 : Int} {b8 : Int} {b9 : List Int} {b10 : ByteArray} {b11 : Int} {b12 : Int} {b13 : Bool} {b14 : Int} (h : a9.length < n) (hl : a9.length ≤ 9223372036854775807) : F34 n a0 a1 a2 a3 a4 a5 a6 a7 a8 a9 a10 a11 a12 a13 a14 b0 b1 b2 b3 b4 b5 b6 b7 b8 b9 b10 b11 b12 b13 b14 = some (sameM ⟨a0, a1, a2, a3, a4, a5, a6, a7, a8, a9, a10, a11, a12, a13, a14⟩ ⟨b0, b1, b2, b3, b4, b5, b6, b7, b8, b9, b10, b11, b12, b13, b14⟩) := by
  unfold F34 sameM
  by_cases hl' : a9.length = b9.length
  · have e : ine (ofN a9.length) (ofN b9.length) = false := by simp [ine, ofN, hl']
    rw [e, cond_false]
    simpa [ofN] using msame_rc a0 a1 a2 a3 a4 a5 a6 a7 a8 a9 a10 a11 a12 a13 a14 b0 b1 b2 b3 b4 b5 b6 b7 b8 b9 b10 b11 b12 b13 b14 a9 b9 [] [] n rfl rfl h rfl hl' (by simpa using hl)
  · have e : ine (ofN a9.length) (ofN b9.length) = true := by simp [ine, ofN]; omega
    rw [e, cond_true]
    simp only
    rw [decide_eq_false (fun hh => hl' (by rw [hh])), Bool.false_and]
def lstB (f : Int) : List Int → List Int → Bool
  | _, [] => true
  | p, x :: r => isP x && (decide (x ≠ f) && (!decide (x ∈ p) && lstB f (p ++ [x]) r))
def aptB (f : Int) : List Int → List Int → Bool
  | _, [] => true
  | p, x :: r => decide (x ≠ f) && (!decide (x ∈ p) && aptB f (p ++ [x]) r)
theorem lstB_apt (f : Int) : ∀ (r p : List Int), lstB f p r = (r.all isP && aptB f p r)
  | [], _ => rfl
  | x :: r, p => by
    rw [lstB, aptB, lstB_apt f r (p ++ [x]), List.all_cons]
    grind
theorem mindex_c : ∀ (r p : List Int) (n : Nat) (v : Int), r.length < n → (p ++ r).length ≤ 9223372036854775807 → ∃ k, F107_c0 n (p ++ r) v (ofN (p ++ r).length) (ofN p.length) = some k ∧ ige k 0 = decide (v ∈ r)
  | _, _, 0, _, h, _ => by omega
  | [], p, n + 1, v, _, _ => ⟨-1, by simp only [F107_c0, List.append_nil, lt_out, cond_false], by simp [ige]⟩
  | x :: r, p, n + 1, v, h, hb => by
    simp only [F107_c0, lt_in, inb_in, get_in, cond_true]
    simp only [List.length_append, List.length_cons] at h hb
    rw [add_in (x := x) (by omega)]
    by_cases hx : v = x
    · refine ⟨ofN p.length, by simp [ieq, hx], ?_⟩
      simp [ige, ofN, hx]
    · obtain ⟨k, h1, h2⟩ := mindex_c r (p ++ [x]) n v (by omega) (by simp; omega)
      rw [← in_eq] at h1
      have e : ieq v x = false := by simp [ieq, hx]
      exact ⟨k, by rw [e, cond_false]; exact h1, by rw [h2]; simp [hx]⟩
theorem mcontains_p {n : Nat} (l : List Int) (v : Int) (h : l.length < 1000) : F90 n l v = some (decide (v ∈ l)) := by
  unfold F90 F107
  have hf := fuel_big
  obtain ⟨k, h1, h2⟩ := mindex_c l [] FUEL v (by omega) (by simp; omega)
  have h1' : F107_c0 FUEL l v (ofN l.length) 0 = some k := by simpa [ofN] using h1
  rw [h1', Option.bind_some, h2]
theorem take_in {α : Type} {p r : List α} : List.drop 0 (List.take (ofN p.length).toNat (p ++ r)) = p := by simp [ofN]
theorem apart_c (f : Int) : ∀ (r p : List Int) (n : Nat), r.length < n → (p ++ r).length < 1000 → F93_c0 n f (p ++ r) (p ++ r) (ofN (p ++ r).length) (ofN p.length) = some (aptB f p r)
  | _, _, 0, h, _ => by omega
  | [], p, n + 1, _, _ => by simp only [F93_c0, List.append_nil, lt_out, cond_false]; rfl
  | x :: r, p, n + 1, h, hb => by
    have e3 : (inn (ofN p.length) && inbs 0 (ofN p.length).toNat (p ++ x :: r).length) = true := by simp [inn, inbs, ofN]
    simp only [F93_c0, lt_in, inb_in, get_in, cond_true, e3, take_in]
    simp only [List.length_append, List.length_cons] at h hb
    have h1 := apart_c f r (p ++ [x]) n (by omega) (by simp; omega)
    rw [← in_eq] at h1
    rw [mcontains_p p x (by omega), Option.bind_some, add_in (x := x) (by omega), h1, ieq_dec, lad2, lad2, aptB, decide_not]
theorem apart_p {n : Nat} (hn : 2000 < n) (f : Int) (l : List Int) (h : l.length < 1000) : F93 n f l = some (aptB f [] l) := by
  unfold F93
  simpa [ofN] using apart_c f l [] n (by omega) (by simpa using h)
end Go.Proofs.YtlcbbjcehaahlaaGreat
namespace Go.Proofs.YtlcbbjcehaahlaaGreat
open Go Go.RowKit
theorem lad5 (b x y : Bool) : (bif b then some x else some y) = some (bif b then x else y) := by cases b <;> rfl
def noIt (m : MW) : Bool := decide (m.ik = ByteArray.empty) && (decide (m.iv = 0) && (decide (m.ir = 0) && decide (m.ig = false)))
def restM (m : MW) : Bool :=
  (decide (m.k = 4) || (decide (m.key = 0) && decide (m.s = false))) && ((decide (m.k = 10) || (decide (m.p = 0) && decide (m.d = false))) && ((decide (m.k = 7) || (decide (m.pr = 0) && decide (m.l = []))) &&
    ((decide (m.k = 5) || (decide (m.k = 6) || (decide (m.k = 12) || noIt m))) && (decide (m.k = 11) || (decide (m.k = 12) || decide (m.cd = 0))))))
def hasM (m : MW) : Bool :=
  bif decide (m.k = 4) then isP m.key else bif decide (m.k = 5) then pairB m.ik m.iv m.ir else bif decide (m.k = 6) then isKeyB m.ik && (decide (m.iv = 0) && (decide (m.ir = 0) && decide (m.ig = false)))
  else bif decide (m.k = 7) then (decide (m.pr = -1) || isP m.pr) && (lstB m.f [] m.l && decide (m.l.length ≤ 3)) else bif decide (m.k = 10) then isP m.p else bif decide (m.k = 11) then decide (m.cd = 0) || decide (m.cd = 200)
  else bif decide (m.k = 12) then (decide (m.cd = 0) && pairB m.ik m.iv m.ir) || (decide (m.cd = 201) && noIt m) else true
def rightM (m : MW) : Bool := (decide (1 ≤ m.k) && decide (m.k < 13)) && (isP m.f && (isP m.t && (!decide (m.f = m.t) && (callB (askerV m.k m.f m.t) m.c && (restM m && hasM m)))))
def holdP (m : MW) : Bool :=
  bif decide (m.k = 5) then pairB m.ik m.iv m.ir else bif decide (m.k = 6) then isKeyB m.ik else bif decide (m.k = 7) then decide (m.l.length ≤ 3) && aptB m.f [] m.l else bif decide (m.k = 11) then decide (m.cd = 0) || decide (m.cd = 200)
  else bif decide (m.k = 12) then (decide (m.cd = 0) && pairB m.ik m.iv m.ir) || (decide (m.cd = 201) && noIt m) else true
theorem len3 (l : List Int) : ile (ofN l.length) 3 = decide (l.length ≤ 3) := by unfold ile ofN; apply decide_eq_decide.2; omega
theorem holds_p (n : Nat) (a0 : Int) (a1 : Int) (a2 : Int) (a3 : Int) (a4 : Int) (a5 : Bool) (a6 : Bool) (a7 : Int) (a8 : Int) (a9 : List Int) (a10 : ByteArray) (a11 : Int) (a12 : Int) (a13 : Bool) (a14 : Int) (h : a9.length < 1000) : F61 n a0 a1 a2 a3 a4 a5 a6 a7 a8 a9 a10 a11 a12 a13 a14 = some (holdP ⟨a0, a1, a2, a3, a4, a5, a6, a7, a8, a9, a10, a11, a12, a13, a14⟩) := by
  have hf := fuel_big
  unfold F61 holdP noIt
  rw [pair_p, isKey_p, apart_p (by omega) a2 a9 h]
  simp only [Option.bind_some, ieq_dec, steq_dec, beqb_dec, Bool.and_true, len3, lad5]
  congr 1
  grind
theorem beside_p (n : Nat) (a0 : Int) (a1 : Int) (a2 : Int) (a3 : Int) (a4 : Int) (a5 : Bool) (a6 : Bool) (a7 : Int) (a8 : Int) (a9 : List Int) (a10 : ByteArray) (a11 : Int) (a12 : Int) (a13 : Bool) (a14 : Int) (h : a9.length < 1000) : (Option.bind (F67 n a0 a1 a2 a3 a4 a5 a6 a7 a8 a10 a11 a12 a13 a14) fun y =>
    bif y.q0 then (Option.bind (F66 FUEL y.q1 y.q2 y.q3 y.q4 y.q5 y.q6 y.q7 y.q8 y.q9 a9 y.q10 y.q11 y.q12 y.q13 y.q14 0 0 0 0 0 false false 0 0 [] ByteArray.empty 0 0 false 0) fun z => some z)
    else (Option.bind (F66 FUEL y.q1 y.q2 y.q3 y.q4 y.q5 y.q6 y.q7 y.q8 y.q9 [] y.q10 y.q11 y.q12 y.q13 y.q14 0 0 0 0 0 false false 0 0 [] ByteArray.empty 0 0 false 0) fun z => some z))
    = some (restM ⟨a0, a1, a2, a3, a4, a5, a6, a7, a8, a9, a10, a11, a12, a13, a14⟩ && (!decide (a0 = 6) || (decide (a11 = 0) && (decide (a12 = 0) && decide (a13 = false))))) := by
  unfold F67
  simp only [ieq_dec]
  by_cases k4 : a0 = 4
  · subst k4
    simp only [decide_true, cond_true, Option.bind_some]
    rw [msame_p (by omega)]
    simp only [Option.bind_some, Option.some.injEq, sameM, restM, noIt]
    grind
  by_cases k5 : a0 = 5
  · subst k5
    simp only [decide_true, cond_true, cond_false, decide_false, Option.bind_some, k4]
    rw [msame_p (by omega)]
    simp only [Option.bind_some, Option.some.injEq, sameM, restM, noIt]
    grind
  by_cases k6 : a0 = 6
  · subst k6
    simp only [decide_true, cond_true, cond_false, decide_false, Option.bind_some, k4, k5]
    rw [msame_p (by omega)]
    simp only [Option.bind_some, Option.some.injEq, sameM, restM, noIt]
    grind
  by_cases k7 : a0 = 7
  · subst k7
    simp only [decide_true, cond_true, cond_false, decide_false, Option.bind_some, k4, k5, k6]
    rw [msame_p (by simp)]
    simp only [Option.bind_some, Option.some.injEq, sameM, restM, noIt]
    grind
  by_cases k10 : a0 = 10
  · subst k10
    simp only [decide_true, cond_true, cond_false, decide_false, Option.bind_some, k4, k5, k6, k7]
    rw [msame_p (by omega)]
    simp only [Option.bind_some, Option.some.injEq, sameM, restM, noIt]
    grind
  by_cases k11 : a0 = 11
  · subst k11
    simp only [decide_true, cond_true, cond_false, decide_false, Option.bind_some, k4, k5, k6, k7, k10]
    rw [msame_p (by omega)]
    simp only [Option.bind_some, Option.some.injEq, sameM, restM, noIt]
    grind
  by_cases k12 : a0 = 12
  · subst k12
    simp only [decide_true, cond_true, cond_false, decide_false, Option.bind_some, k4, k5, k6, k7, k10, k11]
    rw [msame_p (by omega)]
    simp only [Option.bind_some, Option.some.injEq, sameM, restM, noIt]
    grind
  simp only [cond_true, cond_false, decide_false, Option.bind_some, k4, k5, k6, k7, k10, k11, k12]
  rw [msame_p (by omega)]
  simp only [Option.bind_some, Option.some.injEq, sameM, restM, noIt]
  grind
theorem val0 : isValB 0 = true := by decide
theorem pair0 (k : ByteArray) (v r : Int) (g : Bool) : (pairB k v r && (decide (v = 0) && (decide (r = 0) && g))) = (isKeyB k && (decide (v = 0) && (decide (r = 0) && g))) := by
  unfold pairB
  have := val0
  by_cases hv : v = 0
  · by_cases hr : r = 0
    · subst hv; subst hr; simp [this]
    · simp [hr]
  · simp [hv]
theorem mright0 {n : Nat} (h : 0 < n) : F30_c0 n = some false := by
  obtain ⟨m, rfl⟩ : ∃ m, n = m + 1 := Nat.exists_eq_succ_of_ne_zero (by omega)
  rfl
theorem mright_c (a0 : Int) (a1 : Int) (a2 : Int) (a3 : Int) (a4 : Int) (a5 : Bool) (a6 : Bool) (a7 : Int) (a8 : Int) (a9 : List Int) (a10 : ByteArray) (a11 : Int) (a12 : Int) (a13 : Bool) (a14 : Int) : ∀ (r p : List Int) (n : Nat), r.length + 1 < n → (p ++ r).length < 1000 →
    F30_c1 n (p ++ r) (ofN (p ++ r).length) (ofN p.length) a0 a1 a2 a3 a4 a5 a6 a7 a8 a9 a10 a11 a12 a13 a14 = bif r.all isP then F30_c1 2 [] (ofN 0) (ofN 0) a0 a1 a2 a3 a4 a5 a6 a7 a8 a9 a10 a11 a12 a13 a14 else some false
  | _, _, 0, h, _ => by omega
  | [], p, n + 1, hn, _ => by
    have e0 : ilt (ofN 0) (ofN 0) = false := by decide
    simp only [List.length_nil] at hn
    simp only [List.all_nil, cond_true, F30_c1, List.append_nil, lt_out, cond_false, e0, mright0 (show 0 < n by omega), mright0 (show 0 < 1 by omega)]
  | x :: r, p, n + 1, h, hb => by
    simp only [List.length_cons] at h
    simp only [F30_c1, lt_in, inb_in, get_in, cond_true, isp_msg, Option.bind_some, mright0 (show 0 < n by omega)]
    simp only [List.length_append, List.length_cons] at hb
    have h1 := mright_c a0 a1 a2 a3 a4 a5 a6 a7 a8 a9 a10 a11 a12 a13 a14 r (p ++ [x]) n (by omega) (by simp; omega)
    rw [← in_eq] at h1
    rw [add_in (x := x) (by omega), h1, List.all_cons]
    cases isP x <;> rfl
theorem mright_p {n : Nat} (hn : 2000 < n) (a0 : Int) (a1 : Int) (a2 : Int) (a3 : Int) (a4 : Int) (a5 : Bool) (a6 : Bool) (a7 : Int) (a8 : Int) (a9 : List Int) (a10 : ByteArray) (a11 : Int) (a12 : Int) (a13 : Bool) (a14 : Int) (h : a9.length < 1000) : F30 n a0 a1 a2 a3 a4 a5 a6 a7 a8 a9 a10 a11 a12 a13 a14 = some (rightM ⟨a0, a1, a2, a3, a4, a5, a6, a7, a8, a9, a10, a11, a12, a13, a14⟩) := by
  have hf := fuel_big
  unfold F30
  rw [mright0 (by omega)]
  have hc := mright_c a0 a1 a2 a3 a4 a5 a6 a7 a8 a9 a10 a11 a12 a13 a14 a9 [] n (by omega) (by simpa using h)
  simp only [List.nil_append, List.length_nil] at hc
  have h0 : (0 : Int) = ofN 0 := rfl
  have e0 : ilt (ofN 0) (ofN 0) = false := by decide
  simp only [F30_c1, e0, cond_false, mright0 (show 0 < 1 by omega)] at hc
  rw [holds_p FUEL a0 a1 a2 a3 a4 a5 a6 a7 a8 a9 a10 a11 a12 a13 a14 h]
  simp only [isp_msg, Option.bind_some]
  unfold rightM
  by_cases hk1 : a0 < 1
  · rw [show ilt a0 1 = true from decide_eq_true hk1]
    simp only [cond_true]
    rw [decide_eq_false (by omega : ¬ 1 ≤ a0)]; rfl
  rw [show ilt a0 1 = false from decide_eq_false hk1, cond_false]
  by_cases hk2 : 13 ≤ a0
  · rw [show ige a0 13 = true from decide_eq_true hk2]
    simp only [cond_true]
    rw [decide_eq_false (by omega : ¬ a0 < 13), Bool.and_false]; rfl
  rw [show ige a0 13 = false from decide_eq_false hk2, cond_false]
  cases h2 : isP a2
  · simp
  cases h3 : isP a3
  · simp
  have ha := asker_place (k := a0) h2 h3
  rw [asker_p] at hc ⊢
  simp only [Option.bind_some] at hc ⊢
  rw [iscall_p FUEL ha] at hc ⊢
  simp only [Option.bind_some] at hc ⊢
  rw [beside_p FUEL a0 a1 a2 a3 a4 a5 a6 a7 a8 a9 a10 a11 a12 a13 a14 h] at hc ⊢
  simp only [ieq_dec, ine_dec, lad5] at hc ⊢
  rw [← h0] at hc
  rw [hc]
  simp only [lad5, Option.some.injEq]
  have hl := lstB_apt a2 a9 []
  have hv := val0
  unfold holdP hasM
  simp only
  simp only [restM, noIt]
  have hp := pair0 a10 a11 a12 (decide (a13 = false))
  by_cases k4 : a0 = 4
  · subst k4; simp; grind
  by_cases k5 : a0 = 5
  · subst k5; simp; grind
  by_cases k6 : a0 = 6
  · subst k6; simp; grind
  by_cases k7 : a0 = 7
  · subst k7; simp; grind
  by_cases k10 : a0 = 10
  · subst k10; simp; grind
  by_cases k11 : a0 = 11
  · subst k11; simp; grind
  by_cases k12 : a0 = 12
  · subst k12; simp; grind
  simp [k4, k5, k6, k7, k10, k11, k12]; grind
end Go.Proofs.YtlcbbjcehaahlaaGreat
namespace Go.Proofs.YtlcbbjcehaahlaaGreat
open Go Go.RowKit
def nxt (id k : Int) : Int → List Int → Int
  | p, [] => p
  | p, q :: r => nxt id k (if decide (0 ≤ q) && (cut id k q && decide (fr id p < fr id q)) then q else p) r
def nextV (v : VW) (k : Int) (slow : Bool) : Int × Bool :=
  bif rightV v then (bif upt v.id (firstV v) k then (firstV v, true) else bif slow then (firstV v, false) else (nxt v.id k (firstV v) (v.lst ++ v.fg), false)) else (-1, false)
theorem hnext_c1 (id k : Int) (f0 f1 f2 f3 f4 f5 f6 f7 f8 f9 f10 f11 f12 f13 f14 f15 : Int) (hfg : ∀ x ∈ ([f0, f1, f2, f3, f4, f5, f6, f7, f8, f9, f10, f11, f12, f13, f14, f15] : List Int), (0 ≤ x ↔ x ≠ -1)) : ∀ (j i : Nat) (n : Nat) (p : Int), i + j = 16 → j < n →
    F85_c1 n f0 f1 f2 f3 f4 f5 f6 f7 f8 f9 f10 f11 f12 f13 f14 f15 (ofN i) p id k = some (nxt id k p (([f0, f1, f2, f3, f4, f5, f6, f7, f8, f9, f10, f11, f12, f13, f14, f15] : List Int).drop i), false)
  | _, _, 0, _, _, h => by omega
  | 0, i, n + 1, p, hk, _ => by
    have : i = 16 := by omega
    subst this
    have e : ilt (ofN 16) 16 = false := by decide
    simp only [F85_c1, e, cond_false]; rfl
  | j + 1, i, n + 1, p, hk, hn => by
    obtain ⟨e1, e2, _⟩ := lt16 (show i < 16 by omega)
    have h1 := fun p => hnext_c1 id k f0 f1 f2 f3 f4 f5 f6 f7 f8 f9 f10 f11 f12 f13 f14 f15 hfg j (i + 1) n p (by omega) (by omega)
    have hx := hfg (([f0, f1, f2, f3, f4, f5, f6, f7, f8, f9, f10, f11, f12, f13, f14, f15] : List Int).getD i 0) (by
      rw [List.getD_eq_getElem?_getD, List.getElem?_eq_getElem (by simp; omega)]
      exact List.getElem_mem _)
    simp only [F85_c1, e1, e2, cond_true, in_p, far_p, Option.bind_some, ofN_toNat, fg_ofN i (show i < 16 by omega), h1]
    rw [drop_getD (k := i) (by simp; omega), nxt, ine_dec]
    generalize ([f0, f1, f2, f3, f4, f5, f6, f7, f8, f9, f10, f11, f12, f13, f14, f15] : List Int).getD i 0 = x at *
    simp only [igt, GT.gt]
    by_cases e3 : x = -1
    · have : ¬ 0 ≤ x := by omega
      simp [e3]
    · have : 0 ≤ x := hx.2 e3
      by_cases e4 : fr id p < fr id x
      · cases cut id k x <;> simp [e3, e4, this]
      · cases cut id k x <;> simp [e3, e4, this]
theorem hnext_c0 (id k : Int) (a0 : Int) (a1 a2 : List Int) (a3 a4 a5 a6 a7 a8 a9 a10 a11 a12 a13 a14 a15 a16 a17 a18 a19 : Int) (hfg : ∀ x ∈ ([a4, a5, a6, a7, a8, a9, a10, a11, a12, a13, a14, a15, a16, a17, a18, a19] : List Int), (0 ≤ x ↔ x ≠ -1)) : ∀ (r p : List Int) (n : Nat) (q : Int), (∀ x ∈ r, 0 ≤ x) → r.length + 20 < n → (p ++ r).length < 1000 →
    F85_c0 n (p ++ r) (ofN (p ++ r).length) (ofN p.length) a0 a1 a2 a3 a4 a5 a6 a7 a8 a9 a10 a11 a12 a13 a14 a15 a16 a17 a18 a19 q id k = some (nxt id k q (r ++ [a4, a5, a6, a7, a8, a9, a10, a11, a12, a13, a14, a15, a16, a17, a18, a19]), false)
  | _, _, 0, _, _, h, _ => by omega
  | [], p, n + 1, q, _, h, _ => by
    have h0 : (0 : Int) = ofN 0 := rfl
    simp only [F85_c0, List.append_nil, lt_out, cond_false]
    simp only [List.length_nil] at h
    rw [h0, hnext_c1 id k a4 a5 a6 a7 a8 a9 a10 a11 a12 a13 a14 a15 a16 a17 a18 a19 hfg 16 0 n q rfl (by omega)]; rfl
  | x :: r, p, n + 1, q, hr, h, hb => by
    simp only [List.length_cons] at h
    have h1 := fun q => hnext_c0 id k a0 a1 a2 a3 a4 a5 a6 a7 a8 a9 a10 a11 a12 a13 a14 a15 a16 a17 a18 a19 hfg r (p ++ [x]) n q (fun y hy => hr y (by simp [hy])) (by omega) (by rw [← in_eq]; exact hb)
    rw [← in_eq] at h1
    simp only [List.length_append, List.length_cons] at hb
    simp only [F85_c0, lt_in, inb_in, get_in, cond_true, in_p, far_p, Option.bind_some]
    rw [add_in (x := x) (by omega), h1, h1, List.cons_append, nxt]
    have h0 : 0 ≤ x := hr x (by simp)
    simp only [igt, GT.gt]
    by_cases e4 : fr id q < fr id x
    · cases cut id k x <;> simp [e4, h0]
    · cases cut id k x <;> simp [e4, h0]
theorem hnext_p {n : Nat} (hn : 2000 < n) (a0 : Int) (a1 a2 : List Int) (a3 a4 a5 a6 a7 a8 a9 a10 a11 a12 a13 a14 a15 a16 a17 a18 a19 : Int) (k : Int) (s : Bool) : F85 n a0 a1 a2 a3 a4 a5 a6 a7 a8 a9 a10 a11 a12 a13 a14 a15 a16 a17 a18 a19 k s = some (nextV ⟨a0, a1, a2, a3, a4, a5, a6, a7, a8, a9, a10, a11, a12, a13, a14, a15, a16, a17, a18, a19⟩ k s) := by
  unfold F85 nextV
  have hf := fuel_big
  rw [viewR_p (show 70000 < FUEL by omega), first_v]
  simp only [Option.bind_some, upto_p, in_p, far_p]
  cases hr : rightV ⟨a0, a1, a2, a3, a4, a5, a6, a7, a8, a9, a10, a11, a12, a13, a14, a15, a16, a17, a18, a19⟩
  · rfl
  · simp only [Bool.not_true, cond_false, cond_true]
    cases upt a0 (firstV ⟨a0, a1, a2, a3, a4, a5, a6, a7, a8, a9, a10, a11, a12, a13, a14, a15, a16, a17, a18, a19⟩) k
    · simp only [cond_false]
      cases s
      · have hl : a2.length ≤ 3 := (rightV_len hr).2
        have hc := hnext_c0 a0 k a0 a1 a2 a3 a4 a5 a6 a7 a8 a9 a10 a11 a12 a13 a14 a15 a16 a17 a18 a19 (fun x hx => (fg_all hr x hx).1) a2 [] n (firstV ⟨a0, a1, a2, a3, a4, a5, a6, a7, a8, a9, a10, a11, a12, a13, a14, a15, a16, a17, a18, a19⟩) (fun x hx => (isP_iff.1 (lst_all hr x hx).1).1) (by omega) (by simp; omega)
        have e : igt (fr a0 (firstV ⟨a0, a1, a2, a3, a4, a5, a6, a7, a8, a9, a10, a11, a12, a13, a14, a15, a16, a17, a18, a19⟩)) (fr a0 (firstV ⟨a0, a1, a2, a3, a4, a5, a6, a7, a8, a9, a10, a11, a12, a13, a14, a15, a16, a17, a18, a19⟩)) = false := decide_eq_false (by omega)
        have h0 : (0 : Int) = ofN ([] : List Int).length := rfl
        simp only [List.nil_append] at hc
        rw [e, h0, hc]
        cases cut a0 k (firstV ⟨a0, a1, a2, a3, a4, a5, a6, a7, a8, a9, a10, a11, a12, a13, a14, a15, a16, a17, a18, a19⟩) <;> rfl
      · rfl
    · rfl
theorem nxt_ok {id k : Int} : ∀ (r : List Int) (p : Int), (nxt id k p r = p ∨ (nxt id k p r ∈ r ∧ 0 ≤ nxt id k p r ∧ cut id k (nxt id k p r) = true)) ∧ (∀ x ∈ r, 0 ≤ x → cut id k x = true → fr id x ≤ fr id (nxt id k p r)) ∧ fr id p ≤ fr id (nxt id k p r)
  | [], p => ⟨.inl rfl, fun x hx => by simp at hx, Int.le_refl _⟩
  | x :: r, p => by
    rw [nxt]
    split
    · rename_i hc
      simp only [Bool.and_eq_true, decide_eq_true_eq] at hc
      obtain ⟨b1, b2, b3⟩ := nxt_ok (id := id) (k := k) r x
      refine ⟨?_, fun y hy h0 h1 => ?_, by omega⟩
      · rcases b1 with b1 | b1
        · rw [b1]; exact .inr ⟨by simp, hc.1, hc.2.1⟩
        · exact .inr ⟨by simp [b1.1], b1.2⟩
      · rcases List.mem_cons.1 hy with rfl | hy
        · exact b3
        · exact b2 y hy h0 h1
    · rename_i hc
      obtain ⟨b1, b2, b3⟩ := nxt_ok (id := id) (k := k) r p
      refine ⟨b1.imp (fun h => h) fun h => ⟨by simp [h.1], h.2⟩, fun y hy h0 h1 => ?_, b3⟩
      rcases List.mem_cons.1 hy with rfl | hy
      · simp only [Bool.and_eq_true, decide_eq_true_eq, not_and] at hc
        have := hc h0 h1
        omega
      · exact b2 y hy h0 h1
theorem nextV_ok {v : VW} {k : Int} {s : Bool} (h : rightV v = true) : isP (nextV v k s).1 = true ∧ (nextV v k s).1 ≠ v.id ∧
    ((nextV v k s).2 = true → (nextV v k s).1 = firstV v ∧ upt v.id (firstV v) k = true) ∧
    ((nextV v k s).2 = false → upt v.id (firstV v) k = false ∧ fr v.id (firstV v) ≤ fr v.id (nextV v k s).1 ∧ ((nextV v k s).1 = firstV v ∨ cut v.id k (nextV v k s).1 = true) ∧ (s = true → (nextV v k s).1 = firstV v) ∧
      (s = false → ∀ x ∈ v.lst ++ v.fg, 0 ≤ x → cut v.id k x = true → fr v.id x ≤ fr v.id (nextV v k s).1)) := by
  obtain ⟨f1, f2⟩ := firstV_ok h
  unfold nextV
  rw [h, cond_true]
  cases hu : upt v.id (firstV v) k
  · rw [cond_false]
    cases s
    · rw [cond_false]
      obtain ⟨b1, b2, b3⟩ := nxt_ok (id := v.id) (k := k) (v.lst ++ v.fg) (firstV v)
      have hp : isP (nxt v.id k (firstV v) (v.lst ++ v.fg)) = true ∧ nxt v.id k (firstV v) (v.lst ++ v.fg) ≠ v.id := by
        rcases b1 with e | ⟨e1, e2, _⟩
        · rw [e]; exact ⟨f1, f2⟩
        · rcases List.mem_append.1 e1 with e1 | e1
          · exact lst_all h _ e1
          · exact (fg_all h _ e1).2 e2
      refine ⟨hp.1, hp.2, (fun e => by cases e), fun _ => ⟨rfl, b3, b1.imp (fun h => h) fun h => h.2.2, (fun e => by cases e), fun _ => b2⟩⟩
    · exact ⟨f1, f2, (fun e => by cases e), fun _ => ⟨rfl, Int.le_refl _, .inl rfl, fun _ => rfl, fun e => by cases e⟩⟩
  · exact ⟨f1, f2, fun _ => ⟨rfl, rfl⟩, fun e => by cases e⟩
end Go.Proofs.YtlcbbjcehaahlaaGreat
namespace Go.Proofs.YtlcbbjcehaahlaaGreat
open Go Go.RowKit
structure LW where
  key : Int
  at' : Int
  hops : Int
  slow : Bool
  found : Bool
  code : Int
  deriving DecidableEq
def rightL (l : LW) : Bool := isP l.key && (isP l.at' && (decide (0 ≤ l.hops) && (decide (l.hops ≤ 41) && (bif decide (40 < l.hops) then decide (l.code = 211) && !l.found else decide (l.code = 0)))))
def overL (l : LW) : Bool := l.found || !decide (l.code = 0)
theorem rightL_hops {l : LW} (h : rightL l = true) : 0 ≤ l.hops ∧ l.hops ≤ 41 := by
  unfold rightL at h
  simp only [Bool.and_eq_true, decide_eq_true_eq] at h
  exact ⟨h.2.2.1, h.2.2.2.1⟩
theorem inc_hops {h : Int} (h0 : 0 ≤ h) (h1 : h ≤ 41) : iadd .i64 h 1 = h + 1 := by simp only [iadd]; rw [wrap_mid (by omega) (by omega)]
theorem isp_look' (n : Nat) (a : Int) : F105 n a = some (isP a) := isp_of
section
variable (k a h : Int) (s f : Bool) (c : Int)
theorem right_tail : (bif ilt h 0 then some false else bif igt h 41 then some false else bif igt h 40 then (bif ieq c 211 then some (!f) else some false) else some (ieq c 0)) = some (decide (0 ≤ h) && (decide (h ≤ 41) && (bif decide (40 < h) then decide (c = 211) && !f else decide (c = 0)))) := by
  have e1 : ilt h 0 = !decide (0 ≤ h) := by unfold ilt; rw [← decide_not]; apply decide_eq_decide.2; omega
  have e2 : igt h 41 = !decide (h ≤ 41) := by unfold igt; rw [← decide_not]; apply decide_eq_decide.2; omega
  have e3 : igt h 40 = decide (40 < h) := rfl
  rw [e1, e2, e3, ieq_dec, ieq_dec]
  cases decide (0 ≤ h) <;> cases decide (h ≤ 41) <;> cases decide (40 < h) <;> cases decide (c = 211) <;> rfl
theorem lright_p (n : Nat) : F87 n k a h s f c = some (rightL ⟨k, a, h, s, f, c⟩) := by
  unfold F87 rightL
  simp only [isp_look', Option.bind_some, right_tail]
  cases isP k
  · rfl
  · cases isP a <;> rfl
theorem over_of : (bif f then some true else some (ine c 0)) = some (overL ⟨k, a, h, s, f, c⟩) := by
  rw [lad3, ine_dec]; rfl
theorem lover_p (n : Nat) : F86 n k a h s f c = some (overL ⟨k, a, h, s, f, c⟩) := over_of k a h s f c
theorem lask_p (n : Nat) : F52 n k a h s f c = some (bif rightL ⟨k, a, h, s, f, c⟩ && !overL ⟨k, a, h, s, f, c⟩ then ⟨4, 0, 0, a, k, s, false, 0, 0, ByteArray.empty, 0, 0, false, 0, true⟩ else ⟨0, 0, 0, 0, 0, false, false, 0, 0, ByteArray.empty, 0, 0, false, 0, false⟩) := by
  unfold F52
  rw [lover_p, lright_p]
  simp only [Option.bind_some]
  cases overL ⟨k, a, h, s, f, c⟩ <;> cases rightL ⟨k, a, h, s, f, c⟩ <;> rfl
end
def onV (v : VW) (l : LW) (p : Int) (o : Bool) : LW := bif decide (p = v.id) && !o then { l with at' := (nextV v l.key l.slow).1, found := (nextV v l.key l.slow).2 } else { l with at' := p, found := o }
def beginV (v : VW) (key : Int) : LW := bif rightV v then ⟨pl key, (nextV v (pl key) false).1, 0, false, (nextV v (pl key) false).2, 0⟩ else ⟨0, 0, 0, false, false, 0⟩
def cntL (v : VW) (l : LW) (m : MW) : Bool := (rightV v && (rightL l && !overL l)) && (rightM m && (decide (m.k = 10) && (decide (m.f = l.at') && decide (m.t = v.id))))
def stepL (l : LW) : LW := { l with hops := l.hops + 1 }
def toldV (v : VW) (l : LW) (m : MW) : LW := bif cntL v l m then (bif decide (40 < l.hops + 1) then { stepL l with code := 211 } else onV v (stepL l) m.p m.d) else l
def againV (v : VW) (l : LW) : LW := bif rightV v && (rightL l && !overL l) then (bif decide (40 < l.hops + 1) then { stepL l with code := 211 } else onV v { stepL l with slow := true } v.id false) else l
theorem begin_p (n : Nat) (a0 : Int) (a1 a2 : List Int) (a3 a4 a5 a6 a7 a8 a9 a10 a11 a12 a13 a14 a15 a16 a17 a18 a19 : Int) (key : Int) : F27 n a0 a1 a2 a3 a4 a5 a6 a7 a8 a9 a10 a11 a12 a13 a14 a15 a16 a17 a18 a19 key = some ⟨(beginV ⟨a0, a1, a2, a3, a4, a5, a6, a7, a8, a9, a10, a11, a12, a13, a14, a15, a16, a17, a18, a19⟩ key).key, (beginV ⟨a0, a1, a2, a3, a4, a5, a6, a7, a8, a9, a10, a11, a12, a13, a14, a15, a16, a17, a18, a19⟩ key).at', (beginV ⟨a0, a1, a2, a3, a4, a5, a6, a7, a8, a9, a10, a11, a12, a13, a14, a15, a16, a17, a18, a19⟩ key).hops, (beginV ⟨a0, a1, a2, a3, a4, a5, a6, a7, a8, a9, a10, a11, a12, a13, a14, a15, a16, a17, a18, a19⟩ key).slow, (beginV ⟨a0, a1, a2, a3, a4, a5, a6, a7, a8, a9, a10, a11, a12, a13, a14, a15, a16, a17, a18, a19⟩ key).found, (beginV ⟨a0, a1, a2, a3, a4, a5, a6, a7, a8, a9, a10, a11, a12, a13, a14, a15, a16, a17, a18, a19⟩ key).code⟩ := by
  unfold F27 beginV
  have hf := fuel_big
  rw [viewR_p (show 70000 < FUEL by omega), place_p]
  simp only [Option.bind_some]
  rw [hnext_p (show 2000 < FUEL by omega)]
  cases rightV ⟨a0, a1, a2, a3, a4, a5, a6, a7, a8, a9, a10, a11, a12, a13, a14, a15, a16, a17, a18, a19⟩ <;> rfl
theorem hopped_p (n : Nat) (k t h : Int) (s f : Bool) (c : Int) (h0 : 0 ≤ h) (h1 : h ≤ 41) : F89 n k t h s f c = some (bif decide (40 < h + 1) then ⟨k, t, h + 1, s, f, 211, false⟩ else ⟨k, t, h + 1, s, f, c, true⟩) := by
  unfold F89
  rw [inc_hops h0 h1, show igt (h + 1) 40 = decide (40 < h + 1) from rfl]
  cases decide (40 < h + 1) <;> rfl
theorem told_p {n : Nat} (hn : 0 < n) (a0 : Int) (a1 a2 : List Int) (a3 a4 a5 a6 a7 a8 a9 a10 a11 a12 a13 a14 a15 a16 a17 a18 a19 : Int) (k t h : Int) (s f : Bool) (c : Int) (m0 : Int) (m1 : Int) (m2 : Int) (m3 : Int) (m4 : Int) (m5 : Bool) (m6 : Bool) (m7 : Int) (m8 : Int) (m9 : List Int) (m10 : ByteArray) (m11 : Int) (m12 : Int) (m13 : Bool) (m14 : Int) (hm : m9.length < 1000) :
    F69 n a0 a1 a2 a3 a4 a5 a6 a7 a8 a9 a10 a11 a12 a13 a14 a15 a16 a17 a18 a19 k t h s f c m0 m1 m2 m3 m4 m5 m6 m7 m8 m9 m10 m11 m12 m13 m14 = some ⟨(toldV ⟨a0, a1, a2, a3, a4, a5, a6, a7, a8, a9, a10, a11, a12, a13, a14, a15, a16, a17, a18, a19⟩ ⟨k, t, h, s, f, c⟩ ⟨m0, m1, m2, m3, m4, m5, m6, m7, m8, m9, m10, m11, m12, m13, m14⟩).key, (toldV ⟨a0, a1, a2, a3, a4, a5, a6, a7, a8, a9, a10, a11, a12, a13, a14, a15, a16, a17, a18, a19⟩ ⟨k, t, h, s, f, c⟩ ⟨m0, m1, m2, m3, m4, m5, m6, m7, m8, m9, m10, m11, m12, m13, m14⟩).at', (toldV ⟨a0, a1, a2, a3, a4, a5, a6, a7, a8, a9, a10, a11, a12, a13, a14, a15, a16, a17, a18, a19⟩ ⟨k, t, h, s, f, c⟩ ⟨m0, m1, m2, m3, m4, m5, m6, m7, m8, m9, m10, m11, m12, m13, m14⟩).hops, (toldV ⟨a0, a1, a2, a3, a4, a5, a6, a7, a8, a9, a10, a11, a12, a13, a14, a15, a16, a17, a18, a19⟩ ⟨k, t, h, s, f, c⟩ ⟨m0, m1, m2, m3, m4, m5, m6, m7, m8, m9, m10, m11, m12, m13, m14⟩).slow, (toldV ⟨a0, a1, a2, a3, a4, a5, a6, a7, a8, a9, a10, a11, a12, a13, a14, a15, a16, a17, a18, a19⟩ ⟨k, t, h, s, f, c⟩ ⟨m0, m1, m2, m3, m4, m5, m6, m7, m8, m9, m10, m11, m12, m13, m14⟩).found, (toldV ⟨a0, a1, a2, a3, a4, a5, a6, a7, a8, a9, a10, a11, a12, a13, a14, a15, a16, a17, a18, a19⟩ ⟨k, t, h, s, f, c⟩ ⟨m0, m1, m2, m3, m4, m5, m6, m7, m8, m9, m10, m11, m12, m13, m14⟩).code⟩ := by
  have hf := fuel_big
  unfold F69 toldV cntL onV stepL
  obtain ⟨j, rfl⟩ : ∃ j, n = j + 1 := Nat.exists_eq_succ_of_ne_zero (by omega)
  rw [viewR_p (show 70000 < FUEL by omega), lright_p, lover_p, mright_p (show 2000 < FUEL by omega) m0 m1 m2 m3 m4 m5 m6 m7 m8 m9 m10 m11 m12 m13 m14 hm]
  simp only [Option.bind_some, F69_c0, ine_dec]
  cases hr : rightV ⟨a0, a1, a2, a3, a4, a5, a6, a7, a8, a9, a10, a11, a12, a13, a14, a15, a16, a17, a18, a19⟩
  · rfl
  · cases hl : rightL ⟨k, t, h, s, f, c⟩
    · rfl
    · obtain ⟨h0, h1⟩ := rightL_hops hl
      simp only at h0 h1
      rw [hopped_p FUEL k t h s f c h0 h1]
      simp only [Option.bind_some]
      cases ho : overL ⟨k, t, h, s, f, c⟩
      · by_cases e1 : m0 = 10
        · by_cases e2 : m2 = t
          · by_cases e3 : m3 = a0
            · cases hmr : rightM ⟨m0, m1, m2, m3, m4, m5, m6, m7, m8, m9, m10, m11, m12, m13, m14⟩
              · simp [e1, e2, e3]
              · subst e1; subst e2; subst e3
                simp only [decide_true, Bool.not_true, cond_false, Bool.not_false, Bool.and_self, cond_true]
                cases h4 : decide (40 < h + 1)
                · simp only [cond_false, Bool.not_true, ieq_dec]
                  rw [hnext_p (show 2000 < FUEL by omega)]
                  cases decide (m7 = m3)
                  · rfl
                  · cases m6 <;> rfl
                · rfl
            · simp [e1, e2, e3]
          · simp [e1, e2]
        · simp [e1]
      · rfl
theorem again_p {n : Nat} (hn : 0 < n) (a0 : Int) (a1 a2 : List Int) (a3 a4 a5 a6 a7 a8 a9 a10 a11 a12 a13 a14 a15 a16 a17 a18 a19 : Int) (k t h : Int) (s f : Bool) (c : Int) :
    F58 n a0 a1 a2 a3 a4 a5 a6 a7 a8 a9 a10 a11 a12 a13 a14 a15 a16 a17 a18 a19 k t h s f c = some ⟨(againV ⟨a0, a1, a2, a3, a4, a5, a6, a7, a8, a9, a10, a11, a12, a13, a14, a15, a16, a17, a18, a19⟩ ⟨k, t, h, s, f, c⟩).key, (againV ⟨a0, a1, a2, a3, a4, a5, a6, a7, a8, a9, a10, a11, a12, a13, a14, a15, a16, a17, a18, a19⟩ ⟨k, t, h, s, f, c⟩).at', (againV ⟨a0, a1, a2, a3, a4, a5, a6, a7, a8, a9, a10, a11, a12, a13, a14, a15, a16, a17, a18, a19⟩ ⟨k, t, h, s, f, c⟩).hops, (againV ⟨a0, a1, a2, a3, a4, a5, a6, a7, a8, a9, a10, a11, a12, a13, a14, a15, a16, a17, a18, a19⟩ ⟨k, t, h, s, f, c⟩).slow, (againV ⟨a0, a1, a2, a3, a4, a5, a6, a7, a8, a9, a10, a11, a12, a13, a14, a15, a16, a17, a18, a19⟩ ⟨k, t, h, s, f, c⟩).found, (againV ⟨a0, a1, a2, a3, a4, a5, a6, a7, a8, a9, a10, a11, a12, a13, a14, a15, a16, a17, a18, a19⟩ ⟨k, t, h, s, f, c⟩).code⟩ := by
  have hf := fuel_big
  unfold F58 againV stepL
  obtain ⟨j, rfl⟩ : ∃ j, n = j + 1 := Nat.exists_eq_succ_of_ne_zero (by omega)
  rw [viewR_p (show 70000 < FUEL by omega), lright_p, lover_p]
  simp only [Option.bind_some, F58_c0]
  cases hr : rightV ⟨a0, a1, a2, a3, a4, a5, a6, a7, a8, a9, a10, a11, a12, a13, a14, a15, a16, a17, a18, a19⟩
  · rfl
  · cases hl : rightL ⟨k, t, h, s, f, c⟩
    · rfl
    · obtain ⟨h0, h1⟩ := rightL_hops hl
      simp only at h0 h1
      rw [hopped_p FUEL k t h s f c h0 h1]
      simp only [Option.bind_some]
      cases ho : overL ⟨k, t, h, s, f, c⟩
      · simp only [Bool.not_true, cond_false, Bool.not_false, Bool.and_self, cond_true]
        cases h4 : decide (40 < h + 1)
        · simp only [cond_false, Bool.not_true]
          rw [hnext_p (show 2000 < FUEL by omega)]
          simp only [onV, decide_true, Bool.not_false, Bool.and_self, cond_true, Option.bind_some]
        · rfl
      · rfl
end Go.Proofs.YtlcbbjcehaahlaaGreat
namespace Go.Proofs.YtlcbbjcehaahlaaGreat
open Go Go.RowKit
theorem pigeon : ∀ (N : Nat) (p : List Int), p.Nodup → (∀ x ∈ p, 0 ≤ x ∧ x < N) → p.length ≤ N
  | 0, p, _, h => by
    cases p with
    | nil => simp
    | cons x r => have := h x (by simp); omega
  | N + 1, p, hn, h => by
    have h1 := pigeon N (p.filter fun x => decide (x ≠ (N : Int))) (hn.filter _) (fun x hx => by
      obtain ⟨h2, h3⟩ := List.mem_filter.1 hx
      have := h x h2
      have : x ≠ (N : Int) := by simpa using h3
      omega)
    have h2 : p.length ≤ (p.filter fun x => decide (x ≠ (N : Int))).length + 1 := by
      clear h h1
      induction p with
      | nil => simp
      | cons x r ih =>
        rw [List.nodup_cons] at hn
        rw [List.filter_cons]
        by_cases hx : x = (N : Int)
        · have : (r.filter fun x => decide (x ≠ (N : Int))) = r := List.filter_eq_self.2 fun y hy => by
            have : y ≠ (N : Int) := fun e => hn.1 (by rw [hx, ← e]; exact hy)
            simpa using this
          rw [this]
          simp [hx]
        · have := ih hn.2
          simp [hx] at this ⊢
          omega
    omega
theorem list_l1 (f x : Int) (L : List Int) (p s : List Int) (hL : L = p ++ x :: s) (hb : p.length < 70000) :
    ∀ (r q : List Int) (n : Nat), p = q ++ r → r.length < n → F74_c1 n L f (ofN p.length) (ofN q.length) = if x ∈ r then some false else F74_c0 (n - r.length - 1) L f (ofN (p ++ [x]).length)
  | _, _, 0, _, h => by omega
  | [], q, n + 1, hp, h => by
    rw [List.append_nil] at hp
    subst hp
    simp only [F74_c1, lt_out, cond_false]
    rw [add_in (x := x) (by omega)]
    simp
  | y :: r, q, n + 1, hp, h => by
    simp only [List.length_cons] at h
    have h1 := list_l1 f x L p s hL hb r (q ++ [y]) n (by rw [hp, in_eq]) (by omega)
    have e1 : ilt (ofN q.length) (ofN p.length) = true := by rw [hp]; exact lt_in
    have e2 : L = q ++ y :: (r ++ x :: s) := by rw [hL, hp]; simp
    have e3 : inb (ofN q.length) L.length = true := by rw [e2]; exact inb_in
    have e4 : inb (ofN p.length) L.length = true := by rw [hL]; exact inb_in
    have e5 : L.getD (ofN q.length).toNat 0 = y := by rw [e2]; exact get_in
    have e6 : L.getD (ofN p.length).toNat 0 = x := by rw [hL]; exact get_in
    have hq : q.length < 70000 := by rw [hp] at hb; simp at hb; omega
    simp only [F74_c1, e1, e3, e4, e5, e6, cond_true]
    rw [add_in (x := y) (by omega), h1, ieq_dec]
    by_cases hy : x = y
    · simp [hy]
    · have : y ≠ x := fun e => hy e.symm
      simp [hy, this]
theorem list_lc (f : Int) (r : List Int) : ∀ (p : List Int) (n k : Nat), p.Nodup → (∀ x ∈ p, isP x = true) → k + p.length = 65537 → k * 70000 + 1 < n → (p ++ r).length ≤ 9223372036854775807 → F74_c0 n (p ++ r) f (ofN p.length) = some (lstB f p r && decide ((p ++ r).length ≤ 3)) := by
  induction r with
  | nil =>
    intro p n k _ _ _ h _
    obtain ⟨n, rfl⟩ : ∃ m, n = m + 1 := ⟨n - 1, by omega⟩
    simp only [F74_c0, List.append_nil, lt_out, cond_false, lstB, Bool.true_and]
    congr 1
    unfold ile ofN; apply decide_eq_decide.2; omega
  | cons x r ihr =>
    intro p n k hn hp hk h hb
    obtain ⟨n, rfl⟩ : ∃ m, n = m + 1 := ⟨n - 1, by omega⟩
    have hpl : p.length ≤ 65536 := pigeon 65536 p hn fun y hy => by have := isP_iff.1 (hp y hy); omega
    obtain ⟨k, rfl⟩ : ∃ m, k = m + 1 := ⟨k - 1, by omega⟩
    rw [Nat.add_mul, Nat.one_mul] at h
    have hfu : k * 70000 + 1 < n - p.length - 1 := by
      generalize k * 70000 = z at h ⊢
      omega
    have hfp : p.length < n := by
      generalize k * 70000 = z at h
      omega
    simp only [F74_c0, lt_in, inb_in, get_in, cond_true, isp_ref06, Option.bind_some]
    have h0 : (0 : Int) = ofN ([] : List Int).length := rfl
    rw [h0, list_l1 f x (p ++ x :: r) p r rfl (by omega) p [] n rfl hfp, ieq_dec, lstB, decide_not]
    cases hx : isP x
    · rfl
    · by_cases hf : x = f
      · rw [decide_eq_true hf]; rfl
      · rw [decide_eq_false hf]
        by_cases hxp : x ∈ p
        · rw [if_pos hxp, decide_eq_true hxp]; rfl
        · have ih := ihr (p ++ [x]) (n - p.length - 1) k (by
            rw [List.nodup_append]
            exact ⟨hn, by simp, fun a ha b hb e => hxp (by rw [← List.mem_singleton.1 hb, ← e]; exact ha)⟩) (fun y hy => by
            rcases List.mem_append.1 hy with hy | hy
            · exact hp y hy
            · rw [List.mem_singleton.1 hy]; exact hx) (by rw [List.length_append, List.length_singleton]; omega) hfu (by rw [← in_eq]; exact hb)
          rw [← in_eq] at ih
          rw [if_neg hxp, ih, decide_eq_false hxp]; rfl
theorem list_rl0 (n k : Nat) (hk : k = 65537) (hn : k * 70000 + 1 < n) (l : List Int) (f : Int) (h : l.length ≤ 9223372036854775807) : F74 n l f = some (lstB f [] l && decide (l.length ≤ 3)) :=
  list_lc f l [] n k List.nodup_nil (fun x hx => by cases hx) hk hn h
theorem list_rl {n : Nat} (hn : 5000000000 < n) (l : List Int) (f : Int) (h : l.length ≤ 9223372036854775807) : F74 n l f = some (lstB f [] l && decide (l.length ≤ 3)) :=
  list_rl0 n (65536 + 1) rfl (by omega) l f h
theorem msame_r0 {n : Nat} {a0 : Int} {a1 : Int} {a2 : Int} {a3 : Int} {a4 : Int} {a5 : Bool} {a6 : Bool} {a7 : Int} {a8 : Int} {a9 : List Int} {a10 : ByteArray} {a11 : Int} {a12 : Int} {a13 : Bool} {a14 : Int} {b0 b1 b2 b3 b4 : Int} {b5 b6 : Bool} {b7 b8 : Int} {b10 : ByteArray} {b11 b12 : Int} {b13 : Bool} {b14 : Int} (hn : 0 < n) : F34 n a0 a1 a2 a3 a4 a5 a6 a7 a8 a9 a10 a11 a12 a13 a14 b0 b1 b2 b3 b4 b5 b6 b7 b8 [] b10 b11 b12 b13 b14 = some (sameM ⟨a0, a1, a2, a3, a4, a5, a6, a7, a8, a9, a10, a11, a12, a13, a14⟩ ⟨b0, b1, b2, b3, b4, b5, b6, b7, b8, [], b10, b11, b12, b13, b14⟩) := by
  cases a9 with
  | nil => exact msame_r (by simpa using hn) (by simp)
  | cons x r =>
    unfold F34 sameM
    have e : ine (ofN (x :: r).length) (ofN ([] : List Int).length) = true := by simp [ine, ofN]; omega
    rw [e, cond_true]
    simp
theorem has_rl (n : Nat) (a0 : Int) (a1 : Int) (a2 : Int) (a3 : Int) (a4 : Int) (a5 : Bool) (a6 : Bool) (a7 : Int) (a8 : Int) (a9 : List Int) (a10 : ByteArray) (a11 : Int) (a12 : Int) (a13 : Bool) (a14 : Int) (h : a9.length ≤ 9223372036854775807) : F36 n a0 a1 a2 a3 a4 a5 a6 a7 a8 a9 a10 a11 a12 a13 a14 = some (hasM ⟨a0, a1, a2, a3, a4, a5, a6, a7, a8, a9, a10, a11, a12, a13, a14⟩) := by
  have hf : 5000000000 < FUEL := by unfold FUEL; omega
  unfold F36 hasM noIt
  rw [pair_r, list_rl hf a9 a2 h]
  simp only [isp_ref06, Option.bind_some, ieq_dec, steq_dec, beqb_dec, Bool.and_true, lad5, decide_true, Bool.true_and]
  congr 1
  have hp := pair0 a10 a11 a12 (decide (a13 = false))
  grind
theorem bare_rl (n : Nat) (a0 : Int) (a1 : Int) (a2 : Int) (a3 : Int) (a4 : Int) (a5 : Bool) (a6 : Bool) (a7 : Int) (a8 : Int) (a9 : List Int) (a10 : ByteArray) (a11 : Int) (a12 : Int) (a13 : Bool) (a14 : Int) (h : a9.length ≤ 9223372036854775807) : (Option.bind (F35 n a0 a1 a2 a3 a4 a5 a6 a7 a8 a10 a11 a12 a13 a14) fun y =>
    bif y.q0 then (Option.bind (F34 FUEL y.q1 y.q2 y.q3 y.q4 y.q5 y.q6 y.q7 y.q8 y.q9 a9 y.q10 y.q11 y.q12 y.q13 y.q14 a0 a1 a2 a3 0 false false 0 0 [] ByteArray.empty 0 0 false 0) fun z => bif z then (Option.bind (F36 FUEL a0 a1 a2 a3 a4 a5 a6 a7 a8 a9 a10 a11 a12 a13 a14) fun u => some u) else some false)
    else (Option.bind (F34 FUEL y.q1 y.q2 y.q3 y.q4 y.q5 y.q6 y.q7 y.q8 y.q9 [] y.q10 y.q11 y.q12 y.q13 y.q14 a0 a1 a2 a3 0 false false 0 0 [] ByteArray.empty 0 0 false 0) fun z => bif z then (Option.bind (F36 FUEL a0 a1 a2 a3 a4 a5 a6 a7 a8 a9 a10 a11 a12 a13 a14) fun u => some u) else some false))
    = some (restM ⟨a0, a1, a2, a3, a4, a5, a6, a7, a8, a9, a10, a11, a12, a13, a14⟩ && hasM ⟨a0, a1, a2, a3, a4, a5, a6, a7, a8, a9, a10, a11, a12, a13, a14⟩) := by
  have hf := fuel_big
  rw [has_rl FUEL a0 a1 a2 a3 a4 a5 a6 a7 a8 a9 a10 a11 a12 a13 a14 h]
  unfold F35
  generalize hasM ⟨a0, a1, a2, a3, a4, a5, a6, a7, a8, a9, a10, a11, a12, a13, a14⟩ = hm
  simp only [ieq_dec]
  by_cases k4 : a0 = 4
  · subst k4
    simp only [decide_true, cond_true, Option.bind_some]
    rw [msame_r0 (by omega)]
    simp only [Option.bind_some, Option.some.injEq, lad1, sameM, restM, noIt]
    grind
  by_cases k5 : a0 = 5
  · subst k5
    simp only [decide_true, cond_true, cond_false, decide_false, Option.bind_some, k4]
    rw [msame_r0 (by omega)]
    simp only [Option.bind_some, Option.some.injEq, lad1, sameM, restM, noIt]
    grind
  by_cases k6 : a0 = 6
  · subst k6
    simp only [decide_true, cond_true, cond_false, decide_false, Option.bind_some, k4, k5]
    rw [msame_r0 (by omega)]
    simp only [Option.bind_some, Option.some.injEq, lad1, sameM, restM, noIt]
    grind
  by_cases k7 : a0 = 7
  · subst k7
    simp only [decide_true, cond_true, cond_false, decide_false, Option.bind_some, k4, k5, k6]
    rw [msame_r (by simp; omega) (by simp)]
    simp only [Option.bind_some, Option.some.injEq, lad1, sameM, restM, noIt]
    grind
  by_cases k10 : a0 = 10
  · subst k10
    simp only [decide_true, cond_true, cond_false, decide_false, Option.bind_some, k4, k5, k6, k7]
    rw [msame_r0 (by omega)]
    simp only [Option.bind_some, Option.some.injEq, lad1, sameM, restM, noIt]
    grind
  by_cases k11 : a0 = 11
  · subst k11
    simp only [decide_true, cond_true, cond_false, decide_false, Option.bind_some, k4, k5, k6, k7, k10]
    rw [msame_r0 (by omega)]
    simp only [Option.bind_some, Option.some.injEq, lad1, sameM, restM, noIt]
    grind
  by_cases k12 : a0 = 12
  · subst k12
    simp only [decide_true, cond_true, cond_false, decide_false, Option.bind_some, k4, k5, k6, k7, k10, k11]
    rw [msame_r0 (by omega)]
    simp only [Option.bind_some, Option.some.injEq, lad1, sameM, restM, noIt]
    grind
  simp only [cond_true, cond_false, decide_false, Option.bind_some, k4, k5, k6, k7, k10, k11, k12]
  rw [msame_r0 (by omega)]
  simp only [Option.bind_some, Option.some.injEq, lad1, sameM, restM, noIt]
  grind
theorem mright_rl (n : Nat) (a0 : Int) (a1 : Int) (a2 : Int) (a3 : Int) (a4 : Int) (a5 : Bool) (a6 : Bool) (a7 : Int) (a8 : Int) (a9 : List Int) (a10 : ByteArray) (a11 : Int) (a12 : Int) (a13 : Bool) (a14 : Int) (h : a9.length ≤ 9223372036854775807) : F16 n a0 a1 a2 a3 a4 a5 a6 a7 a8 a9 a10 a11 a12 a13 a14 = some (rightM ⟨a0, a1, a2, a3, a4, a5, a6, a7, a8, a9, a10, a11, a12, a13, a14⟩) := by
  unfold F16
  simp only [isp_ref06, Option.bind_some]
  unfold rightM
  by_cases hk1 : a0 < 1
  · rw [show ilt a0 1 = true from decide_eq_true hk1]
    simp only [cond_true]
    rw [decide_eq_false (by omega : ¬ 1 ≤ a0)]; rfl
  rw [show ilt a0 1 = false from decide_eq_false hk1, cond_false]
  by_cases hk2 : 13 ≤ a0
  · rw [show ige a0 13 = true from decide_eq_true hk2]
    simp only [cond_true]
    rw [decide_eq_false (by omega : ¬ a0 < 13), Bool.and_false]; rfl
  rw [show ige a0 13 = false from decide_eq_false hk2, cond_false, decide_eq_true (by omega : 1 ≤ a0), decide_eq_true (by omega : a0 < 13)]
  cases h2 : isP a2
  · simp
  cases h3 : isP a3
  · simp
  rw [asker_r, bare_rl FUEL a0 a1 a2 a3 a4 a5 a6 a7 a8 a9 a10 a11 a12 a13 a14 h]
  simp only [Option.bind_some]
  rw [iscall_r (asker_place h2 h3)]
  simp only [ieq_dec, lad2, Bool.not_true, cond_false, Bool.true_and]
end Go.Proofs.YtlcbbjcehaahlaaGreat
