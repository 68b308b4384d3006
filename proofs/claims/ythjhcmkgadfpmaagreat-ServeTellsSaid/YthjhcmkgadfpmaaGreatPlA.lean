/-
  What the functions compute, in plain words.
-/
import Derived.Test.YthjhcmkgadfpmaaGreatEvY
import Derived.ProofKit
namespace Go.Proofs.YthjhcmkgadfpmaaGreat
open Go Go.RowKit
theorem jn : 100000 < FUEL := by unfold FUEL; omega
theorem ju (a b : Int) : ieq a b = decide (a = b) := by
 unfold ieq
 by_cases h : a = b
 ·rw [decide_eq_true h]; exact beq_iff_eq.2 h
 ·rw [decide_eq_false h]; exact beq_eq_false_iff_ne.2 h
theorem ut (a b : Int) : ine a b = !decide (a = b) := by
 unfold ine bne
 exact congrArg Bool.not (ju a b)
def pl (a : Int) : Int := a % 65536
def fr (a b : Int) : Int := (b - a) % 65536
def isP (a : Int) : Bool := decide (0 ≤ a) && decide (a < 65536)
def cut (w y x : Int) : Bool := decide (0 < fr w x) && (decide (fr w y = 0) || decide (fr w x < fr w y))
theorem qg {n : Int} (h1 : -9223372036854775808 ≤ n) (h2 : n < 9223372036854775808) : IntKind.i64.wrap n = n := by
 rw [IntKind.wrap_i64]; omega
theorem low16 (a : Int) : bits .and .i64 a 65535 = a % 65536 := by
 have h1 : (BitVec.ofInt 64 a &&& BitVec.ofInt 64 65535).toNat = (BitVec.ofInt 64 a).toNat % 65536 := by
  have e : (BitVec.ofInt 64 65535).toNat = 2 ^ 16 - 1 := by decide
  rw [BitVec.toNat_and, e, Nat.and_two_pow_sub_one_eq_mod]
 have h2 : (BitVec.ofInt 64 a).toNat = (a % 18446744073709551616).toNat := by rw [BitVec.toNat_ofInt]; rfl
 have h3 : bits .and .i64 a 65535 = IntKind.i64.wrap ((BitVec.ofInt 64 a &&& BitVec.ofInt 64 65535).toNat : Int) := rfl
 rw [h3, h1, h2, qg (by omega) (by omega)]
 omega
theorem waf (a : Int) : 0 ≤ pl a ∧ pl a < 65536 := by unfold pl; omega
theorem fr_bd (a b : Int) : 0 ≤ fr a b ∧ fr a b < 65536 := by unfold fr; omega
theorem fr_pl (a b : Int) : fr (pl a) b = fr a b := by unfold fr pl; omega
theorem jgg (a : Int) : fr a (pl a) = 0 := by unfold fr pl; omega
theorem wae (a b : Int) : pl a = pl b ↔ fr a b = 0 := by unfold pl fr; omega
theorem qt {a : Int} : isP a = true ↔ 0 ≤ a ∧ a < 65536 := by unfold isP; simp
theorem jvt {a : Int} (h : isP a = true) : pl a = a ∧ 0 ≤ a ∧ a < 65536 := by
 have := qt.1 h; unfold pl; omega
theorem jnh (n : Nat) (a : Int) : F164 n a = some (pl a) := by unfold F164 pl; rw [low16]
theorem jdw (n : Nat) (a : Int) : F155 n a = some (pl a) := by
 unfold F155 pl
 have e1 : inz 65536 = true := by decide
 rw [e1]
 simp only [cond_true, Option.some.injEq, irem, iadd]
 have h1 := Int.tmod_lt_of_pos a (b := 65536) (by decide)
 have h2 := Int.lt_tmod_of_pos a (b := 65536) (by decide)
 rw [qg (by omega) (by omega), Int.tmod_eq_emod_of_nonneg (by omega)]
 have h3 : a.tmod 65536 = a % 65536 - ↑(if 0 ≤ a ∨ (65536 : Int) ∣ a then 0 else Int.natAbs 65536) := Int.tmod_eq_emod
 rw [h3]
 split <;> simp <;> omega
theorem jsk (n : Nat) (a b : Int) : F167 n a b = some (fr a b) := by
 unfold F167
 simp only [jnh, Option.bind_some, isub]
 have := waf a; have := waf b
 rw [qg (by omega) (by omega)]
 unfold pl fr; simp only [Option.some.injEq]; omega
theorem wbd (n : Nat) (a b : Int) : F105 n a b = some (fr a b) := by
 unfold F105
 simp only [jdw, Option.bind_some, isub]
 have := waf a; have := waf b
 rw [qg (by omega) (by omega)]
 unfold pl fr; simp only [Option.some.injEq]; omega
theorem in_p (n : Nat) (w x y : Int) : F183 n w x y = some (cut w y x) := by
 unfold F183 cut
 simp only [jsk, Option.bind_some, ieq, igt, ilt, GT.gt]
 by_cases h : fr w y = 0
 ·have h1 : (fr w y == 0) = true := beq_iff_eq.2 h
  rw [h1, cond_true, decide_eq_true h, Bool.true_or, Bool.and_true]
 ·have h1 : (fr w y == 0) = false := beq_eq_false_iff_ne.2 h
  rw [h1, cond_false, decide_eq_false h, Bool.false_or]
  by_cases h2 : 0 < fr w x
  ·rw [decide_eq_true h2]; rfl
  ·rw [decide_eq_false h2]; rfl
theorem in_r (n : Nat) (w x y : Int) : F104 n w x y = some (cut w y x) := by
 unfold F104 cut
 simp only [wbd, jdw, Option.bind_some, ieq, igt, ilt, ine, GT.gt]
 have h0 := fr_bd w x
 by_cases h : fr w y = 0
 ·have h1 : (pl w == pl y) = true := beq_iff_eq.2 ((wae w y).2 h)
  rw [h1, cond_true, h]
  simp only [decide_true, Bool.true_or, Bool.and_true, Option.some.injEq]
  by_cases h2 : 0 < fr w x
  ·rw [decide_eq_true h2, bne_iff_ne]
   intro h3; have := (wae w x).1 h3.symm; omega
  ·have := (wae w x).2 (by omega)
   rw [decide_eq_false h2, this, bne_self_eq_false]
 ·have h1 : (pl w == pl y) = false := beq_eq_false_iff_ne.2 fun h3 => h ((wae w y).1 h3)
  rw [h1, cond_false]
  by_cases h2 : 0 < fr w x <;> simp [h, h2]
def upt (w y x : Int) : Bool := cut w y x || decide (pl x = pl y)
theorem upto_p (n : Nat) (w x y : Int) : F186 n w x y = some (upt w y x) := by
 unfold F186 upt
 simp only [in_p, jnh, Option.bind_some, ieq]
 by_cases h : pl x = pl y
 ·simp [h]
 ·have e : (pl x == pl y) = false := beq_eq_false_iff_ne.2 h
  rw [e, decide_eq_false h]; cases cut w y x <;> rfl
theorem upto_r (n : Nat) (w x y : Int) : F103 n w x y = some (upt w y x) := by
 unfold F103 upt
 simp only [in_r, jdw, Option.bind_some, ieq]
 by_cases h : pl x = pl y
 ·simp [h]
 ·have e : (pl x == pl y) = false := beq_eq_false_iff_ne.2 h
  rw [e, decide_eq_false h]; cases cut w y x <;> rfl
theorem jdc {a : Int} : (bif ige a 0 then some (ilt a 65536) else some false) = some (isP a) := by
 unfold isP ige ilt
 by_cases h : 0 ≤ a <;> simp [h]
theorem waw (n : Nat) (a : Int) : F166 n a = some (isP a) := jdc
theorem jvq (n : Nat) (a : Int) : F175 n a = some (isP a) := jdc
theorem jju (n : Nat) (a : Int) : F128 n a = some (isP a) := jdc
theorem jgd (n : Nat) (a : Int) : F137 n a = some (isP a) := jdc
theorem wav (n : Nat) (a : Int) : F182 n a = some (isP a) := jdc
theorem jns (n : Nat) (a : Int) : F143 n a = some (isP a) := jdc
theorem zw (n : Nat) (a : Int) : F92 n a = some (isP a) := jdc
section
variable {α : Type} {p r : List α} {x : α}
theorem qr : ilt (ofN p.length) (ofN (p ++ x :: r).length) = true := decide_eq_true (by simp only [ofN, List.length_append, List.length_cons]; omega)
theorem jy : ilt (ofN p.length) (ofN p.length) = false := by simp [ilt, ofN]
theorem jq : inb (ofN p.length) (p ++ x :: r).length = true := by simp [inb, ofN]; omega
theorem juw : nlt (ofN p.length).toNat (p ++ x :: r).length = true := by simp [nlt, ofN]
theorem jr {d : α} : (p ++ x :: r).getD (ofN p.length).toNat d = x := by simp [ofN]
theorem qa (h : p.length < 9223372036854775807) : iadd .i64 (ofN p.length) 1 = ofN (p ++ [x]).length := by
 simp only [iadd, ofN]; rw [qg (by omega) (by omega)]; simp
theorem qb : p ++ x :: r = (p ++ [x]) ++ r := by simp
theorem sub_one {n : Nat} (h : n < 9223372036854775807) : isub .i64 (ofN n) 1 = (n : Int) - 1 := by
 simp only [isub, ofN]; rw [qg (by omega) (by omega)]
theorem jho {q : List α} {v : α} (h : q.length < 9223372036854775806) : isub .i64 (ofN (q ++ [v]).length) 1 = ofN q.length := by
 rw [sub_one (by simp; omega)]; simp [ofN]
theorem qh {n b : Nat} (h : n < 1000) (hb : b ≤ 1000) : room n b = true := by
 unfold room
 have : n * b ≤ 1000 * 1000 := Nat.mul_le_mul (by omega) hb
 simp; omega
end
theorem ints_c : ∀ (r s p q : List Int) (n : Nat), r.length < n → p.length = q.length → r.length = s.length → (p ++ r).length ≤ 9223372036854775807 → jel n (p ++ r) (q ++ s) (ofN p.length) = some (decide (r = s))
 | _, _, _, _, 0, h, _, _, _ => by omega
 | [], [], p, q, n + 1, _, _, _, _ => by simp only [jel, List.append_nil, jy, cond_false]; rfl
 | x :: r, y :: s, p, q, n + 1, h, hp, hs, hb => by
  have e1 : inb (ofN p.length) (q ++ y :: s).length = true := by rw [hp]; exact jq
  have e2 : ∀ d, (q ++ y :: s).getD (ofN p.length).toNat d = y := fun d => by rw [hp]; exact jr
  simp only [jel, qr, jq, jr, cond_true, e1, e2]
  simp only [List.length_append, List.length_cons] at h hb hs
  rw [qa (x := x) (by omega)]
  have h1 := ints_c r s (p ++ [x]) (q ++ [y]) n (by omega) (by simp [hp]) (by omega) (by simp; omega)
  rw [← qb, ← qb] at h1
  rw [h1]
  by_cases hxy : x = y
  ·subst hxy; simp [ine]
  ·have : ine x y = true := by simpa [ine] using hxy
   rw [this]; simp [hxy]
theorem ints_r {n : Nat} (l m : List Int) (hn : l.length < n) (h : l.length ≤ 9223372036854775807) : F125 n l m = some (decide (l = m)) := by
 unfold F125
 by_cases hl : l.length = m.length
 ·have e : ine (ofN l.length) (ofN m.length) = false := by simp [ine, ofN, hl]
  rw [e, cond_false]
  simpa [ofN] using ints_c l m [] [] n (by omega) rfl hl (by simpa using h)
 ·have e : ine (ofN l.length) (ofN m.length) = true := by simp [ine, ofN]; omega
  rw [e, cond_true, decide_eq_false (fun hh => hl (by rw [hh]))]
def fst1 : List Int → Int × Bool
 | [] => (0, false)
 | x :: _ => (x, true)
theorem first_p {n : Nat} (hn : 0 < n) (l : List Int) : F196 n l = some (fst1 l) := by
 unfold F196
 obtain ⟨m, rfl⟩ : ∃ m, n = m + 1 := Nat.exists_eq_succ_of_ne_zero (by omega)
 cases l with
 | nil => rfl
 | cons x r =>
  have e1 : ilt 0 (ofN (x :: r).length) = true := by simp [ilt, ofN]
  have e2 : inb 0 (x :: r).length = true := by simp [inb]
  simp only [jpf, e1, e2]; rfl
theorem jwq (n : Nat) (a b c : Int) : F176 n a b c = some (decide (fr a b < fr a c)) := by
 unfold F176
 simp only [wbd, Option.bind_some, igt]
def rgt (w : Int) : Int → List Int → Bool
 | _, [] => true
 | d, x :: r => isP x && (decide (d < fr w x) && rgt w (fr w x) r)
theorem rgt_pl (w : Int) : ∀ (r : List Int) (d : Int), rgt (pl w) d r = rgt w d r
 | [], _ => rfl
 | x :: r, d => by simp only [rgt, fr_pl, rgt_pl w r]
def good (a : Int) (l : List Int) : Bool := rgt a 0 l && decide (l.length ≤ 3)
theorem wba {a : Int} {l : List Int} (h : good a l = true) : l.length ≤ 3 := by
 unfold good at h; simp at h; exact h.2
theorem jpz : ∀ (r p : List Int) (n : Nat) (w v : Int) (b : Bool), r.length < n → (p ++ r).length < 1000 → jej n v (p ++ r) (ofN (p ++ r).length) (ofN p.length) w b = some (rgt w (fr w v) r)
 | _, _, 0, _, _, _, h, _ => by omega
 | [], p, n + 1, w, v, b, _, _ => by simp only [jej, List.append_nil, jy, cond_false]; rfl
 | x :: r, p, n + 1, w, v, b, h, hb => by
  simp only [jej, qr, jq, jr, cond_true, waw, jsk, Option.bind_some]
  simp only [List.length_append, List.length_cons] at h hb
  rw [qa (x := x) (by omega)]
  have h1 := jpz r (p ++ [x]) n w x b (by omega) (by simp; omega)
  rw [← qb] at h1
  rw [h1, rgt]
  cases isP x
  ·rfl
  ·simp only [Bool.not_true, cond_false, Bool.true_and, ile]
   by_cases hd : fr w x ≤ fr w v
   ·rw [decide_eq_true hd, decide_eq_false (by omega : ¬ fr w v < fr w x)]; rfl
   ·rw [decide_eq_false hd, decide_eq_true (by omega : fr w v < fr w x)]; rfl
theorem right_p {n : Nat} (hn : 2000 < n) (a : Int) (l : List Int) : F130 n a l = some (good a l) := by
 unfold F130 good
 rw [jnh, Option.bind_some]
 by_cases hl : l.length ≤ 3
 ·have e : igt (ofN l.length) 3 = false := decide_eq_false (by simp only [ofN, List.length_append, List.length_cons, List.length_nil]; omega)
  rw [e, cond_false, decide_eq_true hl, Bool.and_true]
  have := jpz l [] n (pl a) (pl a) false (by omega) (by simp; omega)
  rw [rgt_pl, fr_pl, jgg] at this
  simpa [ofN] using this
 ·have e : igt (ofN l.length) 3 = true := decide_eq_true (by simp only [ofN, List.length_append, List.length_cons, List.length_nil]; omega)
  rw [e, cond_true, decide_eq_false hl, Bool.and_false]
theorem jpy : ∀ (r p : List Int) (n : Nat) (a : Int), 65536 - fr a (p.getLastD (pl a)) < n → (p ++ r).length ≤ 9223372036854775807 → jbj n a (p ++ r) (ofN p.length) = some (rgt a (fr a (p.getLastD (pl a))) r && decide ((p ++ r).length ≤ 3))
 | _, p, 0, a, h, _ => by have := fr_bd a (p.getLastD (pl a)); omega
 | [], p, n + 1, a, _, _ => by
  simp only [jbj, List.append_nil, jy, cond_false, rgt, Bool.true_and]
  congr 1
  apply decide_eq_decide.2
  simp only [ofN]
  omega
 | x :: r, p, n + 1, a, h, hb => by
  simp only [jbj, qr, jq, jr, cond_true, jvq, jdw, jwq, Option.bind_some]
  simp only [List.length_append, List.length_cons] at hb
  rw [qa (x := x) (by omega)]
  have e5 : (p ++ [x]).getLastD (pl a) = x := by simp
  have step : fr a (p.getLastD (pl a)) < fr a x → jbj n a (p ++ x :: r) (ofN (p ++ [x]).length) = some (rgt a (fr a x) r && decide ((p ++ x :: r).length ≤ 3)) := by
   intro hlt
   have h1 := jpy r (p ++ [x]) n a (by rw [e5]; omega) (by simp; omega)
   rw [← qb, e5] at h1
   exact h1
  rw [rgt]
  cases hx : isP x
  ·rfl
  ·simp only [Bool.not_true, cond_false, Bool.true_and]
   by_cases hp : x = pl a
   ·have e : ieq x (pl a) = true := by simp [ieq, hp]
    rw [e, cond_true, hp, jgg]
    have := fr_bd a (p.getLastD (pl a))
    rw [decide_eq_false (by omega : ¬ fr a (p.getLastD (pl a)) < 0)]; rfl
   ·have e : ieq x (pl a) = false := by simp [ieq, hp]
    rw [e, cond_false]
    rcases List.eq_nil_or_concat p with rfl | ⟨q, v, hqv⟩
    ·have e2 : igt (ofN ([] : List Int).length) 0 = false := rfl
     rw [e2, cond_false]
     have e3 : fr a (([] : List Int).getLastD (pl a)) = 0 := jgg a
     have e4 : 0 < fr a x := by
      obtain ⟨h2, h3, h4⟩ := jvt hx
      unfold fr pl at *; omega
     rw [step (by rw [e3]; exact e4), e3, decide_eq_true e4, Bool.true_and]
    ·rw [List.concat_eq_append] at hqv
     subst hqv
     have e2 : igt (ofN (q ++ [v]).length) 0 = true := by simp [igt, ofN]
     have e3 : isub .i64 (ofN (q ++ [v]).length) 1 = ofN q.length := jho (by simp at hb; omega)
     rw [e2, cond_true, e3]
     have e4 : (q ++ [v]) ++ x :: r = q ++ v :: (x :: r) := by simp
     have e6 : (q ++ [v]).getLastD (pl a) = v := by simp
     rw [e6] at step ⊢
     by_cases hd : fr a v < fr a x
     ·rw [step hd]
      rw [e4]
      simp only [jq, jr, cond_true]
      rw [decide_eq_true hd]; rfl
     ·rw [e4]
      simp only [jq, jr, cond_true]
      rw [decide_eq_false hd]; rfl
theorem right_r {n : Nat} (hn : 70000 < n) (a : Int) (l : List Int) (h : l.length ≤ 9223372036854775807) : F138 n a l = some (good a l) := by
 unfold F138 good
 have := jpy l [] n a (by rw [show fr a (([] : List Int).getLastD (pl a)) = 0 from jgg a]; omega) (by simpa using h)
 rw [show fr a (([] : List Int).getLastD (pl a)) = 0 from jgg a] at this
 simpa [ofN] using this
end Go.Proofs.YthjhcmkgadfpmaaGreat
namespace Go.Proofs.YthjhcmkgadfpmaaGreat
open Go Go.RowKit
structure MW where
 k : Int
 c : Int
 f : Int
 t : Int
 key : Int
 s : Bool
 d : Bool
 p : Int
 pr : Int
 l : List Int
 ik : ByteArray
 iv : Int
 ir : Int
 ig : Bool
 cd : Int
 deriving DecidableEq
theorem lad1 (b y : Bool) : (bif b then some y else some false) = some (b && y) := by cases b <;> rfl
theorem lad2 (b y : Bool) : (bif b then some false else some y) = some (!b && y) := by cases b <;> rfl
theorem wb (a b : Bool) : beqb a b = decide (a = b) := by cases a <;> cases b <;> rfl
theorem uk (a b : ByteArray) : steq a b = decide (a = b) := by
 unfold steq
 by_cases h : a = b
 ·rw [decide_eq_true h]; exact beq_iff_eq.2 (by rw [h])
 ·rw [decide_eq_false h]
  refine beq_eq_false_iff_ne.2 fun e => h ?_
  rw [ByteArray.toList_eq, ByteArray.toList_eq] at e
  exact WideShapes.bytes_inj e
def jge (k : ByteArray) : Bool := decide (1 ≤ k.size) && decide (k.size ≤ 20)
def jia (n : Int) : Bool := decide (0 ≤ n) && decide (n ≤ 1048576)
def jdx (k : ByteArray) (v r : Int) : Bool := jge k && (jia v && jia r)
theorem stl1 (k : ByteArray) : ige (jav k) 1 = decide (1 ≤ k.size) := by unfold ige jav; apply decide_eq_decide.2; omega
theorem stl2 (k : ByteArray) : ile (jav k) 20 = decide (k.size ≤ 20) := by unfold ile jav; apply decide_eq_decide.2; omega
theorem jvu (n : Nat) (k : ByteArray) : F172 n k = some (jge k) := by
 unfold F172 jge; rw [stl1, stl2, lad1]
theorem jvs (n : Nat) (v : Int) : F173 n v = some (jia v) := by
 unfold F173 jia; rw [lad1]; rfl
theorem jur (n : Nat) (k : ByteArray) (v r : Int) (g : Bool) : F134 n k v r g = some (jdx k v r) := by
 unfold F134 jdx
 simp only [jvu, jvs, Option.bind_some, lad1]
theorem jqi (n : Nat) (k : ByteArray) (v r : Int) (g : Bool) : F29 n k v r g = some (jdx k v r) := by
 unfold F29 jdx jge jia
 rw [stl1, stl2]
 simp only [ige, ile, lad1, Bool.and_assoc, ge_iff_le]
def jso (a n : Int) : Int × Int := if isP a && (decide (1 ≤ n) && decide (n ≤ 1048576)) then (a * 1048576 + n, 0) else (0, 2)
theorem wbq {a n : Int} (ha : isP a = true) (h1 : 1 ≤ n) (h2 : n ≤ 1048576) : iadd .i64 (imul .i64 a 1048576) n = a * 1048576 + n := by
 have := qt.1 ha
 have e : IntKind.i64.wrap (a * 1048576) = a * 1048576 := qg (by omega) (by omega)
 simp only [iadd, imul]
 rw [e, qg (by omega) (by omega)]
theorem call_p {n : Nat} (hn : 0 < n) (a b : Int) : F169 n a b = some (jso a b) := by
 unfold F169 jso
 obtain ⟨m, rfl⟩ : ∃ m, n = m + 1 := Nat.exists_eq_succ_of_ne_zero (by omega)
 simp only [jns, Option.bind_some, jhh]
 cases ha : isP a
 ·rfl
 ·by_cases h1 : b < 1
  ·rw [show ilt b 1 = true from decide_eq_true h1, decide_eq_false (by omega : ¬ 1 ≤ b)]; rfl
  ·rw [show ilt b 1 = false from decide_eq_false h1, decide_eq_true (by omega : 1 ≤ b)]
   by_cases h2 : b ≤ 1048576
   ·rw [show igt b 1048576 = false from decide_eq_false (by omega), decide_eq_true h2, wbq ha (by omega) h2]; rfl
   ·rw [show igt b 1048576 = true from decide_eq_true (by omega), decide_eq_false h2]; rfl
def askB (k : Int) : Bool := decide (1 ≤ k) && decide (k ≤ 6)
def jes (k f t : Int) : Int := if askB k then f else t
theorem jyu (k : Int) : (bif ige k 1 then some (ile k 6) else some false) = some (askB k) := by rw [lad1]; rfl
theorem zt (n : Nat) (a0 : Int) (a1 : Int) (a2 : Int) (a3 : Int) (a4 : Int) (a5 : Bool) (a6 : Bool) (a7 : Int) (a8 : Int) (a9 : List Int) (a10 : ByteArray) (a11 : Int) (a12 : Int) (a13 : Bool) (a14 : Int) : F71 n a0 a1 a2 a3 a4 a5 a6 a7 a8 a9 a10 a11 a12 a13 a14 = some (askB a0) := jyu a0
theorem jbb (n : Nat) (a0 : Int) (a1 : Int) (a2 : Int) (a3 : Int) (a4 : Int) (a5 : Bool) (a6 : Bool) (a7 : Int) (a8 : Int) (a9 : List Int) (a10 : ByteArray) (a11 : Int) (a12 : Int) (a13 : Bool) (a14 : Int) : F22 n a0 a1 a2 a3 a4 a5 a6 a7 a8 a9 a10 a11 a12 a13 a14 = some (askB a0) := jyu a0
theorem jmn (k f t : Int) : (bif askB k then some f else some t) = some (jes k f t) := by unfold jes; cases askB k <;> rfl
theorem asker_p (n : Nat) (a0 : Int) (a1 : Int) (a2 : Int) (a3 : Int) (a4 : Int) (a5 : Bool) (a6 : Bool) (a7 : Int) (a8 : Int) (a9 : List Int) (a10 : ByteArray) (a11 : Int) (a12 : Int) (a13 : Bool) (a14 : Int) : F145 n a0 a1 a2 a3 a4 a5 a6 a7 a8 a9 a10 a11 a12 a13 a14 = some (jes a0 a2 a3) := by
 unfold F145; rw [zt, Option.bind_some, jmn]
theorem jyt (n : Nat) (a0 : Int) (a1 : Int) (a2 : Int) (a3 : Int) (a4 : Int) (a5 : Bool) (a6 : Bool) (a7 : Int) (a8 : Int) (a9 : List Int) (a10 : ByteArray) (a11 : Int) (a12 : Int) (a13 : Bool) (a14 : Int) : F93 n a0 a1 a2 a3 a4 a5 a6 a7 a8 a9 a10 a11 a12 a13 a14 = some (jes a0 a2 a3) := by
 unfold F93; rw [jbb, Option.bind_some, jmn]
theorem jck {k f t : Int} (hf : isP f = true) (ht : isP t = true) : isP (jes k f t) = true := by unfold jes; split <;> assumption
def jmh (a c : Int) : Bool := decide (a * 1048576 < c) && decide (c ≤ a * 1048576 + 1048576)
theorem wax (n : Nat) {a : Int} (ha : isP a = true) (c : Int) : F144 n a c = some (jmh a c) := by
 have := qt.1 ha
 unfold F144 jmh
 have e1 : imul .i64 a 1048576 = a * 1048576 := by simp only [imul]; rw [qg (by omega) (by omega)]
 have e2 : imul .i64 (iadd .i64 a 1) 1048576 = a * 1048576 + 1048576 := by
  have e : IntKind.i64.wrap (a + 1) = a + 1 := qg (by omega) (by omega)
  simp only [imul, iadd]; rw [e, qg (by omega) (by omega)]; omega
 rw [e1, e2, lad1]; rfl
theorem jqx {a : Int} (ha : isP a = true) (c : Int) (Y : Bool) : (bif ilt c (iadd .i64 (imul .i64 a 1048576) 1) then some false else bif ige c (iadd .i64 (iadd .i64 (imul .i64 a 1048576) 1) 1048576) then some false else some Y) = some (jmh a c && Y) := by
 have := qt.1 ha
 have e1 : iadd .i64 (imul .i64 a 1048576) 1 = a * 1048576 + 1 := by
  have e : IntKind.i64.wrap (a * 1048576) = a * 1048576 := qg (by omega) (by omega)
  simp only [imul, iadd]; rw [e, qg (by omega) (by omega)]
 have e2 : iadd .i64 (a * 1048576 + 1) 1048576 = a * 1048576 + 1048577 := by
  simp only [iadd]; rw [qg (by omega) (by omega)]; omega
 rw [e1, e2, lad2, lad2, ← Bool.and_assoc]
 congr 2
 unfold jmh ilt ige
 rw [← decide_not, ← decide_not]
 congr 1
 ·apply decide_eq_decide.2; omega
 ·apply decide_eq_decide.2; omega
theorem jws : ∀ (r s p q : List Int) (n : Nat), r.length < n → p.length = q.length → r.length = s.length → (p ++ r).length ≤ 9223372036854775807 → jei n (p ++ r) (q ++ s) (ofN (p ++ r).length) (ofN p.length) = some (decide (r = s))
 | _, _, _, _, 0, h, _, _, _ => by omega
 | [], [], p, q, n + 1, _, _, _, _ => by simp only [jei, List.append_nil, jy, cond_false]; rfl
 | x :: r, y :: s, p, q, n + 1, h, hp, hs, hb => by
  have e1 : inb (ofN p.length) (q ++ y :: s).length = true := by rw [hp]; exact jq
  have e2 : ∀ d, (q ++ y :: s).getD (ofN p.length).toNat d = y := fun d => by rw [hp]; exact jr
  simp only [jei, qr, jq, jr, cond_true, e1, e2]
  simp only [List.length_append, List.length_cons] at h hb hs
  rw [qa (x := x) (by omega)]
  have h1 := jws r s (p ++ [x]) (q ++ [y]) n (by omega) (by simp [hp]) (by omega) (by simp; omega)
  rw [← qb, ← qb] at h1
  rw [h1, ut]
  by_cases hxy : x = y
  ·subst hxy; simp
  ·simp [hxy]
theorem jjx {n : Nat} (l m : List Int) (hn : l.length < n) (h : l.length ≤ 9223372036854775807) : F148 n l m = some (decide (l = m)) := by
 unfold F148
 by_cases hl : l.length = m.length
 ·have e : ine (ofN l.length) (ofN m.length) = false := by simp [ine, ofN, hl]
  rw [e, cond_false]
  simpa [ofN] using jws l m [] [] n (by omega) rfl hl (by simpa using h)
 ·have e : ine (ofN l.length) (ofN m.length) = true := by simp [ine, ofN]; omega
  rw [e, cond_true, decide_eq_false (fun hh => hl (by rw [hh]))]
def ud (a b : MW) : Bool := decide (a.l = b.l) && (decide (a.k = b.k) && (decide (a.c = b.c) && (decide (a.f = b.f) && (decide (a.t = b.t) && (decide (a.key = b.key) && (decide (a.s = b.s) && (decide (a.d = b.d) && (decide (a.p = b.p) && (decide (a.pr = b.pr) && ((decide (a.ik = b.ik) && (decide (a.iv = b.iv) && (decide (a.ir = b.ir) && decide (a.ig = b.ig)))) && decide (a.cd = b.cd)))))))))))
theorem jks (a b : MW) : ud a b = true ↔ a = b := by
 cases a; cases b
 simp only [ud, Bool.and_eq_true, decide_eq_true_eq, MW.mk.injEq]
 grind
theorem jhr (a : MW) : ud a a = true := (jks a a).2 rfl
theorem zh {n : Nat} {a0 : Int} {a1 : Int} {a2 : Int} {a3 : Int} {a4 : Int} {a5 : Bool} {a6 : Bool} {a7 : Int} {a8 : Int} {a9 : List Int} {a10 : ByteArray} {a11 : Int} {a12 : Int} {a13 : Bool} {a14 : Int} {b0 : Int} {b1 : Int} {b2 : Int} {b3 : Int} {b4 : Int} {b5 : Bool} {b6 : Bool} {b7 : Int} {b8 : Int} {b9 : List Int} {b10 : ByteArray} {b11 : Int} {b12 : Int} {b13 : Bool} {b14 : Int} (h : a9.length < 100000) : F146 n a0 a1 a2 a3 a4 a5 a6 a7 a8 a9 a10 a11 a12 a13 a14 b0 b1 b2 b3 b4 b5 b6 b7 b8 b9 b10 b11 b12 b13 b14 = some (ud ⟨a0, a1, a2, a3, a4, a5, a6, a7, a8, a9, a10, a11, a12, a13, a14⟩ ⟨b0, b1, b2, b3, b4, b5, b6, b7, b8, b9, b10, b11, b12, b13, b14⟩) := by
 have hf := jn
 unfold F146 ud
 rw [jjx a9 b9 (by omega) (by omega)]
 simp only [Option.bind_some, lad1, ju, wb, uk, Bool.and_true]
 congr 1
 grind
theorem jql (a0 : Int) (a1 : Int) (a2 : Int) (a3 : Int) (a4 : Int) (a5 : Bool) (a6 : Bool) (a7 : Int) (a8 : Int) (a9 : List Int) (a10 : ByteArray) (a11 : Int) (a12 : Int) (a13 : Bool) (a14 : Int) (b0 : Int) (b1 : Int) (b2 : Int) (b3 : Int) (b4 : Int) (b5 : Bool) (b6 : Bool) (b7 : Int) (b8 : Int) (b9 : List Int) (b10 : ByteArray) (b11 : Int) (b12 : Int) (b13 : Bool) (b14 : Int) : ∀ (r s p q : List Int) (n : Nat), a9 = p ++ r → b9 = q ++ s → r.length < n → p.length = q.length → r.length = s.length → (p ++ r).length ≤ 9223372036854775807 →
  jiz n (ofN p.length) a0 a1 a2 a3 a4 a5 a6 a7 a8 a9 a10 a11 a12 a13 a14 b0 b1 b2 b3 b4 b5 b6 b7 b8 b9 b10 b11 b12 b13 b14 = some (decide (r = s) && (decide (a0 = b0) && (decide (a1 = b1) && (decide (a2 = b2) && (decide (a3 = b3) && (decide (a4 = b4) && (decide (a5 = b5) && (decide (a6 = b6) && (decide (a7 = b7) && (decide (a8 = b8) && ((decide (a10 = b10) && (decide (a11 = b11) && (decide (a12 = b12) && decide (a13 = b13)))) && decide (a14 = b14))))))))))))
 | _, _, _, _, 0, _, _, h, _, _, _ => by omega
 | [], [], p, q, n + 1, ha, hb, _, _, _, _ => by
  rw [List.append_nil] at ha
  subst ha
  simp only [jiz, jy, cond_false, lad1, ju, wb, uk, Bool.and_true]
  simp only [decide_true, Bool.true_and]
 | x :: r, y :: s, p, q, n + 1, ha, hb', h, hp, hs, hb => by
  have e1 : inb (ofN p.length) (q ++ y :: s).length = true := by rw [hp]; exact jq
  have e2 : ∀ d, (q ++ y :: s).getD (ofN p.length).toNat d = y := fun d => by rw [hp]; exact jr
  simp only [List.length_append, List.length_cons] at h hb hs
  have h1 := jql a0 a1 a2 a3 a4 a5 a6 a7 a8 a9 a10 a11 a12 a13 a14 b0 b1 b2 b3 b4 b5 b6 b7 b8 b9 b10 b11 b12 b13 b14 r s (p ++ [x]) (q ++ [y]) n (by rw [ha, qb]) (by rw [hb', qb]) (by omega) (by simp [hp]) (by omega) (by simp; omega)
  simp only [jiz]
  rw [show ilt (ofN p.length) (ofN a9.length) = true by rw [ha]; exact qr, show inb (ofN p.length) a9.length = true by rw [ha]; exact jq, show inb (ofN p.length) b9.length = true by rw [hb']; exact e1, show a9.getD (ofN p.length).toNat 0 = x by rw [ha]; exact jr, show b9.getD (ofN p.length).toNat 0 = y by rw [hb']; exact e2 0]
  rw [qa (x := x) (by omega), h1, ut]
  by_cases hxy : x = y
  ·subst hxy; simp
  ·simp [hxy]
theorem vy {n : Nat} {a0 : Int} {a1 : Int} {a2 : Int} {a3 : Int} {a4 : Int} {a5 : Bool} {a6 : Bool} {a7 : Int} {a8 : Int} {a9 : List Int} {a10 : ByteArray} {a11 : Int} {a12 : Int} {a13 : Bool} {a14 : Int} {b0 : Int} {b1 : Int} {b2 : Int} {b3 : Int} {b4 : Int} {b5 : Bool} {b6 : Bool} {b7 : Int} {b8 : Int} {b9 : List Int} {b10 : ByteArray} {b11 : Int} {b12 : Int} {b13 : Bool} {b14 : Int} (h : a9.length < n) (hl : a9.length ≤ 9223372036854775807) : F14 n a0 a1 a2 a3 a4 a5 a6 a7 a8 a9 a10 a11 a12 a13 a14 b0 b1 b2 b3 b4 b5 b6 b7 b8 b9 b10 b11 b12 b13 b14 = some (ud ⟨a0, a1, a2, a3, a4, a5, a6, a7, a8, a9, a10, a11, a12, a13, a14⟩ ⟨b0, b1, b2, b3, b4, b5, b6, b7, b8, b9, b10, b11, b12, b13, b14⟩) := by
 unfold F14 ud
 by_cases hl' : a9.length = b9.length
 ·have e : ine (ofN a9.length) (ofN b9.length) = false := by simp [ine, ofN, hl']
  rw [e, cond_false]
  simpa [ofN] using jql a0 a1 a2 a3 a4 a5 a6 a7 a8 a9 a10 a11 a12 a13 a14 b0 b1 b2 b3 b4 b5 b6 b7 b8 b9 b10 b11 b12 b13 b14 a9 b9 [] [] n rfl rfl h rfl hl' (by simpa using hl)
 ·have e : ine (ofN a9.length) (ofN b9.length) = true := by simp [ine, ofN]; omega
  rw [e, cond_true]
  simp only
  rw [decide_eq_false (fun hh => hl' (by rw [hh])), Bool.false_and]
def lstB (f : Int) : List Int → List Int → Bool
 | _, [] => true
 | p, x :: r => isP x && (decide (x ≠ f) && (!decide (x ∈ p) && lstB f (p ++ [x]) r))
def aptB (f : Int) : List Int → List Int → Bool
 | _, [] => true
 | p, x :: r => decide (x ≠ f) && (!decide (x ∈ p) && aptB f (p ++ [x]) r)
theorem jqq (f : Int) : ∀ (r p : List Int), lstB f p r = (r.all isP && aptB f p r)
 | [], _ => rfl
 | x :: r, p => by
  rw [lstB, aptB, jqq f r (p ++ [x]), List.all_cons]
  grind
theorem jqn : ∀ (r p : List Int) (n : Nat) (v : Int), r.length < n → (p ++ r).length ≤ 9223372036854775807 → ∃ k, jcm n (p ++ r) v (ofN (p ++ r).length) (ofN p.length) = some k ∧ ige k 0 = decide (v ∈ r)
 | _, _, 0, _, h, _ => by omega
 | [], p, n + 1, v, _, _ => ⟨-1, by simp only [jcm, List.append_nil, jy, cond_false], by simp [ige]⟩
 | x :: r, p, n + 1, v, h, hb => by
  simp only [jcm, qr, jq, jr, cond_true]
  simp only [List.length_append, List.length_cons] at h hb
  rw [qa (x := x) (by omega)]
  by_cases hx : v = x
  ·refine ⟨ofN p.length, by simp [ieq, hx], ?_⟩
   simp [ige, ofN, hx]
  ·obtain ⟨k, h1, h2⟩ := jqn r (p ++ [x]) n v (by omega) (by simp; omega)
   rw [← qb] at h1
   have e : ieq v x = false := by simp [ieq, hx]
   exact ⟨k, by rw [e, cond_false]; exact h1, by rw [h2]; simp [hx]⟩
theorem jnm {n : Nat} (l : List Int) (v : Int) (h : l.length < 1000) : F193 n l v = some (decide (v ∈ l)) := by
 unfold F193 F204
 have hf := jn
 obtain ⟨k, h1, h2⟩ := jqn l [] FUEL v (by omega) (by simp; omega)
 have h1' : jcm FUEL l v (ofN l.length) 0 = some k := by simpa [ofN] using h1
 rw [h1', Option.bind_some, h2]
theorem take_in {α : Type} {p r : List α} : List.drop 0 (List.take (ofN p.length).toNat (p ++ r)) = p := by simp [ofN]
theorem jyw (f : Int) : ∀ (r p : List Int) (n : Nat), r.length < n → (p ++ r).length < 1000 → jeh n f (p ++ r) (p ++ r) (ofN (p ++ r).length) (ofN p.length) = some (aptB f p r)
 | _, _, 0, h, _ => by omega
 | [], p, n + 1, _, _ => by simp only [jeh, List.append_nil, jy, cond_false]; rfl
 | x :: r, p, n + 1, h, hb => by
  have e3 : (inn (ofN p.length) && inbs 0 (ofN p.length).toNat (p ++ x :: r).length) = true := by simp [inn, inbs, ofN]
  simp only [jeh, qr, jq, jr, cond_true, e3, take_in]
  simp only [List.length_append, List.length_cons] at h hb
  have h1 := jyw f r (p ++ [x]) n (by omega) (by simp; omega)
  rw [← qb] at h1
  rw [jnm p x (by omega), Option.bind_some, qa (x := x) (by omega), h1, ju, lad2, lad2, aptB, decide_not]
theorem apart_p {n : Nat} (hn : 2000 < n) (f : Int) (l : List Int) (h : l.length < 1000) : F177 n f l = some (aptB f [] l) := by
 unfold F177
 simpa [ofN] using jyw f l [] n (by omega) (by simpa using h)
theorem jvj (f x : Int) (L : List Int) (p s : List Int) (hL : L = p ++ x :: s) (hb : L.length < 1000) (R : Option Bool) (n0 : Nat) (hR : ∀ n, n0 < n → wy n L f (ofN (p ++ [x]).length) = R) :
  ∀ (r q : List Int) (n : Nat), p = q ++ r → n0 + r.length + 1 < n → jaj n L f (ofN p.length) (ofN q.length) = bif decide (x ∈ r) then some false else R
 | _, _, 0, _, h => by omega
 | [], q, n + 1, hp, h => by
  rw [List.append_nil] at hp
  subst hp
  simp only [List.length_nil] at h
  have hlen : p.length < 1000 := by rw [hL] at hb; simp at hb; omega
  simp only [jaj, jy, cond_false]
  rw [qa (x := x) (by omega), hR n (by omega)]
  simp
 | y :: r, q, n + 1, hp, h => by
  have hlen : p.length < 1000 := by rw [hL] at hb; simp at hb; omega
  simp only [List.length_cons] at h
  have h1 := jvj f x L p s hL hb R n0 hR r (q ++ [y]) n (by rw [hp, qb]) (by omega)
  have e1 : ilt (ofN q.length) (ofN p.length) = true := by rw [hp]; exact qr
  have e2 : L = q ++ y :: (r ++ x :: s) := by rw [hL, hp]; simp
  have e3 : inb (ofN q.length) L.length = true := by rw [e2]; exact jq
  have e4 : inb (ofN p.length) L.length = true := by rw [hL]; exact jq
  have e5 : L.getD (ofN q.length).toNat 0 = y := by rw [e2]; exact jr
  have e6 : L.getD (ofN p.length).toNat 0 = x := by rw [hL]; exact jr
  have hq : q.length < 1000 := by rw [hp] at hlen; simp at hlen; omega
  simp only [jaj, e1, e3, e4, e5, e6, cond_true]
  rw [qa (x := y) (by omega), h1, ju]
  by_cases hy : x = y
  ·simp [hy]
  ·have : y ≠ x := fun e => hy e.symm
   simp [hy, this]
theorem jvi (f : Int) : ∀ (r p : List Int) (n : Nat), (p ++ r).length * (p ++ r).length + r.length * 2000 + 1 < n → (p ++ r).length < 1000 → wy n (p ++ r) f (ofN p.length) = some (lstB f p r && decide ((p ++ r).length ≤ 3))
 | _, _, 0, h, _ => by omega
 | [], p, n + 1, _, _ => by
  simp only [wy, List.append_nil, jy, cond_false, lstB, Bool.true_and]
  congr 1
  unfold ile ofN; apply decide_eq_decide.2; omega
 | x :: r, p, n + 1, h, hb => by
  simp only [List.length_cons] at h
  have hb' := hb
  simp only [List.length_append, List.length_cons] at hb'
  simp only [wy, qr, jq, jr, cond_true, zw, Option.bind_some]
  have h0 : (0 : Int) = ofN ([] : List Int).length := rfl
  rw [h0, jvj f x (p ++ x :: r) p r rfl hb (some (lstB f (p ++ [x]) r && decide ((p ++ x :: r).length ≤ 3))) ((p ++ x :: r).length * (p ++ x :: r).length + r.length * 2000 + 1) (fun m hm => by
   have := jvi f r (p ++ [x]) m (by rw [← qb]; exact hm) (by rw [← qb]; exact hb)
   rw [← qb] at this
   exact this) p [] n rfl (by omega), ju, lstB, decide_not]
  cases isP x <;> cases decide (x = f) <;> cases decide (x ∈ p) <;> rfl
theorem list_r {n : Nat} (hn : 4000000 < n) (l : List Int) (f : Int) (h : l.length < 1000) : F153 n l f = some (lstB f [] l && decide (l.length ≤ 3)) := by
 unfold F153
 have := jvi f l [] n (by
  have : l.length * l.length ≤ 1000 * 1000 := Nat.mul_le_mul (by omega) (by omega)
  simp; omega) (by simpa using h)
 simpa [ofN] using this
end Go.Proofs.YthjhcmkgadfpmaaGreat
namespace Go.Proofs.YthjhcmkgadfpmaaGreat
open Go Go.RowKit
theorem lad5 (b x y : Bool) : (bif b then some x else some y) = some (bif b then x else y) := by cases b <;> rfl
def noIt (m : MW) : Bool := decide (m.ik = ByteArray.empty) && (decide (m.iv = 0) && (decide (m.ir = 0) && decide (m.ig = false)))
def vi (m : MW) : Bool :=
 (decide (m.k = 4) || (decide (m.key = 0) && decide (m.s = false))) && ((decide (m.k = 10) || (decide (m.p = 0) && decide (m.d = false))) && ((decide (m.k = 7) || (decide (m.pr = 0) && decide (m.l = []))) &&
  ((decide (m.k = 5) || (decide (m.k = 6) || (decide (m.k = 12) || noIt m))) && (decide (m.k = 11) || (decide (m.k = 12) || decide (m.cd = 0))))))
def hasM (m : MW) : Bool :=
 bif decide (m.k = 4) then isP m.key else bif decide (m.k = 5) then jdx m.ik m.iv m.ir else bif decide (m.k = 6) then jge m.ik && (decide (m.iv = 0) && (decide (m.ir = 0) && decide (m.ig = false)))
 else bif decide (m.k = 7) then (decide (m.pr = -1) || isP m.pr) && (lstB m.f [] m.l && decide (m.l.length ≤ 3)) else bif decide (m.k = 10) then isP m.p else bif decide (m.k = 11) then decide (m.cd = 0) || decide (m.cd = 200)
 else bif decide (m.k = 12) then (decide (m.cd = 0) && jdx m.ik m.iv m.ir) || (decide (m.cd = 201) && noIt m) else true
def qx (m : MW) : Bool := (decide (1 ≤ m.k) && decide (m.k < 13)) && (isP m.f && (isP m.t && (!decide (m.f = m.t) && (jmh (jes m.k m.f m.t) m.c && (vi m && hasM m)))))
def holdP (m : MW) : Bool :=
 bif decide (m.k = 5) then jdx m.ik m.iv m.ir else bif decide (m.k = 6) then jge m.ik else bif decide (m.k = 7) then decide (m.l.length ≤ 3) && aptB m.f [] m.l else bif decide (m.k = 11) then decide (m.cd = 0) || decide (m.cd = 200)
 else bif decide (m.k = 12) then (decide (m.cd = 0) && jdx m.ik m.iv m.ir) || (decide (m.cd = 201) && noIt m) else true
theorem len3 (l : List Int) : ile (ofN l.length) 3 = decide (l.length ≤ 3) := by unfold ile ofN; apply decide_eq_decide.2; omega
theorem holds_p (n : Nat) (a0 : Int) (a1 : Int) (a2 : Int) (a3 : Int) (a4 : Int) (a5 : Bool) (a6 : Bool) (a7 : Int) (a8 : Int) (a9 : List Int) (a10 : ByteArray) (a11 : Int) (a12 : Int) (a13 : Bool) (a14 : Int) (h : a9.length < 1000) : F141 n a0 a1 a2 a3 a4 a5 a6 a7 a8 a9 a10 a11 a12 a13 a14 = some (holdP ⟨a0, a1, a2, a3, a4, a5, a6, a7, a8, a9, a10, a11, a12, a13, a14⟩) := by
 have hf := jn
 unfold F141 holdP noIt
 rw [jur, jvu, apart_p (by omega) a2 a9 h]
 simp only [Option.bind_some, ju, uk, wb, Bool.and_true, len3, lad5]
 congr 1
 grind
theorem wbu (n : Nat) (a0 : Int) (a1 : Int) (a2 : Int) (a3 : Int) (a4 : Int) (a5 : Bool) (a6 : Bool) (a7 : Int) (a8 : Int) (a9 : List Int) (a10 : ByteArray) (a11 : Int) (a12 : Int) (a13 : Bool) (a14 : Int) (h : a9.length < 1000) : (Option.bind (F147 n a0 a1 a2 a3 a4 a5 a6 a7 a8 a10 a11 a12 a13 a14) fun y =>
  bif y.q0 then (Option.bind (F146 FUEL y.q1 y.q2 y.q3 y.q4 y.q5 y.q6 y.q7 y.q8 y.q9 a9 y.q10 y.q11 y.q12 y.q13 y.q14 0 0 0 0 0 false false 0 0 [] ByteArray.empty 0 0 false 0) fun z => some z)
  else (Option.bind (F146 FUEL y.q1 y.q2 y.q3 y.q4 y.q5 y.q6 y.q7 y.q8 y.q9 [] y.q10 y.q11 y.q12 y.q13 y.q14 0 0 0 0 0 false false 0 0 [] ByteArray.empty 0 0 false 0) fun z => some z))
  = some (vi ⟨a0, a1, a2, a3, a4, a5, a6, a7, a8, a9, a10, a11, a12, a13, a14⟩ && (!decide (a0 = 6) || (decide (a11 = 0) && (decide (a12 = 0) && decide (a13 = false))))) := by
 unfold F147
 simp only [ju]
 by_cases k4 : a0 = 4
 ·subst k4
  simp only [decide_true, cond_true, Option.bind_some]
  rw [zh (by omega)]
  simp only [Option.bind_some, Option.some.injEq, ud, vi, noIt]
  grind
 by_cases k5 : a0 = 5
 ·subst k5
  simp only [decide_true, cond_true, cond_false, decide_false, Option.bind_some, k4]
  rw [zh (by omega)]
  simp only [Option.bind_some, Option.some.injEq, ud, vi, noIt]
  grind
 by_cases k6 : a0 = 6
 ·subst k6
  simp only [decide_true, cond_true, cond_false, decide_false, Option.bind_some, k4, k5]
  rw [zh (by omega)]
  simp only [Option.bind_some, Option.some.injEq, ud, vi, noIt]
  grind
 by_cases k7 : a0 = 7
 ·subst k7
  simp only [decide_true, cond_true, cond_false, decide_false, Option.bind_some, k4, k5, k6]
  rw [zh (by simp)]
  simp only [Option.bind_some, Option.some.injEq, ud, vi, noIt]
  grind
 by_cases k10 : a0 = 10
 ·subst k10
  simp only [decide_true, cond_true, cond_false, decide_false, Option.bind_some, k4, k5, k6, k7]
  rw [zh (by omega)]
  simp only [Option.bind_some, Option.some.injEq, ud, vi, noIt]
  grind
 by_cases k11 : a0 = 11
 ·subst k11
  simp only [decide_true, cond_true, cond_false, decide_false, Option.bind_some, k4, k5, k6, k7, k10]
  rw [zh (by omega)]
  simp only [Option.bind_some, Option.some.injEq, ud, vi, noIt]
  grind
 by_cases k12 : a0 = 12
 ·subst k12
  simp only [decide_true, cond_true, cond_false, decide_false, Option.bind_some, k4, k5, k6, k7, k10, k11]
  rw [zh (by omega)]
  simp only [Option.bind_some, Option.some.injEq, ud, vi, noIt]
  grind
 simp only [cond_true, cond_false, decide_false, Option.bind_some, k4, k5, k6, k7, k10, k11, k12]
 rw [zh (by omega)]
 simp only [Option.bind_some, Option.some.injEq, ud, vi, noIt]
 grind
theorem val0 : jia 0 = true := by decide
theorem pair0 (k : ByteArray) (v r : Int) (g : Bool) : (jdx k v r && (decide (v = 0) && (decide (r = 0) && g))) = (jge k && (decide (v = 0) && (decide (r = 0) && g))) := by
 unfold jdx
 have := val0
 by_cases hv : v = 0
 ·by_cases hr : r = 0
  ·subst hv; subst hr; simp [this]
  ·simp [hr]
 ·simp [hv]
theorem has_r (n : Nat) (a0 : Int) (a1 : Int) (a2 : Int) (a3 : Int) (a4 : Int) (a5 : Bool) (a6 : Bool) (a7 : Int) (a8 : Int) (a9 : List Int) (a10 : ByteArray) (a11 : Int) (a12 : Int) (a13 : Bool) (a14 : Int) (h : a9.length < 1000) : F95 n a0 a1 a2 a3 a4 a5 a6 a7 a8 a9 a10 a11 a12 a13 a14 = some (hasM ⟨a0, a1, a2, a3, a4, a5, a6, a7, a8, a9, a10, a11, a12, a13, a14⟩) := by
 have hf : 4000000 < FUEL := by unfold FUEL; omega
 unfold F95 hasM noIt
 rw [jqi, list_r hf a9 a2 h]
 simp only [zw, Option.bind_some, ju, uk, wb, Bool.and_true, lad5, decide_true, Bool.true_and]
 congr 1
 have hp := pair0 a10 a11 a12 (decide (a13 = false))
 grind
theorem bare_r (n : Nat) (a0 : Int) (a1 : Int) (a2 : Int) (a3 : Int) (a4 : Int) (a5 : Bool) (a6 : Bool) (a7 : Int) (a8 : Int) (a9 : List Int) (a10 : ByteArray) (a11 : Int) (a12 : Int) (a13 : Bool) (a14 : Int) (h : a9.length < 1000) : (Option.bind (F94 n a0 a1 a2 a3 a4 a5 a6 a7 a8 a10 a11 a12 a13 a14) fun y =>
  bif y.q0 then (Option.bind (F14 FUEL y.q1 y.q2 y.q3 y.q4 y.q5 y.q6 y.q7 y.q8 y.q9 a9 y.q10 y.q11 y.q12 y.q13 y.q14 a0 a1 a2 a3 0 false false 0 0 [] ByteArray.empty 0 0 false 0) fun z => bif z then (Option.bind (F95 FUEL a0 a1 a2 a3 a4 a5 a6 a7 a8 a9 a10 a11 a12 a13 a14) fun u => some u) else some false)
  else (Option.bind (F14 FUEL y.q1 y.q2 y.q3 y.q4 y.q5 y.q6 y.q7 y.q8 y.q9 [] y.q10 y.q11 y.q12 y.q13 y.q14 a0 a1 a2 a3 0 false false 0 0 [] ByteArray.empty 0 0 false 0) fun z => bif z then (Option.bind (F95 FUEL a0 a1 a2 a3 a4 a5 a6 a7 a8 a9 a10 a11 a12 a13 a14) fun u => some u) else some false))
  = some (vi ⟨a0, a1, a2, a3, a4, a5, a6, a7, a8, a9, a10, a11, a12, a13, a14⟩ && hasM ⟨a0, a1, a2, a3, a4, a5, a6, a7, a8, a9, a10, a11, a12, a13, a14⟩) := by
 have hf := jn
 rw [has_r FUEL a0 a1 a2 a3 a4 a5 a6 a7 a8 a9 a10 a11 a12 a13 a14 h]
 unfold F94
 generalize hasM ⟨a0, a1, a2, a3, a4, a5, a6, a7, a8, a9, a10, a11, a12, a13, a14⟩ = hm
 simp only [ju]
 by_cases k4 : a0 = 4
 ·subst k4
  simp only [decide_true, cond_true, Option.bind_some]
  rw [vy (by omega) (by omega)]
  simp only [Option.bind_some, Option.some.injEq, lad1, ud, vi, noIt]
  grind
 by_cases k5 : a0 = 5
 ·subst k5
  simp only [decide_true, cond_true, cond_false, decide_false, Option.bind_some, k4]
  rw [vy (by omega) (by omega)]
  simp only [Option.bind_some, Option.some.injEq, lad1, ud, vi, noIt]
  grind
 by_cases k6 : a0 = 6
 ·subst k6
  simp only [decide_true, cond_true, cond_false, decide_false, Option.bind_some, k4, k5]
  rw [vy (by omega) (by omega)]
  simp only [Option.bind_some, Option.some.injEq, lad1, ud, vi, noIt]
  grind
 by_cases k7 : a0 = 7
 ·subst k7
  simp only [decide_true, cond_true, cond_false, decide_false, Option.bind_some, k4, k5, k6]
  rw [vy (by simp; omega) (by simp)]
  simp only [Option.bind_some, Option.some.injEq, lad1, ud, vi, noIt]
  grind
 by_cases k10 : a0 = 10
 ·subst k10
  simp only [decide_true, cond_true, cond_false, decide_false, Option.bind_some, k4, k5, k6, k7]
  rw [vy (by omega) (by omega)]
  simp only [Option.bind_some, Option.some.injEq, lad1, ud, vi, noIt]
  grind
 by_cases k11 : a0 = 11
 ·subst k11
  simp only [decide_true, cond_true, cond_false, decide_false, Option.bind_some, k4, k5, k6, k7, k10]
  rw [vy (by omega) (by omega)]
  simp only [Option.bind_some, Option.some.injEq, lad1, ud, vi, noIt]
  grind
 by_cases k12 : a0 = 12
 ·subst k12
  simp only [decide_true, cond_true, cond_false, decide_false, Option.bind_some, k4, k5, k6, k7, k10, k11]
  rw [vy (by omega) (by omega)]
  simp only [Option.bind_some, Option.some.injEq, lad1, ud, vi, noIt]
  grind
 simp only [cond_true, cond_false, decide_false, Option.bind_some, k4, k5, k6, k7, k10, k11, k12]
 rw [vy (by omega) (by omega)]
 simp only [Option.bind_some, Option.some.injEq, lad1, ud, vi, noIt]
 grind
theorem jfz {n : Nat} (h : 0 < n) : vq n = some false := by
 obtain ⟨m, rfl⟩ : ∃ m, n = m + 1 := Nat.exists_eq_succ_of_ne_zero (by omega)
 rfl
theorem jqm (a0 : Int) (a1 : Int) (a2 : Int) (a3 : Int) (a4 : Int) (a5 : Bool) (a6 : Bool) (a7 : Int) (a8 : Int) (a9 : List Int) (a10 : ByteArray) (a11 : Int) (a12 : Int) (a13 : Bool) (a14 : Int) : ∀ (r p : List Int) (n : Nat), r.length + 1 < n → (p ++ r).length < 1000 →
  jdi n (p ++ r) (ofN (p ++ r).length) (ofN p.length) a0 a1 a2 a3 a4 a5 a6 a7 a8 a9 a10 a11 a12 a13 a14 = bif r.all isP then jdi 2 [] (ofN 0) (ofN 0) a0 a1 a2 a3 a4 a5 a6 a7 a8 a9 a10 a11 a12 a13 a14 else some false
 | _, _, 0, h, _ => by omega
 | [], p, n + 1, hn, _ => by
  have e0 : ilt (ofN 0) (ofN 0) = false := by decide
  simp only [List.length_nil] at hn
  simp only [List.all_nil, cond_true, jdi, List.append_nil, jy, cond_false, e0, jfz (show 0 < n by omega), jfz (show 0 < 1 by omega)]
 | x :: r, p, n + 1, h, hb => by
  simp only [List.length_cons] at h
  simp only [jdi, qr, jq, jr, cond_true, jns, Option.bind_some, jfz (show 0 < n by omega)]
  simp only [List.length_append, List.length_cons] at hb
  have h1 := jqm a0 a1 a2 a3 a4 a5 a6 a7 a8 a9 a10 a11 a12 a13 a14 r (p ++ [x]) n (by omega) (by simp; omega)
  rw [← qb] at h1
  rw [qa (x := x) (by omega), h1, List.all_cons]
  cases isP x <;> rfl
theorem jdb {n : Nat} (hn : 2000 < n) (a0 : Int) (a1 : Int) (a2 : Int) (a3 : Int) (a4 : Int) (a5 : Bool) (a6 : Bool) (a7 : Int) (a8 : Int) (a9 : List Int) (a10 : ByteArray) (a11 : Int) (a12 : Int) (a13 : Bool) (a14 : Int) (h : a9.length < 1000) : F72 n a0 a1 a2 a3 a4 a5 a6 a7 a8 a9 a10 a11 a12 a13 a14 = some (qx ⟨a0, a1, a2, a3, a4, a5, a6, a7, a8, a9, a10, a11, a12, a13, a14⟩) := by
 have hf := jn
 unfold F72
 rw [jfz (by omega)]
 have hc := jqm a0 a1 a2 a3 a4 a5 a6 a7 a8 a9 a10 a11 a12 a13 a14 a9 [] n (by omega) (by simpa using h)
 simp only [List.nil_append, List.length_nil] at hc
 have h0 : (0 : Int) = ofN 0 := rfl
 have e0 : ilt (ofN 0) (ofN 0) = false := by decide
 simp only [jdi, e0, cond_false, jfz (show 0 < 1 by omega)] at hc
 rw [holds_p FUEL a0 a1 a2 a3 a4 a5 a6 a7 a8 a9 a10 a11 a12 a13 a14 h]
 simp only [jns, Option.bind_some]
 unfold qx
 by_cases hk1 : a0 < 1
 ·rw [show ilt a0 1 = true from decide_eq_true hk1]
  simp only [cond_true]
  rw [decide_eq_false (by omega : ¬ 1 ≤ a0)]; rfl
 rw [show ilt a0 1 = false from decide_eq_false hk1, cond_false]
 by_cases hk2 : 13 ≤ a0
 ·rw [show ige a0 13 = true from decide_eq_true hk2]
  simp only [cond_true]
  rw [decide_eq_false (by omega : ¬ a0 < 13), Bool.and_false]; rfl
 rw [show ige a0 13 = false from decide_eq_false hk2, cond_false]
 cases h2 : isP a2
 ·simp
 cases h3 : isP a3
 ·simp
 have ha := jck (k := a0) h2 h3
 rw [asker_p] at hc ⊢
 simp only [Option.bind_some] at hc ⊢
 rw [wax FUEL ha] at hc ⊢
 simp only [Option.bind_some] at hc ⊢
 rw [wbu FUEL a0 a1 a2 a3 a4 a5 a6 a7 a8 a9 a10 a11 a12 a13 a14 h] at hc ⊢
 simp only [ju, ut, lad5] at hc ⊢
 rw [← h0] at hc
 rw [hc]
 simp only [lad5, Option.some.injEq]
 have hl := jqq a2 a9 []
 have hv := val0
 unfold holdP hasM
 simp only
 simp only [vi, noIt]
 have hp := pair0 a10 a11 a12 (decide (a13 = false))
 by_cases k4 : a0 = 4
 ·subst k4; simp; grind
 by_cases k5 : a0 = 5
 ·subst k5; simp; grind
 by_cases k6 : a0 = 6
 ·subst k6; simp; grind
 by_cases k7 : a0 = 7
 ·subst k7; simp; grind
 by_cases k10 : a0 = 10
 ·subst k10; simp; grind
 by_cases k11 : a0 = 11
 ·subst k11; simp; grind
 by_cases k12 : a0 = 12
 ·subst k12; simp; grind
 simp [k4, k5, k6, k7, k10, k11, k12]; grind
theorem jjo (n : Nat) (a0 : Int) (a1 : Int) (a2 : Int) (a3 : Int) (a4 : Int) (a5 : Bool) (a6 : Bool) (a7 : Int) (a8 : Int) (a9 : List Int) (a10 : ByteArray) (a11 : Int) (a12 : Int) (a13 : Bool) (a14 : Int) (h : a9.length < 1000) : F21 n a0 a1 a2 a3 a4 a5 a6 a7 a8 a9 a10 a11 a12 a13 a14 = some (qx ⟨a0, a1, a2, a3, a4, a5, a6, a7, a8, a9, a10, a11, a12, a13, a14⟩) := by
 unfold F21
 simp only [zw, Option.bind_some]
 unfold qx
 by_cases hk1 : a0 < 1
 ·rw [show ilt a0 1 = true from decide_eq_true hk1]
  simp only [cond_true]
  rw [decide_eq_false (by omega : ¬ 1 ≤ a0)]; rfl
 rw [show ilt a0 1 = false from decide_eq_false hk1, cond_false]
 by_cases hk2 : 13 ≤ a0
 ·rw [show ige a0 13 = true from decide_eq_true hk2]
  simp only [cond_true]
  rw [decide_eq_false (by omega : ¬ a0 < 13), Bool.and_false]; rfl
 rw [show ige a0 13 = false from decide_eq_false hk2, cond_false, decide_eq_true (by omega : 1 ≤ a0), decide_eq_true (by omega : a0 < 13)]
 cases h2 : isP a2
 ·simp
 cases h3 : isP a3
 ·simp
 rw [jyt, bare_r FUEL a0 a1 a2 a3 a4 a5 a6 a7 a8 a9 a10 a11 a12 a13 a14 h]
 simp only [Option.bind_some]
 rw [jqx (jck h2 h3)]
 simp only [ju, lad2, Bool.not_true, cond_false, Bool.true_and]
theorem told_k {k : Int} (h : askB k = true) : iadd .u8 k 6 = k + 6 := by
 unfold askB at h
 simp only [Bool.and_eq_true, decide_eq_true_eq] at h
 simp only [iadd, IntKind.wrap, IntKind.bits, IntKind.signed]
 simp
 omega
theorem tell_p (n : Nat) (a0 : Int) (a1 : Int) (a2 : Int) (a3 : Int) (a4 : Int) (a5 : Bool) (a6 : Bool) (a7 : Int) (a8 : Int) (a9 : List Int) (a10 : ByteArray) (a11 : Int) (a12 : Int) (a13 : Bool) (a14 : Int) : F111 n a0 a1 a2 a3 a4 a5 a6 a7 a8 a9 a10 a11 a12 a13 a14 = some (bif askB a0 then ⟨a0 + 6, a1, a3, a2, 0, false, false, 0, 0, ByteArray.empty, 0, 0, false, 0⟩ else ⟨0, 0, 0, 0, 0, false, false, 0, 0, ByteArray.empty, 0, 0, false, 0⟩) := by
 unfold F111
 rw [zt, Option.bind_some]
 cases h : askB a0
 ·rfl
 ·rw [told_k h]; rfl
theorem tell_r (n : Nat) (a0 : Int) (a1 : Int) (a2 : Int) (a3 : Int) (a4 : Int) (a5 : Bool) (a6 : Bool) (a7 : Int) (a8 : Int) (a9 : List Int) (a10 : ByteArray) (a11 : Int) (a12 : Int) (a13 : Bool) (a14 : Int) : F41 n a0 a1 a2 a3 a4 a5 a6 a7 a8 a9 a10 a11 a12 a13 a14 = some (bif askB a0 then ⟨a0 + 6, a1, a3, a2, 0, false, false, 0, 0, ByteArray.empty, 0, 0, false, 0⟩ else ⟨0, 0, 0, 0, 0, false, false, 0, 0, ByteArray.empty, 0, 0, false, 0⟩) := by
 unfold F41
 rw [jbb, Option.bind_some]
 cases h : askB a0
 ·rfl
 ·rw [told_k h]; rfl
theorem jan (n : Nat) (a0 : Int) (a1 : Int) (a2 : Int) (a3 : Int) (a4 : Int) (a5 : Bool) (a6 : Bool) (a7 : Int) (a8 : Int) (a9 : List Int) (a10 : ByteArray) (a11 : Int) (a12 : Int) (a13 : Bool) (a14 : Int) (h : a9.length < 1000) : F38 n a0 a1 a2 a3 a4 a5 a6 a7 a8 a9 a10 a11 a12 a13 a14 = some ⟨a0, a1, a2, a3, a4, a5, a6, a7, a8, a10, a11, a12, a13, a14, a9⟩ := by
 unfold F38
 have e : room a9.length 8 = true := qh (by omega) (by omega)
 rw [e]; rfl
end Go.Proofs.YthjhcmkgadfpmaaGreat
namespace Go.Proofs.YthjhcmkgadfpmaaGreat
open Go Go.RowKit
theorem pigeon : ∀ (N : Nat) (p : List Int), p.Nodup → (∀ x ∈ p, 0 ≤ x ∧ x < N) → p.length ≤ N
 | 0, p, _, h => by
  cases p with
  | nil => simp
  | cons x r => have := h x (by simp); omega
 | N + 1, p, hn, h => by
  have h1 := pigeon N (p.filter fun x => decide (x ≠ (N : Int))) (hn.filter _) (fun x hx => by
   obtain ⟨h2, h3⟩ := List.mem_filter.1 hx
   have := h x h2
   have : x ≠ (N : Int) := by simpa using h3
   omega)
  have h2 : p.length ≤ (p.filter fun x => decide (x ≠ (N : Int))).length + 1 := by
   clear h h1
   induction p with
   | nil => simp
   | cons x r ih =>
    rw [List.nodup_cons] at hn
    rw [List.filter_cons]
    by_cases hx : x = (N : Int)
    ·have : (r.filter fun x => decide (x ≠ (N : Int))) = r := List.filter_eq_self.2 fun y hy => by
      have : y ≠ (N : Int) := fun e => hn.1 (by rw [hx, ← e]; exact hy)
      simpa using this
     rw [this]
     simp [hx]
    ·have := ih hn.2
     simp [hx] at this ⊢
     omega
  omega
theorem jvk (f x : Int) (L : List Int) (p s : List Int) (hL : L = p ++ x :: s) (hb : p.length < 70000) :
  ∀ (r q : List Int) (n : Nat), p = q ++ r → r.length < n → jaj n L f (ofN p.length) (ofN q.length) = if x ∈ r then some false else wy (n - r.length - 1) L f (ofN (p ++ [x]).length)
 | _, _, 0, _, h => by omega
 | [], q, n + 1, hp, h => by
  rw [List.append_nil] at hp
  subst hp
  simp only [jaj, jy, cond_false]
  rw [qa (x := x) (by omega)]
  simp
 | y :: r, q, n + 1, hp, h => by
  simp only [List.length_cons] at h
  have h1 := jvk f x L p s hL hb r (q ++ [y]) n (by rw [hp, qb]) (by omega)
  have e1 : ilt (ofN q.length) (ofN p.length) = true := by rw [hp]; exact qr
  have e2 : L = q ++ y :: (r ++ x :: s) := by rw [hL, hp]; simp
  have e3 : inb (ofN q.length) L.length = true := by rw [e2]; exact jq
  have e4 : inb (ofN p.length) L.length = true := by rw [hL]; exact jq
  have e5 : L.getD (ofN q.length).toNat 0 = y := by rw [e2]; exact jr
  have e6 : L.getD (ofN p.length).toNat 0 = x := by rw [hL]; exact jr
  have hq : q.length < 70000 := by rw [hp] at hb; simp at hb; omega
  simp only [jaj, e1, e3, e4, e5, e6, cond_true]
  rw [qa (x := y) (by omega), h1, ju]
  by_cases hy : x = y
  ·simp [hy]
  ·have : y ≠ x := fun e => hy e.symm
   simp [hy, this]
theorem list_lc (f : Int) (r : List Int) : ∀ (p : List Int) (n k : Nat), p.Nodup → (∀ x ∈ p, isP x = true) → k + p.length = 65537 → k * 70000 + 1 < n → (p ++ r).length ≤ 9223372036854775807 → wy n (p ++ r) f (ofN p.length) = some (lstB f p r && decide ((p ++ r).length ≤ 3)) := by
 induction r with
 | nil =>
  intro p n k _ _ _ h _
  obtain ⟨n, rfl⟩ : ∃ m, n = m + 1 := ⟨n - 1, by omega⟩
  simp only [wy, List.append_nil, jy, cond_false, lstB, Bool.true_and]
  congr 1
  unfold ile ofN; apply decide_eq_decide.2; omega
 | cons x r ihr =>
  intro p n k hn hp hk h hb
  obtain ⟨n, rfl⟩ : ∃ m, n = m + 1 := ⟨n - 1, by omega⟩
  have hpl : p.length ≤ 65536 := pigeon 65536 p hn fun y hy => by have := qt.1 (hp y hy); omega
  obtain ⟨k, rfl⟩ : ∃ m, k = m + 1 := ⟨k - 1, by omega⟩
  rw [Nat.add_mul, Nat.one_mul] at h
  have hfu : k * 70000 + 1 < n - p.length - 1 := by
   generalize k * 70000 = z at h ⊢
   omega
  have hfp : p.length < n := by
   generalize k * 70000 = z at h
   omega
  simp only [wy, qr, jq, jr, cond_true, zw, Option.bind_some]
  have h0 : (0 : Int) = ofN ([] : List Int).length := rfl
  rw [h0, jvk f x (p ++ x :: r) p r rfl (by omega) p [] n rfl hfp, ju, lstB, decide_not]
  cases hx : isP x
  ·rfl
  ·by_cases hf : x = f
   ·rw [decide_eq_true hf]; rfl
   ·rw [decide_eq_false hf]
    by_cases hxp : x ∈ p
    ·rw [if_pos hxp, decide_eq_true hxp]; rfl
    ·have ih := ihr (p ++ [x]) (n - p.length - 1) k (by
      rw [List.nodup_append]
      exact ⟨hn, by simp, fun a ha b hb e => hxp (by rw [← List.mem_singleton.1 hb, ← e]; exact ha)⟩) (fun y hy => by
      rcases List.mem_append.1 hy with hy | hy
      ·exact hp y hy
      ·rw [List.mem_singleton.1 hy]; exact hx) (by rw [List.length_append, List.length_singleton]; omega) hfu (by rw [← qb]; exact hb)
     rw [← qb] at ih
     rw [if_neg hxp, ih, decide_eq_false hxp]; rfl
theorem war (n k : Nat) (hk : k = 65537) (hn : k * 70000 + 1 < n) (l : List Int) (f : Int) (h : l.length ≤ 9223372036854775807) : F153 n l f = some (lstB f [] l && decide (l.length ≤ 3)) :=
 list_lc f l [] n k List.nodup_nil (fun x hx => by cases hx) hk hn h
theorem list_rl {n : Nat} (hn : 5000000000 < n) (l : List Int) (f : Int) (h : l.length ≤ 9223372036854775807) : F153 n l f = some (lstB f [] l && decide (l.length ≤ 3)) :=
 war n (65536 + 1) rfl (by omega) l f h
theorem jab {n : Nat} {a0 : Int} {a1 : Int} {a2 : Int} {a3 : Int} {a4 : Int} {a5 : Bool} {a6 : Bool} {a7 : Int} {a8 : Int} {a9 : List Int} {a10 : ByteArray} {a11 : Int} {a12 : Int} {a13 : Bool} {a14 : Int} {b0 b1 b2 b3 b4 : Int} {b5 b6 : Bool} {b7 b8 : Int} {b10 : ByteArray} {b11 b12 : Int} {b13 : Bool} {b14 : Int} (hn : 0 < n) : F14 n a0 a1 a2 a3 a4 a5 a6 a7 a8 a9 a10 a11 a12 a13 a14 b0 b1 b2 b3 b4 b5 b6 b7 b8 [] b10 b11 b12 b13 b14 = some (ud ⟨a0, a1, a2, a3, a4, a5, a6, a7, a8, a9, a10, a11, a12, a13, a14⟩ ⟨b0, b1, b2, b3, b4, b5, b6, b7, b8, [], b10, b11, b12, b13, b14⟩) := by
 cases a9 with
 | nil => exact vy (by simpa using hn) (by simp)
 | cons x r =>
  unfold F14 ud
  have e : ine (ofN (x :: r).length) (ofN ([] : List Int).length) = true := by simp [ine, ofN]; omega
  rw [e, cond_true]
  simp
theorem has_rl (n : Nat) (a0 : Int) (a1 : Int) (a2 : Int) (a3 : Int) (a4 : Int) (a5 : Bool) (a6 : Bool) (a7 : Int) (a8 : Int) (a9 : List Int) (a10 : ByteArray) (a11 : Int) (a12 : Int) (a13 : Bool) (a14 : Int) (h : a9.length ≤ 9223372036854775807) : F95 n a0 a1 a2 a3 a4 a5 a6 a7 a8 a9 a10 a11 a12 a13 a14 = some (hasM ⟨a0, a1, a2, a3, a4, a5, a6, a7, a8, a9, a10, a11, a12, a13, a14⟩) := by
 have hf : 5000000000 < FUEL := by unfold FUEL; omega
 unfold F95 hasM noIt
 rw [jqi, list_rl hf a9 a2 h]
 simp only [zw, Option.bind_some, ju, uk, wb, Bool.and_true, lad5, decide_true, Bool.true_and]
 congr 1
 have hp := pair0 a10 a11 a12 (decide (a13 = false))
 grind
theorem bare_rl (n : Nat) (a0 : Int) (a1 : Int) (a2 : Int) (a3 : Int) (a4 : Int) (a5 : Bool) (a6 : Bool) (a7 : Int) (a8 : Int) (a9 : List Int) (a10 : ByteArray) (a11 : Int) (a12 : Int) (a13 : Bool) (a14 : Int) (h : a9.length ≤ 9223372036854775807) : (Option.bind (F94 n a0 a1 a2 a3 a4 a5 a6 a7 a8 a10 a11 a12 a13 a14) fun y =>
  bif y.q0 then (Option.bind (F14 FUEL y.q1 y.q2 y.q3 y.q4 y.q5 y.q6 y.q7 y.q8 y.q9 a9 y.q10 y.q11 y.q12 y.q13 y.q14 a0 a1 a2 a3 0 false false 0 0 [] ByteArray.empty 0 0 false 0) fun z => bif z then (Option.bind (F95 FUEL a0 a1 a2 a3 a4 a5 a6 a7 a8 a9 a10 a11 a12 a13 a14) fun u => some u) else some false)
  else (Option.bind (F14 FUEL y.q1 y.q2 y.q3 y.q4 y.q5 y.q6 y.q7 y.q8 y.q9 [] y.q10 y.q11 y.q12 y.q13 y.q14 a0 a1 a2 a3 0 false false 0 0 [] ByteArray.empty 0 0 false 0) fun z => bif z then (Option.bind (F95 FUEL a0 a1 a2 a3 a4 a5 a6 a7 a8 a9 a10 a11 a12 a13 a14) fun u => some u) else some false))
  = some (vi ⟨a0, a1, a2, a3, a4, a5, a6, a7, a8, a9, a10, a11, a12, a13, a14⟩ && hasM ⟨a0, a1, a2, a3, a4, a5, a6, a7, a8, a9, a10, a11, a12, a13, a14⟩) := by
 have hf := jn
 rw [has_rl FUEL a0 a1 a2 a3 a4 a5 a6 a7 a8 a9 a10 a11 a12 a13 a14 h]
 unfold F94
 generalize hasM ⟨a0, a1, a2, a3, a4, a5, a6, a7, a8, a9, a10, a11, a12, a13, a14⟩ = hm
 simp only [ju]
 by_cases k4 : a0 = 4
 ·subst k4
  simp only [decide_true, cond_true, Option.bind_some]
  rw [jab (by omega)]
  simp only [Option.bind_some, Option.some.injEq, lad1, ud, vi, noIt]
  grind
 by_cases k5 : a0 = 5
 ·subst k5
  simp only [decide_true, cond_true, cond_false, decide_false, Option.bind_some, k4]
  rw [jab (by omega)]
  simp only [Option.bind_some, Option.some.injEq, lad1, ud, vi, noIt]
  grind
 by_cases k6 : a0 = 6
 ·subst k6
  simp only [decide_true, cond_true, cond_false, decide_false, Option.bind_some, k4, k5]
  rw [jab (by omega)]
  simp only [Option.bind_some, Option.some.injEq, lad1, ud, vi, noIt]
  grind
 by_cases k7 : a0 = 7
 ·subst k7
  simp only [decide_true, cond_true, cond_false, decide_false, Option.bind_some, k4, k5, k6]
  rw [vy (by simp; omega) (by simp)]
  simp only [Option.bind_some, Option.some.injEq, lad1, ud, vi, noIt]
  grind
 by_cases k10 : a0 = 10
 ·subst k10
  simp only [decide_true, cond_true, cond_false, decide_false, Option.bind_some, k4, k5, k6, k7]
  rw [jab (by omega)]
  simp only [Option.bind_some, Option.some.injEq, lad1, ud, vi, noIt]
  grind
 by_cases k11 : a0 = 11
 ·subst k11
  simp only [decide_true, cond_true, cond_false, decide_false, Option.bind_some, k4, k5, k6, k7, k10]
  rw [jab (by omega)]
  simp only [Option.bind_some, Option.some.injEq, lad1, ud, vi, noIt]
  grind
 by_cases k12 : a0 = 12
 ·subst k12
  simp only [decide_true, cond_true, cond_false, decide_false, Option.bind_some, k4, k5, k6, k7, k10, k11]
  rw [jab (by omega)]
  simp only [Option.bind_some, Option.some.injEq, lad1, ud, vi, noIt]
  grind
 simp only [cond_true, cond_false, decide_false, Option.bind_some, k4, k5, k6, k7, k10, k11, k12]
 rw [jab (by omega)]
 simp only [Option.bind_some, Option.some.injEq, lad1, ud, vi, noIt]
 grind
theorem juy (n : Nat) (a0 : Int) (a1 : Int) (a2 : Int) (a3 : Int) (a4 : Int) (a5 : Bool) (a6 : Bool) (a7 : Int) (a8 : Int) (a9 : List Int) (a10 : ByteArray) (a11 : Int) (a12 : Int) (a13 : Bool) (a14 : Int) (h : a9.length ≤ 9223372036854775807) : F21 n a0 a1 a2 a3 a4 a5 a6 a7 a8 a9 a10 a11 a12 a13 a14 = some (qx ⟨a0, a1, a2, a3, a4, a5, a6, a7, a8, a9, a10, a11, a12, a13, a14⟩) := by
 unfold F21
 simp only [zw, Option.bind_some]
 unfold qx
 by_cases hk1 : a0 < 1
 ·rw [show ilt a0 1 = true from decide_eq_true hk1]
  simp only [cond_true]
  rw [decide_eq_false (by omega : ¬ 1 ≤ a0)]; rfl
 rw [show ilt a0 1 = false from decide_eq_false hk1, cond_false]
 by_cases hk2 : 13 ≤ a0
 ·rw [show ige a0 13 = true from decide_eq_true hk2]
  simp only [cond_true]
  rw [decide_eq_false (by omega : ¬ a0 < 13), Bool.and_false]; rfl
 rw [show ige a0 13 = false from decide_eq_false hk2, cond_false, decide_eq_true (by omega : 1 ≤ a0), decide_eq_true (by omega : a0 < 13)]
 cases h2 : isP a2
 ·simp
 cases h3 : isP a3
 ·simp
 rw [jyt, bare_rl FUEL a0 a1 a2 a3 a4 a5 a6 a7 a8 a9 a10 a11 a12 a13 a14 h]
 simp only [Option.bind_some]
 rw [jqx (jck h2 h3)]
 simp only [ju, lad2, Bool.not_true, cond_false, Bool.true_and]
end Go.Proofs.YthjhcmkgadfpmaaGreat
namespace Go.Proofs.YthjhcmkgadfpmaaGreat
open Go Go.RowKit
structure VW where
 id : Int
 base : List Int
 lst : List Int
 pred : Int
 f0 : Int
 f1 : Int
 f2 : Int
 f3 : Int
 f4 : Int
 f5 : Int
 f6 : Int
 f7 : Int
 f8 : Int
 f9 : Int
 f10 : Int
 f11 : Int
 f12 : Int
 f13 : Int
 f14 : Int
 f15 : Int
 deriving DecidableEq
def VW.fg (v : VW) : List Int := [v.f0, v.f1, v.f2, v.f3, v.f4, v.f5, v.f6, v.f7, v.f8, v.f9, v.f10, v.f11, v.f12, v.f13, v.f14, v.f15]
def oth (id n : Int) : Bool := decide (n = -1) || (isP n && decide (n ≠ id))
def ris : Int → List Int → Bool
 | _, [] => true
 | d, x :: r => isP x && (decide (d < x) && ris x r)
def vo (l : List Int) : Bool := decide (2 ≤ l.length) && (decide (l.length ≤ 4) && ris (-1) l)
def ql (v : VW) : Bool := isP v.id && (vo v.base && (good v.id v.lst && (oth v.id v.pred && v.fg.all (oth v.id))))
theorem jbm {v : VW} (h : ql v = true) : v.base.length ≤ 4 ∧ v.lst.length ≤ 3 := by
 unfold ql vo at h
 simp only [Bool.and_eq_true, decide_eq_true_eq] at h
 exact ⟨h.2.1.2.1, wba h.2.2.1⟩
theorem oth_r (n : Nat) (a0 : Int) (a1 a2 : List Int) (a3 a4 a5 a6 a7 a8 a9 a10 a11 a12 a13 a14 a15 a16 a17 a18 a19 : Int) (x : Int) : F139 n a0 a1 a2 a3 a4 a5 a6 a7 a8 a9 a10 a11 a12 a13 a14 a15 a16 a17 a18 a19 x = some (oth a0 x) := by
 unfold F139 oth
 simp only [jgd, Option.bind_some, ieq, ine]
 by_cases h : x = -1
 ·simp [h]
 ·have : (x == -1) = false := beq_eq_false_iff_ne.2 h
  rw [this, cond_false, decide_eq_false h, Bool.false_or]
  cases isP x
  ·rfl
  ·by_cases h2 : x = a0 <;> simp [h2]
theorem jys : ∀ (r p : List Int) (n : Nat), r.length < n → (p ++ r).length < 1000 → jco n (p ++ r) (p ++ r) (ofN (p ++ r).length) (ofN p.length) = some (ris (p.getLastD (-1)) r)
 | _, _, 0, h, _ => by omega
 | [], p, n + 1, _, _ => by simp only [jco, List.append_nil, jy, cond_false]; rfl
 | x :: r, p, n + 1, h, hb => by
  simp only [jco, qr, jq, jr, cond_true, jju, Option.bind_some]
  simp only [List.length_append, List.length_cons] at h hb
  rw [qa (x := x) (by omega)]
  have h1 := jys r (p ++ [x]) n (by omega) (by simp; omega)
  rw [← qb, show (p ++ [x]).getLastD (-1) = x by simp] at h1
  rw [h1, ris]
  cases hx : isP x
  ·rfl
  ·simp only [Bool.not_true, cond_false, Bool.true_and]
   rcases List.eq_nil_or_concat p with rfl | ⟨q, v, hqv⟩
   ·have e2 : igt (ofN ([] : List Int).length) 0 = false := rfl
    rw [e2, cond_false]
    have := qt.1 hx
    rw [show ([] : List Int).getLastD (-1) = -1 from rfl, decide_eq_true (by omega : (-1 : Int) < x), Bool.true_and]
   ·rw [List.concat_eq_append] at hqv
    subst hqv
    have e2 : igt (ofN (q ++ [v]).length) 0 = true := by simp [igt, ofN]
    have e3 : isub .i64 (ofN (q ++ [v]).length) 1 = ofN q.length := jho (by simp at hb; omega)
    have e4 : (q ++ [v]) ++ x :: r = q ++ v :: (x :: r) := by simp
    have e6 : (q ++ [v]).getLastD (-1) = v := by simp
    rw [e2, cond_true, e3, e6, e4]
    simp only [jq, jr, cond_true, ile]
    by_cases hd : v < x
    ·rw [decide_eq_false (by omega : ¬ x ≤ v), decide_eq_true hd]; rfl
    ·rw [decide_eq_true (by omega : x ≤ v), decide_eq_false hd]; rfl
theorem base_p {n : Nat} (hn : 2000 < n) (l : List Int) : F129 n l = some (vo l) := by
 unfold F129 vo
 by_cases h1 : 2 ≤ l.length
 ·have e : ilt (ofN l.length) 2 = false := decide_eq_false (by simp only [ofN, List.length_append, List.length_cons, List.length_nil]; omega)
  rw [e, cond_false, decide_eq_true h1, Bool.true_and]
  by_cases h2 : l.length ≤ 4
  ·have e : igt (ofN l.length) 4 = false := decide_eq_false (by simp only [ofN, List.length_append, List.length_cons, List.length_nil]; omega)
   rw [e, cond_false, decide_eq_true h2, Bool.true_and]
   simpa [ofN] using jys l [] n (by omega) (by simp; omega)
  ·have e : igt (ofN l.length) 4 = true := decide_eq_true (by simp only [ofN, List.length_append, List.length_cons, List.length_nil]; omega)
   rw [e, cond_true, decide_eq_false h2, Bool.false_and]
 ·have e : ilt (ofN l.length) 2 = true := decide_eq_true (by simp only [ofN, List.length_append, List.length_cons, List.length_nil]; omega)
  rw [e, cond_true, decide_eq_false h1, Bool.false_and]
theorem jwp (k : Nat) (h : k < 16) : iadd .i64 (ofN k) 1 = ofN (k + 1) := by
 simp only [iadd, ofN]; rw [qg (by omega) (by omega)]; omega
theorem jgo {l : List Int} {k : Nat} (h : k < l.length) : l.drop k = l.getD k 0 :: l.drop (k + 1) := by
 rw [List.drop_eq_getElem_cons h]
 simp [List.getD, h]
theorem jfw (k : Nat) : (ofN k).toNat = k := by simp [ofN]
theorem lt16 {k : Nat} (h : k < 16) : ilt (ofN k) 16 = true ∧ inb (ofN k) 16 = true ∧ nlt k 16 = true := by
 refine ⟨?_, ?_, ?_⟩
 ·exact decide_eq_true (by simp only [ofN, List.length_append, List.length_cons, List.length_nil]; omega)
 ·unfold inb ofN; rw [decide_eq_true (by omega : (0 : Int) ≤ k), decide_eq_true (by omega : (k : Int) < (16 : Nat))]; rfl
 ·exact decide_eq_true h
theorem viewR0 {n : Nat} (h : 0 < n) : jdk n = some false := by
 obtain ⟨m, rfl⟩ : ∃ m, n = m + 1 := Nat.exists_eq_succ_of_ne_zero (by omega)
 rfl
theorem oth_of (id x : Int) (R : Option Bool) : (bif ine x (-1) then (bif !(isP x) then some false else (bif ieq x id then some false else R)) else R) = bif oth id x then R else some false := by
 unfold oth
 simp only [ine, ieq]
 by_cases h : x = -1
 ·simp [h]
 ·have : (x != -1) = true := by simpa using h
  rw [this, cond_true, decide_eq_false h, Bool.false_or]
  cases isP x
  ·rfl
  ·by_cases h2 : x = id
   ·simp [h2]
   ·have : (x == id) = false := beq_eq_false_iff_ne.2 h2
    rw [this]; simp [h2]
theorem jwm (x0 x1 x2 x3 x4 x5 x6 x7 x8 x9 x10 x11 x12 x13 x14 x15 : Int) (id : Int) (b l : List Int) (pr y0 y1 y2 y3 y4 y5 y6 y7 y8 y9 y10 y11 y12 y13 y14 y15 : Int) : ∀ (j k : Nat) (n : Nat), k + j = 16 → j + 2 ≤ n → jet n x0 x1 x2 x3 x4 x5 x6 x7 x8 x9 x10 x11 x12 x13 x14 x15 (ofN k) id b l pr y0 y1 y2 y3 y4 y5 y6 y7 y8 y9 y10 y11 y12 y13 y14 y15 = some ((([x0, x1, x2, x3, x4, x5, x6, x7, x8, x9, x10, x11, x12, x13, x14, x15] : List Int).drop k).all (oth id))
 | _, _, 0, _, h => by omega
 | 0, k, n + 1, hk, _ => by
  have : k = 16 := by omega
  subst this
  have e : ilt (ofN 16) 16 = false := by decide
  simp only [jet, e, cond_false]; rfl
 | j + 1, k, n + 1, hk, hn => by
  obtain ⟨e1, e2, _⟩ := lt16 (show k < 16 by omega)
  simp only [jet, e1, e2, cond_true, jju, Option.bind_some, jfw]
  rw [viewR0 (by omega), jwp k (by omega), jwm x0 x1 x2 x3 x4 x5 x6 x7 x8 x9 x10 x11 x12 x13 x14 x15 id b l pr y0 y1 y2 y3 y4 y5 y6 y7 y8 y9 y10 y11 y12 y13 y14 y15 j (k + 1) n (by omega) (by omega), jgo (k := k) (by simp; omega), List.all_cons]
  have := oth_of id ([x0, x1, x2, x3, x4, x5, x6, x7, x8, x9, x10, x11, x12, x13, x14, x15].getD k 0) (some ((([x0, x1, x2, x3, x4, x5, x6, x7, x8, x9, x10, x11, x12, x13, x14, x15] : List Int).drop (k + 1)).all (oth id)))
  rw [this]
  cases oth id ([x0, x1, x2, x3, x4, x5, x6, x7, x8, x9, x10, x11, x12, x13, x14, x15].getD k 0) <;> rfl
theorem jfk {n : Nat} (hn : 70000 < n) (a0 : Int) (a1 a2 : List Int) (a3 a4 a5 a6 a7 a8 a9 a10 a11 a12 a13 a14 a15 a16 a17 a18 a19 : Int) : F53 n a0 a1 a2 a3 a4 a5 a6 a7 a8 a9 a10 a11 a12 a13 a14 a15 a16 a17 a18 a19 = some (ql ⟨a0, a1, a2, a3, a4, a5, a6, a7, a8, a9, a10, a11, a12, a13, a14, a15, a16, a17, a18, a19⟩) := by
 unfold F53 ql
 have hf := jn
 rw [viewR0 (by omega)]
 simp only [jju, base_p (show 2000 < FUEL by omega), right_p (show 2000 < FUEL by omega), Option.bind_some]
 have h0 : (0 : Int) = ofN 0 := rfl
 rw [h0, jwm a4 a5 a6 a7 a8 a9 a10 a11 a12 a13 a14 a15 a16 a17 a18 a19 a0 a1 a2 a3 a4 a5 a6 a7 a8 a9 a10 a11 a12 a13 a14 a15 a16 a17 a18 a19 16 0 n (by omega) (by omega), oth_of, List.drop_zero]
 simp only [VW.fg]
 cases isP a0
 ·rfl
 ·cases vo a1
  ·rfl
  ·cases good a0 a2
   ·rfl
   ·cases oth a0 a3 <;> rfl
theorem jwl (a0 : Int) (a1 a2 : List Int) (a3 a4 a5 a6 a7 a8 a9 a10 a11 a12 a13 a14 a15 a16 a17 a18 a19 : Int) : ∀ (j k : Nat) (n : Nat), k + j = 16 → j < n → jip n (ofN k) a0 a1 a2 a3 a4 a5 a6 a7 a8 a9 a10 a11 a12 a13 a14 a15 a16 a17 a18 a19 = some ((([a4, a5, a6, a7, a8, a9, a10, a11, a12, a13, a14, a15, a16, a17, a18, a19] : List Int).drop k).all (oth a0))
 | _, _, 0, _, h => by omega
 | 0, k, n + 1, hk, _ => by
  have : k = 16 := by omega
  subst this
  have e : ilt (ofN 16) 16 = false := by decide
  simp only [jip, e, cond_false]; rfl
 | j + 1, k, n + 1, hk, hn => by
  obtain ⟨e1, e2, e3⟩ := lt16 (show k < 16 by omega)
  simp only [jip, e1, e2, cond_true, oth_r, Option.bind_some, jfw, e3]
  rw [jwp k (by omega), jwl a0 a1 a2 a3 a4 a5 a6 a7 a8 a9 a10 a11 a12 a13 a14 a15 a16 a17 a18 a19 j (k + 1) n (by omega) (by omega), jgo (k := k) (by simp; omega), List.all_cons]
  cases oth a0 ([a4, a5, a6, a7, a8, a9, a10, a11, a12, a13, a14, a15, a16, a17, a18, a19].getD k 0) <;> rfl
theorem jyr (a0 : Int) (a1 a2 : List Int) (a3 a4 a5 a6 a7 a8 a9 a10 a11 a12 a13 a14 a15 a16 a17 a18 a19 : Int) : ∀ (r p : List Int) (n : Nat), a1 = p ++ r → r.length + 20 < n → a1.length < 1000 → jhb n (ofN p.length) a0 a1 a2 a3 a4 a5 a6 a7 a8 a9 a10 a11 a12 a13 a14 a15 a16 a17 a18 a19 = some (ris (p.getLastD (-1)) r && ([a4, a5, a6, a7, a8, a9, a10, a11, a12, a13, a14, a15, a16, a17, a18, a19] : List Int).all (oth a0))
 | _, _, 0, _, h, _ => by omega
 | [], p, n + 1, ha, h, _ => by
  rw [List.append_nil] at ha
  subst ha
  have h0 : (0 : Int) = ofN 0 := rfl
  simp only [jhb, jy, cond_false, ris, Bool.true_and]
  rw [h0, jwl a0 a1 a2 a3 a4 a5 a6 a7 a8 a9 a10 a11 a12 a13 a14 a15 a16 a17 a18 a19 16 0 n (by omega) (by omega), List.drop_zero]
 | x :: r, p, n + 1, ha, h, hb => by
  have h1 := jyr a0 a1 a2 a3 a4 a5 a6 a7 a8 a9 a10 a11 a12 a13 a14 a15 a16 a17 a18 a19 r (p ++ [x]) n (by rw [ha, qb]) (by simp at h; omega) hb
  rw [show (p ++ [x]).getLastD (-1) = x by simp] at h1
  rw [ha] at hb
  subst ha
  simp only [List.length_append, List.length_cons] at h hb
  simp only [jhb, qr, jq, jr, cond_true, jgd, Option.bind_some]
  rw [qa (x := x) (by omega), h1, ris]
  cases hx : isP x
  ·rfl
  ·simp only [Bool.not_true, cond_false, Bool.true_and]
   rcases List.eq_nil_or_concat p with rfl | ⟨q, v, hqv⟩
   ·have e2 : igt (ofN ([] : List Int).length) 0 = false := rfl
    rw [e2, cond_false]
    have := qt.1 hx
    rw [show ([] : List Int).getLastD (-1) = -1 from rfl, decide_eq_true (by omega : (-1 : Int) < x), Bool.true_and]
   ·rw [List.concat_eq_append] at hqv
    subst hqv
    have e2 : igt (ofN (q ++ [v]).length) 0 = true := by simp [igt, ofN]
    have e3 : isub .i64 (ofN (q ++ [v]).length) 1 = ofN q.length := jho (by simp at hb; omega)
    have e4 : (q ++ [v]) ++ x :: r = q ++ v :: (x :: r) := by simp
    have e6 : (q ++ [v]).getLastD (-1) = v := by simp
    rw [e2, cond_true, e3, e6, e4]
    simp only [jq, jr, cond_true, ile]
    by_cases hd : v < x
    ·rw [decide_eq_false (by omega : ¬ x ≤ v), decide_eq_true hd]; rfl
    ·rw [decide_eq_true (by omega : x ≤ v), decide_eq_false hd]; rfl
theorem jfj {n : Nat} (hn : 70000 < n) (a0 : Int) (a1 a2 : List Int) (a3 a4 a5 a6 a7 a8 a9 a10 a11 a12 a13 a14 a15 a16 a17 a18 a19 : Int) (h2 : a2.length ≤ 9223372036854775807) : F66 n a0 a1 a2 a3 a4 a5 a6 a7 a8 a9 a10 a11 a12 a13 a14 a15 a16 a17 a18 a19 = some (ql ⟨a0, a1, a2, a3, a4, a5, a6, a7, a8, a9, a10, a11, a12, a13, a14, a15, a16, a17, a18, a19⟩) := by
 unfold F66 ql vo
 have hf := jn
 simp only [jgd, right_r (show 70000 < FUEL by omega) a0 a2 h2, oth_r, Option.bind_some, VW.fg]
 cases isP a0
 ·rfl
 ·simp only [Bool.not_true, cond_false, Bool.true_and]
  by_cases h1 : 2 ≤ a1.length
  ·have e : ilt (ofN a1.length) 2 = false := decide_eq_false (by simp only [ofN, List.length_append, List.length_cons, List.length_nil]; omega)
   rw [e, cond_false, decide_eq_true h1, Bool.true_and]
   by_cases h3 : a1.length ≤ 4
   ·have e : igt (ofN a1.length) 4 = false := decide_eq_false (by simp only [ofN, List.length_append, List.length_cons, List.length_nil]; omega)
    rw [e, cond_false, decide_eq_true h3, Bool.true_and]
    have h0 : (0 : Int) = ofN ([] : List Int).length := rfl
    rw [h0, jyr a0 a1 a2 a3 a4 a5 a6 a7 a8 a9 a10 a11 a12 a13 a14 a15 a16 a17 a18 a19 a1 [] n rfl (by omega) (by omega), show ([] : List Int).getLastD (-1) = -1 from rfl]
    cases good a0 a2
    ·simp
    ·cases oth a0 a3
     ·simp
     ·rfl
   ·have e : igt (ofN a1.length) 4 = true := decide_eq_true (by simp only [ofN, List.length_append, List.length_cons, List.length_nil]; omega)
    rw [e, cond_true, decide_eq_false h3]; rfl
  ·have e : ilt (ofN a1.length) 2 = true := decide_eq_true (by simp only [ofN, List.length_append, List.length_cons, List.length_nil]; omega)
   rw [e, cond_true, decide_eq_false h1]; rfl
theorem jke (n : Nat) (l : List Int) (h : l.length < 1000) : F113 n l = some l := by
 unfold F113
 have e : room (0 + l.length) 8 = true := qh (by omega) (by omega)
 rw [e]
 cases l with
 | nil => rfl
 | cons x r => rfl
theorem own_p (n : Nat) (a0 : Int) (a1 a2 : List Int) (a3 a4 a5 a6 a7 a8 a9 a10 a11 a12 a13 a14 a15 a16 a17 a18 a19 : Int) (h1 : a1.length < 1000) (h2 : a2.length < 1000) : F87 n a0 a1 a2 a3 a4 a5 a6 a7 a8 a9 a10 a11 a12 a13 a14 a15 a16 a17 a18 a19 = some ⟨a0, a3, a4, a5, a6, a7, a8, a9, a10, a11, a12, a13, a14, a15, a16, a17, a18, a19, a1, a2⟩ := by
 unfold F87
 rw [jke _ _ h1, jke _ _ h2]; rfl
theorem own_r (n : Nat) (a0 : Int) (a1 a2 : List Int) (a3 a4 a5 a6 a7 a8 a9 a10 a11 a12 a13 a14 a15 a16 a17 a18 a19 : Int) (h1 : a1.length < 1000) (h2 : a2.length < 1000) : F96 n a0 a1 a2 a3 a4 a5 a6 a7 a8 a9 a10 a11 a12 a13 a14 a15 a16 a17 a18 a19 = some ⟨a0, a3, a4, a5, a6, a7, a8, a9, a10, a11, a12, a13, a14, a15, a16, a17, a18, a19, a1, a2⟩ := by
 unfold F96
 have e1 : room (0 + a1.length) 8 = true := qh (by omega) (by omega)
 have e2 : room (0 + a2.length) 8 = true := qh (by omega) (by omega)
 rw [e1, e2]; rfl
theorem same_r (n : Nat) (a0 : Int) (a1 a2 : List Int) (a3 a4 a5 a6 a7 a8 a9 a10 a11 a12 a13 a14 a15 a16 a17 a18 a19 : Int) (b0 : Int) (b1 b2 : List Int) (b3 b4 b5 b6 b7 b8 b9 b10 b11 b12 b13 b14 b15 b16 b17 b18 b19 : Int) (h1 : a1.length < 100000) (h2 : a2.length < 100000) : F44 n a0 a1 a2 a3 a4 a5 a6 a7 a8 a9 a10 a11 a12 a13 a14 a15 a16 a17 a18 a19 b0 b1 b2 b3 b4 b5 b6 b7 b8 b9 b10 b11 b12 b13 b14 b15 b16 b17 b18 b19 = some (decide ((⟨a0, a1, a2, a3, a4, a5, a6, a7, a8, a9, a10, a11, a12, a13, a14, a15, a16, a17, a18, a19⟩ : VW) = ⟨b0, b1, b2, b3, b4, b5, b6, b7, b8, b9, b10, b11, b12, b13, b14, b15, b16, b17, b18, b19⟩)) := by
 unfold F44
 have hf := jn
 rw [ints_r a1 b1 (by omega) (by omega), ints_r a2 b2 (by omega) (by omega)]
 simp only [Option.bind_some, VW.mk.injEq, ieq]
 by_cases e0 : a0 = b0
 ·by_cases e1 : a1 = b1
  ·by_cases e2 : a2 = b2
   ·by_cases e3 : a3 = b3
    ·subst e0; subst e1; subst e2; subst e3
     simp only [decide_true, beq_self_eq_true, cond_true, true_and, Bool.and_true, Option.some.injEq, Bool.decide_and]
     rfl
    ·have : (a3 == b3) = false := beq_eq_false_iff_ne.2 e3
     rw [this]; simp [e0, e1, e2, e3]
   ·simp [e0, e1, e2]
  ·simp [e0, e1]
 ·have : (a0 == b0) = false := beq_eq_false_iff_ne.2 e0
  rw [this]; simp [e0]
end Go.Proofs.YthjhcmkgadfpmaaGreat
namespace Go.Proofs.YthjhcmkgadfpmaaGreat
open Go Go.RowKit
def jgu (id p x : Int) : Bool := isP x && (decide (x ≠ id) && (decide (p = -1) || cut p id x))
def ntf (id : Int) : Int → List Int → Int
 | p, [] => p
 | p, x :: r => ntf id (if jgu id p x then x else p) r
theorem jst {id p x : Int} (h : jgu id p x = true) : oth id x = true := by
 unfold jgu at h; unfold oth
 simp only [Bool.and_eq_true, decide_eq_true_eq] at h
 simp [h.1, h.2.1]
theorem jmx {id : Int} {b l : List Int} {p q f0 f1 f2 f3 f4 f5 f6 f7 f8 f9 f10 f11 f12 f13 f14 f15 : Int} (h : ql ⟨id, b, l, p, f0, f1, f2, f3, f4, f5, f6, f7, f8, f9, f10, f11, f12, f13, f14, f15⟩ = true) (hq : oth id q = true) : ql ⟨id, b, l, q, f0, f1, f2, f3, f4, f5, f6, f7, f8, f9, f10, f11, f12, f13, f14, f15⟩ = true := by
 unfold ql at h ⊢
 simp only [Bool.and_eq_true, VW.fg] at h ⊢
 exact ⟨h.1, h.2.1, h.2.2.1, hq, h.2.2.2.2⟩
theorem wbt (n : Nat) (a0 : Int) (a1 a2 : List Int) (a3 a4 a5 a6 a7 a8 a9 a10 a11 a12 a13 a14 a15 a16 a17 a18 a19 : Int) (x : Int) (h : a2.length ≤ 9223372036854775807) : F101 n a0 a1 a2 a3 a4 a5 a6 a7 a8 a9 a10 a11 a12 a13 a14 a15 a16 a17 a18 a19 x = some (ql ⟨a0, a1, a2, a3, a4, a5, a6, a7, a8, a9, a10, a11, a12, a13, a14, a15, a16, a17, a18, a19⟩ && jgu a0 a3 x) := by
 unfold F101 jgu
 have hf := jn
 rw [jfj (show 70000 < FUEL by omega) a0 a1 a2 a3 a4 a5 a6 a7 a8 a9 a10 a11 a12 a13 a14 a15 a16 a17 a18 a19 h]
 simp only [in_r, Option.bind_some, ju, ut, isP, ige, ilt, ge_iff_le]
 cases ql ⟨a0, a1, a2, a3, a4, a5, a6, a7, a8, a9, a10, a11, a12, a13, a14, a15, a16, a17, a18, a19⟩
 ·rfl
 ·simp only [cond_true, Bool.true_and]
  by_cases h0 : 0 ≤ x
  ·by_cases h00 : x < 65536
   ·by_cases h1 : x = a0
    ·simp [h0, h00, h1]
    ·by_cases h2 : a3 = -1 <;> simp [h0, h00, h1, h2]
   ·simp [h0, h00]
  ·simp [h0]
theorem jfy (id f0 f1 f2 f3 f4 f5 f6 f7 f8 f9 f10 f11 f12 f13 f14 f15 : Int) (b l : List Int) : ∀ (r p : List Int) (n : Nat) (pr : Int), r.length < n → (p ++ r).length < 1000 → zn n (p ++ r) (ofN (p ++ r).length) (ofN p.length) id pr f0 f1 f2 f3 f4 f5 f6 f7 f8 f9 f10 f11 f12 f13 f14 f15 b l = some ⟨id, ntf id pr r, f0, f1, f2, f3, f4, f5, f6, f7, f8, f9, f10, f11, f12, f13, f14, f15, b, l⟩
 | _, _, 0, _, h, _ => by omega
 | [], p, n + 1, pr, _, _ => by simp only [zn, List.append_nil, jy, cond_false]; rfl
 | x :: r, p, n + 1, pr, h, hb => by
  simp only [zn, qr, jq, jr, cond_true, wav, in_p, Option.bind_some]
  simp only [List.length_append, List.length_cons] at h hb
  rw [qa (x := x) (by omega)]
  have h1 := jfy id f0 f1 f2 f3 f4 f5 f6 f7 f8 f9 f10 f11 f12 f13 f14 f15 b l r (p ++ [x]) n pr (by omega) (by simp; omega)
  have h2 := jfy id f0 f1 f2 f3 f4 f5 f6 f7 f8 f9 f10 f11 f12 f13 f14 f15 b l r (p ++ [x]) n x (by omega) (by simp; omega)
  rw [← qb] at h1 h2
  rw [h1, h2, ntf]
  unfold jgu
  simp only [ju]
  cases isP x
  ·rfl
  ·by_cases e1 : x = id
   ·simp [e1]
   ·by_cases e2 : pr = -1
    ·simp [e1, e2]
    ·cases cut pr id x <;> simp [e1, e2]
theorem wam {n : Nat} (hn : 2000 < n) (a0 : Int) (a1 a2 : List Int) (a3 a4 a5 a6 a7 a8 a9 a10 a11 a12 a13 a14 a15 a16 a17 a18 a19 : Int) (l : List Int) (h1 : a1.length < 1000) (h2 : a2.length < 1000) (h3 : l.length < 1000) :
  F116 n a0 a1 a2 a3 a4 a5 a6 a7 a8 a9 a10 a11 a12 a13 a14 a15 a16 a17 a18 a19 l = some ⟨a0, if ql ⟨a0, a1, a2, a3, a4, a5, a6, a7, a8, a9, a10, a11, a12, a13, a14, a15, a16, a17, a18, a19⟩ then ntf a0 a3 l else a3, a4, a5, a6, a7, a8, a9, a10, a11, a12, a13, a14, a15, a16, a17, a18, a19, a1, a2⟩ := by
 unfold F116
 have hf := jn
 rw [own_p FUEL a0 a1 a2 a3 a4 a5 a6 a7 a8 a9 a10 a11 a12 a13 a14 a15 a16 a17 a18 a19 h1 h2, jfk (show 70000 < FUEL by omega)]
 simp only [Option.bind_some]
 cases ql ⟨a0, a1, a2, a3, a4, a5, a6, a7, a8, a9, a10, a11, a12, a13, a14, a15, a16, a17, a18, a19⟩
 ·obtain ⟨m, rfl⟩ : ∃ m, n = m + 1 := Nat.exists_eq_succ_of_ne_zero (by omega)
  rfl
 ·have := jfy a0 a4 a5 a6 a7 a8 a9 a10 a11 a12 a13 a14 a15 a16 a17 a18 a19 a1 a2 l [] n a3 (by omega) (by simpa using h3)
  simp only [Bool.not_true, cond_false, if_true]
  simpa [ofN] using this
theorem jfx (id f0 f1 f2 f3 f4 f5 f6 f7 f8 f9 f10 f11 f12 f13 f14 f15 : Int) (b l : List Int) (hl : l.length ≤ 9223372036854775807) : ∀ (r p : List Int) (n : Nat) (pr : Int), r.length < n → (p ++ r).length < 1000 →
  jhg n (p ++ r) (ofN p.length) id pr f0 f1 f2 f3 f4 f5 f6 f7 f8 f9 f10 f11 f12 f13 f14 f15 b l = some ⟨id, if ql ⟨id, b, l, pr, f0, f1, f2, f3, f4, f5, f6, f7, f8, f9, f10, f11, f12, f13, f14, f15⟩ then ntf id pr r else pr, f0, f1, f2, f3, f4, f5, f6, f7, f8, f9, f10, f11, f12, f13, f14, f15, b, l⟩
 | _, _, 0, _, h, _ => by omega
 | [], p, n + 1, pr, _, _ => by simp only [jhg, List.append_nil, jy, cond_false, ntf, ite_self]
 | x :: r, p, n + 1, pr, h, hb => by
  simp only [jhg, qr, jq, jr, cond_true]
  rw [wbt FUEL id b l pr f0 f1 f2 f3 f4 f5 f6 f7 f8 f9 f10 f11 f12 f13 f14 f15 x hl, Option.bind_some]
  simp only [List.length_append, List.length_cons] at h hb
  rw [qa (x := x) (by omega)]
  have h1 := jfx id f0 f1 f2 f3 f4 f5 f6 f7 f8 f9 f10 f11 f12 f13 f14 f15 b l hl r (p ++ [x]) n pr (by omega) (by simp; omega)
  have h2 := jfx id f0 f1 f2 f3 f4 f5 f6 f7 f8 f9 f10 f11 f12 f13 f14 f15 b l hl r (p ++ [x]) n x (by omega) (by simp; omega)
  rw [← qb] at h1 h2
  rw [h1, h2, ntf]
  cases hr : ql ⟨id, b, l, pr, f0, f1, f2, f3, f4, f5, f6, f7, f8, f9, f10, f11, f12, f13, f14, f15⟩
  ·simp
  ·cases hbt : jgu id pr x
   ·simp
   ·have := jmx hr (jst hbt)
    rw [this]; simp
theorem wal {n : Nat} (hn : 2000 < n) (a0 : Int) (a1 a2 : List Int) (a3 a4 a5 a6 a7 a8 a9 a10 a11 a12 a13 a14 a15 a16 a17 a18 a19 : Int) (l : List Int) (h1 : a1.length < 1000) (h2 : a2.length < 1000) (h3 : l.length < 1000) :
  F25 n a0 a1 a2 a3 a4 a5 a6 a7 a8 a9 a10 a11 a12 a13 a14 a15 a16 a17 a18 a19 l = some ⟨a0, if ql ⟨a0, a1, a2, a3, a4, a5, a6, a7, a8, a9, a10, a11, a12, a13, a14, a15, a16, a17, a18, a19⟩ then ntf a0 a3 l else a3, a4, a5, a6, a7, a8, a9, a10, a11, a12, a13, a14, a15, a16, a17, a18, a19, a1, a2⟩ := by
 unfold F25
 rw [own_r FUEL a0 a1 a2 a3 a4 a5 a6 a7 a8 a9 a10 a11 a12 a13 a14 a15 a16 a17 a18 a19 h1 h2]
 simp only [Option.bind_some]
 have := jfx a0 a4 a5 a6 a7 a8 a9 a10 a11 a12 a13 a14 a15 a16 a17 a18 a19 a1 a2 (by omega) l [] n a3 (by omega) (by simpa using h3)
 simpa [ofN] using this
end Go.Proofs.YthjhcmkgadfpmaaGreat
namespace Go.Proofs.YthjhcmkgadfpmaaGreat
open Go Go.RowKit
theorem fr_pos {id x : Int} (hi : isP id = true) (hx : isP x = true) : 0 < fr id x ↔ x ≠ id := by
 have := qt.1 hi; have := qt.1 hx; unfold fr; omega
theorem jui : ∀ (l : List Int) (d : Int), ris d l = true → ∀ x ∈ l, isP x = true ∧ d < x
 | [], _, _, x, hx => by simp at hx
 | y :: r, d, h, x, hx => by
  simp only [ris, Bool.and_eq_true, decide_eq_true_eq] at h
  rcases List.mem_cons.1 hx with rfl | hx
  ·exact ⟨h.1, h.2.1⟩
  ·have := jui r y h.2.2 x hx
   exact ⟨this.1, by omega⟩
theorem jrp {l : List Int} {id : Int} (h : vo l = true) : (∀ x ∈ l, isP x = true) ∧ ∃ x ∈ l, x ≠ id := by
 unfold vo at h
 simp only [Bool.and_eq_true, decide_eq_true_eq] at h
 obtain ⟨h1, _, h3⟩ := h
 refine ⟨fun x hx => (jui l _ h3 x hx).1, ?_⟩
 match l, h1, h3 with
 | x :: y :: r, _, h3 =>
  simp only [ris, Bool.and_eq_true, decide_eq_true_eq] at h3
  by_cases hx : x = id
  ·exact ⟨y, by simp, by omega⟩
  ·exact ⟨x, by simp, hx⟩
theorem juj {w : Int} : ∀ (l : List Int) (d : Int), rgt w d l = true → ∀ x ∈ l, isP x = true ∧ d < fr w x
 | [], _, _, x, hx => by simp at hx
 | y :: r, d, h, x, hx => by
  simp only [rgt, Bool.and_eq_true, decide_eq_true_eq] at h
  rcases List.mem_cons.1 hx with rfl | hx
  ·exact ⟨h.1, h.2.1⟩
  ·have := juj r _ h.2.2 x hx
   exact ⟨this.1, by omega⟩
theorem zb {v : VW} (h : ql v = true) : isP v.id = true ∧ vo v.base = true ∧ good v.id v.lst = true ∧ oth v.id v.pred = true ∧ ∀ x ∈ v.fg, oth v.id x = true := by
 unfold ql at h
 simp only [Bool.and_eq_true, List.all_eq_true] at h
 exact ⟨h.1, h.2.1, h.2.2.1, h.2.2.2.1, h.2.2.2.2⟩
theorem jvb {v : VW} (h : ql v = true) : ∀ x ∈ v.lst, isP x = true ∧ x ≠ v.id := by
 obtain ⟨h1, _, h3, _⟩ := zb h
 unfold good at h3
 simp only [Bool.and_eq_true] at h3
 intro x hx
 have := juj _ _ h3.1 x hx
 exact ⟨this.1, (fr_pos h1 this.1).1 this.2⟩
theorem fg_all {v : VW} (h : ql v = true) : ∀ x ∈ v.fg, (0 ≤ x ↔ x ≠ -1) ∧ (0 ≤ x → isP x = true ∧ x ≠ v.id) := by
 obtain ⟨h1, _, _, _, h5⟩ := zb h
 intro x hx
 have := h5 x hx
 unfold oth at this
 simp only [Bool.or_eq_true, Bool.and_eq_true, decide_eq_true_eq] at this
 rcases this with e | ⟨e1, e2⟩
 ·exact ⟨by omega, fun h => by omega⟩
 ·have := qt.1 e1
  exact ⟨by omega, fun _ => ⟨e1, e2⟩⟩
def anch (id : Int) : Int → List Int → Int
 | q, [] => q
 | q, x :: r => anch id (if x ≠ id then (if q < 0 then x else if fr id x < fr id q then x else q) else q) r
theorem jeg {id : Int} : ∀ (r : List Int) (q : Int), (∀ x ∈ r, 0 ≤ x) → (anch id q r = q ∨ (anch id q r ∈ r ∧ anch id q r ≠ id)) ∧ (∀ x ∈ r, x ≠ id → 0 ≤ anch id q r ∧ fr id (anch id q r) ≤ fr id x) ∧ (0 ≤ q → 0 ≤ anch id q r ∧ fr id (anch id q r) ≤ fr id q)
 | [], q, _ => ⟨.inl rfl, fun x hx => by simp at hx, fun h => ⟨h, Int.le_refl _⟩⟩
 | x :: r, q, hp => by
  rw [anch]
  have hx0 := hp x (by simp)
  have hr : ∀ y ∈ r, 0 ≤ y := fun y hy => hp y (by simp [hy])
  by_cases h1 : x ≠ id
  ·rw [if_pos h1]
   by_cases h2 : q < 0
   ·rw [if_pos h2]
    obtain ⟨b1, b2, b3⟩ := jeg (id := id) r x hr
    refine ⟨?_, fun y hy hn => ?_, fun h => by omega⟩
    ·rcases b1 with b1 | b1
     ·rw [b1]; exact .inr ⟨by simp, h1⟩
     ·exact .inr ⟨by simp [b1.1], b1.2⟩
    ·rcases List.mem_cons.1 hy with rfl | hy
     ·exact b3 hx0
     ·exact b2 y hy hn
   ·rw [if_neg h2]
    by_cases h3 : fr id x < fr id q
    ·rw [if_pos h3]
     obtain ⟨b1, b2, b3⟩ := jeg (id := id) r x hr
     refine ⟨?_, fun y hy hn => ?_, fun h => ?_⟩
     ·rcases b1 with b1 | b1
      ·rw [b1]; exact .inr ⟨by simp, h1⟩
      ·exact .inr ⟨by simp [b1.1], b1.2⟩
     ·rcases List.mem_cons.1 hy with rfl | hy
      ·exact b3 hx0
      ·exact b2 y hy hn
     ·have := b3 hx0
      exact ⟨this.1, by omega⟩
    ·rw [if_neg h3]
     obtain ⟨b1, b2, b3⟩ := jeg (id := id) r q hr
     refine ⟨b1.imp (fun h => h) fun h => ⟨by simp [h.1], h.2⟩, fun y hy hn => ?_, b3⟩
     rcases List.mem_cons.1 hy with rfl | hy
     ·have := b3 (by omega)
      exact ⟨this.1, by omega⟩
     ·exact b2 y hy hn
  ·rw [if_neg h1]
   obtain ⟨b1, b2, b3⟩ := jeg (id := id) r q hr
   refine ⟨b1.imp (fun h => h) fun h => ⟨by simp [h.1], h.2⟩, fun y hy hn => ?_, b3⟩
   rcases List.mem_cons.1 hy with rfl | hy
   ·exact absurd hn h1
   ·exact b2 y hy hn
theorem jrr (a0 : Int) (a1 a2 : List Int) (a3 a4 a5 a6 a7 a8 a9 a10 a11 a12 a13 a14 a15 a16 a17 a18 a19 : Int) : ∀ (r p : List Int) (n : Nat) (q : Int), r.length < n → (p ++ r).length < 1000 → jag n q (p ++ r) (ofN (p ++ r).length) (ofN p.length) a0 a1 a2 a3 a4 a5 a6 a7 a8 a9 a10 a11 a12 a13 a14 a15 a16 a17 a18 a19 = some (anch a0 q r)
 | _, _, 0, _, h, _ => by omega
 | [], p, n + 1, q, _, _ => by simp only [jag, List.append_nil, jy, cond_false]; rfl
 | x :: r, p, n + 1, q, h, hb => by
  simp only [List.length_cons] at h
  simp only [jag, qr, jq, jr, cond_true, jsk, Option.bind_some]
  simp only [List.length_append, List.length_cons] at hb
  rw [qa (x := x) (by omega)]
  have h1 := fun q => jrr a0 a1 a2 a3 a4 a5 a6 a7 a8 a9 a10 a11 a12 a13 a14 a15 a16 a17 a18 a19 r (p ++ [x]) n q (by omega) (by simp; omega)
  rw [← qb] at h1
  rw [h1, h1, ut, anch]
  simp only [ilt]
  by_cases e1 : x = a0
  ·simp [e1]
  ·by_cases e2 : q < 0
   ·simp [e1, e2]
   ·by_cases e3 : fr a0 x < fr a0 q <;> simp [e1, e2, e3]
theorem wbw {n : Nat} (hn : 2000 < n) (a0 : Int) (a1 a2 : List Int) (a3 a4 a5 a6 a7 a8 a9 a10 a11 a12 a13 a14 a15 a16 a17 a18 a19 : Int) (h : a1.length < 1000) : F197 n a0 a1 a2 a3 a4 a5 a6 a7 a8 a9 a10 a11 a12 a13 a14 a15 a16 a17 a18 a19 = some (anch a0 (-1) a1) := by
 unfold F197
 simpa [ofN] using jrr a0 a1 a2 a3 a4 a5 a6 a7 a8 a9 a10 a11 a12 a13 a14 a15 a16 a17 a18 a19 a1 [] n (-1) (by omega) (by simpa using h)
def ownr (k : Int) : Int → List Int → Int
 | q, [] => q
 | q, x :: r => ownr k (if fr k x < fr k q then pl x else q) r
theorem jnj {k : Int} : ∀ (r : List Int) (q : Int), (∀ x ∈ r, isP x = true) → (ownr k q r = q ∨ ownr k q r ∈ r) ∧ (∀ x ∈ r, fr k (ownr k q r) ≤ fr k x) ∧ fr k (ownr k q r) ≤ fr k q
 | [], q, _ => ⟨.inl rfl, fun x hx => by simp at hx, Int.le_refl _⟩
 | x :: r, q, hp => by
  have hx := jvt (hp x (by simp))
  have hr : ∀ y ∈ r, isP y = true := fun y hy => hp y (by simp [hy])
  rw [ownr, hx.1]
  by_cases h3 : fr k x < fr k q
  ·rw [if_pos h3]
   obtain ⟨b1, b2, b3⟩ := jnj (k := k) r x hr
   refine ⟨?_, fun y hy => ?_, by omega⟩
   ·rcases b1 with b1 | b1
    ·rw [b1]; exact .inr (by simp)
    ·exact .inr (by simp [b1])
   ·rcases List.mem_cons.1 hy with rfl | hy
    ·exact b3
    ·exact b2 y hy
  ·rw [if_neg h3]
   obtain ⟨b1, b2, b3⟩ := jnj (k := k) r q hr
   refine ⟨b1.imp (fun h => h) fun h => by simp [h], fun y hy => ?_, b3⟩
   rcases List.mem_cons.1 hy with rfl | hy
   ·omega
   ·exact b2 y hy
theorem jus (k : Int) : ∀ (r p : List Int) (n : Nat) (q : Int), r.length < n → (p ++ r).length < 1000 → jcn n (p ++ r) k q (ofN p.length) = some (ownr k q r, true)
 | _, _, 0, _, h, _ => by omega
 | [], p, n + 1, q, _, _ => by simp only [jcn, List.append_nil, jy, cond_false]; rfl
 | x :: r, p, n + 1, q, h, hb => by
  simp only [List.length_cons] at h
  simp only [jcn, qr, jq, jr, cond_true, wbd, jdw, Option.bind_some]
  simp only [List.length_append, List.length_cons] at hb
  rw [qa (x := x) (by omega)]
  have h1 := fun q => jus k r (p ++ [x]) n q (by omega) (by simp; omega)
  rw [← qb] at h1
  rw [h1, h1, ownr]
  simp only [ilt]
  by_cases e3 : fr k x < fr k q <;> simp [e3]
theorem owner_r {n : Nat} (hn : 2000 < n) (k x : Int) (r : List Int) (h : (x :: r).length < 1000) : F180 n (x :: r) k = some (ownr k (pl x) (x :: r), true) := by
 unfold F180
 have e1 : ieq (ofN (x :: r).length) 0 = false := by simp [ieq, ofN]; omega
 have e2 : inb 0 (x :: r).length = true := by simp [inb]
 have e3 : (x :: r).getD (Int.toNat 0) 0 = x := rfl
 rw [e1, e2, e3, jdw, cond_false, cond_true, Option.bind_some]
 simpa [ofN] using jus k (x :: r) [] n (pl x) (by omega) (by simpa using h)
theorem jpe {id : Int} {b : List Int} (hid : isP id = true) (hb : vo b = true) : ∃ x r, b = x :: r ∧ ownr (id + 1) (pl x) b = anch id (-1) b := by
 obtain ⟨hp, y, hy, hne⟩ := jrp (id := id) hb
 cases b with
 | nil => simp at hy
 | cons x r =>
  refine ⟨x, r, rfl, ?_⟩
  have hx := jvt (hp x (by simp))
  rw [hx.1]
  obtain ⟨a1, a2, a3⟩ := jnj (k := id + 1) (x :: r) x hp
  obtain ⟨b1, b2, b3⟩ := jeg (id := id) (x :: r) (-1) (fun z hz => (qt.1 (hp z hz)).1)
  have b4 := b2 y hy hne
  have ow : ownr (id + 1) x (x :: r) ∈ x :: r := by
   rcases a1 with h | h
   ·rw [h]; simp
   ·exact h
  generalize ownr (id + 1) x (x :: r) = w at *
  have am : anch id (-1) (x :: r) ∈ x :: r ∧ anch id (-1) (x :: r) ≠ id := by
   rcases b1 with h | h
   ·omega
   ·exact h
  generalize anch id (-1) (x :: r) = u at *
  have p1 := hp _ ow
  have p2 := hp _ am.1
  have c1 := a2 _ am.1
  have q1 := qt.1 hid
  have q2 := qt.1 p1
  have q3 := qt.1 p2
  have hw : w ≠ id := by
   intro e
   unfold fr at c1
   have := am.2
   omega
  have c2 := (b2 _ ow hw).2
  have hw2 := am.2
  unfold fr at c1 c2
  omega
def vb (v : VW) : Int := if ql v then (match v.lst with | x :: _ => x | [] => anch v.id (-1) v.base) else -1
theorem jwk {v : VW} (h : ql v = true) : isP (vb v) = true ∧ vb v ≠ v.id := by
 obtain ⟨h1, h2, _⟩ := zb h
 unfold vb
 rw [if_pos h]
 cases hl : v.lst with
 | cons x r => exact jvb h x (by rw [hl]; simp)
 | nil =>
  simp only
  obtain ⟨hp, y, hy, hne⟩ := jrp (id := v.id) h2
  obtain ⟨b1, b2, b3⟩ := jeg (id := v.id) v.base (-1) (fun z hz => (qt.1 (hp z hz)).1)
  have b4 := b2 y hy hne
  rcases b1 with h | h
  ·omega
  ·exact ⟨hp _ h.1, h.2⟩
theorem first_v (n : Nat) (a0 : Int) (a1 a2 : List Int) (a3 a4 a5 a6 a7 a8 a9 a10 a11 a12 a13 a14 a15 a16 a17 a18 a19 : Int) : F185 n a0 a1 a2 a3 a4 a5 a6 a7 a8 a9 a10 a11 a12 a13 a14 a15 a16 a17 a18 a19 = some (vb ⟨a0, a1, a2, a3, a4, a5, a6, a7, a8, a9, a10, a11, a12, a13, a14, a15, a16, a17, a18, a19⟩) := by
 unfold F185 vb
 have hf := jn
 rw [jfk (show 70000 < FUEL by omega), first_p (show 0 < FUEL by omega)]
 simp only [Option.bind_some]
 cases hr : ql ⟨a0, a1, a2, a3, a4, a5, a6, a7, a8, a9, a10, a11, a12, a13, a14, a15, a16, a17, a18, a19⟩
 ·rfl
 ·have hl := (jbm hr).1
  rw [wbw (show 2000 < FUEL by omega) a0 a1 a2 a3 a4 a5 a6 a7 a8 a9 a10 a11 a12 a13 a14 a15 a16 a17 a18 a19 (by simp only at hl; omega)]
  cases a2 <;> rfl
theorem wbv (n : Nat) (a0 : Int) (a1 a2 : List Int) (a3 a4 a5 a6 a7 a8 a9 a10 a11 a12 a13 a14 a15 a16 a17 a18 a19 : Int) (h : a2.length ≤ 9223372036854775807) : F154 n a0 a1 a2 a3 a4 a5 a6 a7 a8 a9 a10 a11 a12 a13 a14 a15 a16 a17 a18 a19 = some (if ql ⟨a0, a1, a2, a3, a4, a5, a6, a7, a8, a9, a10, a11, a12, a13, a14, a15, a16, a17, a18, a19⟩ then anch a0 (-1) a1 else -1) := by
 unfold F154
 have hf := jn
 rw [jfj (show 70000 < FUEL by omega) a0 a1 a2 a3 a4 a5 a6 a7 a8 a9 a10 a11 a12 a13 a14 a15 a16 a17 a18 a19 h, Option.bind_some]
 cases hr : ql ⟨a0, a1, a2, a3, a4, a5, a6, a7, a8, a9, a10, a11, a12, a13, a14, a15, a16, a17, a18, a19⟩
 ·rfl
 ·have hl : a1.length ≤ 4 := (jbm hr).1
  obtain ⟨h1, h2, _⟩ := zb hr
  have hid := qt.1 (show isP a0 = true from h1)
  obtain ⟨x, r, e, hs⟩ := jpe (show isP a0 = true from h1) (show vo a1 = true from h2)
  have e1 : iadd .i64 a0 1 = a0 + 1 := by simp only [iadd]; rw [qg (by omega) (by omega)]
  rw [e1, ← hs, e, owner_r (show 2000 < FUEL by omega) (a0 + 1) x r (by rw [← e]; omega)]
  rfl
theorem wbb (n : Nat) (a0 : Int) (a1 a2 : List Int) (a3 a4 a5 a6 a7 a8 a9 a10 a11 a12 a13 a14 a15 a16 a17 a18 a19 : Int) (h : a2.length ≤ 9223372036854775807) : F102 n a0 a1 a2 a3 a4 a5 a6 a7 a8 a9 a10 a11 a12 a13 a14 a15 a16 a17 a18 a19 = some (vb ⟨a0, a1, a2, a3, a4, a5, a6, a7, a8, a9, a10, a11, a12, a13, a14, a15, a16, a17, a18, a19⟩) := by
 unfold F102 vb
 have hf := jn
 rw [jfj (show 70000 < FUEL by omega) a0 a1 a2 a3 a4 a5 a6 a7 a8 a9 a10 a11 a12 a13 a14 a15 a16 a17 a18 a19 h, wbv FUEL a0 a1 a2 a3 a4 a5 a6 a7 a8 a9 a10 a11 a12 a13 a14 a15 a16 a17 a18 a19 h]
 simp only [Option.bind_some]
 cases hr : ql ⟨a0, a1, a2, a3, a4, a5, a6, a7, a8, a9, a10, a11, a12, a13, a14, a15, a16, a17, a18, a19⟩
 ·rfl
 ·cases a2 with
  | nil => rfl
  | cons x r =>
   have e1 : igt (ofN (x :: r).length) 0 = true := decide_eq_true (by simp only [ofN, List.length_cons]; omega)
   have e2 : inb 0 (x :: r).length = true := by simp [inb]
   rw [e1, e2]; rfl
theorem vgreat (n : Nat) (a0 : Int) (a1 a2 : List Int) (a3 a4 a5 a6 a7 a8 a9 a10 a11 a12 a13 a14 a15 a16 a17 a18 a19 : Int) : F32 n a0 a1 a2 a3 a4 a5 a6 a7 a8 a9 a10 a11 a12 a13 a14 a15 a16 a17 a18 a19 = some (decide (20 < a1.length) || decide (20 < a2.length)) := by
 unfold F32
 have e : ∀ l : List Int, igt (ofN l.length) 20 = decide (20 < l.length) := fun l => by
  unfold igt ofN; apply decide_eq_decide.2; omega
 rw [e, e]
 cases decide (20 < a1.length) <;> rfl
end Go.Proofs.YthjhcmkgadfpmaaGreat
namespace Go.Proofs.YthjhcmkgadfpmaaGreat
open Go Go.RowKit
def nxt (id k : Int) : Int → List Int → Int
 | p, [] => p
 | p, q :: r => nxt id k (if decide (0 ≤ q) && (cut id k q && decide (fr id p < fr id q)) then q else p) r
def jat (v : VW) (k : Int) (slow : Bool) : Int × Bool :=
 bif ql v then (bif upt v.id (vb v) k then (vb v, true) else bif slow then (vb v, false) else (nxt v.id k (vb v) (v.lst ++ v.fg), false)) else (-1, false)
theorem jra (id k : Int) (f0 f1 f2 f3 f4 f5 f6 f7 f8 f9 f10 f11 f12 f13 f14 f15 : Int) (hfg : ∀ x ∈ ([f0, f1, f2, f3, f4, f5, f6, f7, f8, f9, f10, f11, f12, f13, f14, f15] : List Int), (0 ≤ x ↔ x ≠ -1)) : ∀ (j i : Nat) (n : Nat) (p : Int), i + j = 16 → j < n →
  jai n f0 f1 f2 f3 f4 f5 f6 f7 f8 f9 f10 f11 f12 f13 f14 f15 (ofN i) p id k = some (nxt id k p (([f0, f1, f2, f3, f4, f5, f6, f7, f8, f9, f10, f11, f12, f13, f14, f15] : List Int).drop i), false)
 | _, _, 0, _, _, h => by omega
 | 0, i, n + 1, p, hk, _ => by
  have : i = 16 := by omega
  subst this
  have e : ilt (ofN 16) 16 = false := by decide
  simp only [jai, e, cond_false]; rfl
 | j + 1, i, n + 1, p, hk, hn => by
  obtain ⟨e1, e2, _⟩ := lt16 (show i < 16 by omega)
  have h1 := fun p => jra id k f0 f1 f2 f3 f4 f5 f6 f7 f8 f9 f10 f11 f12 f13 f14 f15 hfg j (i + 1) n p (by omega) (by omega)
  have hx := hfg (([f0, f1, f2, f3, f4, f5, f6, f7, f8, f9, f10, f11, f12, f13, f14, f15] : List Int).getD i 0) (by
   rw [List.getD_eq_getElem?_getD, List.getElem?_eq_getElem (by simp; omega)]
   exact List.getElem_mem _)
  simp only [jai, e1, e2, cond_true, in_p, jsk, Option.bind_some, jfw, jwp i (show i < 16 by omega), h1]
  rw [jgo (k := i) (by simp; omega), nxt, ut]
  generalize ([f0, f1, f2, f3, f4, f5, f6, f7, f8, f9, f10, f11, f12, f13, f14, f15] : List Int).getD i 0 = x at *
  simp only [igt, GT.gt]
  by_cases e3 : x = -1
  ·have : ¬ 0 ≤ x := by omega
   simp [e3]
  ·have : 0 ≤ x := hx.2 e3
   by_cases e4 : fr id p < fr id x
   ·cases cut id k x <;> simp [e3, e4, this]
   ·cases cut id k x <;> simp [e3, e4, this]
theorem jrb (id k : Int) (a0 : Int) (a1 a2 : List Int) (a3 a4 a5 a6 a7 a8 a9 a10 a11 a12 a13 a14 a15 a16 a17 a18 a19 : Int) (hfg : ∀ x ∈ ([a4, a5, a6, a7, a8, a9, a10, a11, a12, a13, a14, a15, a16, a17, a18, a19] : List Int), (0 ≤ x ↔ x ≠ -1)) : ∀ (r p : List Int) (n : Nat) (q : Int), (∀ x ∈ r, 0 ≤ x) → r.length + 20 < n → (p ++ r).length < 1000 →
  zm n (p ++ r) (ofN (p ++ r).length) (ofN p.length) a0 a1 a2 a3 a4 a5 a6 a7 a8 a9 a10 a11 a12 a13 a14 a15 a16 a17 a18 a19 q id k = some (nxt id k q (r ++ [a4, a5, a6, a7, a8, a9, a10, a11, a12, a13, a14, a15, a16, a17, a18, a19]), false)
 | _, _, 0, _, _, h, _ => by omega
 | [], p, n + 1, q, _, h, _ => by
  have h0 : (0 : Int) = ofN 0 := rfl
  simp only [zm, List.append_nil, jy, cond_false]
  simp only [List.length_nil] at h
  rw [h0, jra id k a4 a5 a6 a7 a8 a9 a10 a11 a12 a13 a14 a15 a16 a17 a18 a19 hfg 16 0 n q rfl (by omega)]; rfl
 | x :: r, p, n + 1, q, hr, h, hb => by
  simp only [List.length_cons] at h
  have h1 := fun q => jrb id k a0 a1 a2 a3 a4 a5 a6 a7 a8 a9 a10 a11 a12 a13 a14 a15 a16 a17 a18 a19 hfg r (p ++ [x]) n q (fun y hy => hr y (by simp [hy])) (by omega) (by rw [← qb]; exact hb)
  rw [← qb] at h1
  simp only [List.length_append, List.length_cons] at hb
  simp only [zm, qr, jq, jr, cond_true, in_p, jsk, Option.bind_some]
  rw [qa (x := x) (by omega), h1, h1, List.cons_append, nxt]
  have h0 : 0 ≤ x := hr x (by simp)
  simp only [igt, GT.gt]
  by_cases e4 : fr id q < fr id x
  ·cases cut id k x <;> simp [e4, h0]
  ·cases cut id k x <;> simp [e4, h0]
theorem hnext_p {n : Nat} (hn : 2000 < n) (a0 : Int) (a1 a2 : List Int) (a3 a4 a5 a6 a7 a8 a9 a10 a11 a12 a13 a14 a15 a16 a17 a18 a19 : Int) (k : Int) (s : Bool) : F159 n a0 a1 a2 a3 a4 a5 a6 a7 a8 a9 a10 a11 a12 a13 a14 a15 a16 a17 a18 a19 k s = some (jat ⟨a0, a1, a2, a3, a4, a5, a6, a7, a8, a9, a10, a11, a12, a13, a14, a15, a16, a17, a18, a19⟩ k s) := by
 unfold F159 jat
 have hf := jn
 rw [jfk (show 70000 < FUEL by omega), first_v]
 simp only [Option.bind_some, upto_p, in_p, jsk]
 cases hr : ql ⟨a0, a1, a2, a3, a4, a5, a6, a7, a8, a9, a10, a11, a12, a13, a14, a15, a16, a17, a18, a19⟩
 ·rfl
 ·simp only [Bool.not_true, cond_false, cond_true]
  cases upt a0 (vb ⟨a0, a1, a2, a3, a4, a5, a6, a7, a8, a9, a10, a11, a12, a13, a14, a15, a16, a17, a18, a19⟩) k
  ·simp only [cond_false]
   cases s
   ·have hl : a2.length ≤ 3 := (jbm hr).2
    have hc := jrb a0 k a0 a1 a2 a3 a4 a5 a6 a7 a8 a9 a10 a11 a12 a13 a14 a15 a16 a17 a18 a19 (fun x hx => (fg_all hr x hx).1) a2 [] n (vb ⟨a0, a1, a2, a3, a4, a5, a6, a7, a8, a9, a10, a11, a12, a13, a14, a15, a16, a17, a18, a19⟩) (fun x hx => (qt.1 (jvb hr x hx).1).1) (by omega) (by simp; omega)
    have e : igt (fr a0 (vb ⟨a0, a1, a2, a3, a4, a5, a6, a7, a8, a9, a10, a11, a12, a13, a14, a15, a16, a17, a18, a19⟩)) (fr a0 (vb ⟨a0, a1, a2, a3, a4, a5, a6, a7, a8, a9, a10, a11, a12, a13, a14, a15, a16, a17, a18, a19⟩)) = false := decide_eq_false (by omega)
    have h0 : (0 : Int) = ofN ([] : List Int).length := rfl
    simp only [List.nil_append] at hc
    rw [e, h0, hc]
    cases cut a0 k (vb ⟨a0, a1, a2, a3, a4, a5, a6, a7, a8, a9, a10, a11, a12, a13, a14, a15, a16, a17, a18, a19⟩) <;> rfl
   ·rfl
  ·rfl
theorem juh (id k : Int) (a0 : Int) (a1 a2 : List Int) (a3 a4 a5 a6 a7 a8 a9 a10 a11 a12 a13 a14 a15 a16 a17 a18 a19 : Int) (L : List Int) : ∀ (r p : List Int) (n : Nat) (q : Int), L = p ++ r → a0 = id → r.length < n → L.length < 1000 →
  jdm n k q (ofN p.length) a0 a1 a2 a3 a4 a5 a6 a7 a8 a9 a10 a11 a12 a13 a14 a15 a16 a17 a18 a19 L = some (nxt id k q r, false)
 | _, _, 0, _, _, _, h, _ => by omega
 | [], p, n + 1, q, hL, _, _, _ => by
  rw [List.append_nil] at hL
  subst hL
  simp only [jdm, jy, cond_false]; rfl
 | x :: r, p, n + 1, q, hL, hid, h, hb => by
  simp only [List.length_cons] at h
  have h1 := fun q => juh id k a0 a1 a2 a3 a4 a5 a6 a7 a8 a9 a10 a11 a12 a13 a14 a15 a16 a17 a18 a19 L r (p ++ [x]) n q (by rw [hL, qb]) hid (by omega) hb
  have e1 : ilt (ofN p.length) (ofN L.length) = true := by rw [hL]; exact qr
  have e2 : inb (ofN p.length) L.length = true := by rw [hL]; exact jq
  have e3 : nlt (ofN p.length).toNat L.length = true := by rw [hL]; exact juw
  have e5 : L.getD (ofN p.length).toNat 0 = x := by rw [hL]; exact jr
  have hlen : p.length < 1000 := by rw [hL] at hb; simp at hb; omega
  simp only [jdm, e1, e2, e3, e5, cond_true, in_r, wbd, Option.bind_some]
  rw [qa (x := x) (by omega), h1, h1, nxt, hid]
  simp only [igt, GT.gt, ige, ge_iff_le]
  by_cases h0 : 0 ≤ x
  ·by_cases e4 : fr id q < fr id x
   ·cases cut id k x <;> simp [e4, h0]
   ·cases cut id k x <;> simp [e4, h0]
  ·simp [h0]
theorem rnext_r {n : Nat} (hn : 2000 < n) (a0 : Int) (a1 a2 : List Int) (a3 a4 a5 a6 a7 a8 a9 a10 a11 a12 a13 a14 a15 a16 a17 a18 a19 : Int) (k : Int) (s : Bool) (h : a2.length ≤ 9223372036854775807) : F26 n a0 a1 a2 a3 a4 a5 a6 a7 a8 a9 a10 a11 a12 a13 a14 a15 a16 a17 a18 a19 k s = some (jat ⟨a0, a1, a2, a3, a4, a5, a6, a7, a8, a9, a10, a11, a12, a13, a14, a15, a16, a17, a18, a19⟩ k s) := by
 unfold F26 jat
 rw [wbb FUEL a0 a1 a2 a3 a4 a5 a6 a7 a8 a9 a10 a11 a12 a13 a14 a15 a16 a17 a18 a19 h]
 simp only [Option.bind_some, upto_r]
 cases hr : ql ⟨a0, a1, a2, a3, a4, a5, a6, a7, a8, a9, a10, a11, a12, a13, a14, a15, a16, a17, a18, a19⟩
 ·have : vb ⟨a0, a1, a2, a3, a4, a5, a6, a7, a8, a9, a10, a11, a12, a13, a14, a15, a16, a17, a18, a19⟩ = -1 := by unfold vb; rw [hr]; rfl
  rw [this]; rfl
 ·have hp := qt.1 (jwk hr).1
  rw [show ilt (vb ⟨a0, a1, a2, a3, a4, a5, a6, a7, a8, a9, a10, a11, a12, a13, a14, a15, a16, a17, a18, a19⟩) 0 = false from decide_eq_false (by omega)]
  simp only [cond_false, cond_true]
  cases upt a0 (vb ⟨a0, a1, a2, a3, a4, a5, a6, a7, a8, a9, a10, a11, a12, a13, a14, a15, a16, a17, a18, a19⟩) k
  ·simp only [cond_false]
   cases s
   ·have hl : a2.length ≤ 3 := (jbm hr).2
    have e1 : room (0 + a2.length) 8 = true := qh (by omega) (by omega)
    have e2 : room (([] ++ a2).length + ([a4, a5, a6, a7, a8, a9, a10, a11, a12, a13, a14, a15, a16, a17, a18, a19] : List Int).length) 8 = true := qh (by simp; omega) (by omega)
    have hc := juh a0 k a0 a1 a2 a3 a4 a5 a6 a7 a8 a9 a10 a11 a12 a13 a14 a15 a16 a17 a18 a19 (([] ++ a2) ++ [a4, a5, a6, a7, a8, a9, a10, a11, a12, a13, a14, a15, a16, a17, a18, a19]) (([] ++ a2) ++ [a4, a5, a6, a7, a8, a9, a10, a11, a12, a13, a14, a15, a16, a17, a18, a19]) [] n (vb ⟨a0, a1, a2, a3, a4, a5, a6, a7, a8, a9, a10, a11, a12, a13, a14, a15, a16, a17, a18, a19⟩) rfl rfl (by simp; omega) (by simp; omega)
    have h0 : (0 : Int) = ofN ([] : List Int).length := rfl
    rw [e1, e2, h0, hc]; rfl
   ·rfl
  ·rfl
end Go.Proofs.YthjhcmkgadfpmaaGreat
