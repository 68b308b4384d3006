/-
  What the functions compute, in plain words.
-/
import Derived.Test.YthjhcmkgadfpmaaGreatPlA
namespace Go.Proofs.YthjhcmkgadfpmaaGreat
open Go Go.RowKit
abbrev CLT := Int × Int × Int × Int × Int × Int × Bool × Bool × Int × Int × (List Int) × ByteArray × Int × Int × Bool × Int × Int × Int × Int × Int
abbrev MT := Int × Int × Int × Int × Int × Bool × Bool × Int × Int × (List Int) × ByteArray × Int × Int × Bool × Int
theorem lad6 (b y : Bool) : (bif !b then some false else some y) = some (b && y) := by cases b <;> rfl
theorem bcf (b y : Bool) : (bif b then y else false) = (b && y) := by cases b <;> rfl
theorem bct (b y : Bool) : (bif b then false else y) = (!b && y) := by cases b <;> rfl
def cm (x : CLT) : MW := ⟨x.2.1, x.2.2.1, x.2.2.2.1, x.2.2.2.2.1, x.2.2.2.2.2.1, x.2.2.2.2.2.2.1, x.2.2.2.2.2.2.2.1, x.2.2.2.2.2.2.2.2.1, x.2.2.2.2.2.2.2.2.2.1, x.2.2.2.2.2.2.2.2.2.2.1, x.2.2.2.2.2.2.2.2.2.2.2.1, x.2.2.2.2.2.2.2.2.2.2.2.2.1, x.2.2.2.2.2.2.2.2.2.2.2.2.2.1, x.2.2.2.2.2.2.2.2.2.2.2.2.2.2.1, x.2.2.2.2.2.2.2.2.2.2.2.2.2.2.2.1⟩
def mkC (x : CLT) : vc := ⟨x.1, x.2.1, x.2.2.1, x.2.2.2.1, x.2.2.2.2.1, x.2.2.2.2.2.1, x.2.2.2.2.2.2.1, x.2.2.2.2.2.2.2.1, x.2.2.2.2.2.2.2.2.1, x.2.2.2.2.2.2.2.2.2.1, x.2.2.2.2.2.2.2.2.2.2.2.1, x.2.2.2.2.2.2.2.2.2.2.2.2.1, x.2.2.2.2.2.2.2.2.2.2.2.2.2.1, x.2.2.2.2.2.2.2.2.2.2.2.2.2.2.1, x.2.2.2.2.2.2.2.2.2.2.2.2.2.2.2.1, x.2.2.2.2.2.2.2.2.2.2.2.2.2.2.2.2.1, x.2.2.2.2.2.2.2.2.2.2.2.2.2.2.2.2.2.1, x.2.2.2.2.2.2.2.2.2.2.2.2.2.2.2.2.2.2.1, x.2.2.2.2.2.2.2.2.2.2.2.2.2.2.2.2.2.2.2, x.2.2.2.2.2.2.2.2.2.2.1⟩
def cwhy (x : CLT) : Int := x.2.2.2.2.2.2.2.2.2.2.2.2.2.2.2.2.1
def jkd (x : CLT) : Int := x.2.2.2.2.2.2.2.2.2.2.2.2.2.2.2.2.2.2.1
def jaq (x : CLT) : Int := x.2.2.2.2.2.2.2.2.2.2.2.2.2.2.2.2.2.2.2
def isT (t : Int) : Bool := decide (0 ≤ t) && decide (t ≤ 1099511627776)
theorem isT_of (t : Int) : (bif ige t 0 then some (ile t 1099511627776) else some false) = some (isT t) := by rw [lad1]; rfl
theorem capc {m : Nat} (h : m < 1000) : (inn 0 && ile 0 (ofN m) && decide (ofN m * 176 ≤ 281474976710656) && decide (ofN m ≤ 9223372036854775807)) = true :=
 Bool.and_eq_true_iff.2 ⟨Bool.and_eq_true_iff.2 ⟨Bool.and_eq_true_iff.2 ⟨decide_eq_true (by decide), decide_eq_true (by simp only [ofN]; omega)⟩, decide_eq_true (by simp only [ofN]; omega)⟩, decide_eq_true (by simp only [ofN]; omega)⟩
def zp (l : List CLT) : Prop := ∀ x ∈ l, (cm x).l.length < 1000
theorem jaw {p r : List CLT} {x : CLT} (h : zp (p ++ x :: r)) : (cm x).l.length < 1000 := h x (by simp)
theorem wau (n : Nat) (t : Int) : F170 n t = some (isT t) := isT_of t
theorem tick_r (n : Nat) (t : Int) : F140 n t = some (isT t) := isT_of t
theorem ownc_p (n : Nat) (x : CLT) (h : (cm x).l.length < 1000) : F195 n x.1 x.2.1 x.2.2.1 x.2.2.2.1 x.2.2.2.2.1 x.2.2.2.2.2.1 x.2.2.2.2.2.2.1 x.2.2.2.2.2.2.2.1 x.2.2.2.2.2.2.2.2.1 x.2.2.2.2.2.2.2.2.2.1 x.2.2.2.2.2.2.2.2.2.2.1 x.2.2.2.2.2.2.2.2.2.2.2.1 x.2.2.2.2.2.2.2.2.2.2.2.2.1 x.2.2.2.2.2.2.2.2.2.2.2.2.2.1 x.2.2.2.2.2.2.2.2.2.2.2.2.2.2.1 x.2.2.2.2.2.2.2.2.2.2.2.2.2.2.2.1 x.2.2.2.2.2.2.2.2.2.2.2.2.2.2.2.2.1 x.2.2.2.2.2.2.2.2.2.2.2.2.2.2.2.2.2.1 x.2.2.2.2.2.2.2.2.2.2.2.2.2.2.2.2.2.2.1 x.2.2.2.2.2.2.2.2.2.2.2.2.2.2.2.2.2.2.2 = some (mkC x) := by
 unfold F195
 rw [jan FUEL x.2.1 x.2.2.1 x.2.2.2.1 x.2.2.2.2.1 x.2.2.2.2.2.1 x.2.2.2.2.2.2.1 x.2.2.2.2.2.2.2.1 x.2.2.2.2.2.2.2.2.1 x.2.2.2.2.2.2.2.2.2.1 x.2.2.2.2.2.2.2.2.2.2.1 x.2.2.2.2.2.2.2.2.2.2.2.1 x.2.2.2.2.2.2.2.2.2.2.2.2.1 x.2.2.2.2.2.2.2.2.2.2.2.2.2.1 x.2.2.2.2.2.2.2.2.2.2.2.2.2.2.1 x.2.2.2.2.2.2.2.2.2.2.2.2.2.2.2.1 h]; rfl
theorem cown_c (id many : Int) : ∀ (r p : List CLT) (n : Nat) (a : List CLT), r.length < n → (p ++ r).length < 1000 → a.length + r.length < 1000 → zp (p ++ r) → jil n (p ++ r) (ofN (p ++ r).length) (ofN p.length) id many a = some (id, many, a ++ r)
 | _, _, 0, _, h, _, _, _ => by omega
 | [], p, n + 1, a, _, _, _, _ => by simp only [jil, List.append_nil, jy, cond_false]
 | x :: r, p, n + 1, a, h, hb, ha, hs => by
  simp only [jil, qr, jq, jr, cond_true]
  simp only [List.length_append, List.length_cons] at h hb ha
  rw [ownc_p FUEL x (jaw hs)]
  simp only [Option.bind_some, mkC]
  rw [qh (by simp; omega) (by decide), cond_true, qa (x := x) (by omega)]
  have h1 := cown_c id many r (p ++ [x]) n (a ++ [x]) (by omega) (by simp; omega) (by simp; omega) (by rw [← qb]; exact hs)
  rw [← qb] at h1
  simpa using h1
theorem cown_p {n : Nat} (hn : 2000 < n) (id many : Int) (l : List CLT) (h : l.length < 1000) (hs : zp l) : F88 n id many l = some (id, many, l) := by
 unfold F88
 rw [capc h, cond_true]
 have := cown_c id many l [] n [] (by omega) (by simpa using h) (by simpa using h) (by simpa using hs)
 simpa [ofN] using this
def cqC (x y : CLT) : Bool := decide (x.1 = y.1) && (ud (cm x) (cm y) && (decide (cwhy x = cwhy y) && (decide (x.2.2.2.2.2.2.2.2.2.2.2.2.2.2.2.2.2.1 = y.2.2.2.2.2.2.2.2.2.2.2.2.2.2.2.2.2.1) && (decide (jkd x = jkd y) && decide (jaq x = jaq y)))))
theorem cqC_iff (x y : CLT) : cqC x y = true ↔ x = y := by
 obtain ⟨x0, x1, x2, x3, x4, x5, x6, x7, x8, x9, x10, x11, x12, x13, x14, x15, x16, x17, x18, x19⟩ := x
 obtain ⟨y0, y1, y2, y3, y4, y5, y6, y7, y8, y9, y10, y11, y12, y13, y14, y15, y16, y17, y18, y19⟩ := y
 unfold cqC
 simp only [Bool.and_eq_true, jks, cwhy, jkd, jaq, cm, MW.mk.injEq, Prod.mk.injEq, decide_eq_true_eq]
 grind
def leqC : List CLT → List CLT → Bool
 | [], [] => true
 | x :: r, y :: s => cqC x y && leqC r s
 | _, _ => false
theorem jjq : ∀ (l m : List CLT), leqC l m = true ↔ l = m
 | [], [] => by simp [leqC]
 | [], _ :: _ => by simp [leqC]
 | _ :: _, [] => by simp [leqC]
 | x :: r, y :: s => by rw [leqC, Bool.and_eq_true, cqC_iff, jjq r s, List.cons.injEq]
theorem jvl (l : List CLT) : leqC l l = true := (jjq l l).2 rfl
theorem jqs : ∀ {l m : List CLT}, l.length ≠ m.length → leqC l m = false := fun {l m} h => by
 cases h2 : leqC l m
 ·rfl
 ·exact absurd (congrArg List.length ((jjq l m).1 h2)) h
theorem call_rs (n : Nat) (x y : CLT) (h : (cm x).l.length < 1000) : F162 n x.1 x.2.1 x.2.2.1 x.2.2.2.1 x.2.2.2.2.1 x.2.2.2.2.2.1 x.2.2.2.2.2.2.1 x.2.2.2.2.2.2.2.1 x.2.2.2.2.2.2.2.2.1 x.2.2.2.2.2.2.2.2.2.1 x.2.2.2.2.2.2.2.2.2.2.1 x.2.2.2.2.2.2.2.2.2.2.2.1 x.2.2.2.2.2.2.2.2.2.2.2.2.1 x.2.2.2.2.2.2.2.2.2.2.2.2.2.1 x.2.2.2.2.2.2.2.2.2.2.2.2.2.2.1 x.2.2.2.2.2.2.2.2.2.2.2.2.2.2.2.1 x.2.2.2.2.2.2.2.2.2.2.2.2.2.2.2.2.1 x.2.2.2.2.2.2.2.2.2.2.2.2.2.2.2.2.2.1 x.2.2.2.2.2.2.2.2.2.2.2.2.2.2.2.2.2.2.1 x.2.2.2.2.2.2.2.2.2.2.2.2.2.2.2.2.2.2.2 y.1 y.2.1 y.2.2.1 y.2.2.2.1 y.2.2.2.2.1 y.2.2.2.2.2.1 y.2.2.2.2.2.2.1 y.2.2.2.2.2.2.2.1 y.2.2.2.2.2.2.2.2.1 y.2.2.2.2.2.2.2.2.2.1 y.2.2.2.2.2.2.2.2.2.2.1 y.2.2.2.2.2.2.2.2.2.2.2.1 y.2.2.2.2.2.2.2.2.2.2.2.2.1 y.2.2.2.2.2.2.2.2.2.2.2.2.2.1 y.2.2.2.2.2.2.2.2.2.2.2.2.2.2.1 y.2.2.2.2.2.2.2.2.2.2.2.2.2.2.2.1 y.2.2.2.2.2.2.2.2.2.2.2.2.2.2.2.2.1 y.2.2.2.2.2.2.2.2.2.2.2.2.2.2.2.2.2.1 y.2.2.2.2.2.2.2.2.2.2.2.2.2.2.2.2.2.2.1 y.2.2.2.2.2.2.2.2.2.2.2.2.2.2.2.2.2.2.2 = some (cqC x y) := by
 have hf := jn
 unfold F162 cqC
 have hs : F14 FUEL x.2.1 x.2.2.1 x.2.2.2.1 x.2.2.2.2.1 x.2.2.2.2.2.1 x.2.2.2.2.2.2.1 x.2.2.2.2.2.2.2.1 x.2.2.2.2.2.2.2.2.1 x.2.2.2.2.2.2.2.2.2.1 x.2.2.2.2.2.2.2.2.2.2.1 x.2.2.2.2.2.2.2.2.2.2.2.1 x.2.2.2.2.2.2.2.2.2.2.2.2.1 x.2.2.2.2.2.2.2.2.2.2.2.2.2.1 x.2.2.2.2.2.2.2.2.2.2.2.2.2.2.1 x.2.2.2.2.2.2.2.2.2.2.2.2.2.2.2.1 y.2.1 y.2.2.1 y.2.2.2.1 y.2.2.2.2.1 y.2.2.2.2.2.1 y.2.2.2.2.2.2.1 y.2.2.2.2.2.2.2.1 y.2.2.2.2.2.2.2.2.1 y.2.2.2.2.2.2.2.2.2.1 y.2.2.2.2.2.2.2.2.2.2.1 y.2.2.2.2.2.2.2.2.2.2.2.1 y.2.2.2.2.2.2.2.2.2.2.2.2.1 y.2.2.2.2.2.2.2.2.2.2.2.2.2.1 y.2.2.2.2.2.2.2.2.2.2.2.2.2.2.1 y.2.2.2.2.2.2.2.2.2.2.2.2.2.2.2.1 = some (ud (cm x) (cm y)) := vy (show (cm x).l.length < FUEL by omega) (show (cm x).l.length ≤ 9223372036854775807 by omega)
 rw [hs]
 simp only [Option.bind_some, ju, lad5, bcf]
 rfl
theorem wbo (r : List CLT) : ∀ (s p q : List CLT) (n : Nat), r.length < n → p.length = q.length → r.length = s.length → (p ++ r).length < 1000 → zp (p ++ r) → jek n (p ++ r) (q ++ s) (ofN p.length) = some (leqC r s) := by
 induction r with
 | nil =>
  intro s p q n h hp hs hb hsh
  obtain ⟨n, rfl⟩ : ∃ m, n = m + 1 := ⟨n - 1, by omega⟩
  cases s with
  | nil => simp only [jek, List.append_nil, jy, cond_false]; rfl
  | cons y s => simp at hs
 | cons x r ih =>
  intro s p q n h hp hs hb hsh
  obtain ⟨n, rfl⟩ : ∃ m, n = m + 1 := ⟨n - 1, by omega⟩
  cases s with
  | nil => simp at hs
  | cons y s =>
   have e1 : inb (ofN p.length) (q ++ y :: s).length = true := by rw [hp]; exact jq
   have e2 : ∀ d, (q ++ y :: s).getD (ofN p.length).toNat d = y := fun d => by rw [hp]; exact jr
   simp only [jek, qr, jq, jr, cond_true, e1, e2]
   simp only [List.length_append, List.length_cons] at h hb hs
   rw [call_rs FUEL x y (jaw hsh), Option.bind_some, qa (x := x) (by omega)]
   have h1 := ih s (p ++ [x]) (q ++ [y]) n (by omega) (by simp [hp]) (by omega) (by simp; omega) (by rw [← qb]; exact hsh)
   rw [← qb, ← qb] at h1
   rw [h1, leqC, lad6]
theorem wbn {n : Nat} (hn : 2000 < n) (l m : List CLT) (h : l.length < 1000) (hs : zp l) : F126 n l m = some (leqC l m) := by
 unfold F126
 by_cases hl : l.length = m.length
 ·have e : ine (ofN l.length) (ofN m.length) = false := by simp [ine, ofN, hl]
  rw [e, cond_false]
  exact wbo l m [] [] n (by omega) rfl hl (by simpa using h) (by simpa using hs)
 ·have e : ine (ofN l.length) (ofN m.length) = true := by simp [ine, ofN]; omega
  rw [e, cond_true, jqs hl]
theorem csame_r (n : Nat) (id many : Int) (l : List CLT) (id' many' : Int) (l' : List CLT) (h : l.length < 1000) (hs : zp l) : F45 n id many l id' many' l' = some (decide (id = id') && (decide (many = many') && leqC l l')) := by
 have hf := jn
 unfold F45
 rw [wbn (by omega) l l' h hs]
 simp only [Option.bind_some, ju]
 cases decide (id = id')
 ·rfl
 ·cases decide (many = many') <;> rfl
def jhm (id many : Int) (x : CLT) : Bool := qx (cm x) && (askB (cm x).k && (decide ((cm x).f = id) && (decide (x.1 = (cm x).c) && (decide (x.1 ≤ id * 1048576 + many) && (decide (1 ≤ jaq x) && (decide (jaq x ≤ 3) && isT (jkd x)))))))
def rcB (id many : Int) : Int → List CLT → Bool
 | _, [] => true
 | p, x :: r => jhm id many x && (decide (p < x.1) && rcB id many x.1 r)
def uq (id many : Int) (l : List CLT) : Bool := isP id && (decide (0 ≤ many) && (decide (many ≤ 1048576) && (decide (l.length ≤ 16) && rcB id many (id * 1048576) l)))
theorem jfv {m : MW} (h : qx m = true) (hk : askB m.k = true) : jmh m.f m.c = true := by
 unfold qx at h
 simp only [Bool.and_eq_true, jes, hk, if_true] at h
 exact h.2.2.2.2.1
theorem jkh {id many : Int} {x : CLT} (h : jhm id many x = true) : id * 1048576 < x.1 ∧ x.1 ≤ id * 1048576 + many := by
 unfold jhm at h
 simp only [Bool.and_eq_true, decide_eq_true_eq] at h
 obtain ⟨h1, h2, h3, h4, h5, _⟩ := h
 have := jfv h1 h2
 unfold jmh at this
 simp only [Bool.and_eq_true, decide_eq_true_eq] at this
 rw [h3, ← h4] at this
 exact ⟨this.1, h5⟩
theorem jvr (n : Nat) {id many : Int} (hi : isP id = true) (hm : 0 ≤ many ∧ many ≤ 1048576) (l : List CLT) (x : CLT) (h : (cm x).l.length < 1000) : F132 n id many l x.1 x.2.1 x.2.2.1 x.2.2.2.1 x.2.2.2.2.1 x.2.2.2.2.2.1 x.2.2.2.2.2.2.1 x.2.2.2.2.2.2.2.1 x.2.2.2.2.2.2.2.2.1 x.2.2.2.2.2.2.2.2.2.1 x.2.2.2.2.2.2.2.2.2.2.1 x.2.2.2.2.2.2.2.2.2.2.2.1 x.2.2.2.2.2.2.2.2.2.2.2.2.1 x.2.2.2.2.2.2.2.2.2.2.2.2.2.1 x.2.2.2.2.2.2.2.2.2.2.2.2.2.2.1 x.2.2.2.2.2.2.2.2.2.2.2.2.2.2.2.1 x.2.2.2.2.2.2.2.2.2.2.2.2.2.2.2.2.1 x.2.2.2.2.2.2.2.2.2.2.2.2.2.2.2.2.2.1 x.2.2.2.2.2.2.2.2.2.2.2.2.2.2.2.2.2.2.1 x.2.2.2.2.2.2.2.2.2.2.2.2.2.2.2.2.2.2.2 = some (jhm id many x) := by
 have hf := jn
 have hP := qt.1 hi
 unfold F132
 rw [call_p (by omega)]
 have e0 : (jso id 1).2 = 0 := by unfold jso; rw [hi]; rfl
 have e1 : (jso id 1).1 = id * 1048576 + 1 := by unfold jso; rw [hi]; rfl
 have e2 : iadd .i64 (id * 1048576 + 1) many = id * 1048576 + 1 + many := by simp only [iadd]; rw [qg (by omega) (by omega)]
 have hr : F72 FUEL x.2.1 x.2.2.1 x.2.2.2.1 x.2.2.2.2.1 x.2.2.2.2.2.1 x.2.2.2.2.2.2.1 x.2.2.2.2.2.2.2.1 x.2.2.2.2.2.2.2.2.1 x.2.2.2.2.2.2.2.2.2.1 x.2.2.2.2.2.2.2.2.2.2.1 x.2.2.2.2.2.2.2.2.2.2.2.1 x.2.2.2.2.2.2.2.2.2.2.2.2.1 x.2.2.2.2.2.2.2.2.2.2.2.2.2.1 x.2.2.2.2.2.2.2.2.2.2.2.2.2.2.1 x.2.2.2.2.2.2.2.2.2.2.2.2.2.2.2.1 = some (qx (cm x)) := jdb (by omega) x.2.1 x.2.2.1 x.2.2.2.1 x.2.2.2.2.1 x.2.2.2.2.2.1 x.2.2.2.2.2.2.1 x.2.2.2.2.2.2.2.1 x.2.2.2.2.2.2.2.2.1 x.2.2.2.2.2.2.2.2.2.1 x.2.2.2.2.2.2.2.2.2.2.1 x.2.2.2.2.2.2.2.2.2.2.2.1 x.2.2.2.2.2.2.2.2.2.2.2.2.1 x.2.2.2.2.2.2.2.2.2.2.2.2.2.1 x.2.2.2.2.2.2.2.2.2.2.2.2.2.2.1 x.2.2.2.2.2.2.2.2.2.2.2.2.2.2.2.1 h
 have ha : F71 FUEL x.2.1 x.2.2.1 x.2.2.2.1 x.2.2.2.2.1 x.2.2.2.2.2.1 x.2.2.2.2.2.2.1 x.2.2.2.2.2.2.2.1 x.2.2.2.2.2.2.2.2.1 x.2.2.2.2.2.2.2.2.2.1 x.2.2.2.2.2.2.2.2.2.2.1 x.2.2.2.2.2.2.2.2.2.2.2.1 x.2.2.2.2.2.2.2.2.2.2.2.2.1 x.2.2.2.2.2.2.2.2.2.2.2.2.2.1 x.2.2.2.2.2.2.2.2.2.2.2.2.2.2.1 x.2.2.2.2.2.2.2.2.2.2.2.2.2.2.2.1 = some (askB (cm x).k) := zt FUEL x.2.1 x.2.2.1 x.2.2.2.1 x.2.2.2.2.1 x.2.2.2.2.2.1 x.2.2.2.2.2.2.1 x.2.2.2.2.2.2.2.1 x.2.2.2.2.2.2.2.2.1 x.2.2.2.2.2.2.2.2.2.1 x.2.2.2.2.2.2.2.2.2.2.1 x.2.2.2.2.2.2.2.2.2.2.2.1 x.2.2.2.2.2.2.2.2.2.2.2.2.1 x.2.2.2.2.2.2.2.2.2.2.2.2.2.1 x.2.2.2.2.2.2.2.2.2.2.2.2.2.2.1 x.2.2.2.2.2.2.2.2.2.2.2.2.2.2.2.1
 rw [hr, ha, wau]
 simp only [Option.bind_some, e0, e1, e2]
 have e3 : ine 0 0 = false := rfl
 rw [e3, cond_false]
 simp only [ju, lad5, bcf, bct]
 congr 1
 unfold jhm ilt ige ile
 rw [Bool.eq_iff_iff]
 simp only [Bool.and_eq_true, Bool.not_eq_true', decide_eq_false_iff_not, decide_eq_true_eq]
 constructor
 ·rintro ⟨a1, a2, a3, a4, a5, a6, a7, a8, a9⟩
  exact ⟨a6, a5, a4, a3.symm, by omega, a7, a8, a9⟩
 ·rintro ⟨a1, a2, a3, a4, a5, a6, a7, a8⟩
  have := jfv a1 a2
  unfold jmh at this
  simp only [Bool.and_eq_true, decide_eq_true_eq] at this
  rw [a3, ← a4] at this
  exact ⟨by omega, by omega, a4.symm, a3, a2, a1, a6, a7, a8⟩
end Go.Proofs.YthjhcmkgadfpmaaGreat
namespace Go.Proofs.YthjhcmkgadfpmaaGreat
open Go Go.RowKit
theorem jnb {id many : Int} : ∀ {l : List CLT} {p : Int}, rcB id many p l = true ↔ (∀ x ∈ l, jhm id many x = true ∧ p < x.1) ∧ l.Pairwise (fun a b => a.1 < b.1)
 | [], _ => by simp [rcB]
 | x :: r, p => by
  rw [rcB, Bool.and_eq_true, Bool.and_eq_true, jnb (l := r) (p := x.1), List.pairwise_cons, decide_eq_true_eq]
  constructor
  ·rintro ⟨h1, h2, h3, h4⟩
   refine ⟨fun y hy => ?_, fun y hy => (h3 y hy).2, h4⟩
   rcases List.mem_cons.1 hy with rfl | hy
   ·exact ⟨h1, h2⟩
   ·have := h3 y hy
    exact ⟨this.1, by omega⟩
  ·rintro ⟨h1, h2, h3⟩
   exact ⟨(h1 x (by simp)).1, (h1 x (by simp)).2, fun y hy => ⟨(h1 y (by simp [hy])).1, h2 y hy⟩, h3⟩
theorem rcB_lo {id many : Int} (hi : 0 ≤ id) (l : List CLT) : rcB id many 0 l = rcB id many (id * 1048576) l := by
 rw [Bool.eq_iff_iff, jnb, jnb]
 constructor
 ·rintro ⟨h1, h2⟩
  exact ⟨fun x hx => ⟨(h1 x hx).1, (jkh (h1 x hx).1).1⟩, h2⟩
 ·rintro ⟨h1, h2⟩
  exact ⟨fun x hx => ⟨(h1 x hx).1, by have := jkh (h1 x hx).1; omega⟩, h2⟩
theorem jri {n : Nat} (h : 0 < n) : jdj n = some false := by
 obtain ⟨m, rfl⟩ : ∃ m, n = m + 1 := ⟨n - 1, by omega⟩
 rfl
theorem jrh {id many : Int} (hi : isP id = true) (hm : 0 ≤ many ∧ many ≤ 1048576) (L : List CLT) : ∀ (r p : List CLT) (n : Nat) (last : Int), r.length + 1 < n → (p ++ r).length < 1000 → zp (p ++ r) → jit n last (p ++ r) (ofN (p ++ r).length) (ofN p.length) id many L = some (rcB id many last r)
 | _, _, 0, _, h, _, _ => by omega
 | [], p, n + 1, last, _, _, _ => by simp only [jit, List.append_nil, jy, cond_false, rcB]
 | x :: r, p, n + 1, last, h, hb, hs => by
  simp only [jit, qr, jq, jr, cond_true]
  simp only [List.length_append, List.length_cons] at h hb
  rw [jri (by omega), jvr FUEL hi hm L x (jaw hs), Option.bind_some, qa (x := x) (by omega)]
  have h1 := jrh hi hm L r (p ++ [x]) n x.1 (by omega) (by simp; omega) (by rw [← qb]; exact hs)
  rw [← qb] at h1
  rw [h1, lad6, lad2, rcB]
  congr 1
  unfold ile
  rw [Bool.eq_iff_iff]
  simp only [Bool.and_eq_true, Bool.not_eq_true', decide_eq_false_iff_not, decide_eq_true_eq]
  constructor
  ·rintro ⟨a, b, c⟩; exact ⟨b, by omega, c⟩
  ·rintro ⟨a, b, c⟩; exact ⟨by omega, a, c⟩
theorem wbl {n : Nat} (hn : 2000 < n) (id many : Int) (l : List CLT) (hs : zp l) : F55 n id many l = some (uq id many l) := by
 unfold F55
 rw [jri (by omega)]
 by_cases h1 : isP id = true
 case neg =>
  have : uq id many l = false := by unfold uq; simp [h1]
  rw [this]
  rw [qt] at h1
  by_cases h2 : id < 0
  ·rw [show ilt id 0 = true from decide_eq_true h2, cond_true]
  ·rw [show ilt id 0 = false from decide_eq_false h2, show ige id 65536 = true from decide_eq_true (by omega), cond_false, cond_true]
 have hP := qt.1 h1
 rw [show ilt id 0 = false from decide_eq_false (by omega), show ige id 65536 = false from decide_eq_false (by omega), cond_false, cond_false]
 by_cases h2 : many < 0
 ·have : uq id many l = false := by unfold uq; simp [show ¬ 0 ≤ many by omega]
  rw [this, show ilt many 0 = true from decide_eq_true h2, cond_true]
 rw [show ilt many 0 = false from decide_eq_false h2, cond_false]
 by_cases h3 : many > 1048576
 ·have : uq id many l = false := by unfold uq; simp [show ¬ many ≤ 1048576 by omega]
  rw [this, show igt many 1048576 = true from decide_eq_true h3, cond_true]
 rw [show igt many 1048576 = false from decide_eq_false h3, cond_false]
 by_cases h4 : l.length ≤ 16
 case neg =>
  have : uq id many l = false := by unfold uq; simp [h4]
  rw [this, show igt (ofN l.length) 16 = true from decide_eq_true (by simp only [ofN]; omega), cond_true]
 rw [show igt (ofN l.length) 16 = false from decide_eq_false (by simp only [ofN]; omega), cond_false]
 have := jrh (many := many) h1 (by omega) l l [] n 0 (by omega) (by simp; omega) (by simpa using hs)
 have e : uq id many l = rcB id many 0 l := by
  rw [rcB_lo hP.1]; unfold uq
  simp [h1, h4, show 0 ≤ many by omega, show many ≤ 1048576 by omega]
 rw [e]
 simpa [ofN] using this
def prvC (id : Int) (p : List CLT) : Int := (p.getLast?.map (·.1)).getD (id * 1048576)
theorem jnf (id : Int) (p : List CLT) (x : CLT) : prvC id (p ++ [x]) = x.1 := by simp [prvC]
theorem jlx {id many : Int} (hi : isP id = true) (hm : 0 ≤ many ∧ many ≤ 1048576) : ∀ (r p : List CLT) (n : Nat), r.length + 1 < n → (p ++ r).length < 1000 → (∀ x ∈ r, (cm x).l.length ≤ 9223372036854775807) → jha n (ofN p.length) id many (p ++ r) = some (rcB id many (prvC id p) r)
 | _, _, 0, h, _, _ => by omega
 | [], p, n + 1, _, _, _ => by simp only [jha, List.append_nil, jy, cond_false, rcB]
 | x :: r, p, n + 1, h, hb, hs => by
  have hP := qt.1 hi
  simp only [jha, qr, jq, jr, cond_true]
  simp only [List.length_append, List.length_cons] at h hb
  have hx := hs x (by simp)
  have hr : F21 FUEL x.2.1 x.2.2.1 x.2.2.2.1 x.2.2.2.2.1 x.2.2.2.2.2.1 x.2.2.2.2.2.2.1 x.2.2.2.2.2.2.2.1 x.2.2.2.2.2.2.2.2.1 x.2.2.2.2.2.2.2.2.2.1 x.2.2.2.2.2.2.2.2.2.2.1 x.2.2.2.2.2.2.2.2.2.2.2.1 x.2.2.2.2.2.2.2.2.2.2.2.2.1 x.2.2.2.2.2.2.2.2.2.2.2.2.2.1 x.2.2.2.2.2.2.2.2.2.2.2.2.2.2.1 x.2.2.2.2.2.2.2.2.2.2.2.2.2.2.2.1 = some (qx (cm x)) := juy FUEL x.2.1 x.2.2.1 x.2.2.2.1 x.2.2.2.2.1 x.2.2.2.2.2.1 x.2.2.2.2.2.2.1 x.2.2.2.2.2.2.2.1 x.2.2.2.2.2.2.2.2.1 x.2.2.2.2.2.2.2.2.2.1 x.2.2.2.2.2.2.2.2.2.2.1 x.2.2.2.2.2.2.2.2.2.2.2.1 x.2.2.2.2.2.2.2.2.2.2.2.2.1 x.2.2.2.2.2.2.2.2.2.2.2.2.2.1 x.2.2.2.2.2.2.2.2.2.2.2.2.2.2.1 x.2.2.2.2.2.2.2.2.2.2.2.2.2.2.2.1 hx
  have ha : F22 FUEL x.2.1 x.2.2.1 x.2.2.2.1 x.2.2.2.2.1 x.2.2.2.2.2.1 x.2.2.2.2.2.2.1 x.2.2.2.2.2.2.2.1 x.2.2.2.2.2.2.2.2.1 x.2.2.2.2.2.2.2.2.2.1 x.2.2.2.2.2.2.2.2.2.2.1 x.2.2.2.2.2.2.2.2.2.2.2.1 x.2.2.2.2.2.2.2.2.2.2.2.2.1 x.2.2.2.2.2.2.2.2.2.2.2.2.2.1 x.2.2.2.2.2.2.2.2.2.2.2.2.2.2.1 x.2.2.2.2.2.2.2.2.2.2.2.2.2.2.2.1 = some (askB (cm x).k) := jbb FUEL x.2.1 x.2.2.1 x.2.2.2.1 x.2.2.2.2.1 x.2.2.2.2.2.1 x.2.2.2.2.2.2.1 x.2.2.2.2.2.2.2.1 x.2.2.2.2.2.2.2.2.1 x.2.2.2.2.2.2.2.2.2.1 x.2.2.2.2.2.2.2.2.2.2.1 x.2.2.2.2.2.2.2.2.2.2.2.1 x.2.2.2.2.2.2.2.2.2.2.2.2.1 x.2.2.2.2.2.2.2.2.2.2.2.2.2.1 x.2.2.2.2.2.2.2.2.2.2.2.2.2.2.1 x.2.2.2.2.2.2.2.2.2.2.2.2.2.2.2.1
  have e1 : iadd .i64 (imul .i64 id 1048576) many = id * 1048576 + many := by
   simp only [iadd, imul]
   rw [qg (n := id * 1048576) (by omega) (by omega), qg (by omega) (by omega)]
  rw [hr, ha, tick_r, e1, qa (x := x) (by omega)]
  have h1 := jlx hi hm r (p ++ [x]) n (by omega) (by simp; omega) (fun y hy => hs y (by simp [hy]))
  rw [← qb, jnf] at h1
  rw [h1]
  simp only [Option.bind_some, ut]
  have key : ∀ (B : Bool), (prvC id p < x.1 → B = true) → (B = true → prvC id p < x.1 ∨ ¬ jhm id many x = true) → (qx (cm x) && (askB (cm x).k && (decide ((cm x).f = id) && (decide (x.1 = (cm x).c) && (!igt x.1 (id * 1048576 + many) && (B && (!ilt (jaq x) 1 && (!igt (jaq x) 3 && (isT (jkd x) && rcB id many x.1 r))))))))) = rcB id many (prvC id p) (x :: r) := by
   intro c h0 hc
   unfold igt ilt
   rw [rcB, Bool.eq_iff_iff]
   have hcc : jhm id many x = true ↔ qx (cm x) = true ∧ askB (cm x).k = true ∧ (cm x).f = id ∧ x.1 = (cm x).c ∧ x.1 ≤ id * 1048576 + many ∧ 1 ≤ jaq x ∧ jaq x ≤ 3 ∧ isT (jkd x) = true := by
    unfold jhm; simp only [Bool.and_eq_true, decide_eq_true_eq]
   simp only [Bool.and_eq_true, Bool.not_eq_true', decide_eq_false_iff_not, decide_eq_true_eq]
   rw [hcc]
   constructor
   ·rintro ⟨a1, a2, a3, a4, a5, a6, a7, a8, a9, a10⟩
    refine ⟨⟨a1, a2, a3, a4, by omega, by omega, by omega, a9⟩, ?_, a10⟩
    rcases hc a6 with a6 | a6
    ·exact a6
    ·exact absurd (hcc.2 ⟨a1, a2, a3, a4, by omega, by omega, by omega, a9⟩) a6
   ·rintro ⟨⟨a1, a2, a3, a4, a5, a6, a7, a8⟩, a9, a10⟩
    exact ⟨a1, a2, a3, a4, by omega, h0 a9, by omega, by omega, a8, a10⟩
  rcases List.eq_nil_or_concat p with rfl | ⟨q, y, rfl⟩
  ·have e2 : igt (ofN ([] : List CLT).length) 0 = false := by simp [igt, ofN]
   rw [e2, cond_false]
   have := key true (fun _ => rfl) (fun _ => by
    by_cases hc : jhm id many x = true
    ·exact Or.inl (by have := jkh hc; simp [prvC]; omega)
    ·exact Or.inr hc)
   rw [← this]
   simp only [lad2, Bool.not_not, Bool.true_and, jkd, jaq, cm]
   rfl
  ·simp only [List.concat_eq_append] at *
   have e2 : igt (ofN (q ++ [y]).length) 0 = true := decide_eq_true (by simp [ofN])
   simp only [List.length_append, List.length_cons, List.length_nil] at hb
   have e3 : inb (ofN q.length) (q ++ [y] ++ x :: r).length = true := decide_eq_true (by simp [ofN]; omega)
   have e4 : ∀ d, (q ++ [y] ++ x :: r).getD (ofN q.length).toNat d = y := fun d => by simp [ofN]
   rw [e2, cond_true, jho (by omega), e3, cond_true, e4]
   have := key (!ile x.1 y.1) (by
    rw [jnf]; unfold ile
    simp only [Bool.not_eq_true', decide_eq_false_iff_not]
    intro h; omega) (by
    rw [jnf]; unfold ile
    simp only [Bool.not_eq_true', decide_eq_false_iff_not]
    intro h; exact Or.inl (by omega))
   rw [← this]
   simp only [lad2, Bool.not_not, jkd, jaq, cm]
   rfl
theorem wbk {n : Nat} (hn : 2000 < n) (id many : Int) (l : List CLT) (hs : ∀ x ∈ l, (cm x).l.length ≤ 9223372036854775807) : F67 n id many l = some (uq id many l) := by
 unfold F67
 by_cases h1 : isP id = true
 case neg =>
  have : uq id many l = false := by unfold uq; simp [h1]
  rw [this]
  rw [qt] at h1
  by_cases h2 : id < 0
  ·rw [show ilt id 0 = true from decide_eq_true h2, cond_true]
  ·rw [show ilt id 0 = false from decide_eq_false h2, show ige id 65536 = true from decide_eq_true (by omega), cond_false, cond_true]
 have hP := qt.1 h1
 rw [show ilt id 0 = false from decide_eq_false (by omega), show ige id 65536 = false from decide_eq_false (by omega), cond_false, cond_false]
 by_cases h2 : many < 0
 ·have : uq id many l = false := by unfold uq; simp [show ¬ 0 ≤ many by omega]
  rw [this, show ilt many 0 = true from decide_eq_true h2, cond_true]
 rw [show ilt many 0 = false from decide_eq_false h2, cond_false]
 by_cases h3 : many > 1048576
 ·have : uq id many l = false := by unfold uq; simp [show ¬ many ≤ 1048576 by omega]
  rw [this, show igt many 1048576 = true from decide_eq_true h3, cond_true]
 rw [show igt many 1048576 = false from decide_eq_false h3, cond_false]
 by_cases h4 : l.length ≤ 16
 case neg =>
  have : uq id many l = false := by unfold uq; simp [h4]
  rw [this, show igt (ofN l.length) 16 = true from decide_eq_true (by simp only [ofN]; omega), cond_true]
 rw [show igt (ofN l.length) 16 = false from decide_eq_false (by simp only [ofN]; omega), cond_false]
 have := jlx (many := many) h1 (by omega) l [] n (by omega) (by simp; omega) hs
 have e : uq id many l = rcB id many (id * 1048576) l := by
  unfold uq
  simp [h1, h4, show 0 ≤ many by omega, show many ≤ 1048576 by omega]
 rw [e]
 simpa [ofN, prvC] using this
end Go.Proofs.YthjhcmkgadfpmaaGreat
namespace Go.Proofs.YthjhcmkgadfpmaaGreat
open Go Go.RowKit
abbrev PT := Int × Int × Int × Int × Int × Int × Int × Bool × Bool × Int × Int × (List Int) × ByteArray × Int × Int × Bool × Int
def pm (x : PT) : MW := ⟨x.2.2.1, x.2.2.2.1, x.2.2.2.2.1, x.2.2.2.2.2.1, x.2.2.2.2.2.2.1, x.2.2.2.2.2.2.2.1, x.2.2.2.2.2.2.2.2.1, x.2.2.2.2.2.2.2.2.2.1, x.2.2.2.2.2.2.2.2.2.2.1, x.2.2.2.2.2.2.2.2.2.2.2.1, x.2.2.2.2.2.2.2.2.2.2.2.2.1, x.2.2.2.2.2.2.2.2.2.2.2.2.2.1, x.2.2.2.2.2.2.2.2.2.2.2.2.2.2.1, x.2.2.2.2.2.2.2.2.2.2.2.2.2.2.2.1, x.2.2.2.2.2.2.2.2.2.2.2.2.2.2.2.2⟩
def mw (x : MT) : MW := ⟨x.1, x.2.1, x.2.2.1, x.2.2.2.1, x.2.2.2.2.1, x.2.2.2.2.2.1, x.2.2.2.2.2.2.1, x.2.2.2.2.2.2.2.1, x.2.2.2.2.2.2.2.2.1, x.2.2.2.2.2.2.2.2.2.1, x.2.2.2.2.2.2.2.2.2.2.1, x.2.2.2.2.2.2.2.2.2.2.2.1, x.2.2.2.2.2.2.2.2.2.2.2.2.1, x.2.2.2.2.2.2.2.2.2.2.2.2.2.1, x.2.2.2.2.2.2.2.2.2.2.2.2.2.2⟩
def mkP (m : MW) : PT := (m.t, m.c, m.k, m.c, m.f, m.t, m.key, m.s, m.d, m.p, m.pr, m.l, m.ik, m.iv, m.ir, m.ig, m.cd)
def jdo (m : MW) : Bool := qx m && !askB m.k
def um (l : List PT) : Prop := ∀ x ∈ l, (pm x).l.length < 1000
def jkq (l : List MT) : Prop := ∀ x ∈ l, (mw x).l.length < 1000
theorem wp {p r : List PT} {x : PT} (h : um (p ++ x :: r)) : (pm x).l.length < 1000 := h x (by simp)
theorem jbc (n : Nat) (a0 : Int) (a1 : Int) (a2 : Int) (a3 : Int) (a4 : Int) (a5 : Bool) (a6 : Bool) (a7 : Int) (a8 : Int) (a9 : List Int) (a10 : ByteArray) (a11 : Int) (a12 : Int) (a13 : Bool) (a14 : Int) (h : a9.length < 1000) : F40 n a0 a1 a2 a3 a4 a5 a6 a7 a8 a9 a10 a11 a12 a13 a14 = some ⟨a0, a1, a2, a3, a4, a5, a6, a7, a8, a10, a11, a12, a13, a14, a9⟩ := by
 unfold F40
 rw [qh (by omega) (by decide)]; rfl
theorem of_p (n : Nat) (m : MW) (h : m.l.length < 1000) : F123 n m.k m.c m.f m.t m.key m.s m.d m.p m.pr m.l m.ik m.iv m.ir m.ig m.cd = some (if jdo m then ⟨m.t, m.c, m.k, m.c, m.f, m.t, m.key, m.s, m.d, m.p, m.pr, m.l, m.ik, m.iv, m.ir, m.ig, m.cd, 0⟩ else ⟨0, 0, 0, 0, 0, 0, 0, false, false, 0, 0, [], ByteArray.empty, 0, 0, false, 0, 2⟩) := by
 have hf := jn
 unfold F123
 have hr : F72 FUEL m.k m.c m.f m.t m.key m.s m.d m.p m.pr m.l m.ik m.iv m.ir m.ig m.cd = some (qx m) := jdb (by omega) m.k m.c m.f m.t m.key m.s m.d m.p m.pr m.l m.ik m.iv m.ir m.ig m.cd h
 have ha : F71 FUEL m.k m.c m.f m.t m.key m.s m.d m.p m.pr m.l m.ik m.iv m.ir m.ig m.cd = some (askB m.k) := zt FUEL m.k m.c m.f m.t m.key m.s m.d m.p m.pr m.l m.ik m.iv m.ir m.ig m.cd
 have ho := jan FUEL m.k m.c m.f m.t m.key m.s m.d m.p m.pr m.l m.ik m.iv m.ir m.ig m.cd h
 rw [hr, ha, ho]
 unfold jdo
 cases qx m
 ·rfl
 ·cases askB m.k <;> rfl
theorem of_r (n : Nat) (m : MW) (h : m.l.length < 1000) : F124 n m.k m.c m.f m.t m.key m.s m.d m.p m.pr m.l m.ik m.iv m.ir m.ig m.cd = some (if jdo m then ⟨m.t, m.c, m.k, m.c, m.f, m.t, m.key, m.s, m.d, m.p, m.pr, m.l, m.ik, m.iv, m.ir, m.ig, m.cd, 0⟩ else ⟨0, 0, 0, 0, 0, 0, 0, false, false, 0, 0, [], ByteArray.empty, 0, 0, false, 0, 2⟩) := by
 unfold F124
 have hr : F21 FUEL m.k m.c m.f m.t m.key m.s m.d m.p m.pr m.l m.ik m.iv m.ir m.ig m.cd = some (qx m) := jjo FUEL m.k m.c m.f m.t m.key m.s m.d m.p m.pr m.l m.ik m.iv m.ir m.ig m.cd h
 have ha : F22 FUEL m.k m.c m.f m.t m.key m.s m.d m.p m.pr m.l m.ik m.iv m.ir m.ig m.cd = some (askB m.k) := jbb FUEL m.k m.c m.f m.t m.key m.s m.d m.p m.pr m.l m.ik m.iv m.ir m.ig m.cd
 have ho := jbc FUEL m.k m.c m.f m.t m.key m.s m.d m.p m.pr m.l m.ik m.iv m.ir m.ig m.cd h
 rw [hr, ha, ho]
 unfold jdo
 cases qx m
 ·rfl
 ·cases askB m.k <;> rfl
def isk (f c : Int) (x : PT) : Bool := decide (x.1 = f) && decide (x.2.1 = c)
def jap (f c : Int) : Nat → List PT → Int
 | _, [] => -1
 | i, x :: r => if isk f c x then (i : Int) else jap f c (i + 1) r
def mkF (o : Option PT) : qp :=
 match o with
 | some x => ⟨(pm x).k, (pm x).c, (pm x).f, (pm x).t, (pm x).key, (pm x).s, (pm x).d, (pm x).p, (pm x).pr, (pm x).ik, (pm x).iv, (pm x).ir, (pm x).ig, (pm x).cd, true, (pm x).l⟩
 | none => ⟨0, 0, 0, 0, 0, false, false, 0, 0, ByteArray.empty, 0, 0, false, 0, false, []⟩
theorem jci {f c : Int} : ∀ {l : List PT} {i : Nat}, l.any (isk f c) = false → jap f c i l = -1
 | [], _, _ => rfl
 | x :: r, i, h => by
  simp only [List.any_cons, Bool.or_eq_false_iff] at h
  rw [jap, h.1]; exact jci h.2
theorem wv {f c : Int} : ∀ {l : List PT} {i : Nat}, l.any (isk f c) = true → ∃ q x s, l = q ++ x :: s ∧ jap f c i l = ofN (i + q.length) ∧ l.find? (isk f c) = some x
 | [], _, h => by simp at h
 | x :: r, i, h => by
  cases hx : isk f c x
  ·simp only [List.any_cons, hx, Bool.false_or] at h
   obtain ⟨q, y, s, h1, h2, h3⟩ := wv (i := i + 1) h
   refine ⟨x :: q, y, s, by rw [h1]; rfl, ?_, ?_⟩
   ·rw [jap, hx]; simp only [Bool.false_eq_true, if_false, h2, ofN, List.length_cons]; omega
   ·rw [List.find?_cons, hx]; exact h3
  ·exact ⟨[], x, r, rfl, by rw [jap, hx]; simp [ofN], by rw [List.find?_cons, hx]⟩
theorem jpq (f c : Int) : ∀ (r p : List PT) (n : Nat), r.length < n → (p ++ r).length < 1000 → jcp n (p ++ r) (ofN (p ++ r).length) (ofN p.length) f c = some (jap f c p.length r)
 | _, _, 0, h, _ => by omega
 | [], p, n + 1, _, _ => by simp only [jcp, List.append_nil, jy, cond_false, jap]
 | x :: r, p, n + 1, h, hb => by
  simp only [jcp, qr, jq, jr, cond_true]
  simp only [List.length_append, List.length_cons] at h hb
  rw [qa (x := x) (by omega)]
  have h1 := jpq f c r (p ++ [x]) n (by omega) (by simp; omega)
  rw [← qb] at h1
  rw [h1, jap]
  unfold isk
  simp only [ju]
  have e : (p ++ [x]).length = p.length + 1 := by simp
  rw [e]
  cases decide (x.1 = f)
  ·rfl
  ·cases decide (x.2.1 = c) <;> rfl
theorem jjd {n : Nat} (hn : 2000 < n) (l : List PT) (f c : Int) (h : l.length < 1000) : F109 n l f c = some (jap f c 0 l) := by
 unfold F109
 have := jpq f c l [] n (by omega) (by simpa using h)
 simpa [ofN] using this
theorem jlv {l : List PT} {f c : Int} : ige (jap f c 0 l) 0 = l.any (isk f c) := by
 cases h : l.any (isk f c)
 ·rw [jci h]; rfl
 ·obtain ⟨q, x, s, _, h2, _⟩ := wv (i := 0) h
  rw [h2]; exact decide_eq_true (by simp [ofN])
theorem wbc {l : List PT} {f c : Int} : ilt (jap f c 0 l) 0 = !l.any (isk f c) := by
 cases h : l.any (isk f c)
 ·rw [jci h]; rfl
 ·obtain ⟨q, x, s, _, h2, _⟩ := wv (i := 0) h
  rw [h2]; exact decide_eq_false (by simp [ofN])
theorem find_p {n : Nat} (l : List PT) (f c : Int) (h : l.length < 1000) (hs : um l) : F35 n l f c = some (mkF (l.find? (isk f c))) := by
 have hf := jn
 unfold F35
 have ht : F110 FUEL f c = some (f, c) := rfl
 rw [ht]
 simp only [Option.bind_some]
 rw [jjd (by omega) l f c h]
 simp only [Option.bind_some, wbc]
 cases ha : l.any (isk f c)
 ·have : l.find? (isk f c) = none := by
   rw [List.find?_eq_none]; rw [List.any_eq_false] at ha; exact ha
  rw [this]; rfl
 ·obtain ⟨q, x, s, h1, h2, h3⟩ := wv (i := 0) ha
  rw [h2, h3, Nat.zero_add]
  have e1 : inb (ofN q.length) l.length = true := by rw [h1]; exact jq
  have e2 : ∀ d, l.getD (ofN q.length).toNat d = x := fun d => by rw [h1]; exact jr
  rw [e1]
  simp only [Bool.not_true, cond_false, cond_true, e2]
  rw [jan FUEL x.2.2.1 x.2.2.2.1 x.2.2.2.2.1 x.2.2.2.2.2.1 x.2.2.2.2.2.2.1 x.2.2.2.2.2.2.2.1 x.2.2.2.2.2.2.2.2.1 x.2.2.2.2.2.2.2.2.2.1 x.2.2.2.2.2.2.2.2.2.2.1 x.2.2.2.2.2.2.2.2.2.2.2.1 x.2.2.2.2.2.2.2.2.2.2.2.2.1 x.2.2.2.2.2.2.2.2.2.2.2.2.2.1 x.2.2.2.2.2.2.2.2.2.2.2.2.2.2.1 x.2.2.2.2.2.2.2.2.2.2.2.2.2.2.2.1 x.2.2.2.2.2.2.2.2.2.2.2.2.2.2.2.2 (hs x (by rw [h1]; simp))]
  rfl
theorem jwn (f c : Int) : ∀ (r p : List PT) (n : Nat), r.length < n → (p ++ r).length < 1000 → um (p ++ r) → jhd n (p ++ r) f c (ofN p.length) false false ByteArray.empty false = some (mkF (r.find? (isk f c)))
 | _, _, 0, h, _, _ => by omega
 | [], p, n + 1, _, _, _ => by simp only [jhd, List.append_nil, jy, cond_false, List.find?_nil, mkF]
 | x :: r, p, n + 1, h, hb, hs => by
  simp only [jhd, qr, jq, jr, cond_true]
  simp only [List.length_append, List.length_cons] at h hb
  rw [jbc FUEL x.2.2.1 x.2.2.2.1 x.2.2.2.2.1 x.2.2.2.2.2.1 x.2.2.2.2.2.2.1 x.2.2.2.2.2.2.2.1 x.2.2.2.2.2.2.2.2.1 x.2.2.2.2.2.2.2.2.2.1 x.2.2.2.2.2.2.2.2.2.2.1 x.2.2.2.2.2.2.2.2.2.2.2.1 x.2.2.2.2.2.2.2.2.2.2.2.2.1 x.2.2.2.2.2.2.2.2.2.2.2.2.2.1 x.2.2.2.2.2.2.2.2.2.2.2.2.2.2.1 x.2.2.2.2.2.2.2.2.2.2.2.2.2.2.2.1 x.2.2.2.2.2.2.2.2.2.2.2.2.2.2.2.2 (wp hs), qa (x := x) (by omega)]
  have h1 := jwn f c r (p ++ [x]) n (by omega) (by simp; omega) (by rw [← qb]; exact hs)
  rw [← qb] at h1
  rw [h1, List.find?_cons]
  unfold isk
  simp only [ju]
  cases decide (x.1 = f)
  ·rfl
  ·cases decide (x.2.1 = c) <;> rfl
theorem jwo {n : Nat} (hn : 2000 < n) (l : List PT) (f c : Int) (h : l.length < 1000) (hs : um l) : F39 n l f c = some (mkF (l.find? (isk f c))) := by
 unfold F39
 have := jwn f c l [] n (by omega) (by simpa using h) (by simpa using hs)
 simpa [ofN] using this
theorem mkF_q (l : List PT) (f c : Int) : (mkF (l.find? (isk f c))).q14 = l.any (isk f c) := by
 cases ha : l.any (isk f c)
 ·have : l.find? (isk f c) = none := by
   rw [List.find?_eq_none]; rw [List.any_eq_false] at ha; exact ha
  rw [this]; rfl
 ·obtain ⟨q, x, s, _, _, h3⟩ := wv (i := 0) ha
  rw [h3]; rfl
theorem sown_c : ∀ (r p : List PT) (n : Nat) (a : List PT), r.length < n → (p ++ r).length < 1000 → a.length + r.length < 1000 → um (p ++ r) → jij n (p ++ r) (ofN (p ++ r).length) (ofN p.length) a = some (a ++ r)
 | _, _, 0, _, h, _, _, _ => by omega
 | [], p, n + 1, a, _, _, _, _ => by simp only [jij, List.append_nil, jy, cond_false]
 | x :: r, p, n + 1, a, h, hb, ha, hs => by
  simp only [jij, qr, jq, jr, cond_true]
  simp only [List.length_append, List.length_cons] at h hb ha
  rw [jan FUEL x.2.2.1 x.2.2.2.1 x.2.2.2.2.1 x.2.2.2.2.2.1 x.2.2.2.2.2.2.1 x.2.2.2.2.2.2.2.1 x.2.2.2.2.2.2.2.2.1 x.2.2.2.2.2.2.2.2.2.1 x.2.2.2.2.2.2.2.2.2.2.1 x.2.2.2.2.2.2.2.2.2.2.2.1 x.2.2.2.2.2.2.2.2.2.2.2.2.1 x.2.2.2.2.2.2.2.2.2.2.2.2.2.1 x.2.2.2.2.2.2.2.2.2.2.2.2.2.2.1 x.2.2.2.2.2.2.2.2.2.2.2.2.2.2.2.1 x.2.2.2.2.2.2.2.2.2.2.2.2.2.2.2.2 (wp hs)]
  simp only [Option.bind_some]
  rw [qh (by simp; omega) (by decide), cond_true, qa (x := x) (by omega)]
  have h1 := sown_c r (p ++ [x]) n (a ++ [x]) (by omega) (by simp; omega) (by simp; omega) (by rw [← qb]; exact hs)
  rw [← qb] at h1
  simpa using h1
theorem sown_p {n : Nat} (hn : 2000 < n) (l : List PT) (h : l.length < 1000) (hs : um l) : F89 n l = some l := by
 unfold F89
 have := sown_c l [] n [] (by omega) (by simpa using h) (by simpa using h) (by simpa using hs)
 simpa [ofN] using this
theorem jtj : ∀ (r p : List PT) (n : Nat) (a : List PT), r.length < n → (p ++ r).length < 1000 → a.length + r.length < 1000 → um (p ++ r) → jif n (p ++ r) (ofN p.length) a = some (a ++ r)
 | _, _, 0, _, h, _, _, _ => by omega
 | [], p, n + 1, a, _, _, _, _ => by simp only [jif, List.append_nil, jy, cond_false]
 | x :: r, p, n + 1, a, h, hb, ha, hs => by
  simp only [jif, qr, jq, jr, cond_true]
  simp only [List.length_append, List.length_cons] at h hb ha
  rw [jbc FUEL x.2.2.1 x.2.2.2.1 x.2.2.2.2.1 x.2.2.2.2.2.1 x.2.2.2.2.2.2.1 x.2.2.2.2.2.2.2.1 x.2.2.2.2.2.2.2.2.1 x.2.2.2.2.2.2.2.2.2.1 x.2.2.2.2.2.2.2.2.2.2.1 x.2.2.2.2.2.2.2.2.2.2.2.1 x.2.2.2.2.2.2.2.2.2.2.2.2.1 x.2.2.2.2.2.2.2.2.2.2.2.2.2.1 x.2.2.2.2.2.2.2.2.2.2.2.2.2.2.1 x.2.2.2.2.2.2.2.2.2.2.2.2.2.2.2.1 x.2.2.2.2.2.2.2.2.2.2.2.2.2.2.2.2 (wp hs)]
  simp only [Option.bind_some]
  rw [qh (by simp; omega) (by decide), cond_true, qa (x := x) (by omega)]
  have h1 := jtj r (p ++ [x]) n (a ++ [x]) (by omega) (by simp; omega) (by simp; omega) (by rw [← qb]; exact hs)
  rw [← qb] at h1
  simpa using h1
theorem sown_r {n : Nat} (hn : 2000 < n) (l : List PT) (h : l.length < 1000) (hs : um l) : F98 n l = some l := by
 unfold F98
 have := jtj l [] n [] (by omega) (by simpa using h) (by simpa using h) (by simpa using hs)
 simpa [ofN] using this
def eqP (x y : PT) : Bool := decide (x.1 = y.1) && (decide (x.2.1 = y.2.1) && ud (pm x) (pm y))
def leqP : List PT → List PT → Bool
 | [], [] => true
 | x :: r, y :: s => eqP x y && leqP r s
 | _, _ => false
theorem wbe (x : PT) : eqP x x = true := by unfold eqP; rw [jhr]; simp
theorem jlk : ∀ (l : List PT), leqP l l = true
 | [] => rfl
 | x :: r => by rw [leqP, wbe, jlk r]; rfl
theorem jjp : ∀ {l m : List PT}, leqP l m = true → l.length = m.length
 | [], [], _ => rfl
 | [], _ :: _, h => by cases h
 | _ :: _, [], h => by cases h
 | x :: r, y :: s, h => by
  rw [leqP, Bool.and_eq_true] at h
  simp [jjp h.2]
theorem jpk : ∀ (r s p q : List PT) (n : Nat), r.length < n → p.length = q.length → r.length = s.length → (p ++ r).length < 1000 → um (p ++ r) → jiw n (p ++ r) (q ++ s) (ofN p.length) = some (leqP r s)
 | _, _, _, _, 0, h, _, _, _, _ => by omega
 | [], [], p, q, n + 1, _, _, _, _, _ => by simp only [jiw, List.append_nil, jy, cond_false]; rfl
 | [], _ :: _, _, _, _ + 1, _, _, hs, _, _ => by simp at hs
 | _ :: _, [], _, _, _ + 1, _, _, hs, _, _ => by simp at hs
 | x :: r, y :: s, p, q, n + 1, h, hp, hs, hb, hsh => by
  have hf := jn
  have e1 : inb (ofN p.length) (q ++ y :: s).length = true := by rw [hp]; exact jq
  have e2 : ∀ d, (q ++ y :: s).getD (ofN p.length).toNat d = y := fun d => by rw [hp]; exact jr
  simp only [jiw, qr, jq, jr, cond_true, e1, e2]
  simp only [List.length_append, List.length_cons] at h hb hs
  have hx := wp hsh
  have hS : F14 FUEL x.2.2.1 x.2.2.2.1 x.2.2.2.2.1 x.2.2.2.2.2.1 x.2.2.2.2.2.2.1 x.2.2.2.2.2.2.2.1 x.2.2.2.2.2.2.2.2.1 x.2.2.2.2.2.2.2.2.2.1 x.2.2.2.2.2.2.2.2.2.2.1 x.2.2.2.2.2.2.2.2.2.2.2.1 x.2.2.2.2.2.2.2.2.2.2.2.2.1 x.2.2.2.2.2.2.2.2.2.2.2.2.2.1 x.2.2.2.2.2.2.2.2.2.2.2.2.2.2.1 x.2.2.2.2.2.2.2.2.2.2.2.2.2.2.2.1 x.2.2.2.2.2.2.2.2.2.2.2.2.2.2.2.2 y.2.2.1 y.2.2.2.1 y.2.2.2.2.1 y.2.2.2.2.2.1 y.2.2.2.2.2.2.1 y.2.2.2.2.2.2.2.1 y.2.2.2.2.2.2.2.2.1 y.2.2.2.2.2.2.2.2.2.1 y.2.2.2.2.2.2.2.2.2.2.1 y.2.2.2.2.2.2.2.2.2.2.2.1 y.2.2.2.2.2.2.2.2.2.2.2.2.1 y.2.2.2.2.2.2.2.2.2.2.2.2.2.1 y.2.2.2.2.2.2.2.2.2.2.2.2.2.2.1 y.2.2.2.2.2.2.2.2.2.2.2.2.2.2.2.1 y.2.2.2.2.2.2.2.2.2.2.2.2.2.2.2.2 = some (ud (pm x) (pm y)) := vy (show (pm x).l.length < FUEL by omega) (show (pm x).l.length ≤ 9223372036854775807 by omega)
  rw [hS, qa (x := x) (by omega)]
  have h1 := jpk r s (p ++ [x]) (q ++ [y]) n (by omega) (by simp [hp]) (by omega) (by simp; omega) (by rw [← qb]; exact hsh)
  rw [← qb, ← qb] at h1
  rw [h1, leqP, eqP]
  simp only [Option.bind_some, ut, lad6]
  cases decide (x.1 = y.1)
  ·rfl
  ·cases decide (x.2.1 = y.2.1) <;> rfl
theorem ssame_r {n : Nat} (hn : 2000 < n) (l m : List PT) (h : l.length < 1000) (hs : um l) : F46 n l m = some (leqP l m) := by
 unfold F46
 by_cases hl : l.length = m.length
 ·have e : ine (ofN l.length) (ofN m.length) = false := by simp [ine, ofN, hl]
  rw [e, cond_false]
  exact jpk l m [] [] n (by omega) rfl hl (by simpa using h) (by simpa using hs)
 ·have e : ine (ofN l.length) (ofN m.length) = true := by simp [ine, ofN]; omega
  rw [e, cond_true]
  cases h2 : leqP l m
  ·rfl
  ·exact absurd (jjp h2) hl
theorem jpl (z : Bool) : ∀ (r s p q : List PT) (n : Nat), r.length < n → p.length = q.length → r.length = s.length → (p ++ r).length < 1000 → um (p ++ r) → jim n (p ++ r) (ofN (p ++ r).length) (ofN p.length) (q ++ s) z = some (leqP r s)
 | _, _, _, _, 0, h, _, _, _, _ => by omega
 | [], [], p, q, n + 1, _, _, _, _, _ => by simp only [jim, List.append_nil, jy, cond_false]; rfl
 | [], _ :: _, _, _, _ + 1, _, _, hs, _, _ => by simp at hs
 | _ :: _, [], _, _, _ + 1, _, _, hs, _, _ => by simp at hs
 | x :: r, y :: s, p, q, n + 1, h, hp, hs, hb, hsh => by
  have hf := jn
  have e1 : inb (ofN p.length) (q ++ y :: s).length = true := by rw [hp]; exact jq
  have e2 : ∀ d, (q ++ y :: s).getD (ofN p.length).toNat d = y := fun d => by rw [hp]; exact jr
  simp only [jim, qr, jq, jr, cond_true, e1, e2]
  simp only [List.length_append, List.length_cons] at h hb hs
  have hx := wp hsh
  have hS : F146 FUEL x.2.2.1 x.2.2.2.1 x.2.2.2.2.1 x.2.2.2.2.2.1 x.2.2.2.2.2.2.1 x.2.2.2.2.2.2.2.1 x.2.2.2.2.2.2.2.2.1 x.2.2.2.2.2.2.2.2.2.1 x.2.2.2.2.2.2.2.2.2.2.1 x.2.2.2.2.2.2.2.2.2.2.2.1 x.2.2.2.2.2.2.2.2.2.2.2.2.1 x.2.2.2.2.2.2.2.2.2.2.2.2.2.1 x.2.2.2.2.2.2.2.2.2.2.2.2.2.2.1 x.2.2.2.2.2.2.2.2.2.2.2.2.2.2.2.1 x.2.2.2.2.2.2.2.2.2.2.2.2.2.2.2.2 y.2.2.1 y.2.2.2.1 y.2.2.2.2.1 y.2.2.2.2.2.1 y.2.2.2.2.2.2.1 y.2.2.2.2.2.2.2.1 y.2.2.2.2.2.2.2.2.1 y.2.2.2.2.2.2.2.2.2.1 y.2.2.2.2.2.2.2.2.2.2.1 y.2.2.2.2.2.2.2.2.2.2.2.1 y.2.2.2.2.2.2.2.2.2.2.2.2.1 y.2.2.2.2.2.2.2.2.2.2.2.2.2.1 y.2.2.2.2.2.2.2.2.2.2.2.2.2.2.1 y.2.2.2.2.2.2.2.2.2.2.2.2.2.2.2.1 y.2.2.2.2.2.2.2.2.2.2.2.2.2.2.2.2 = some (ud (pm x) (pm y)) := zh (show (pm x).l.length < 100000 by omega)
  rw [hS, qa (x := x) (by omega)]
  have h1 := jpl z r s (p ++ [x]) (q ++ [y]) n (by omega) (by simp [hp]) (by omega) (by simp; omega) (by rw [← qb]; exact hsh)
  rw [← qb, ← qb] at h1
  rw [h1, leqP, eqP]
  simp only [Option.bind_some, ut, lad6]
  cases decide (x.1 = y.1)
  ·rfl
  ·cases decide (x.2.1 = y.2.1) <;> rfl
theorem ssame_p {n : Nat} (hn : 2000 < n) (l m : List PT) (h : l.length < 1000) (hs : um l) : F86 n l m = some (leqP l m) := by
 unfold F86
 by_cases hl : l.length = m.length
 ·have e : ine (ofN l.length) (ofN m.length) = false := by simp [ine, ofN, hl]
  rw [e, cond_false]
  exact jpl false l m [] [] n (by omega) rfl hl (by simpa using h) (by simpa using hs)
 ·have e : ine (ofN l.length) (ofN m.length) = true := by simp [ine, ofN]; omega
  rw [e, cond_true]
  cases h2 : leqP l m
  ·rfl
  ·exact absurd (jjp h2) hl
end Go.Proofs.YthjhcmkgadfpmaaGreat
namespace Go.Proofs.YthjhcmkgadfpmaaGreat
open Go Go.RowKit
def rgP : List PT → List PT → Bool
 | _, [] => true
 | p, x :: r => jdo (pm x) && (decide ((pm x).t = x.1) && (decide ((pm x).c = x.2.1) && (!p.any (isk x.1 x.2.1) && rgP (p ++ [x]) r)))
def jkw (l : List PT) : Bool := rgP [] l && decide (l.length ≤ 40)
theorem jtb {α : Type} {p r : List α} : List.drop 0 (List.take (ofN p.length).toNat (p ++ r)) = p := by simp [ofN]
theorem cut_at {α : Type} {p r : List α} : (inn (ofN p.length) && inbs 0 (ofN p.length).toNat (p ++ r).length) = true := by simp [inn, inbs, ofN]
theorem le40 (n : Nat) : ile (ofN n) 40 = decide (n ≤ 40) := by unfold ile ofN; apply decide_eq_decide.2; omega
theorem gt40 (n : Nat) : igt (ofN n) 40 = !decide (n ≤ 40) := by unfold igt ofN; rw [← decide_not]; apply decide_eq_decide.2; omega
theorem jpn (z : Bool) : ∀ (r p : List PT) (n : Nat), r.length < n → (p ++ r).length < 1000 → um (p ++ r) → jis n (p ++ r) (ofN (p ++ r).length) (ofN p.length) (p ++ r) z = some (rgP p r)
 | _, _, 0, h, _, _ => by omega
 | [], p, n + 1, _, _, _ => by simp only [jis, List.append_nil, jy, cond_false, rgP]
 | x :: r, p, n + 1, h, hb, hs => by
  have hf := jn
  simp only [jis, qr, jq, jr, cond_true, jtb, cut_at]
  simp only [List.length_append, List.length_cons] at h hb
  have hx := wp hs
  have hr : F72 FUEL x.2.2.1 x.2.2.2.1 x.2.2.2.2.1 x.2.2.2.2.2.1 x.2.2.2.2.2.2.1 x.2.2.2.2.2.2.2.1 x.2.2.2.2.2.2.2.2.1 x.2.2.2.2.2.2.2.2.2.1 x.2.2.2.2.2.2.2.2.2.2.1 x.2.2.2.2.2.2.2.2.2.2.2.1 x.2.2.2.2.2.2.2.2.2.2.2.2.1 x.2.2.2.2.2.2.2.2.2.2.2.2.2.1 x.2.2.2.2.2.2.2.2.2.2.2.2.2.2.1 x.2.2.2.2.2.2.2.2.2.2.2.2.2.2.2.1 x.2.2.2.2.2.2.2.2.2.2.2.2.2.2.2.2 = some (qx (pm x)) := jdb (by omega) x.2.2.1 x.2.2.2.1 x.2.2.2.2.1 x.2.2.2.2.2.1 x.2.2.2.2.2.2.1 x.2.2.2.2.2.2.2.1 x.2.2.2.2.2.2.2.2.1 x.2.2.2.2.2.2.2.2.2.1 x.2.2.2.2.2.2.2.2.2.2.1 x.2.2.2.2.2.2.2.2.2.2.2.1 x.2.2.2.2.2.2.2.2.2.2.2.2.1 x.2.2.2.2.2.2.2.2.2.2.2.2.2.1 x.2.2.2.2.2.2.2.2.2.2.2.2.2.2.1 x.2.2.2.2.2.2.2.2.2.2.2.2.2.2.2.1 x.2.2.2.2.2.2.2.2.2.2.2.2.2.2.2.2 hx
  have ha : F71 FUEL x.2.2.1 x.2.2.2.1 x.2.2.2.2.1 x.2.2.2.2.2.1 x.2.2.2.2.2.2.1 x.2.2.2.2.2.2.2.1 x.2.2.2.2.2.2.2.2.1 x.2.2.2.2.2.2.2.2.2.1 x.2.2.2.2.2.2.2.2.2.2.1 x.2.2.2.2.2.2.2.2.2.2.2.1 x.2.2.2.2.2.2.2.2.2.2.2.2.1 x.2.2.2.2.2.2.2.2.2.2.2.2.2.1 x.2.2.2.2.2.2.2.2.2.2.2.2.2.2.1 x.2.2.2.2.2.2.2.2.2.2.2.2.2.2.2.1 x.2.2.2.2.2.2.2.2.2.2.2.2.2.2.2.2 = some (askB (pm x).k) := zt FUEL x.2.2.1 x.2.2.2.1 x.2.2.2.2.1 x.2.2.2.2.2.1 x.2.2.2.2.2.2.1 x.2.2.2.2.2.2.2.1 x.2.2.2.2.2.2.2.2.1 x.2.2.2.2.2.2.2.2.2.1 x.2.2.2.2.2.2.2.2.2.2.1 x.2.2.2.2.2.2.2.2.2.2.2.1 x.2.2.2.2.2.2.2.2.2.2.2.2.1 x.2.2.2.2.2.2.2.2.2.2.2.2.2.1 x.2.2.2.2.2.2.2.2.2.2.2.2.2.2.1 x.2.2.2.2.2.2.2.2.2.2.2.2.2.2.2.1 x.2.2.2.2.2.2.2.2.2.2.2.2.2.2.2.2
  have ht : F110 FUEL x.1 x.2.1 = some (x.1, x.2.1) := rfl
  rw [hr, ha, ht, qa (x := x) (by omega)]
  have h1 := jpn z r (p ++ [x]) n (by omega) (by simp; omega) (by rw [← qb]; exact hs)
  rw [← qb] at h1
  rw [h1]
  simp only [Option.bind_some]
  rw [jjd (by omega) p x.1 x.2.1 (by omega)]
  simp only [Option.bind_some, jlv, rgP, jdo, ut]
  show _ = some ((qx (pm x) && !askB (pm x).k) && _)
  cases qx (pm x)
  ·rfl
  cases askB (pm x).k
  case true => rfl
  show (bif !decide ((pm x).t = x.1) then some false else _) = _
  cases decide ((pm x).t = x.1)
  ·rfl
  show (bif !decide ((pm x).c = x.2.1) then some false else _) = _
  cases decide ((pm x).c = x.2.1)
  ·rfl
  cases p.any (isk x.1 x.2.1) <;> rfl
theorem jzi {n : Nat} (hn : 2000 < n) (l : List PT) (h : l.length < 1000) (hs : um l) : F61 n l = some (jkw l) := by
 unfold F61 jkw
 rw [gt40]
 by_cases h4 : l.length ≤ 40
 ·rw [decide_eq_true h4]
  have := jpn false l [] n (by omega) (by simpa using h) (by simpa using hs)
  simpa [ofN] using this
 ·rw [decide_eq_false h4, Bool.and_false]; rfl
theorem jkp : ∀ (r p : List PT) (n : Nat), r.length < n → (p ++ r).length < 1000 → um (p ++ r) → jio n (p ++ r) (ofN p.length) = some (rgP p r && decide ((p ++ r).length ≤ 40))
 | _, _, 0, h, _, _ => by omega
 | [], p, n + 1, _, _, _ => by simp only [jio, List.append_nil, jy, cond_false, rgP, le40, Bool.true_and]
 | x :: r, p, n + 1, h, hb, hs => by
  have hf := jn
  simp only [jio, qr, jq, jr, cond_true, jtb, cut_at]
  simp only [List.length_append, List.length_cons] at h hb
  have hx := wp hs
  have ho : F124 FUEL x.2.2.1 x.2.2.2.1 x.2.2.2.2.1 x.2.2.2.2.2.1 x.2.2.2.2.2.2.1 x.2.2.2.2.2.2.2.1 x.2.2.2.2.2.2.2.2.1 x.2.2.2.2.2.2.2.2.2.1 x.2.2.2.2.2.2.2.2.2.2.1 x.2.2.2.2.2.2.2.2.2.2.2.1 x.2.2.2.2.2.2.2.2.2.2.2.2.1 x.2.2.2.2.2.2.2.2.2.2.2.2.2.1 x.2.2.2.2.2.2.2.2.2.2.2.2.2.2.1 x.2.2.2.2.2.2.2.2.2.2.2.2.2.2.2.1 x.2.2.2.2.2.2.2.2.2.2.2.2.2.2.2.2 = some (if jdo (pm x) then ⟨(pm x).t, (pm x).c, (pm x).k, (pm x).c, (pm x).f, (pm x).t, (pm x).key, (pm x).s, (pm x).d, (pm x).p, (pm x).pr, (pm x).l, (pm x).ik, (pm x).iv, (pm x).ir, (pm x).ig, (pm x).cd, 0⟩ else ⟨0, 0, 0, 0, 0, 0, 0, false, false, 0, 0, [], ByteArray.empty, 0, 0, false, 0, 2⟩) := of_r FUEL (pm x) hx
  rw [ho, qa (x := x) (by omega)]
  have h1 := jkp r (p ++ [x]) n (by omega) (by simp; omega) (by rw [← qb]; exact hs)
  rw [← qb] at h1
  rw [h1]
  simp only [Option.bind_some, rgP]
  cases jdo (pm x)
  ·rfl
  simp only [if_true]
  rw [show ine 0 0 = false from rfl, cond_false, jwo (by omega) p _ _ (by omega) (fun y hy => hs y (by simp [hy]))]
  simp only [Option.bind_some, mkF_q, ut, Bool.true_and]
  by_cases e1 : (pm x).t = x.1
  case neg => rw [decide_eq_false e1]; rfl
  by_cases e2 : (pm x).c = x.2.1
  case neg => rw [decide_eq_true e1, decide_eq_false e2]; rfl
  rw [decide_eq_true e1, decide_eq_true e2, e1, e2]
  cases p.any (isk x.1 x.2.1) <;> rfl
theorem jzh {n : Nat} (hn : 2000 < n) (l : List PT) (h : l.length < 1000) (hs : um l) : F68 n l = some (jkw l) := by
 unfold F68 jkw
 have := jkp l [] n (by omega) (by simpa using h) (by simpa using hs)
 simpa [ofN] using this
theorem gt60 (n : Nat) : igt (ofN n) 60 = !decide (n ≤ 60) := by unfold igt ofN; rw [← decide_not]; apply decide_eq_decide.2; omega
def l40 (l : List PT) : List PT := l.drop (l.length - 40)
def addS (l : List PT) (m : MW) : List PT := if jdo m && !l.any (isk m.t m.c) then l40 (l ++ [mkP m]) else l
def addA (l : List PT) (t : List MT) : List PT := t.foldl (fun l x => addS l (mw x)) l
theorem l40_len (l : List PT) : (l40 l).length = min l.length 40 := by unfold l40; rw [List.length_drop]; omega
theorem wby (l : List PT) (m : MW) : (addS l m).length ≤ max l.length 40 := by
 unfold addS; split
 ·rw [l40_len]; omega
 ·omega
theorem jby {l : List PT} {m : MW} (h : um l) (hm : m.l.length < 1000) : um (addS l m) := by
 unfold addS; split
 ·intro x hx
  have := List.mem_of_mem_drop hx
  rcases List.mem_append.1 this with h1 | h1
  ·exact h x h1
  ·simp only [List.mem_singleton] at h1; rw [h1]; exact hm
 ·exact h
theorem jjn {row : List PT} {off len : Nat} (h : off + len = row.length) : List.take len (List.drop off row) = row.drop off := by
 rw [List.take_of_length_le]; rw [List.length_drop]; omega
theorem jpv {n : Nat} (h : n < 1000) : room n 152 = true := qh h (by decide)
theorem jtp (t : List MT) (L i : Int) (row : List PT) : ∀ (k n off len : Nat), len ≤ 40 + k → 40 ≤ len → len = 40 + k → k < n → jhe n off len t L i row = jbi (n - k - 1) (off + k) 40 t L (iadd .i64 i 1) row
 | _, 0, _, _, _, _, _, h => by omega
 | 0, n + 1, off, len, _, _, h0, _ => by
  subst h0
  simp only [jhe, Nat.add_zero]
  rfl
 | k + 1, n + 1, off, len, h1, h2, h0, h => by
  simp only [jhe]
  rw [gt40, decide_eq_false (by omega)]
  have e : (inn 1 && true && inbs (Int.toNat 1) len len) = true := by simp [inn, inbs]; omega
  rw [e]
  simp only [Bool.not_false, cond_true]
  rw [show Int.toNat 1 = 1 from rfl]
  rw [jtp t L i row k n (off + 1) (len - 1) (by omega) (by omega) (by omega) (by omega)]
  congr 1 <;> omega
theorem jtq (T : List MT) : ∀ (r p : List MT) (n off len : Nat) (row : List PT), T = p ++ r → r.length * 100 < n → T.length < 1000 → jkq r → off + len = row.length → len ≤ 60 → um (row.drop off) → jbi n off len T (ofN T.length) (ofN p.length) row = some (addA (row.drop off) r)
 | _, _, 0, _, _, _, _, h, _, _, _, _, _ => by omega
 | [], p, n + 1, off, len, row, hT, _, _, _, hl, _, _ => by
  rw [List.append_nil] at hT
  subst hT
  simp only [jbi, jy, cond_false, jjn hl]
  rfl
 | x :: r, p, n + 1, off, len, row, hT, h, hb, hm, hl, h60, hs => by
  have hf := jn
  have hT2 : T = (p ++ [x]) ++ r := by rw [hT]; simp
  have hb2 := congrArg List.length hT
  simp only [List.length_append, List.length_cons] at hb2 h
  have e1 : ilt (ofN p.length) (ofN T.length) = true := by rw [hT]; exact qr
  have e2 : inb (ofN p.length) T.length = true := by rw [hT]; exact jq
  have e3 : ∀ d, T.getD (ofN p.length).toNat d = x := fun d => by rw [hT]; exact jr
  simp only [jbi, e1, e2, e3, cond_true, jjn hl]
  have hx := hm x (by simp)
  have ho : F123 FUEL x.1 x.2.1 x.2.2.1 x.2.2.2.1 x.2.2.2.2.1 x.2.2.2.2.2.1 x.2.2.2.2.2.2.1 x.2.2.2.2.2.2.2.1 x.2.2.2.2.2.2.2.2.1 x.2.2.2.2.2.2.2.2.2.1 x.2.2.2.2.2.2.2.2.2.2.1 x.2.2.2.2.2.2.2.2.2.2.2.1 x.2.2.2.2.2.2.2.2.2.2.2.2.1 x.2.2.2.2.2.2.2.2.2.2.2.2.2.1 x.2.2.2.2.2.2.2.2.2.2.2.2.2.2 = some (if jdo (mw x) then ⟨(mw x).t, (mw x).c, (mw x).k, (mw x).c, (mw x).f, (mw x).t, (mw x).key, (mw x).s, (mw x).d, (mw x).p, (mw x).pr, (mw x).l, (mw x).ik, (mw x).iv, (mw x).ir, (mw x).ig, (mw x).cd, 0⟩ else ⟨0, 0, 0, 0, 0, 0, 0, false, false, 0, 0, [], ByteArray.empty, 0, 0, false, 0, 2⟩) := of_p FUEL (mw x) hx
  have ht : F110 FUEL (mw x).t (mw x).c = some ((mw x).t, (mw x).c) := rfl
  have hdl : (row.drop off).length = len := by rw [List.length_drop]; omega
  have hi : iadd .i64 (ofN p.length) 1 = ofN (p ++ [x]).length := qa (by omega)
  have IH := fun n off len row hn hl h60 hs => jtq T r (p ++ [x]) n off len row hT2 hn hb (fun y hy => hm y (by simp [hy])) hl h60 hs
  have hA : ∀ l, addA l (x :: r) = addA (addS l (mw x)) r := fun l => rfl
  rw [ho, hi, hA]
  simp only [Option.bind_some]
  cases hp : jdo (mw x)
  ·rw [if_neg (by simp), show ine 2 0 = true from rfl, cond_true, IH n off len row (by omega) hl h60 hs]
   unfold addS; rw [hp]; rfl
  ·rw [if_pos rfl, show ine 0 0 = false from rfl, cond_false, ht]
   simp only [Option.bind_some]
   rw [jjd (by omega) _ _ _ (by rw [hdl]; omega)]
   simp only [Option.bind_some, jlv]
   have hS := jby (m := mw x) hs hx
   cases ha : (row.drop off).any (isk (mw x).t (mw x).c)
   ·have haS : addS (row.drop off) (mw x) = l40 (row.drop off ++ [mkP (mw x)]) := by unfold addS; rw [hp, ha]; rfl
    rw [haS] at hS ⊢
    rw [cond_false, jpv (by simp; omega), show full off len row.length = true from decide_eq_true hl]
    simp only [Bool.and_self, cond_true]
    have hnl : (row.drop off ++ [mkP (mw x)]).length = len + 1 := by simp [hdl]
    show (bif igt (ofN (row.drop off ++ [mkP (mw x)]).length) 40 then (bif (inn 1 && true && inbs (Int.toNat 1) (row.drop off ++ [mkP (mw x)]).length (row.drop off ++ [mkP (mw x)]).length) then jhe n (Int.toNat 1) ((row.drop off ++ [mkP (mw x)]).length - Int.toNat 1) T (ofN T.length) (ofN p.length) (row.drop off ++ [mkP (mw x)]) else none) else jbi n 0 (row.drop off ++ [mkP (mw x)]).length T (ofN T.length) (ofN (p ++ [x]).length) (row.drop off ++ [mkP (mw x)])) = _
    generalize hrow : row.drop off ++ [mkP (mw x)] = row2 at hnl hS
    rw [gt40, hnl]
    by_cases h4 : len + 1 ≤ 40
    ·rw [decide_eq_true h4, Bool.not_true, cond_false]
     have e4 : l40 row2 = row2.drop 0 := by unfold l40; rw [hnl]; congr 1; omega
     rw [e4] at hS ⊢
     exact IH n 0 (len + 1) row2 (by omega) (by omega) (by omega) hS
    ·rw [decide_eq_false h4]
     have e : (inn 1 && true && inbs (Int.toNat 1) (len + 1) (len + 1)) = true := by simp [inn, inbs]
     rw [e]
     simp only [Bool.not_false, cond_true]
     rw [show Int.toNat 1 = 1 from rfl, Nat.add_sub_cancel]
     rw [jtp T (ofN T.length) (ofN p.length) row2 (len - 40) n 1 len (by omega) (by omega) (by omega) (by omega), hi]
     have e4 : l40 row2 = row2.drop (1 + (len - 40)) := by unfold l40; rw [hnl]; congr 1; omega
     rw [e4] at hS ⊢
     exact IH _ _ 40 row2 (by omega) (by omega) (by omega) hS
   ·rw [cond_true, IH n off len row (by omega) hl h60 hs]
    unfold addS; rw [hp, ha]; rfl
theorem jht {n : Nat} (hn : 100000 < n) (l : List PT) (t : List MT) (h : l.length ≤ 60) (hs : um l) (ht : t.length ≤ 60) (hm : jkq t) : F37 n l t = some (addA l t) := by
 have hf := jn
 unfold F37
 rw [sown_p (by omega) l (by omega) hs, Option.bind_some]
 have := jtq t t [] n 0 l.length l rfl (by omega) (by omega) hm (by omega) h (by simpa using hs)
 simpa [ofN] using this
theorem jtn (t : List MT) (i : Int) (row : List PT) : ∀ (k n off len : Nat), len = 40 + k → k < n → jdl n t off len i row = jbw (n - k - 1) t (off + k) 40 (iadd .i64 i 1) row
 | _, 0, _, _, _, h => by omega
 | 0, n + 1, off, len, h0, _ => by
  subst h0
  simp only [jdl, Nat.add_zero]
  rfl
 | k + 1, n + 1, off, len, h0, h => by
  simp only [jdl]
  rw [gt40, decide_eq_false (by omega)]
  have e : (inn 1 && true && inbs (Int.toNat 1) len len) = true := by simp [inn, inbs]; omega
  rw [e]
  simp only [Bool.not_false, cond_true]
  rw [show Int.toNat 1 = 1 from rfl]
  rw [jtn t i row k n (off + 1) (len - 1) (by omega) (by omega)]
  congr 1 <;> omega
theorem jzq (t : List MT) (i : Int) (row : List PT) (n off len : Nat) (h : len ≤ 40) : jdl (n + 1) t off len i row = jbw n t off len (iadd .i64 i 1) row := by
 simp only [jdl]
 rw [gt40, decide_eq_true h]; rfl
theorem jto (T : List MT) : ∀ (r p : List MT) (n off len : Nat) (row : List PT), T = p ++ r → r.length * 100 < n → T.length < 1000 → jkq r → off + len = row.length → len ≤ 60 → um (row.drop off) → jbw n T off len (ofN p.length) row = some (addA (row.drop off) r)
 | _, _, 0, _, _, _, _, h, _, _, _, _, _ => by omega
 | [], p, n + 1, off, len, row, hT, _, _, _, hl, _, _ => by
  rw [List.append_nil] at hT
  subst hT
  simp only [jbw, jy, cond_false, jjn hl]
  rfl
 | x :: r, p, n + 1, off, len, row, hT, h, hb, hm, hl, h60, hs => by
  have hf := jn
  have hT2 : T = (p ++ [x]) ++ r := by rw [hT]; simp
  have hb2 := congrArg List.length hT
  simp only [List.length_append, List.length_cons] at hb2 h
  have e1 : ilt (ofN p.length) (ofN T.length) = true := by rw [hT]; exact qr
  have e2 : inb (ofN p.length) T.length = true := by rw [hT]; exact jq
  have e3 : ∀ d, T.getD (ofN p.length).toNat d = x := fun d => by rw [hT]; exact jr
  simp only [jbw, e1, e2, e3, cond_true, jjn hl]
  have hx := hm x (by simp)
  have ho : F124 FUEL x.1 x.2.1 x.2.2.1 x.2.2.2.1 x.2.2.2.2.1 x.2.2.2.2.2.1 x.2.2.2.2.2.2.1 x.2.2.2.2.2.2.2.1 x.2.2.2.2.2.2.2.2.1 x.2.2.2.2.2.2.2.2.2.1 x.2.2.2.2.2.2.2.2.2.2.1 x.2.2.2.2.2.2.2.2.2.2.2.1 x.2.2.2.2.2.2.2.2.2.2.2.2.1 x.2.2.2.2.2.2.2.2.2.2.2.2.2.1 x.2.2.2.2.2.2.2.2.2.2.2.2.2.2 = some (if jdo (mw x) then ⟨(mw x).t, (mw x).c, (mw x).k, (mw x).c, (mw x).f, (mw x).t, (mw x).key, (mw x).s, (mw x).d, (mw x).p, (mw x).pr, (mw x).l, (mw x).ik, (mw x).iv, (mw x).ir, (mw x).ig, (mw x).cd, 0⟩ else ⟨0, 0, 0, 0, 0, 0, 0, false, false, 0, 0, [], ByteArray.empty, 0, 0, false, 0, 2⟩) := of_r FUEL (mw x) hx
  have hdl : (row.drop off).length = len := by rw [List.length_drop]; omega
  have hi : iadd .i64 (ofN p.length) 1 = ofN (p ++ [x]).length := qa (by omega)
  have IH := fun n off len row hn hl h60 hs => jto T r (p ++ [x]) n off len row hT2 hn hb (fun y hy => hm y (by simp [hy])) hl h60 hs
  have hA : ∀ l, addA l (x :: r) = addA (addS l (mw x)) r := fun l => rfl
  have hfd := fun a b => jwo (n := FUEL) (by omega) (row.drop off) a b (by rw [hdl]; omega) hs
  rw [ho, hi, hA]
  simp only [Option.bind_some]
  cases hp : jdo (mw x)
  ·rw [if_neg (by simp)]
   simp only [hfd, Option.bind_some]
   rw [show ine 2 0 = true from rfl, cond_true, IH n off len row (by omega) hl h60 hs]
   unfold addS; rw [hp]; rfl
  ·rw [if_pos rfl]
   simp only [hfd, Option.bind_some, mkF_q]
   rw [show ine 0 0 = false from rfl, cond_false]
   have hS := jby (m := mw x) hs hx
   cases ha : (row.drop off).any (isk (mw x).t (mw x).c)
   ·have haS : addS (row.drop off) (mw x) = l40 (row.drop off ++ [mkP (mw x)]) := by unfold addS; rw [hp, ha]; rfl
    rw [haS] at hS ⊢
    rw [cond_false, jpv (by simp; omega), show full off len row.length = true from decide_eq_true hl]
    simp only [Bool.and_self, cond_true]
    have hnl : (row.drop off ++ [mkP (mw x)]).length = len + 1 := by simp [hdl]
    show jdl n T 0 (row.drop off ++ [mkP (mw x)]).length (ofN p.length) (row.drop off ++ [mkP (mw x)]) = _
    generalize hrow : row.drop off ++ [mkP (mw x)] = row2 at hnl hS
    rw [hnl]
    by_cases h4 : len + 1 ≤ 40
    ·obtain ⟨n', rfl⟩ : ∃ n', n = n' + 1 := ⟨n - 1, by omega⟩
     rw [jzq T _ row2 n' 0 (len + 1) h4, hi]
     have e4 : l40 row2 = row2.drop 0 := by unfold l40; rw [hnl]; congr 1; omega
     rw [e4] at hS ⊢
     exact IH n' 0 (len + 1) row2 (by omega) (by omega) (by omega) hS
    ·rw [jtn T (ofN p.length) row2 (len + 1 - 40) n 0 (len + 1) (by omega) (by omega), hi]
     have e4 : l40 row2 = row2.drop (0 + (len + 1 - 40)) := by unfold l40; rw [hnl]; congr 1; omega
     rw [e4] at hS ⊢
     exact IH _ _ 40 row2 (by omega) (by omega) (by omega) hS
   ·rw [cond_true, IH n off len row (by omega) hl h60 hs]
    unfold addS; rw [hp, ha]; rfl
theorem jhs {n : Nat} (hn : 100000 < n) (l : List PT) (t : List MT) (h : l.length ≤ 60) (hs : um l) (ht : t.length ≤ 60) (hm : jkq t) : F43 n l t = some (addA l t) := by
 have hf := jn
 unfold F43
 rw [sown_r (by omega) l (by omega) hs, Option.bind_some]
 have := jto t t [] n 0 l.length l rfl (by omega) (by omega) hm (by omega) h (by simpa using hs)
 simpa [ofN] using this
end Go.Proofs.YthjhcmkgadfpmaaGreat
namespace Go.Proofs.YthjhcmkgadfpmaaGreat
open Go Go.RowKit
theorem bl_irr : ∀ x : List UInt8, Op.bytesLess x x = false
 | [] => rfl
 | a :: x => by simp [Op.bytesLess, bl_irr x]
theorem bl_tri : ∀ x y : List UInt8, Op.bytesLess x y = true ∨ x = y ∨ Op.bytesLess y x = true
 | [], [] => .inr (.inl rfl)
 | [], _ :: _ => .inl rfl
 | _ :: _, [] => .inr (.inr rfl)
 | a :: x, b :: y => by
  rcases bl_tri x y with h | h | h
  ·by_cases e : a = b
   ·subst e; left; simp [Op.bytesLess, h]
   ·rcases UInt8.lt_or_lt_of_ne e with e1 | e1
    ·left; simp [Op.bytesLess, e1]
    ·right; right; simp [Op.bytesLess, e1]
  ·by_cases e : a = b
   ·right; left; rw [e, h]
   ·rcases UInt8.lt_or_lt_of_ne e with e1 | e1
    ·left; simp [Op.bytesLess, e1]
    ·right; right; simp [Op.bytesLess, e1]
  ·by_cases e : a = b
   ·subst e; right; right; simp [Op.bytesLess, h]
   ·rcases UInt8.lt_or_lt_of_ne e with e1 | e1
    ·left; simp [Op.bytesLess, e1]
    ·right; right; simp [Op.bytesLess, e1]
theorem jro : ∀ x y z : List UInt8, Op.bytesLess x y = true → Op.bytesLess y z = true → Op.bytesLess x z = true
 | _, [], _, h, _ => by simp [Op.bytesLess] at h
 | _, _ :: _, [], _, h => by simp [Op.bytesLess] at h
 | [], _ :: _, _ :: _, _, _ => rfl
 | a :: x, b :: y, c :: z, h1, h2 => by
  simp only [Op.bytesLess, Bool.or_eq_true, Bool.and_eq_true, decide_eq_true_eq, beq_iff_eq] at h1 h2 ⊢
  rcases h1 with h1 | ⟨rfl, h1⟩
  ·rcases h2 with h2 | ⟨rfl, h2⟩
   ·exact .inl (UInt8.lt_trans h1 h2)
   ·exact .inl h1
  ·rcases h2 with h2 | ⟨rfl, h2⟩
   ·exact .inl h2
   ·exact .inr ⟨rfl, jro x y z h1 h2⟩
def klt (a b : ByteArray) : Bool := Op.bytesLess a.data.toList b.data.toList
theorem jjt (a : ByteArray) : klt a a = false := bl_irr _
theorem jgc (a b : ByteArray) : klt a b = true ∨ a = b ∨ klt b a = true := by
 rcases bl_tri a.data.toList b.data.toList with h | h | h
 ·exact .inl h
 ·exact .inr (.inl (WideShapes.bytes_inj h))
 ·exact .inr (.inr h)
theorem jbe {a b c : ByteArray} (h1 : klt a b = true) (h2 : klt b c = true) : klt a c = true := jro _ _ _ h1 h2
theorem jqv {a b : ByteArray} (h : klt a b = true) : klt b a = false := by
 cases h2 : klt b a
 ·rfl
 ·have := jbe h h2
  rw [jjt] at this; cases this
theorem jhz {a b : ByteArray} (h : klt a b = true) : a ≠ b := fun e => by
 rw [e, jjt] at h; cases h
theorem jko (a b : ByteArray) : stlt a b = klt a b := by unfold stlt klt; rw [ByteArray.toList_eq, ByteArray.toList_eq]
theorem jms (a b : ByteArray) : (a.toList == b.toList) = decide (a = b) := uk a b
theorem stle_k (a b : ByteArray) : stle a b = !klt b a := by
 unfold stle
 rw [show Op.bytesLess a.toList b.toList = klt a b from jko a b, jms]
 rcases jgc a b with h | h | h
 ·rw [h, jqv h]; rfl
 ·rw [h, jjt]; simp
 ·rw [jqv h, h, decide_eq_false (fun e => jhz h e.symm)]; rfl
theorem stgt_k (a b : ByteArray) : stgt a b = klt b a := by
 have := stle_k a b
 unfold stle at this
 unfold stgt
 rw [this, Bool.not_not]
theorem stge_k (a b : ByteArray) : stge a b = !klt a b := by
 unfold stge
 rw [show Op.bytesLess a.toList b.toList = klt a b from jko a b]
abbrev IT := ByteArray × Int × Int × Bool
def jas (x : IT) : Bool := jdx x.1 x.2.1 x.2.2.1
def newI (a b : IT) : Bool := decide (b.2.2.1 < a.2.2.1) || (decide (a.2.2.1 = b.2.2.1) && (decide (b.2.1 < a.2.1) || (decide (a.2.1 = b.2.1) && (a.2.2.2 && !b.2.2.2))))
theorem newer_r (n : Nat) (k : ByteArray) (v r : Int) (g : Bool) (k' : ByteArray) (v' r' : Int) (g' : Bool) : F31 n k v r g k' v' r' g' = some (newI (k, v, r, g) (k', v', r', g')) := by
 unfold F31 F106 newI
 simp only [igt, ilt, GT.gt]
 by_cases h1 : r' < r
 ·simp [h1]
 ·by_cases h2 : r < r'
  ·have : ¬ r = r' := by omega
   simp [h1, h2, this]
  ·have : r = r' := by omega
   by_cases h3 : v' < v
   ·simp [this, h3]
   ·by_cases h4 : v < v'
    ·have h5 : ¬ v = v' := by omega
     simp [this, h3, h4, h5]
    ·have h5 : v = v' := by omega
     cases g <;> cases g' <;> simp [this, h5]
def Srt (k : List IT) : Prop := k.Pairwise fun a b => klt a.1 b.1 = true
def rk2 : Option ByteArray → List IT → Bool
 | _, [] => true
 | o, x :: r => jas x && ((match o with | none => true | some q => klt q x.1) && rk2 (some x.1) r)
def zi (k : List IT) : Bool := decide (k.length ≤ 24) && rk2 none k
theorem jpx : ∀ (k : List IT) (q : ByteArray), rk2 (some q) k = true ↔ (∀ x ∈ k, jas x = true) ∧ Srt k ∧ ∀ x ∈ k, klt q x.1 = true
 | [], q => by simp [rk2, Srt]
 | x :: r, q => by
  simp only [rk2, Bool.and_eq_true, jpx r x.1, List.forall_mem_cons, Srt, List.pairwise_cons]
  constructor
  ·rintro ⟨h1, h2, h3, h4, h5⟩
   exact ⟨⟨h1, h3⟩, ⟨h5, h4⟩, h2, fun y hy => jbe h2 (h5 y hy)⟩
  ·rintro ⟨⟨h1, h3⟩, ⟨h5, h4⟩, h2, _⟩
   exact ⟨h1, h2, h3, h4, h5⟩
theorem jzu (k : List IT) : rk2 none k = true ↔ (∀ x ∈ k, jas x = true) ∧ Srt k := by
 cases k with
 | nil => simp [rk2, Srt]
 | cons x r =>
  simp only [rk2, Bool.and_eq_true, jpx r x.1, List.forall_mem_cons, Srt, List.pairwise_cons]
  constructor
  ·rintro ⟨h1, _, h3, h4, h5⟩; exact ⟨⟨h1, h3⟩, h5, h4⟩
  ·rintro ⟨⟨h1, h3⟩, h5, h4⟩; exact ⟨h1, trivial, h3, h4, h5⟩
theorem wd (k : List IT) : zi k = true ↔ k.length ≤ 24 ∧ (∀ x ∈ k, jas x = true) ∧ Srt k := by
 unfold zi; rw [Bool.and_eq_true, jzu, decide_eq_true_eq]
def fnd (k : List IT) (key : ByteArray) : Option IT := k.find? fun x => decide (x.1 = key)
theorem jaf (x : IT) (r : List IT) (key : ByteArray) : fnd (x :: r) key = if x.1 = key then some x else fnd r key := by
 unfold fnd; rw [List.find?_cons]; by_cases h : x.1 = key <;> simp [h]
theorem jrf {k : List IT} {key : ByteArray} : fnd k key = none ↔ ∀ x ∈ k, x.1 ≠ key := by
 unfold fnd; simp
theorem jcu {x : IT} {r : List IT} (h : Srt (x :: r)) : Srt r := (List.pairwise_cons.1 h).2
theorem jex {x : IT} {r : List IT} (h : Srt (x :: r)) : ∀ y ∈ r, klt x.1 y.1 = true := (List.pairwise_cons.1 h).1
theorem jib : ∀ {k : List IT} {x : IT}, Srt k → x ∈ k → fnd k x.1 = some x
 | [], x, _, h => by simp at h
 | y :: r, x, hs, h => by
  rw [jaf]
  rcases List.mem_cons.1 h with rfl | h
  ·simp
  ·have := jex hs x h
   rw [if_neg (jhz this)]
   exact jib (jcu hs) h
def mx (o : Option IT) (x : IT) : IT := match o with | none => x | some o => bif newI x o then x else o
def ins (x : IT) : List IT → List IT
 | [] => [x]
 | y :: r => bif klt y.1 x.1 then y :: ins x r else bif decide (y.1 = x.1) then (bif newI x y then x else y) :: r else x :: y :: r
theorem jqz (x : IT) : ∀ (k : List IT) (z : IT), z ∈ ins x k → z.1 = x.1 ∨ z ∈ k
 | [], z, h => by simp [ins] at h; exact .inl (by rw [h])
 | y :: r, z, h => by
  unfold ins at h
  cases h1 : klt y.1 x.1
  ·rw [h1, cond_false] at h
   by_cases h2 : y.1 = x.1
   ·rw [decide_eq_true h2, cond_true] at h
    rcases List.mem_cons.1 h with e | h
    ·left; rw [e]; cases newI x y; exact h2; rfl
    ·exact .inr (List.mem_cons_of_mem _ h)
   ·rw [decide_eq_false h2, cond_false] at h
    rcases List.mem_cons.1 h with e | h
    ·left; rw [e]
    ·exact .inr h
  ·rw [h1, cond_true] at h
   rcases List.mem_cons.1 h with e | h
   ·right; rw [e]; simp
   ·rcases jqz x r z h with h | h
    ·exact .inl h
    ·exact .inr (List.mem_cons_of_mem _ h)
theorem jqy {x : IT} : ∀ {k : List IT}, jas x = true → (∀ y ∈ k, jas y = true) → ∀ y ∈ ins x k, jas y = true
 | [], hx, _, y, h => by simp [ins] at h; rw [h]; exact hx
 | z :: r, hx, hk, y, h => by
  unfold ins at h
  have hz := hk z (by simp)
  have hr : ∀ y ∈ r, jas y = true := fun y hy => hk y (List.mem_cons_of_mem _ hy)
  cases h1 : klt z.1 x.1
  ·rw [h1, cond_false] at h
   by_cases h2 : z.1 = x.1
   ·rw [decide_eq_true h2, cond_true] at h
    rcases List.mem_cons.1 h with e | h
    ·rw [e]; cases newI x z; exact hz; exact hx
    ·exact hr y h
   ·rw [decide_eq_false h2, cond_false] at h
    rcases List.mem_cons.1 h with e | h
    ·rw [e]; exact hx
    ·exact hk y h
  ·rw [h1, cond_true] at h
   rcases List.mem_cons.1 h with e | h
   ·rw [e]; exact hz
   ·exact jqy hx hr y h
theorem jvx (x : IT) : ∀ {k : List IT}, Srt k → Srt (ins x k)
 | [], _ => by simp [ins, Srt]
 | y :: r, hs => by
  have h0 := jex hs
  have h1 := jcu hs
  unfold ins
  cases h2 : klt y.1 x.1
  ·rw [cond_false]
   by_cases h3 : y.1 = x.1
   ·rw [decide_eq_true h3, cond_true]
    refine List.pairwise_cons.2 ⟨fun z hz => ?_, h1⟩
    cases newI x y
    ·exact h0 z hz
    ·show klt x.1 z.1 = true; rw [← h3]; exact h0 z hz
   ·rw [decide_eq_false h3, cond_false]
    have h4 : klt x.1 y.1 = true := by
     rcases jgc y.1 x.1 with h | h | h
     ·rw [h2] at h; cases h
     ·exact absurd h h3
     ·exact h
    exact List.pairwise_cons.2 ⟨fun z hz => by
     rcases List.mem_cons.1 hz with e | hz
     ·rw [e]; exact h4
     ·exact jbe h4 (h0 z hz), hs⟩
  ·rw [cond_true]
   exact List.pairwise_cons.2 ⟨fun z hz => by
    rcases jqz x r z hz with e | hz
    ·rw [e]; exact h2
    ·exact h0 z hz, jvx x h1⟩
theorem jpm {x : IT} {r : List IT} {key : ByteArray} (hs : Srt (x :: r)) (h : klt key x.1 = true) : fnd (x :: r) key = none :=
 jrf.2 fun y hy e => by
  rcases List.mem_cons.1 hy with e1 | hy
  ·rw [e1] at e; exact jhz h e.symm
  ·exact jhz (jbe h (jex hs y hy)) e.symm
theorem jvy (x : IT) : ∀ {k : List IT}, Srt k → (ins x k).length = if (fnd k x.1).isSome then k.length else k.length + 1
 | [], _ => rfl
 | y :: r, hs => by
  have h1 := jcu hs
  unfold ins
  cases h2 : klt y.1 x.1
  ·rw [cond_false, jaf]
   by_cases h3 : y.1 = x.1
   ·rw [decide_eq_true h3, if_pos h3]; rfl
   ·have h4 : klt x.1 y.1 = true := by
     rcases jgc y.1 x.1 with h | h | h
     ·rw [h2] at h; cases h
     ·exact absurd h h3
     ·exact h
    have h5 := jpm hs h4
    rw [jaf, if_neg h3] at h5
    rw [decide_eq_false h3, if_neg h3, h5]; rfl
  ·rw [cond_true, jaf, if_neg (jhz h2), List.length_cons, jvy x h1]
   split <;> rfl
def putV (k : List IT) (x : IT) : List IT × Int :=
 bif zi k && jas x then (bif (fnd k x.1).isSome || !decide (24 ≤ k.length) then (ins x k, 0) else (k, 200)) else (k, 2)
theorem jup {k : List IT} (x : IT) (hk : zi k = true) : zi (putV k x).1 = true := by
 unfold putV
 rw [hk, Bool.true_and]
 cases hp : jas x
 ·exact hk
 ·simp only [cond_true]
  obtain ⟨h1, h2, h3⟩ := (wd k).1 hk
  cases hc : ((fnd k x.1).isSome || !decide (24 ≤ k.length))
  ·exact hk
  ·simp only [cond_true]
   refine (wd _).2 ⟨?_, jqy hp h2, jvx x h3⟩
   rw [jvy x h3]
   cases hf : (fnd k x.1).isSome
   ·rw [hf] at hc; simp at hc; simp; omega
   ·simpa using h1
end Go.Proofs.YthjhcmkgadfpmaaGreat
