/-
  What the functions compute, in plain words.
-/
import Derived.Test.YtcbhmedknbiffaaEvY
import Derived.ProofKit
namespace Go.Proofs.Ytcbhmedknbiffaa
open Go Go.RowKit
theorem fuel_big : 100000 < FUEL := by unfold FUEL; omega
theorem ieq_dec (a b : Int) : ieq a b = decide (a = b) := by
  unfold ieq
  by_cases h : a = b
  · rw [decide_eq_true h]; exact beq_iff_eq.2 h
  · rw [decide_eq_false h]; exact beq_eq_false_iff_ne.2 h
theorem ine_dec (a b : Int) : ine a b = !decide (a = b) := by
  unfold ine bne
  exact congrArg Bool.not (ieq_dec a b)
def pl (a : Int) : Int := a % 65536
def fr (a b : Int) : Int := (b - a) % 65536
def cut (w y x : Int) : Bool := decide (0 < fr w x) && (decide (fr w y = 0) || decide (fr w x < fr w y))
theorem wrap_mid {n : Int} (h1 : -9223372036854775808 ≤ n) (h2 : n < 9223372036854775808) : IntKind.i64.wrap n = n := by
  rw [IntKind.wrap_i64]; omega
section
variable {α : Type} {p r : List α} {x : α}
theorem lt_in : ilt (ofN p.length) (ofN (p ++ x :: r).length) = true := decide_eq_true (by simp only [ofN, List.length_append, List.length_cons]; omega)
theorem lt_out : ilt (ofN p.length) (ofN p.length) = false := by simp [ilt, ofN]
theorem inb_in : inb (ofN p.length) (p ++ x :: r).length = true := by simp [inb, ofN]; omega
theorem nlt_in : nlt (ofN p.length).toNat (p ++ x :: r).length = true := by simp [nlt, ofN]
theorem get_in {d : α} : (p ++ x :: r).getD (ofN p.length).toNat d = x := by simp [ofN]
theorem add_in (h : p.length < 9223372036854775807) : iadd .i64 (ofN p.length) 1 = ofN (p ++ [x]).length := by
  simp only [iadd, ofN]; rw [wrap_mid (by omega) (by omega)]; simp
theorem in_eq : p ++ x :: r = (p ++ [x]) ++ r := by simp
theorem room_all {n b : Nat} (h : n < 1000) (hb : b ≤ 1000) : room n b = true := by
  unfold room
  have : n * b ≤ 1000 * 1000 := Nat.mul_le_mul (by omega) hb
  simp; omega
end
end Go.Proofs.Ytcbhmedknbiffaa
namespace Go.Proofs.Ytcbhmedknbiffaa
open Go Go.RowKit
structure MW where
  k : Int
  c : Int
  f : Int
  t : Int
  key : Int
  s : Bool
  d : Bool
  p : Int
  pr : Int
  l : List Int
  ik : ByteArray
  iv : Int
  ir : Int
  ig : Bool
  cd : Int
  deriving DecidableEq
theorem lad1 (b y : Bool) : (bif b then some y else some false) = some (b && y) := by cases b <;> rfl
theorem beqb_dec (a b : Bool) : beqb a b = decide (a = b) := by cases a <;> cases b <;> rfl
theorem steq_dec (a b : ByteArray) : steq a b = decide (a = b) := by
  unfold steq
  by_cases h : a = b
  · rw [decide_eq_true h]; exact beq_iff_eq.2 (by rw [h])
  · rw [decide_eq_false h]
    refine beq_eq_false_iff_ne.2 fun e => h ?_
    rw [ByteArray.toList_eq, ByteArray.toList_eq] at e
    exact WideShapes.bytes_inj e
theorem equal_c : ∀ (r s p q : List Int) (n : Nat), r.length < n → p.length = q.length → r.length = s.length → (p ++ r).length ≤ 9223372036854775807 → F50_c0 n (p ++ r) (q ++ s) (ofN (p ++ r).length) (ofN p.length) = some (decide (r = s))
  | _, _, _, _, 0, h, _, _, _ => by omega
  | [], [], p, q, n + 1, _, _, _, _ => by simp only [F50_c0, List.append_nil, lt_out, cond_false]; rfl
  | x :: r, y :: s, p, q, n + 1, h, hp, hs, hb => by
    have e1 : inb (ofN p.length) (q ++ y :: s).length = true := by rw [hp]; exact inb_in
    have e2 : ∀ d, (q ++ y :: s).getD (ofN p.length).toNat d = y := fun d => by rw [hp]; exact get_in
    simp only [F50_c0, lt_in, inb_in, get_in, cond_true, e1, e2]
    simp only [List.length_append, List.length_cons] at h hb hs
    rw [add_in (x := x) (by omega)]
    have h1 := equal_c r s (p ++ [x]) (q ++ [y]) n (by omega) (by simp [hp]) (by omega) (by simp; omega)
    rw [← in_eq, ← in_eq] at h1
    rw [h1, ine_dec]
    by_cases hxy : x = y
    · subst hxy; simp
    · simp [hxy]
theorem equal_p {n : Nat} (l m : List Int) (hn : l.length < n) (h : l.length ≤ 9223372036854775807) : F50 n l m = some (decide (l = m)) := by
  unfold F50
  by_cases hl : l.length = m.length
  · have e : ine (ofN l.length) (ofN m.length) = false := by simp [ine, ofN, hl]
    rw [e, cond_false]
    simpa [ofN] using equal_c l m [] [] n (by omega) rfl hl (by simpa using h)
  · have e : ine (ofN l.length) (ofN m.length) = true := by simp [ine, ofN]; omega
    rw [e, cond_true, decide_eq_false (fun hh => hl (by rw [hh]))]
def sameM (a b : MW) : Bool := decide (a.l = b.l) && (decide (a.k = b.k) && (decide (a.c = b.c) && (decide (a.f = b.f) && (decide (a.t = b.t) && (decide (a.key = b.key) && (decide (a.s = b.s) && (decide (a.d = b.d) && (decide (a.p = b.p) && (decide (a.pr = b.pr) && ((decide (a.ik = b.ik) && (decide (a.iv = b.iv) && (decide (a.ir = b.ir) && decide (a.ig = b.ig)))) && decide (a.cd = b.cd)))))))))))
theorem sameM_iff (a b : MW) : sameM a b = true ↔ a = b := by
  cases a; cases b
  simp only [sameM, Bool.and_eq_true, decide_eq_true_eq, MW.mk.injEq]
  grind
theorem sameM_self (a : MW) : sameM a a = true := (sameM_iff a a).2 rfl
theorem msame_p {n : Nat} {a0 : Int} {a1 : Int} {a2 : Int} {a3 : Int} {a4 : Int} {a5 : Bool} {a6 : Bool} {a7 : Int} {a8 : Int} {a9 : List Int} {a10 : ByteArray} {a11 : Int} {a12 : Int} {a13 : Bool} {a14 : Int} {b0 : Int} {b1 : Int} {b2 : Int} {b3 : Int} {b4 : Int} {b5 : Bool} {b6 : Bool} {b7 : Int} {b8 : Int} {b9 : List Int} {b10 : ByteArray} {b11 : Int} {b12 : Int} {b13 : Bool} {b14 : Int} (h : a9.length < 100000) : F37 n a0 a1 a2 a3 a4 a5 a6 a7 a8 a9 a10 a11 a12 a13 a14 b0 b1 b2 b3 b4 b5 b6 b7 b8 b9 b10 b11 b12 b13 b14 = some (sameM ⟨a0, a1, a2, a3, a4, a5, a6, a7, a8, a9, a10, a11, a12, a13, a14⟩ ⟨b0, b1, b2, b3, b4, b5, b6, b7, b8, b9, b10, b11, b12, b13, b14⟩) := by
  have hf := fuel_big
  unfold F37 sameM
  rw [equal_p a9 b9 (by omega) (by omega)]
  simp only [Option.bind_some, lad1, ieq_dec, beqb_dec, steq_dec, Bool.and_true]
  congr 1
  grind
theorem msame_rc (a0 : Int) (a1 : Int) (a2 : Int) (a3 : Int) (a4 : Int) (a5 : Bool) (a6 : Bool) (a7 : Int) (a8 : Int) (a9 : List Int) (a10 : ByteArray) (a11 : Int) (a12 : Int) (a13 : Bool) (a14 : Int) (b0 : Int) (b1 : Int) (b2 : Int) (b3 : Int) (b4 : Int) (b5 : Bool) (b6 : Bool) (b7 : Int) (b8 : Int) (b9 : List Int) (b10 : ByteArray) (b11 : Int) (b12 : Int) (b13 : Bool) (b14 : Int) : ∀ (r s p q : List Int) (n : Nat), a9 = p ++ r → b9 = q ++ s → r.length < n → p.length = q.length → r.length = s.length → (p ++ r).length ≤ 9223372036854775807 →
    F15_c0 n (ofN p.length) a0 a1 a2 a3 a4 a5 a6 a7 a8 a9 a10 a11 a12 a13 a14 b0 b1 b2 b3 b4 b5 b6 b7 b8 b9 b10 b11 b12 b13 b14 = some (decide (r = s) && (decide (a0 = b0) && (decide (a1 = b1) && (decide (a2 = b2) && (decide (a3 = b3) && (decide (a4 = b4) && (decide (a5 = b5) && (decide (a6 = b6) && (decide (a7 = b7) && (decide (a8 = b8) && ((decide (a10 = b10) && (decide (a11 = b11) && (decide (a12 = b12) && decide (a13 = b13)))) && decide (a14 = b14))))))))))))
  | _, _, _, _, 0, _, _, h, _, _, _ => by omega
  | [], [], p, q, n + 1, ha, hb, _, _, _, _ => by
    rw [List.append_nil] at ha
    subst ha
    simp only [F15_c0, lt_out, cond_false, lad1, ieq_dec, beqb_dec, steq_dec, Bool.and_true]
    simp only [decide_true, Bool.true_and]
  | x :: r, y :: s, p, q, n + 1, ha, hb', h, hp, hs, hb => by
    have e1 : inb (ofN p.length) (q ++ y :: s).length = true := by rw [hp]; exact inb_in
    have e2 : ∀ d, (q ++ y :: s).getD (ofN p.length).toNat d = y := fun d => by rw [hp]; exact get_in
    simp only [List.length_append, List.length_cons] at h hb hs
    have h1 := msame_rc a0 a1 a2 a3 a4 a5 a6 a7 a8 a9 a10 a11 a12 a13 a14 b0 b1 b2 b3 b4 b5 b6 b7 b8 b9 b10 b11 b12 b13 b14 r s (p ++ [x]) (q ++ [y]) n (by rw [ha, in_eq]) (by rw [hb', in_eq]) (by omega) (by simp [hp]) (by omega) (by simp; omega)
    simp only [F15_c0]
    rw [show ilt (ofN p.length) (ofN a9.length) = true by rw [ha]; exact lt_in, show inb (ofN p.length) a9.length = true by rw [ha]; exact inb_in, show inb (ofN p.length) b9.length = true by rw [hb']; exact e1, show a9.getD (ofN p.length).toNat 0 = x by rw [ha]; exact get_in, show b9.getD (ofN p.length).toNat 0 = y by rw [hb']; exact e2 0]
    rw [add_in (x := x) (by omega), h1, ine_dec]
    by_cases hxy : x = y
    · subst hxy; simp
    · simp [hxy]
theorem msame_r {n : Nat} {a0 : Int} {a1 : Int} {a2 : Int} {a3 : Int} {a4 : Int} {a5 : Bool} {a6 : Bool} {a7 : Int} {a8 : Int} {a9 : List Int} {a10 : ByteArray} {a11 : Int} {a12 : Int} {a13 : Bool} {a14 : Int} {b0 : Int} {b1 : Int} {b2 : Int} {b3 : Int} {b4 : Int} {b5 : Bool} {b6 : Bool} {b7 : Int} {b8 : Int} {b9 : List Int} {b10 : ByteArray} {b11 : Int} {b12 : Int} {b13 : Bool} {b14 : Int} (h : a9.length < n) (hl : a9.length ≤ 9223372036854775807) : F15 n a0 a1 a2 a3 a4 a5 a6 a7 a8 a9 a10 a11 a12 a13 a14 b0 b1 b2 b3 b4 b5 b6 b7 b8 b9 b10 b11 b12 b13 b14 = some (sameM ⟨a0, a1, a2, a3, a4, a5, a6, a7, a8, a9, a10, a11, a12, a13, a14⟩ ⟨b0, b1, b2, b3, b4, b5, b6, b7, b8, b9, b10, b11, b12, b13, b14⟩) := by
  unfold F15 sameM
  by_cases hl' : a9.length = b9.length
  · have e : ine (ofN a9.length) (ofN b9.length) = false := by simp [ine, ofN, hl']
    rw [e, cond_false]
    simpa [ofN] using msame_rc a0 a1 a2 a3 a4 a5 a6 a7 a8 a9 a10 a11 a12 a13 a14 b0 b1 b2 b3 b4 b5 b6 b7 b8 b9 b10 b11 b12 b13 b14 a9 b9 [] [] n rfl rfl h rfl hl' (by simpa using hl)
  · have e : ine (ofN a9.length) (ofN b9.length) = true := by simp [ine, ofN]; omega
    rw [e, cond_true]
    simp only
    rw [decide_eq_false (fun hh => hl' (by rw [hh])), Bool.false_and]
end Go.Proofs.Ytcbhmedknbiffaa
namespace Go.Proofs.Ytcbhmedknbiffaa
open Go Go.RowKit
theorem mown_p (n : Nat) (a0 : Int) (a1 : Int) (a2 : Int) (a3 : Int) (a4 : Int) (a5 : Bool) (a6 : Bool) (a7 : Int) (a8 : Int) (a9 : List Int) (a10 : ByteArray) (a11 : Int) (a12 : Int) (a13 : Bool) (a14 : Int) (h : a9.length < 1000) : F32 n a0 a1 a2 a3 a4 a5 a6 a7 a8 a9 a10 a11 a12 a13 a14 = some ⟨a0, a1, a2, a3, a4, a5, a6, a7, a8, a10, a11, a12, a13, a14, a9⟩ := by
  unfold F32
  have e : room a9.length 8 = true := room_all (by omega) (by omega)
  rw [e]; rfl
end Go.Proofs.Ytcbhmedknbiffaa
