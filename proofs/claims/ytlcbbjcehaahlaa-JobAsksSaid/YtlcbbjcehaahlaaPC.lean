/-
  In plain words: messages.
-/
import Derived.Test.YtlcbbjcehaahlaaPA
namespace Go.Proofs.Ytlcbbjcehaahlaa
open Go Go.RowKit

/-- A message. -/
structure MW where
  k : Int
  c : Int
  f : Int
  t : Int
  key : Int
  s : Bool
  d : Bool
  p : Int
  pr : Int
  l : List Int
  ik : ByteArray
  iv : Int
  ir : Int
  ig : Bool
  cd : Int
  deriving DecidableEq

/-! ### Ladders. -/
theorem lad1 (b y : Bool) : (bif b then some y else some false) = some (b && y) := by cases b <;> rfl
theorem lad2 (b y : Bool) : (bif b then some false else some y) = some (!b && y) := by cases b <;> rfl
theorem lad3 (b y : Bool) : (bif b then some true else some y) = some (b || y) := by cases b <;> rfl
theorem lad4 (b : Bool) : (bif b then some true else some false) = some b := by cases b <;> rfl
theorem beqb_dec (a b : Bool) : beqb a b = decide (a = b) := by cases a <;> cases b <;> rfl
theorem bneb_dec (a b : Bool) : bneb a b = !decide (a = b) := by cases a <;> cases b <;> rfl
theorem steq_dec (a b : ByteArray) : steq a b = decide (a = b) := by
  unfold steq
  by_cases h : a = b
  · rw [decide_eq_true h]; exact beq_iff_eq.2 (by rw [h])
  · rw [decide_eq_false h]
    refine beq_eq_false_iff_ne.2 fun e => h ?_
    rw [ByteArray.toList_eq, ByteArray.toList_eq] at e
    exact WideShapes.bytes_inj e

/-! ### Pairs, calls. -/
def isKeyB (k : ByteArray) : Bool := decide (1 ≤ k.size) && decide (k.size ≤ 20)
def isValB (n : Int) : Bool := decide (0 ≤ n) && decide (n ≤ 1048576)
def pairB (k : ByteArray) (v r : Int) : Bool := isKeyB k && (isValB v && isValB r)
theorem stl1 (k : ByteArray) : ige (stlen k) 1 = decide (1 ≤ k.size) := by unfold ige stlen; apply decide_eq_decide.2; omega
theorem stl2 (k : ByteArray) : ile (stlen k) 20 = decide (k.size ≤ 20) := by unfold ile stlen; apply decide_eq_decide.2; omega
theorem isKey_p (n : Nat) (k : ByteArray) : F63 n k = some (isKeyB k) := by
  unfold F63 isKeyB; rw [stl1, stl2, lad1]
theorem isValue_p (n : Nat) (v : Int) : F64 n v = some (isValB v) := by
  unfold F64 isValB; rw [lad1]; rfl
theorem pair_p (n : Nat) (k : ByteArray) (v r : Int) (g : Bool) : F32 n k v r g = some (pairB k v r) := by
  unfold F32 pairB
  simp only [isKey_p, isValue_p, Option.bind_some, lad1]
/-- A call's number. -/
def callV (a n : Int) : Int × Int := if isP a && (decide (1 ≤ n) && decide (n ≤ 1048576)) then (a * 1048576 + n, 0) else (0, 2)
theorem call_num {a n : Int} (ha : isP a = true) (h1 : 1 ≤ n) (h2 : n ≤ 1048576) : iadd .i64 (imul .i64 a 1048576) n = a * 1048576 + n := by
  have := isP_iff.1 ha
  have e : IntKind.i64.wrap (a * 1048576) = a * 1048576 := wrap_mid (by omega) (by omega)
  simp only [iadd, imul]
  rw [e, wrap_mid (by omega) (by omega)]

/-! ### Asks, askers. -/
def askB (k : Int) : Bool := decide (1 ≤ k) && decide (k ≤ 6)
def askerV (k f t : Int) : Int := if askB k then f else t
theorem askB_of (k : Int) : (bif ige k 1 then some (ile k 6) else some false) = some (askB k) := by rw [lad1]; rfl
theorem msgasks_p (n : Nat) (a0 : Int) (a1 : Int) (a2 : Int) (a3 : Int) (a4 : Int) (a5 : Bool) (a6 : Bool) (a7 : Int) (a8 : Int) (a9 : List Int) (a10 : ByteArray) (a11 : Int) (a12 : Int) (a13 : Bool) (a14 : Int) : F76 n a0 a1 a2 a3 a4 a5 a6 a7 a8 a9 a10 a11 a12 a13 a14 = some (askB a0) := askB_of a0
theorem askerV_of (k f t : Int) : (bif askB k then some f else some t) = some (askerV k f t) := by unfold askerV; cases askB k <;> rfl
theorem asker_p (n : Nat) (a0 : Int) (a1 : Int) (a2 : Int) (a3 : Int) (a4 : Int) (a5 : Bool) (a6 : Bool) (a7 : Int) (a8 : Int) (a9 : List Int) (a10 : ByteArray) (a11 : Int) (a12 : Int) (a13 : Bool) (a14 : Int) : F49 n a0 a1 a2 a3 a4 a5 a6 a7 a8 a9 a10 a11 a12 a13 a14 = some (askerV a0 a2 a3) := by
  unfold F49; rw [msgasks_p, Option.bind_some, askerV_of]
theorem asker_place {k f t : Int} (hf : isP f = true) (ht : isP t = true) : isP (askerV k f t) = true := by unfold askerV; split <;> assumption
def callB (a c : Int) : Bool := decide (a * 1048576 < c) && decide (c ≤ a * 1048576 + 1048576)
theorem iscall_p (n : Nat) {a : Int} (ha : isP a = true) (c : Int) : F48 n a c = some (callB a c) := by
  have := isP_iff.1 ha
  unfold F48 callB
  have e1 : imul .i64 a 1048576 = a * 1048576 := by simp only [imul]; rw [wrap_mid (by omega) (by omega)]
  have e2 : imul .i64 (iadd .i64 a 1) 1048576 = a * 1048576 + 1048576 := by
    have e : IntKind.i64.wrap (a + 1) = a + 1 := wrap_mid (by omega) (by omega)
    simp only [imul, iadd]; rw [e, wrap_mid (by omega) (by omega)]; omega
  rw [e1, e2, lad1]; rfl
theorem iscall_r {a : Int} (ha : isP a = true) (c : Int) (Y : Bool) : (bif ilt c (iadd .i64 (imul .i64 a 1048576) 1) then some false else bif ige c (iadd .i64 (iadd .i64 (imul .i64 a 1048576) 1) 1048576) then some false else some Y) = some (callB a c && Y) := by
  have := isP_iff.1 ha
  have e1 : iadd .i64 (imul .i64 a 1048576) 1 = a * 1048576 + 1 := by
    have e : IntKind.i64.wrap (a * 1048576) = a * 1048576 := wrap_mid (by omega) (by omega)
    simp only [imul, iadd]; rw [e, wrap_mid (by omega) (by omega)]
  have e2 : iadd .i64 (a * 1048576 + 1) 1048576 = a * 1048576 + 1048577 := by
    simp only [iadd]; rw [wrap_mid (by omega) (by omega)]; omega
  rw [e1, e2, lad2, lad2, ← Bool.and_assoc]
  congr 2
  unfold callB ilt ige
  rw [← decide_not, ← decide_not]
  congr 1
  · apply decide_eq_decide.2; omega
  · apply decide_eq_decide.2; omega

/-! ### The same? -/
theorem equal_c : ∀ (r s p q : List Int) (n : Nat), r.length < n → p.length = q.length → r.length = s.length → (p ++ r).length ≤ 9223372036854775807 → F29_c0 n (p ++ r) (q ++ s) (ofN (p ++ r).length) (ofN p.length) = some (decide (r = s))
  | _, _, _, _, 0, h, _, _, _ => by omega
  | [], [], p, q, n + 1, _, _, _, _ => by simp only [F29_c0, List.append_nil, lt_out, cond_false]; rfl
  | x :: r, y :: s, p, q, n + 1, h, hp, hs, hb => by
    have e1 : inb (ofN p.length) (q ++ y :: s).length = true := by rw [hp]; exact inb_in
    have e2 : ∀ d, (q ++ y :: s).getD (ofN p.length).toNat d = y := fun d => by rw [hp]; exact get_in
    simp only [F29_c0, lt_in, inb_in, get_in, cond_true, e1, e2]
    simp only [List.length_append, List.length_cons] at h hb hs
    rw [add_in (x := x) (by omega)]
    have h1 := equal_c r s (p ++ [x]) (q ++ [y]) n (by omega) (by simp [hp]) (by omega) (by simp; omega)
    rw [← in_eq, ← in_eq] at h1
    rw [h1, ine_dec]
    by_cases hxy : x = y
    · subst hxy; simp
    · simp [hxy]
theorem equal_p {n : Nat} (l m : List Int) (hn : l.length < n) (h : l.length ≤ 9223372036854775807) : F29 n l m = some (decide (l = m)) := by
  unfold F29
  by_cases hl : l.length = m.length
  · have e : ine (ofN l.length) (ofN m.length) = false := by simp [ine, ofN, hl]
    rw [e, cond_false]
    simpa [ofN] using equal_c l m [] [] n (by omega) rfl hl (by simpa using h)
  · have e : ine (ofN l.length) (ofN m.length) = true := by simp [ine, ofN]; omega
    rw [e, cond_true, decide_eq_false (fun hh => hl (by rw [hh]))]
def sameM (a b : MW) : Bool := decide (a.l = b.l) && (decide (a.k = b.k) && (decide (a.c = b.c) && (decide (a.f = b.f) && (decide (a.t = b.t) && (decide (a.key = b.key) && (decide (a.s = b.s) && (decide (a.d = b.d) && (decide (a.p = b.p) && (decide (a.pr = b.pr) && ((decide (a.ik = b.ik) && (decide (a.iv = b.iv) && (decide (a.ir = b.ir) && decide (a.ig = b.ig)))) && decide (a.cd = b.cd)))))))))))
theorem sameM_iff (a b : MW) : sameM a b = true ↔ a = b := by
  cases a; cases b
  simp only [sameM, Bool.and_eq_true, decide_eq_true_eq, MW.mk.injEq]
  grind
theorem sameM_self (a : MW) : sameM a a = true := (sameM_iff a a).2 rfl
theorem msame_p {n : Nat} {a0 : Int} {a1 : Int} {a2 : Int} {a3 : Int} {a4 : Int} {a5 : Bool} {a6 : Bool} {a7 : Int} {a8 : Int} {a9 : List Int} {a10 : ByteArray} {a11 : Int} {a12 : Int} {a13 : Bool} {a14 : Int} {b0 : Int} {b1 : Int} {b2 : Int} {b3 : Int} {b4 : Int} {b5 : Bool} {b6 : Bool} {b7 : Int} {b8 : Int} {b9 : List Int} {b10 : ByteArray} {b11 : Int} {b12 : Int} {b13 : Bool} {b14 : Int} (h : a9.length < 100000) : F50 n a0 a1 a2 a3 a4 a5 a6 a7 a8 a9 a10 a11 a12 a13 a14 b0 b1 b2 b3 b4 b5 b6 b7 b8 b9 b10 b11 b12 b13 b14 = some (sameM ⟨a0, a1, a2, a3, a4, a5, a6, a7, a8, a9, a10, a11, a12, a13, a14⟩ ⟨b0, b1, b2, b3, b4, b5, b6, b7, b8, b9, b10, b11, b12, b13, b14⟩) := by
  have hf := fuel_big
  unfold F50 sameM
  rw [equal_p a9 b9 (by omega) (by omega)]
  simp only [Option.bind_some, lad1, ieq_dec, beqb_dec, steq_dec, Bool.and_true]
  congr 1
  grind

/-! ### Lists that may be told. -/
def lstB (f : Int) : List Int → List Int → Bool
  | _, [] => true
  | p, x :: r => isP x && (decide (x ≠ f) && (!decide (x ∈ p) && lstB f (p ++ [x]) r))
def aptB (f : Int) : List Int → List Int → Bool
  | _, [] => true
  | p, x :: r => decide (x ≠ f) && (!decide (x ∈ p) && aptB f (p ++ [x]) r)
theorem lstB_apt (f : Int) : ∀ (r p : List Int), lstB f p r = (r.all isP && aptB f p r)
  | [], _ => rfl
  | x :: r, p => by
    rw [lstB, aptB, lstB_apt f r (p ++ [x]), List.all_cons]
    grind
theorem mindex_c : ∀ (r p : List Int) (n : Nat) (v : Int), r.length < n → (p ++ r).length ≤ 9223372036854775807 → ∃ k, F93_c0 n (p ++ r) v (ofN (p ++ r).length) (ofN p.length) = some k ∧ ige k 0 = decide (v ∈ r)
  | _, _, 0, _, h, _ => by omega
  | [], p, n + 1, v, _, _ => ⟨-1, by simp only [F93_c0, List.append_nil, lt_out, cond_false], by simp [ige]⟩
  | x :: r, p, n + 1, v, h, hb => by
    simp only [F93_c0, lt_in, inb_in, get_in, cond_true]
    simp only [List.length_append, List.length_cons] at h hb
    rw [add_in (x := x) (by omega)]
    by_cases hx : v = x
    · refine ⟨ofN p.length, by simp [ieq, hx], ?_⟩
      simp [ige, ofN, hx]
    · obtain ⟨k, h1, h2⟩ := mindex_c r (p ++ [x]) n v (by omega) (by simp; omega)
      rw [← in_eq] at h1
      have e : ieq v x = false := by simp [ieq, hx]
      exact ⟨k, by rw [e, cond_false]; exact h1, by rw [h2]; simp [hx]⟩
theorem mcontains_p {n : Nat} (l : List Int) (v : Int) (h : l.length < 1000) : F79 n l v = some (decide (v ∈ l)) := by
  unfold F79 F93
  have hf := fuel_big
  obtain ⟨k, h1, h2⟩ := mindex_c l [] FUEL v (by omega) (by simp; omega)
  have h1' : F93_c0 FUEL l v (ofN l.length) 0 = some k := by simpa [ofN] using h1
  rw [h1', Option.bind_some, h2]
theorem take_in {α : Type} {p r : List α} : List.drop 0 (List.take (ofN p.length).toNat (p ++ r)) = p := by simp [ofN]
theorem apart_c (f : Int) : ∀ (r p : List Int) (n : Nat), r.length < n → (p ++ r).length < 1000 → F74_c0 n f (p ++ r) (p ++ r) (ofN (p ++ r).length) (ofN p.length) = some (aptB f p r)
  | _, _, 0, h, _ => by omega
  | [], p, n + 1, _, _ => by simp only [F74_c0, List.append_nil, lt_out, cond_false]; rfl
  | x :: r, p, n + 1, h, hb => by
    have e3 : (inn (ofN p.length) && inbs 0 (ofN p.length).toNat (p ++ x :: r).length) = true := by simp [inn, inbs, ofN]
    simp only [F74_c0, lt_in, inb_in, get_in, cond_true, e3, take_in]
    simp only [List.length_append, List.length_cons] at h hb
    have h1 := apart_c f r (p ++ [x]) n (by omega) (by simp; omega)
    rw [← in_eq] at h1
    rw [mcontains_p p x (by omega), Option.bind_some, add_in (x := x) (by omega), h1, ieq_dec, lad2, lad2, aptB, decide_not]
theorem apart_p {n : Nat} (hn : 2000 < n) (f : Int) (l : List Int) (h : l.length < 1000) : F74 n f l = some (aptB f [] l) := by
  unfold F74
  simpa [ofN] using apart_c f l [] n (by omega) (by simpa using h)
end Go.Proofs.Ytlcbbjcehaahlaa
