/-
  What the functions compute, in plain words.
-/
import Derived.Test.YtcbhmedknbiffaaPlA
namespace Go.Proofs.Ytcbhmedknbiffaa
open Go Go.RowKit
abbrev PT := Int × Int × Int × Int × Int × Int × Int × Bool × Bool × Int × Int × (List Int) × ByteArray × Int × Int × Bool × Int
theorem lad6 (b y : Bool) : (bif !b then some false else some y) = some (b && y) := by cases b <;> rfl
def pm (x : PT) : MW := ⟨x.2.2.1, x.2.2.2.1, x.2.2.2.2.1, x.2.2.2.2.2.1, x.2.2.2.2.2.2.1, x.2.2.2.2.2.2.2.1, x.2.2.2.2.2.2.2.2.1, x.2.2.2.2.2.2.2.2.2.1, x.2.2.2.2.2.2.2.2.2.2.1, x.2.2.2.2.2.2.2.2.2.2.2.1, x.2.2.2.2.2.2.2.2.2.2.2.2.1, x.2.2.2.2.2.2.2.2.2.2.2.2.2.1, x.2.2.2.2.2.2.2.2.2.2.2.2.2.2.1, x.2.2.2.2.2.2.2.2.2.2.2.2.2.2.2.1, x.2.2.2.2.2.2.2.2.2.2.2.2.2.2.2.2⟩
def shortP (l : List PT) : Prop := ∀ x ∈ l, (pm x).l.length < 1000
theorem shortP_at {p r : List PT} {x : PT} (h : shortP (p ++ x :: r)) : (pm x).l.length < 1000 := h x (by simp)
theorem mown_r (n : Nat) (a0 : Int) (a1 : Int) (a2 : Int) (a3 : Int) (a4 : Int) (a5 : Bool) (a6 : Bool) (a7 : Int) (a8 : Int) (a9 : List Int) (a10 : ByteArray) (a11 : Int) (a12 : Int) (a13 : Bool) (a14 : Int) (h : a9.length < 1000) : F33 n a0 a1 a2 a3 a4 a5 a6 a7 a8 a9 a10 a11 a12 a13 a14 = some ⟨a0, a1, a2, a3, a4, a5, a6, a7, a8, a10, a11, a12, a13, a14, a9⟩ := by
  unfold F33
  rw [room_all (by omega) (by decide)]; rfl
def isk (f c : Int) (x : PT) : Bool := decide (x.1 = f) && decide (x.2.1 = c)
def firstI (f c : Int) : Nat → List PT → Int
  | _, [] => -1
  | i, x :: r => if isk f c x then (i : Int) else firstI f c (i + 1) r
def mkF (o : Option PT) : Si5b2i2si2bibl :=
  match o with
  | some x => ⟨(pm x).k, (pm x).c, (pm x).f, (pm x).t, (pm x).key, (pm x).s, (pm x).d, (pm x).p, (pm x).pr, (pm x).ik, (pm x).iv, (pm x).ir, (pm x).ig, (pm x).cd, true, (pm x).l⟩
  | none => ⟨0, 0, 0, 0, 0, false, false, 0, 0, ByteArray.empty, 0, 0, false, 0, false, []⟩
theorem firstI_none {f c : Int} : ∀ {l : List PT} {i : Nat}, l.any (isk f c) = false → firstI f c i l = -1
  | [], _, _ => rfl
  | x :: r, i, h => by
    simp only [List.any_cons, Bool.or_eq_false_iff] at h
    rw [firstI, h.1]; exact firstI_none h.2
theorem firstI_some {f c : Int} : ∀ {l : List PT} {i : Nat}, l.any (isk f c) = true → ∃ q x s, l = q ++ x :: s ∧ firstI f c i l = ofN (i + q.length) ∧ l.find? (isk f c) = some x
  | [], _, h => by simp at h
  | x :: r, i, h => by
    cases hx : isk f c x
    · simp only [List.any_cons, hx, Bool.false_or] at h
      obtain ⟨q, y, s, h1, h2, h3⟩ := firstI_some (i := i + 1) h
      refine ⟨x :: q, y, s, by rw [h1]; rfl, ?_, ?_⟩
      · rw [firstI, hx]; simp only [Bool.false_eq_true, if_false, h2, ofN, List.length_cons]; omega
      · rw [List.find?_cons, hx]; exact h3
    · exact ⟨[], x, r, rfl, by rw [firstI, hx]; simp [ofN], by rw [List.find?_cons, hx]⟩
theorem first_c (f c z : Int) : ∀ (r p : List PT) (n : Nat), r.length < n → (p ++ r).length < 1000 → F34_c0 n (p ++ r) (ofN (p ++ r).length) (ofN p.length) f c z = some (firstI f c p.length r)
  | _, _, 0, h, _ => by omega
  | [], p, n + 1, _, _ => by simp only [F34_c0, List.append_nil, lt_out, cond_false, firstI]
  | x :: r, p, n + 1, h, hb => by
    simp only [F34_c0, lt_in, inb_in, get_in, cond_true]
    simp only [List.length_append, List.length_cons] at h hb
    rw [add_in (x := x) (by omega)]
    have h1 := first_c f c z r (p ++ [x]) n (by omega) (by simp; omega)
    rw [← in_eq] at h1
    rw [h1, firstI]
    unfold isk
    simp only [ieq_dec]
    have e : (p ++ [x]).length = p.length + 1 := by simp
    rw [e]
    cases decide (x.1 = f)
    · rfl
    · cases decide (x.2.1 = c) <;> rfl
theorem first_p {n : Nat} (hn : 2000 < n) (l : List PT) (f c : Int) (h : l.length < 1000) : F34 n l f c = some (firstI f c 0 l) := by
  unfold F34
  have := first_c f c 0 l [] n (by omega) (by simpa using h)
  simpa [ofN] using this
theorem first_lt {l : List PT} {f c : Int} : ilt (firstI f c 0 l) 0 = !l.any (isk f c) := by
  cases h : l.any (isk f c)
  · rw [firstI_none h]; rfl
  · obtain ⟨q, x, s, _, h2, _⟩ := firstI_some (i := 0) h
    rw [h2]; exact decide_eq_false (by simp [ofN])
theorem find_p {n : Nat} (l : List PT) (f c : Int) (h : l.length < 1000) (hs : shortP l) : F13 n l f c = some (mkF (l.find? (isk f c))) := by
  have hf := fuel_big
  unfold F13
  have ht : F35 FUEL f c = some (f, c) := rfl
  rw [ht]
  simp only [Option.bind_some]
  rw [first_p (by omega) l f c h]
  simp only [Option.bind_some, first_lt]
  cases ha : l.any (isk f c)
  · have : l.find? (isk f c) = none := by
      rw [List.find?_eq_none]; rw [List.any_eq_false] at ha; exact ha
    rw [this]; rfl
  · obtain ⟨q, x, s, h1, h2, h3⟩ := firstI_some (i := 0) ha
    rw [h2, h3, Nat.zero_add]
    have e1 : inb (ofN q.length) l.length = true := by rw [h1]; exact inb_in
    have e2 : ∀ d, l.getD (ofN q.length).toNat d = x := fun d => by rw [h1]; exact get_in
    rw [e1]
    simp only [Bool.not_true, cond_false, cond_true, e2]
    rw [mown_p FUEL x.2.2.1 x.2.2.2.1 x.2.2.2.2.1 x.2.2.2.2.2.1 x.2.2.2.2.2.2.1 x.2.2.2.2.2.2.2.1 x.2.2.2.2.2.2.2.2.1 x.2.2.2.2.2.2.2.2.2.1 x.2.2.2.2.2.2.2.2.2.2.1 x.2.2.2.2.2.2.2.2.2.2.2.1 x.2.2.2.2.2.2.2.2.2.2.2.2.1 x.2.2.2.2.2.2.2.2.2.2.2.2.2.1 x.2.2.2.2.2.2.2.2.2.2.2.2.2.2.1 x.2.2.2.2.2.2.2.2.2.2.2.2.2.2.2.1 x.2.2.2.2.2.2.2.2.2.2.2.2.2.2.2.2 (hs x (by rw [h1]; simp))]
    rfl
theorem mkF_q (l : List PT) (f c : Int) : (mkF (l.find? (isk f c))).q14 = l.any (isk f c) := by
  cases ha : l.any (isk f c)
  · have : l.find? (isk f c) = none := by
      rw [List.find?_eq_none]; rw [List.any_eq_false] at ha; exact ha
    rw [this]; rfl
  · obtain ⟨q, x, s, _, _, h3⟩ := firstI_some (i := 0) ha
    rw [h3]; rfl
theorem sown_rc : ∀ (r p : List PT) (n : Nat) (a : List PT), r.length < n → (p ++ r).length < 1000 → a.length + r.length < 1000 → shortP (p ++ r) → F28_c0 n (p ++ r) (ofN p.length) a = some (a ++ r)
  | _, _, 0, _, h, _, _, _ => by omega
  | [], p, n + 1, a, _, _, _, _ => by simp only [F28_c0, List.append_nil, lt_out, cond_false]
  | x :: r, p, n + 1, a, h, hb, ha, hs => by
    simp only [F28_c0, lt_in, inb_in, get_in, cond_true]
    simp only [List.length_append, List.length_cons] at h hb ha
    rw [mown_r FUEL x.2.2.1 x.2.2.2.1 x.2.2.2.2.1 x.2.2.2.2.2.1 x.2.2.2.2.2.2.1 x.2.2.2.2.2.2.2.1 x.2.2.2.2.2.2.2.2.1 x.2.2.2.2.2.2.2.2.2.1 x.2.2.2.2.2.2.2.2.2.2.1 x.2.2.2.2.2.2.2.2.2.2.2.1 x.2.2.2.2.2.2.2.2.2.2.2.2.1 x.2.2.2.2.2.2.2.2.2.2.2.2.2.1 x.2.2.2.2.2.2.2.2.2.2.2.2.2.2.1 x.2.2.2.2.2.2.2.2.2.2.2.2.2.2.2.1 x.2.2.2.2.2.2.2.2.2.2.2.2.2.2.2.2 (shortP_at hs)]
    simp only [Option.bind_some]
    rw [room_all (by simp; omega) (by decide), cond_true, add_in (x := x) (by omega)]
    have h1 := sown_rc r (p ++ [x]) n (a ++ [x]) (by omega) (by simp; omega) (by simp; omega) (by rw [← in_eq]; exact hs)
    rw [← in_eq] at h1
    simpa using h1
theorem sown_r {n : Nat} (hn : 2000 < n) (l : List PT) (h : l.length < 1000) (hs : shortP l) : F28 n l = some l := by
  unfold F28
  have := sown_rc l [] n [] (by omega) (by simpa using h) (by simpa using h) (by simpa using hs)
  simpa [ofN] using this
def eqP (x y : PT) : Bool := decide (x.1 = y.1) && (decide (x.2.1 = y.2.1) && sameM (pm x) (pm y))
def leqP : List PT → List PT → Bool
  | [], [] => true
  | x :: r, y :: s => eqP x y && leqP r s
  | _, _ => false
theorem eqP_self (x : PT) : eqP x x = true := by unfold eqP; rw [sameM_self]; simp
theorem leqP_self : ∀ (l : List PT), leqP l l = true
  | [] => rfl
  | x :: r => by rw [leqP, eqP_self, leqP_self r]; rfl
theorem leqP_len : ∀ {l m : List PT}, leqP l m = true → l.length = m.length
  | [], [], _ => rfl
  | [], _ :: _, h => by cases h
  | _ :: _, [], h => by cases h
  | x :: r, y :: s, h => by
    rw [leqP, Bool.and_eq_true] at h
    simp [leqP_len h.2]
theorem ssame_rc : ∀ (r s p q : List PT) (n : Nat), r.length < n → p.length = q.length → r.length = s.length → (p ++ r).length < 1000 → shortP (p ++ r) → F18_c0 n (p ++ r) (q ++ s) (ofN p.length) = some (leqP r s)
  | _, _, _, _, 0, h, _, _, _, _ => by omega
  | [], [], p, q, n + 1, _, _, _, _, _ => by simp only [F18_c0, List.append_nil, lt_out, cond_false]; rfl
  | [], _ :: _, _, _, _ + 1, _, _, hs, _, _ => by simp at hs
  | _ :: _, [], _, _, _ + 1, _, _, hs, _, _ => by simp at hs
  | x :: r, y :: s, p, q, n + 1, h, hp, hs, hb, hsh => by
    have hf := fuel_big
    have e1 : inb (ofN p.length) (q ++ y :: s).length = true := by rw [hp]; exact inb_in
    have e2 : ∀ d, (q ++ y :: s).getD (ofN p.length).toNat d = y := fun d => by rw [hp]; exact get_in
    simp only [F18_c0, lt_in, inb_in, get_in, cond_true, e1, e2]
    simp only [List.length_append, List.length_cons] at h hb hs
    have hx := shortP_at hsh
    have hS : F15 FUEL x.2.2.1 x.2.2.2.1 x.2.2.2.2.1 x.2.2.2.2.2.1 x.2.2.2.2.2.2.1 x.2.2.2.2.2.2.2.1 x.2.2.2.2.2.2.2.2.1 x.2.2.2.2.2.2.2.2.2.1 x.2.2.2.2.2.2.2.2.2.2.1 x.2.2.2.2.2.2.2.2.2.2.2.1 x.2.2.2.2.2.2.2.2.2.2.2.2.1 x.2.2.2.2.2.2.2.2.2.2.2.2.2.1 x.2.2.2.2.2.2.2.2.2.2.2.2.2.2.1 x.2.2.2.2.2.2.2.2.2.2.2.2.2.2.2.1 x.2.2.2.2.2.2.2.2.2.2.2.2.2.2.2.2 y.2.2.1 y.2.2.2.1 y.2.2.2.2.1 y.2.2.2.2.2.1 y.2.2.2.2.2.2.1 y.2.2.2.2.2.2.2.1 y.2.2.2.2.2.2.2.2.1 y.2.2.2.2.2.2.2.2.2.1 y.2.2.2.2.2.2.2.2.2.2.1 y.2.2.2.2.2.2.2.2.2.2.2.1 y.2.2.2.2.2.2.2.2.2.2.2.2.1 y.2.2.2.2.2.2.2.2.2.2.2.2.2.1 y.2.2.2.2.2.2.2.2.2.2.2.2.2.2.1 y.2.2.2.2.2.2.2.2.2.2.2.2.2.2.2.1 y.2.2.2.2.2.2.2.2.2.2.2.2.2.2.2.2 = some (sameM (pm x) (pm y)) := msame_r (show (pm x).l.length < FUEL by omega) (show (pm x).l.length ≤ 9223372036854775807 by omega)
    rw [hS, add_in (x := x) (by omega)]
    have h1 := ssame_rc r s (p ++ [x]) (q ++ [y]) n (by omega) (by simp [hp]) (by omega) (by simp; omega) (by rw [← in_eq]; exact hsh)
    rw [← in_eq, ← in_eq] at h1
    rw [h1, leqP, eqP]
    simp only [Option.bind_some, ine_dec, lad6]
    cases decide (x.1 = y.1)
    · rfl
    · cases decide (x.2.1 = y.2.1) <;> rfl
theorem ssame_r {n : Nat} (hn : 2000 < n) (l m : List PT) (h : l.length < 1000) (hs : shortP l) : F18 n l m = some (leqP l m) := by
  unfold F18
  by_cases hl : l.length = m.length
  · have e : ine (ofN l.length) (ofN m.length) = false := by simp [ine, ofN, hl]
    rw [e, cond_false]
    exact ssame_rc l m [] [] n (by omega) rfl hl (by simpa using h) (by simpa using hs)
  · have e : ine (ofN l.length) (ofN m.length) = true := by simp [ine, ofN]; omega
    rw [e, cond_true]
    cases h2 : leqP l m
    · rfl
    · exact absurd (leqP_len h2) hl
theorem ssame_pc (z : Bool) : ∀ (r s p q : List PT) (n : Nat), r.length < n → p.length = q.length → r.length = s.length → (p ++ r).length < 1000 → shortP (p ++ r) → F23_c0 n (p ++ r) (ofN (p ++ r).length) (ofN p.length) (q ++ s) z = some (leqP r s)
  | _, _, _, _, 0, h, _, _, _, _ => by omega
  | [], [], p, q, n + 1, _, _, _, _, _ => by simp only [F23_c0, List.append_nil, lt_out, cond_false]; rfl
  | [], _ :: _, _, _, _ + 1, _, _, hs, _, _ => by simp at hs
  | _ :: _, [], _, _, _ + 1, _, _, hs, _, _ => by simp at hs
  | x :: r, y :: s, p, q, n + 1, h, hp, hs, hb, hsh => by
    have hf := fuel_big
    have e1 : inb (ofN p.length) (q ++ y :: s).length = true := by rw [hp]; exact inb_in
    have e2 : ∀ d, (q ++ y :: s).getD (ofN p.length).toNat d = y := fun d => by rw [hp]; exact get_in
    simp only [F23_c0, lt_in, inb_in, get_in, cond_true, e1, e2]
    simp only [List.length_append, List.length_cons] at h hb hs
    have hx := shortP_at hsh
    have hS : F37 FUEL x.2.2.1 x.2.2.2.1 x.2.2.2.2.1 x.2.2.2.2.2.1 x.2.2.2.2.2.2.1 x.2.2.2.2.2.2.2.1 x.2.2.2.2.2.2.2.2.1 x.2.2.2.2.2.2.2.2.2.1 x.2.2.2.2.2.2.2.2.2.2.1 x.2.2.2.2.2.2.2.2.2.2.2.1 x.2.2.2.2.2.2.2.2.2.2.2.2.1 x.2.2.2.2.2.2.2.2.2.2.2.2.2.1 x.2.2.2.2.2.2.2.2.2.2.2.2.2.2.1 x.2.2.2.2.2.2.2.2.2.2.2.2.2.2.2.1 x.2.2.2.2.2.2.2.2.2.2.2.2.2.2.2.2 y.2.2.1 y.2.2.2.1 y.2.2.2.2.1 y.2.2.2.2.2.1 y.2.2.2.2.2.2.1 y.2.2.2.2.2.2.2.1 y.2.2.2.2.2.2.2.2.1 y.2.2.2.2.2.2.2.2.2.1 y.2.2.2.2.2.2.2.2.2.2.1 y.2.2.2.2.2.2.2.2.2.2.2.1 y.2.2.2.2.2.2.2.2.2.2.2.2.1 y.2.2.2.2.2.2.2.2.2.2.2.2.2.1 y.2.2.2.2.2.2.2.2.2.2.2.2.2.2.1 y.2.2.2.2.2.2.2.2.2.2.2.2.2.2.2.1 y.2.2.2.2.2.2.2.2.2.2.2.2.2.2.2.2 = some (sameM (pm x) (pm y)) := msame_p (show (pm x).l.length < 100000 by omega)
    rw [hS, add_in (x := x) (by omega)]
    have h1 := ssame_pc z r s (p ++ [x]) (q ++ [y]) n (by omega) (by simp [hp]) (by omega) (by simp; omega) (by rw [← in_eq]; exact hsh)
    rw [← in_eq, ← in_eq] at h1
    rw [h1, leqP, eqP]
    simp only [Option.bind_some, ine_dec, lad6]
    cases decide (x.1 = y.1)
    · rfl
    · cases decide (x.2.1 = y.2.1) <;> rfl
theorem ssame_p {n : Nat} (hn : 2000 < n) (l m : List PT) (h : l.length < 1000) (hs : shortP l) : F23 n l m = some (leqP l m) := by
  unfold F23
  by_cases hl : l.length = m.length
  · have e : ine (ofN l.length) (ofN m.length) = false := by simp [ine, ofN, hl]
    rw [e, cond_false]
    exact ssame_pc false l m [] [] n (by omega) rfl hl (by simpa using h) (by simpa using hs)
  · have e : ine (ofN l.length) (ofN m.length) = true := by simp [ine, ofN]; omega
    rw [e, cond_true]
    cases h2 : leqP l m
    · rfl
    · exact absurd (leqP_len h2) hl
end Go.Proofs.Ytcbhmedknbiffaa
namespace Go.Proofs.Ytcbhmedknbiffaa
open Go Go.RowKit
theorem gt40 (n : Nat) : igt (ofN n) 40 = !decide (n ≤ 40) := by unfold igt ofN; rw [← decide_not]; apply decide_eq_decide.2; omega
theorem gt60 (n : Nat) : igt (ofN n) 60 = !decide (n ≤ 60) := by unfold igt ofN; rw [← decide_not]; apply decide_eq_decide.2; omega
theorem sgreat_c : ∀ (r p : List PT) (n : Nat), 61 - p.length < n → p.length ≤ 61 → (p ++ r).length ≤ 9223372036854775807 → ∃ b, F8_c0 n (p ++ r) (ofN p.length) = some b ∧ (b = false → (p ++ r).length ≤ 60 ∧ ∀ x ∈ r, (pm x).l.length ≤ 40)
  | _, _, 0, h, _, _ => by omega
  | [], p, n + 1, _, _, _ => by
    refine ⟨_, by simp only [F8_c0, List.append_nil, lt_out, cond_false]; rfl, fun hb => ⟨?_, by simp⟩⟩
    rw [gt60] at hb
    simpa using hb
  | x :: r, p, n + 1, h, hp, hb => by
    simp only [F8_c0, lt_in, inb_in, get_in, cond_true]
    by_cases h6 : p.length ≤ 60
    · rw [show ile (ofN p.length) 60 = true from decide_eq_true (by simp only [ofN]; omega), cond_true]
      simp only [List.length_append, List.length_cons] at hb
      rw [add_in (x := x) (by omega)]
      have h1 := sgreat_c r (p ++ [x]) n (by simp; omega) (by simp; omega) (by simp; omega)
      rw [← in_eq] at h1
      obtain ⟨b, h1, h2⟩ := h1
      rw [h1]
      rw [show igt (ofN x.2.2.2.2.2.2.2.2.2.2.2.1.length) 40 = !decide ((pm x).l.length ≤ 40) from gt40 _]
      by_cases h4 : (pm x).l.length ≤ 40
      · rw [decide_eq_true h4]
        cases hk : igt (stlen x.2.2.2.2.2.2.2.2.2.2.2.2.1) 300
        · refine ⟨b, rfl, fun hb => ⟨(h2 hb).1, fun y hy => ?_⟩⟩
          rcases List.mem_cons.1 hy with rfl | hy
          · exact h4
          · exact (h2 hb).2 y hy
        · exact ⟨true, rfl, fun h => by cases h⟩
      · rw [decide_eq_false h4]
        exact ⟨true, rfl, fun h => by cases h⟩
    · rw [show ile (ofN p.length) 60 = false from decide_eq_false (by simp only [ofN]; omega), cond_false]
      refine ⟨_, rfl, fun hb => ?_⟩
      rw [gt60] at hb
      simp at hb
      omega
theorem sgreat {n : Nat} (hn : 2000 < n) (l : List PT) (h : l.length ≤ 9223372036854775807) : ∃ b, F8 n l = some b ∧ (b = false → l.length ≤ 60 ∧ ∀ x ∈ l, (pm x).l.length ≤ 40) := by
  unfold F8
  have := sgreat_c l [] n (by simp; omega) (by simp) (by simpa using h)
  simpa [ofN] using this
end Go.Proofs.Ytcbhmedknbiffaa
namespace Go.Proofs.Ytcbhmedknbiffaa
open Go Go.RowKit
theorem wakes11 : F10 FUEL = some true := by kernel_rfl
theorem eqb_self (b : Bool) : beqb b b = true := by cases b <;> rfl
end Go.Proofs.Ytcbhmedknbiffaa
namespace Go.Proofs.Ytcbhmedknbiffaa
open Go Go.RowKit
theorem sameM_comm (a b : MW) : sameM a b = sameM b a := by
  rw [Bool.eq_iff_iff, sameM_iff, sameM_iff]; exact eq_comm
theorem eqP_comm (x y : PT) : eqP x y = eqP y x := by
  unfold eqP
  rw [sameM_comm, decide_eq_decide.2 (show x.1 = y.1 ↔ y.1 = x.1 from eq_comm), decide_eq_decide.2 (show x.2.1 = y.2.1 ↔ y.2.1 = x.2.1 from eq_comm)]
theorem leqP_comm : ∀ (l m : List PT), leqP l m = leqP m l
  | [], [] => rfl
  | [], _ :: _ => rfl
  | _ :: _, [] => rfl
  | x :: r, y :: s => by rw [leqP, leqP, eqP_comm, leqP_comm r s]
theorem own_step {k : Nat} (h : k < 1000) : iadd .i64 (ofN k) 1 = ofN (k + 1) := by
  simp only [iadd, ofN]; rw [wrap_mid (by omega) (by omega)]; simp
theorem own_fu {a b n c : Nat} (h : (a + 1) * c + 1 < n + 1) (hb : b + 2 ≤ c) : a * c + 1 + b + 1 < n := by
  rw [Nat.add_mul, Nat.one_mul] at h; omega
theorem own_c4 (l o : List PT) (i : Int) (n0 : Nat) (H : ∀ n, n0 < n → F7_c3 n l o (iadd .i64 i 1) l = some true) (b0 b1 b2 b3 b4 : Int) (b5 b6 : Bool) (b7 b8 : Int) (b10 : ByteArray) (b11 b12 : Int) (b13 : Bool) (b14 : Int) :
    ∀ (d k : Nat) (q : List Int) (n : Nat), k + d = q.length → q.length < 1000 → n0 + d + 1 < n → F7_c4 n l o i (ofN k) l b0 b1 b2 b3 b4 b5 b6 b7 b8 b10 b11 b12 b13 b14 q = some true := by
  intro d
  induction d with
  | zero =>
    intro k q n hk hq hn
    obtain ⟨n, rfl⟩ : ∃ m, n = m + 1 := ⟨n - 1, by omega⟩
    have e : ilt (ofN k) (ofN q.length) = false := decide_eq_false (by simp only [ofN]; omega)
    simp only [F7_c4, e, cond_false]
    exact H n (by omega)
  | succ d ih =>
    intro k q n hk hq hn
    obtain ⟨n, rfl⟩ : ∃ m, n = m + 1 := ⟨n - 1, by omega⟩
    have e : ilt (ofN k) (ofN q.length) = true := decide_eq_true (by simp only [ofN]; omega)
    have e2 : inb (ofN k) q.length = true := by simp [inb, ofN]; omega
    have e3 : nlt (ofN k).toNat q.length = true := decide_eq_true (by simp only [ofN]; omega)
    simp only [F7_c4, e, e2, e3, own_step (show k < 1000 by omega), cond_true]
    exact ih (k + 1) (q.set (ofN k).toNat (-7)) n (by rw [List.length_set]; omega) (by rw [List.length_set]; exact hq) (by omega)
theorem own_c3 (l o : List PT) (hl : l.length < 1000) (ho : o.length < 1000) (hs : shortP l) (hso : shortP o) : ∀ (r p : List PT) (n : Nat), l = p ++ r → r.length * 1010 + 1 < n → F7_c3 n l o (ofN p.length) l = some true := by
  have hf := fuel_big
  intro r
  induction r with
  | nil =>
    intro p n hp hn
    obtain ⟨n, rfl⟩ : ∃ m, n = m + 1 := ⟨n - 1, by omega⟩
    rw [List.append_nil] at hp
    subst hp
    simp only [F7_c3, lt_out, cond_false]
    rw [ssame_r (by omega) l l hl hs, ssame_p (by omega) l o hl hs, ssame_p (by omega) o l ho hso, ssame_p (by omega) l l hl hs, wakes11, leqP_self, leqP_comm o l]
    simp only [Option.bind_some, cond_true, eqb_self]
  | cons x r ih =>
    intro p n hp hn
    obtain ⟨n, rfl⟩ : ∃ m, n = m + 1 := ⟨n - 1, by omega⟩
    simp only [List.length_cons] at hn
    have hpl : p.length < 1000 := by rw [hp] at hl; simp at hl; omega
    have e1 : ilt (ofN p.length) (ofN l.length) = true := by rw [hp]; exact lt_in
    have e2 : inb (ofN p.length) l.length = true := by rw [hp]; exact inb_in
    have e3 : ∀ d, l.getD (ofN p.length).toNat d = x := fun d => by rw [hp]; exact get_in
    have hx : x ∈ l := by rw [hp]; simp
    have ha : l.any (isk x.1 x.2.1) = true := List.any_eq_true.2 ⟨x, hx, by unfold isk; simp⟩
    have hq : (mkF (l.find? (isk x.1 x.2.1))).q15.length < 1000 := by
      cases hfd : l.find? (isk x.1 x.2.1) with
      | none => exact Nat.zero_lt_succ _
      | some y => exact hs y (List.mem_of_find?_eq_some hfd)
    simp only [F7_c3, e1, e2, e3, cond_true]
    rw [find_p l x.1 x.2.1 hl hs]
    simp only [Option.bind_some, mkF_q, ha, Bool.not_true, cond_false]
    generalize mkF (l.find? (isk x.1 x.2.1)) = y at hq ⊢
    have hfu : r.length * 1010 + 1 + y.q15.length + 1 < n := own_fu hn (Nat.le_trans (Nat.add_le_add_right (Nat.le_of_lt hq) 2) (by decide))
    exact own_c4 l o (ofN p.length) (r.length * 1010 + 1) (fun n hn => by
      rw [add_in (x := x) (by omega)]
      exact ih (p ++ [x]) n (by rw [hp, in_eq]) hn) _ _ _ _ _ _ _ _ _ _ _ _ _ _ _ 0 _ n (Nat.zero_add _) hq hfu
theorem own_c2 (l o : List PT) (p r : List Int) (z : Int) (hz : 0 ≤ z ∧ z < 1000) (n0 : Nat) (H : ∀ n, n0 < n → F7_c1 n l o (iadd .i64 (ofN p.length) 1) l (p ++ z :: r) = some true) :
    ∀ (d k n : Nat), k + d = z.toNat → n0 + d + 1 < n → F7_c2 n l o (ofN p.length) (ofN k) l (p ++ z :: r) = some true := by
  intro d
  induction d with
  | zero =>
    intro k n hk hn
    obtain ⟨n, rfl⟩ : ∃ m, n = m + 1 := ⟨n - 1, by omega⟩
    have e : ilt (ofN k) z = false := decide_eq_false (by simp only [ofN]; omega)
    simp only [F7_c2, inb_in, nlt_in, get_in, cond_true, e, cond_false]
    exact H n (by omega)
  | succ d ih =>
    intro k n hk hn
    obtain ⟨n, rfl⟩ : ∃ m, n = m + 1 := ⟨n - 1, by omega⟩
    have e : ilt (ofN k) z = true := decide_eq_true (by simp only [ofN]; omega)
    have e2 : inb (ofN k) z.toNat = true := by simp [inb, ofN]; omega
    simp only [F7_c2, inb_in, nlt_in, get_in, cond_true, e, e2, own_step (show k < 1000 by omega)]
    exact ih (k + 1) n (by omega) (by omega)
theorem own_c1 (l o : List PT) (n1 : Nat) (H : ∀ n, n1 < n → F7_c3 n l o 0 l = some true) : ∀ (r p : List Int) (n : Nat), (p ++ r).length < 1000 → (∀ z ∈ p ++ r, 0 ≤ z ∧ z < 1000) → n1 + r.length * 1010 + 1 < n → F7_c1 n l o (ofN p.length) l (p ++ r) = some true := by
  intro r
  induction r with
  | nil =>
    intro p n hb hz hn
    obtain ⟨n, rfl⟩ : ∃ m, n = m + 1 := ⟨n - 1, by omega⟩
    simp only [F7_c1, List.append_nil, lt_out, cond_false]
    exact H n (by omega)
  | cons z r ih =>
    intro p n hb hz hn
    obtain ⟨n, rfl⟩ : ∃ m, n = m + 1 := ⟨n - 1, by omega⟩
    simp only [List.length_cons] at hn
    have hz0 := hz z (by simp)
    have hpl : p.length < 1000 := by simp at hb; omega
    simp only [F7_c1, lt_in, cond_true]
    exact own_c2 l o p r z hz0 (n1 + r.length * 1010 + 1) (fun n hn => by
      rw [add_in (x := z) (by omega)]
      have := ih (p ++ [z]) n (by rw [← in_eq]; exact hb) (by rw [← in_eq]; exact hz) hn
      rw [← in_eq] at this
      exact this) z.toNat 0 n (Nat.zero_add _) (by omega)
theorem own_c0 (l o : List PT) (hl : l.length < 1000) (hs : shortP l) (n2 : Nat) (H : ∀ (ns : List Int) (n : Nat), ns.length < 1000 → ns.length ≤ l.length → (∀ z ∈ ns, 0 ≤ z ∧ z < 1000) → n2 < n → F7_c1 n l o 0 l ns = some true) :
    ∀ (r p : List PT) (ns : List Int) (n : Nat), l = p ++ r → ns.length = p.length → (∀ z ∈ ns, 0 ≤ z ∧ z < 1000) → n2 + r.length + 1 < n → F7_c0 n l (ofN l.length) (ofN p.length) l o l ns = some true := by
  intro r
  induction r with
  | nil =>
    intro p ns n hp hns hz hn
    obtain ⟨n, rfl⟩ : ∃ m, n = m + 1 := ⟨n - 1, by omega⟩
    rw [List.append_nil] at hp
    subst hp
    simp only [F7_c0, lt_out, cond_false]
    exact H ns n (by omega) (by omega) hz (by omega)
  | cons x r ih =>
    intro p ns n hp hns hz hn
    obtain ⟨n, rfl⟩ : ∃ m, n = m + 1 := ⟨n - 1, by omega⟩
    simp only [List.length_cons] at hn
    have hpl : p.length < 1000 := by rw [hp] at hl; simp at hl; omega
    have hpl2 : p.length + 1 < 1000 ∨ r = [] := by
      rw [hp] at hl
      cases r with
      | nil => exact .inr rfl
      | cons => simp at hl; left; omega
    have e1 : ilt (ofN p.length) (ofN l.length) = true := by rw [hp]; exact lt_in
    have e2 : inb (ofN p.length) l.length = true := by rw [hp]; exact inb_in
    have e3 : ∀ d, l.getD (ofN p.length).toNat d = x := fun d => by rw [hp]; exact get_in
    have hx := hs x (by rw [hp]; simp)
    have hll : p.length + 1 ≤ l.length := by rw [hp]; simp
    have hrm : ∀ a : Int, room (ns.length + [a].length) 152 = true := fun a => room_all (by simp; omega) (by decide)
    simp only [F7_c0, e1, e2, e3, cond_true]
    rw [mown_p FUEL x.2.2.1 x.2.2.2.1 x.2.2.2.2.1 x.2.2.2.2.2.1 x.2.2.2.2.2.2.1 x.2.2.2.2.2.2.2.1 x.2.2.2.2.2.2.2.2.1 x.2.2.2.2.2.2.2.2.2.1 x.2.2.2.2.2.2.2.2.2.2.1 x.2.2.2.2.2.2.2.2.2.2.2.1 x.2.2.2.2.2.2.2.2.2.2.2.2.1 x.2.2.2.2.2.2.2.2.2.2.2.2.2.1 x.2.2.2.2.2.2.2.2.2.2.2.2.2.2.1 x.2.2.2.2.2.2.2.2.2.2.2.2.2.2.2.1 x.2.2.2.2.2.2.2.2.2.2.2.2.2.2.2.2 hx]
    simp only [Option.bind_some, hrm, cond_true]
    rw [add_in (x := x) (by omega)]
    refine ih (p ++ [x]) (ns ++ [ofN (pm x).l.length]) n (by rw [hp, in_eq]) (by simp [hns]) (fun z hz' => ?_) (by omega)
    rcases List.mem_append.1 hz' with h | h
    · exact hz z h
    · rw [List.mem_singleton.1 h]; simp only [ofN]; omega
theorem plain_SeenOwn {n : Nat} (hn : 1000000 < n) (l o : List PT) (hl : l.length ≤ 9223372036854775807) (ho : o.length ≤ 9223372036854775807) : F7 n l o = some true := by
  have hff := fuel_big
  unfold F7
  obtain ⟨b1, g1, k1⟩ := sgreat (n := FUEL) (by omega) l hl
  obtain ⟨b3, g3, k3⟩ := sgreat (n := FUEL) (by omega) o ho
  rw [g1, g3, wakes11]
  cases b1
  case true => rfl
  cases b3
  case true => rfl
  obtain ⟨l6, ls⟩ := k1 rfl
  obtain ⟨o6, os⟩ := k3 rfl
  have lS : shortP l := fun x hx => by have := ls x hx; omega
  have oS : shortP o := fun x hx => by have := os x hx; omega
  simp only [Option.bind_some, cond_false]
  rw [sown_r (by omega) l (by omega) lS]
  simp only [Option.bind_some]
  have h3 : ∀ n, l.length * 1010 + 1 < n → F7_c3 n l o 0 l = some true := fun n hn => own_c3 l o (by omega) (by omega) lS oS l [] n rfl hn
  have h1 : ∀ (ns : List Int) (n : Nat), ns.length < 1000 → ns.length ≤ l.length → (∀ z ∈ ns, 0 ≤ z ∧ z < 1000) → 200000 < n → F7_c1 n l o 0 l ns = some true := fun ns n h2 h4 h5 h6 =>
    own_c1 l o (l.length * 1010 + 1) h3 ns [] n h2 h5 (by
      have := Nat.mul_le_mul_right 1010 h4
      omega)
  exact own_c0 l o (by omega) lS 200000 h1 l [] [] n rfl rfl (fun z hz => by simp at hz) (by omega)
end Go.Proofs.Ytcbhmedknbiffaa
