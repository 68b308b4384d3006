/-
  In plain words: what is remembered.
-/
import Derived.Test.YtcbhmedknbiffaaPM
namespace Go.Proofs.Ytcbhmedknbiffaa
open Go Go.RowKit

abbrev PT := Int × Int × Int × Int × Int × Int × Int × Bool × Bool × Int × Int × (List Int) × ByteArray × Int × Int × Bool × Int
abbrev MT := Int × Int × Int × Int × Int × Bool × Bool × Int × Int × (List Int) × ByteArray × Int × Int × Bool × Int
theorem lad6 (b y : Bool) : (bif !b then some false else some y) = some (b && y) := by cases b <;> rfl
def pm (x : PT) : MW := ⟨x.2.2.1, x.2.2.2.1, x.2.2.2.2.1, x.2.2.2.2.2.1, x.2.2.2.2.2.2.1, x.2.2.2.2.2.2.2.1, x.2.2.2.2.2.2.2.2.1, x.2.2.2.2.2.2.2.2.2.1, x.2.2.2.2.2.2.2.2.2.2.1, x.2.2.2.2.2.2.2.2.2.2.2.1, x.2.2.2.2.2.2.2.2.2.2.2.2.1, x.2.2.2.2.2.2.2.2.2.2.2.2.2.1, x.2.2.2.2.2.2.2.2.2.2.2.2.2.2.1, x.2.2.2.2.2.2.2.2.2.2.2.2.2.2.2.1, x.2.2.2.2.2.2.2.2.2.2.2.2.2.2.2.2⟩
def mw (x : MT) : MW := ⟨x.1, x.2.1, x.2.2.1, x.2.2.2.1, x.2.2.2.2.1, x.2.2.2.2.2.1, x.2.2.2.2.2.2.1, x.2.2.2.2.2.2.2.1, x.2.2.2.2.2.2.2.2.1, x.2.2.2.2.2.2.2.2.2.1, x.2.2.2.2.2.2.2.2.2.2.1, x.2.2.2.2.2.2.2.2.2.2.2.1, x.2.2.2.2.2.2.2.2.2.2.2.2.1, x.2.2.2.2.2.2.2.2.2.2.2.2.2.1, x.2.2.2.2.2.2.2.2.2.2.2.2.2.2⟩
def mkP (m : MW) : PT := (m.t, m.c, m.k, m.c, m.f, m.t, m.key, m.s, m.d, m.p, m.pr, m.l, m.ik, m.iv, m.ir, m.ig, m.cd)
abbrev zP : PT := (0, 0, 0, 0, 0, 0, 0, false, false, 0, 0, [], ByteArray.empty, 0, 0, false, 0)
def toldP (m : MW) : Bool := rightM m && !askB m.k
def shortP (l : List PT) : Prop := ∀ x ∈ l, (pm x).l.length < 1000
def shortM (l : List MT) : Prop := ∀ x ∈ l, (mw x).l.length < 1000
theorem shortP_at {p r : List PT} {x : PT} (h : shortP (p ++ x :: r)) : (pm x).l.length < 1000 := h x (by simp)

theorem mown_r (n : Nat) (a0 : Int) (a1 : Int) (a2 : Int) (a3 : Int) (a4 : Int) (a5 : Bool) (a6 : Bool) (a7 : Int) (a8 : Int) (a9 : List Int) (a10 : ByteArray) (a11 : Int) (a12 : Int) (a13 : Bool) (a14 : Int) (h : a9.length < 1000) : F33 n a0 a1 a2 a3 a4 a5 a6 a7 a8 a9 a10 a11 a12 a13 a14 = some ⟨a0, a1, a2, a3, a4, a5, a6, a7, a8, a10, a11, a12, a13, a14, a9⟩ := by
  unfold F33
  rw [room_all (by omega) (by decide)]; rfl
theorem of_p (n : Nat) (m : MW) (h : m.l.length < 1000) : F11 n m.k m.c m.f m.t m.key m.s m.d m.p m.pr m.l m.ik m.iv m.ir m.ig m.cd = some (if toldP m then ⟨m.t, m.c, m.k, m.c, m.f, m.t, m.key, m.s, m.d, m.p, m.pr, m.l, m.ik, m.iv, m.ir, m.ig, m.cd, 0⟩ else ⟨0, 0, 0, 0, 0, 0, 0, false, false, 0, 0, [], ByteArray.empty, 0, 0, false, 0, 2⟩) := by
  have hf := fuel_big
  unfold F11
  have hr : F30 FUEL m.k m.c m.f m.t m.key m.s m.d m.p m.pr m.l m.ik m.iv m.ir m.ig m.cd = some (rightM m) := mright_p (by omega) m.k m.c m.f m.t m.key m.s m.d m.p m.pr m.l m.ik m.iv m.ir m.ig m.cd h
  have ha : F31 FUEL m.k m.c m.f m.t m.key m.s m.d m.p m.pr m.l m.ik m.iv m.ir m.ig m.cd = some (askB m.k) := msgasks_p FUEL m.k m.c m.f m.t m.key m.s m.d m.p m.pr m.l m.ik m.iv m.ir m.ig m.cd
  have ho := mown_p FUEL m.k m.c m.f m.t m.key m.s m.d m.p m.pr m.l m.ik m.iv m.ir m.ig m.cd h
  rw [hr, ha, ho]
  unfold toldP
  cases rightM m
  · rfl
  · cases askB m.k <;> rfl
theorem of_r (n : Nat) (m : MW) (h : m.l.length < 1000) : F12 n m.k m.c m.f m.t m.key m.s m.d m.p m.pr m.l m.ik m.iv m.ir m.ig m.cd = some (if toldP m then ⟨m.t, m.c, m.k, m.c, m.f, m.t, m.key, m.s, m.d, m.p, m.pr, m.l, m.ik, m.iv, m.ir, m.ig, m.cd, 0⟩ else ⟨0, 0, 0, 0, 0, 0, 0, false, false, 0, 0, [], ByteArray.empty, 0, 0, false, 0, 2⟩) := by
  unfold F12
  have hr : F25 FUEL m.k m.c m.f m.t m.key m.s m.d m.p m.pr m.l m.ik m.iv m.ir m.ig m.cd = some (rightM m) := mright_r FUEL m.k m.c m.f m.t m.key m.s m.d m.p m.pr m.l m.ik m.iv m.ir m.ig m.cd h
  have ha : F26 FUEL m.k m.c m.f m.t m.key m.s m.d m.p m.pr m.l m.ik m.iv m.ir m.ig m.cd = some (askB m.k) := msgasks_r FUEL m.k m.c m.f m.t m.key m.s m.d m.p m.pr m.l m.ik m.iv m.ir m.ig m.cd
  have ho := mown_r FUEL m.k m.c m.f m.t m.key m.s m.d m.p m.pr m.l m.ik m.iv m.ir m.ig m.cd h
  rw [hr, ha, ho]
  unfold toldP
  cases rightM m
  · rfl
  · cases askB m.k <;> rfl

/-! ### Found. -/
def isk (f c : Int) (x : PT) : Bool := decide (x.1 = f) && decide (x.2.1 = c)
def firstI (f c : Int) : Nat → List PT → Int
  | _, [] => -1
  | i, x :: r => if isk f c x then (i : Int) else firstI f c (i + 1) r
def mkF (o : Option PT) : Si5b2i2si2bibl :=
  match o with
  | some x => ⟨(pm x).k, (pm x).c, (pm x).f, (pm x).t, (pm x).key, (pm x).s, (pm x).d, (pm x).p, (pm x).pr, (pm x).ik, (pm x).iv, (pm x).ir, (pm x).ig, (pm x).cd, true, (pm x).l⟩
  | none => ⟨0, 0, 0, 0, 0, false, false, 0, 0, ByteArray.empty, 0, 0, false, 0, false, []⟩
theorem firstI_none {f c : Int} : ∀ {l : List PT} {i : Nat}, l.any (isk f c) = false → firstI f c i l = -1
  | [], _, _ => rfl
  | x :: r, i, h => by
    simp only [List.any_cons, Bool.or_eq_false_iff] at h
    rw [firstI, h.1]; exact firstI_none h.2
theorem firstI_some {f c : Int} : ∀ {l : List PT} {i : Nat}, l.any (isk f c) = true → ∃ q x s, l = q ++ x :: s ∧ firstI f c i l = ofN (i + q.length) ∧ l.find? (isk f c) = some x
  | [], _, h => by simp at h
  | x :: r, i, h => by
    cases hx : isk f c x
    · simp only [List.any_cons, hx, Bool.false_or] at h
      obtain ⟨q, y, s, h1, h2, h3⟩ := firstI_some (i := i + 1) h
      refine ⟨x :: q, y, s, by rw [h1]; rfl, ?_, ?_⟩
      · rw [firstI, hx]; simp only [Bool.false_eq_true, if_false, h2, ofN, List.length_cons]; omega
      · rw [List.find?_cons, hx]; exact h3
    · exact ⟨[], x, r, rfl, by rw [firstI, hx]; simp [ofN], by rw [List.find?_cons, hx]⟩
theorem first_c (f c z : Int) : ∀ (r p : List PT) (n : Nat), r.length < n → (p ++ r).length < 1000 → F34_c0 n (p ++ r) (ofN (p ++ r).length) (ofN p.length) f c z = some (firstI f c p.length r)
  | _, _, 0, h, _ => by omega
  | [], p, n + 1, _, _ => by simp only [F34_c0, List.append_nil, lt_out, cond_false, firstI]
  | x :: r, p, n + 1, h, hb => by
    simp only [F34_c0, lt_in, inb_in, get_in, cond_true]
    simp only [List.length_append, List.length_cons] at h hb
    rw [add_in (x := x) (by omega)]
    have h1 := first_c f c z r (p ++ [x]) n (by omega) (by simp; omega)
    rw [← in_eq] at h1
    rw [h1, firstI]
    unfold isk
    simp only [ieq_dec]
    have e : (p ++ [x]).length = p.length + 1 := by simp
    rw [e]
    cases decide (x.1 = f)
    · rfl
    · cases decide (x.2.1 = c) <;> rfl
theorem first_p {n : Nat} (hn : 2000 < n) (l : List PT) (f c : Int) (h : l.length < 1000) : F34 n l f c = some (firstI f c 0 l) := by
  unfold F34
  have := first_c f c 0 l [] n (by omega) (by simpa using h)
  simpa [ofN] using this
theorem first_neg {l : List PT} {f c : Int} : ige (firstI f c 0 l) 0 = l.any (isk f c) := by
  cases h : l.any (isk f c)
  · rw [firstI_none h]; rfl
  · obtain ⟨q, x, s, _, h2, _⟩ := firstI_some (i := 0) h
    rw [h2]; exact decide_eq_true (by simp [ofN])
theorem first_lt {l : List PT} {f c : Int} : ilt (firstI f c 0 l) 0 = !l.any (isk f c) := by
  cases h : l.any (isk f c)
  · rw [firstI_none h]; rfl
  · obtain ⟨q, x, s, _, h2, _⟩ := firstI_some (i := 0) h
    rw [h2]; exact decide_eq_false (by simp [ofN])
theorem find_p {n : Nat} (l : List PT) (f c : Int) (h : l.length < 1000) (hs : shortP l) : F13 n l f c = some (mkF (l.find? (isk f c))) := by
  have hf := fuel_big
  unfold F13
  have ht : F35 FUEL f c = some (f, c) := rfl
  rw [ht]
  simp only [Option.bind_some]
  rw [first_p (by omega) l f c h]
  simp only [Option.bind_some, first_lt]
  cases ha : l.any (isk f c)
  · have : l.find? (isk f c) = none := by
      rw [List.find?_eq_none]; rw [List.any_eq_false] at ha; exact ha
    rw [this]; rfl
  · obtain ⟨q, x, s, h1, h2, h3⟩ := firstI_some (i := 0) ha
    rw [h2, h3, Nat.zero_add]
    have e1 : inb (ofN q.length) l.length = true := by rw [h1]; exact inb_in
    have e2 : ∀ d, l.getD (ofN q.length).toNat d = x := fun d => by rw [h1]; exact get_in
    rw [e1]
    simp only [Bool.not_true, cond_false, cond_true, e2]
    rw [mown_p FUEL x.2.2.1 x.2.2.2.1 x.2.2.2.2.1 x.2.2.2.2.2.1 x.2.2.2.2.2.2.1 x.2.2.2.2.2.2.2.1 x.2.2.2.2.2.2.2.2.1 x.2.2.2.2.2.2.2.2.2.1 x.2.2.2.2.2.2.2.2.2.2.1 x.2.2.2.2.2.2.2.2.2.2.2.1 x.2.2.2.2.2.2.2.2.2.2.2.2.1 x.2.2.2.2.2.2.2.2.2.2.2.2.2.1 x.2.2.2.2.2.2.2.2.2.2.2.2.2.2.1 x.2.2.2.2.2.2.2.2.2.2.2.2.2.2.2.1 x.2.2.2.2.2.2.2.2.2.2.2.2.2.2.2.2 (hs x (by rw [h1]; simp))]
    rfl
theorem find_rc (f c : Int) : ∀ (r p : List PT) (n : Nat), r.length < n → (p ++ r).length < 1000 → shortP (p ++ r) → F14_c0 n (p ++ r) f c (ofN p.length) 0 0 0 0 0 false false 0 0 ByteArray.empty 0 0 false 0 = some (mkF (r.find? (isk f c)))
  | _, _, 0, h, _, _ => by omega
  | [], p, n + 1, _, _, _ => by simp only [F14_c0, List.append_nil, lt_out, cond_false, List.find?_nil, mkF]
  | x :: r, p, n + 1, h, hb, hs => by
    simp only [F14_c0, lt_in, inb_in, get_in, cond_true]
    simp only [List.length_append, List.length_cons] at h hb
    rw [mown_r FUEL x.2.2.1 x.2.2.2.1 x.2.2.2.2.1 x.2.2.2.2.2.1 x.2.2.2.2.2.2.1 x.2.2.2.2.2.2.2.1 x.2.2.2.2.2.2.2.2.1 x.2.2.2.2.2.2.2.2.2.1 x.2.2.2.2.2.2.2.2.2.2.1 x.2.2.2.2.2.2.2.2.2.2.2.1 x.2.2.2.2.2.2.2.2.2.2.2.2.1 x.2.2.2.2.2.2.2.2.2.2.2.2.2.1 x.2.2.2.2.2.2.2.2.2.2.2.2.2.2.1 x.2.2.2.2.2.2.2.2.2.2.2.2.2.2.2.1 x.2.2.2.2.2.2.2.2.2.2.2.2.2.2.2.2 (shortP_at hs), add_in (x := x) (by omega)]
    have h1 := find_rc f c r (p ++ [x]) n (by omega) (by simp; omega) (by rw [← in_eq]; exact hs)
    rw [← in_eq] at h1
    rw [h1, List.find?_cons]
    unfold isk
    simp only [ieq_dec]
    cases decide (x.1 = f)
    · rfl
    · cases decide (x.2.1 = c) <;> rfl
theorem find_r {n : Nat} (hn : 2000 < n) (l : List PT) (f c : Int) (h : l.length < 1000) (hs : shortP l) : F14 n l f c = some (mkF (l.find? (isk f c))) := by
  unfold F14
  have := find_rc f c l [] n (by omega) (by simpa using h) (by simpa using hs)
  simpa [ofN] using this
theorem mkF_q (l : List PT) (f c : Int) : (mkF (l.find? (isk f c))).q14 = l.any (isk f c) := by
  cases ha : l.any (isk f c)
  · have : l.find? (isk f c) = none := by
      rw [List.find?_eq_none]; rw [List.any_eq_false] at ha; exact ha
    rw [this]; rfl
  · obtain ⟨q, x, s, _, _, h3⟩ := firstI_some (i := 0) ha
    rw [h3]; rfl

/-! ### Own, same. -/
theorem sown_c : ∀ (r p : List PT) (n : Nat) (a : List PT), r.length < n → (p ++ r).length < 1000 → a.length + r.length < 1000 → shortP (p ++ r) → F24_c0 n (p ++ r) (ofN (p ++ r).length) (ofN p.length) a = some (a ++ r)
  | _, _, 0, _, h, _, _, _ => by omega
  | [], p, n + 1, a, _, _, _, _ => by simp only [F24_c0, List.append_nil, lt_out, cond_false]
  | x :: r, p, n + 1, a, h, hb, ha, hs => by
    simp only [F24_c0, lt_in, inb_in, get_in, cond_true]
    simp only [List.length_append, List.length_cons] at h hb ha
    rw [mown_p FUEL x.2.2.1 x.2.2.2.1 x.2.2.2.2.1 x.2.2.2.2.2.1 x.2.2.2.2.2.2.1 x.2.2.2.2.2.2.2.1 x.2.2.2.2.2.2.2.2.1 x.2.2.2.2.2.2.2.2.2.1 x.2.2.2.2.2.2.2.2.2.2.1 x.2.2.2.2.2.2.2.2.2.2.2.1 x.2.2.2.2.2.2.2.2.2.2.2.2.1 x.2.2.2.2.2.2.2.2.2.2.2.2.2.1 x.2.2.2.2.2.2.2.2.2.2.2.2.2.2.1 x.2.2.2.2.2.2.2.2.2.2.2.2.2.2.2.1 x.2.2.2.2.2.2.2.2.2.2.2.2.2.2.2.2 (shortP_at hs)]
    simp only [Option.bind_some]
    rw [room_all (by simp; omega) (by decide), cond_true, add_in (x := x) (by omega)]
    have h1 := sown_c r (p ++ [x]) n (a ++ [x]) (by omega) (by simp; omega) (by simp; omega) (by rw [← in_eq]; exact hs)
    rw [← in_eq] at h1
    simpa using h1
theorem sown_p {n : Nat} (hn : 2000 < n) (l : List PT) (h : l.length < 1000) (hs : shortP l) : F24 n l = some l := by
  unfold F24
  have := sown_c l [] n [] (by omega) (by simpa using h) (by simpa using h) (by simpa using hs)
  simpa [ofN] using this
theorem sown_rc : ∀ (r p : List PT) (n : Nat) (a : List PT), r.length < n → (p ++ r).length < 1000 → a.length + r.length < 1000 → shortP (p ++ r) → F28_c0 n (p ++ r) (ofN p.length) a = some (a ++ r)
  | _, _, 0, _, h, _, _, _ => by omega
  | [], p, n + 1, a, _, _, _, _ => by simp only [F28_c0, List.append_nil, lt_out, cond_false]
  | x :: r, p, n + 1, a, h, hb, ha, hs => by
    simp only [F28_c0, lt_in, inb_in, get_in, cond_true]
    simp only [List.length_append, List.length_cons] at h hb ha
    rw [mown_r FUEL x.2.2.1 x.2.2.2.1 x.2.2.2.2.1 x.2.2.2.2.2.1 x.2.2.2.2.2.2.1 x.2.2.2.2.2.2.2.1 x.2.2.2.2.2.2.2.2.1 x.2.2.2.2.2.2.2.2.2.1 x.2.2.2.2.2.2.2.2.2.2.1 x.2.2.2.2.2.2.2.2.2.2.2.1 x.2.2.2.2.2.2.2.2.2.2.2.2.1 x.2.2.2.2.2.2.2.2.2.2.2.2.2.1 x.2.2.2.2.2.2.2.2.2.2.2.2.2.2.1 x.2.2.2.2.2.2.2.2.2.2.2.2.2.2.2.1 x.2.2.2.2.2.2.2.2.2.2.2.2.2.2.2.2 (shortP_at hs)]
    simp only [Option.bind_some]
    rw [room_all (by simp; omega) (by decide), cond_true, add_in (x := x) (by omega)]
    have h1 := sown_rc r (p ++ [x]) n (a ++ [x]) (by omega) (by simp; omega) (by simp; omega) (by rw [← in_eq]; exact hs)
    rw [← in_eq] at h1
    simpa using h1
theorem sown_r {n : Nat} (hn : 2000 < n) (l : List PT) (h : l.length < 1000) (hs : shortP l) : F28 n l = some l := by
  unfold F28
  have := sown_rc l [] n [] (by omega) (by simpa using h) (by simpa using h) (by simpa using hs)
  simpa [ofN] using this
def eqP (x y : PT) : Bool := decide (x.1 = y.1) && (decide (x.2.1 = y.2.1) && sameM (pm x) (pm y))
def leqP : List PT → List PT → Bool
  | [], [] => true
  | x :: r, y :: s => eqP x y && leqP r s
  | _, _ => false
theorem eqP_self (x : PT) : eqP x x = true := by unfold eqP; rw [sameM_self]; simp
theorem leqP_self : ∀ (l : List PT), leqP l l = true
  | [] => rfl
  | x :: r => by rw [leqP, eqP_self, leqP_self r]; rfl
theorem leqP_len : ∀ {l m : List PT}, leqP l m = true → l.length = m.length
  | [], [], _ => rfl
  | [], _ :: _, h => by cases h
  | _ :: _, [], h => by cases h
  | x :: r, y :: s, h => by
    rw [leqP, Bool.and_eq_true] at h
    simp [leqP_len h.2]
theorem ssame_rc : ∀ (r s p q : List PT) (n : Nat), r.length < n → p.length = q.length → r.length = s.length → (p ++ r).length < 1000 → shortP (p ++ r) → F18_c0 n (p ++ r) (q ++ s) (ofN p.length) = some (leqP r s)
  | _, _, _, _, 0, h, _, _, _, _ => by omega
  | [], [], p, q, n + 1, _, _, _, _, _ => by simp only [F18_c0, List.append_nil, lt_out, cond_false]; rfl
  | [], _ :: _, _, _, _ + 1, _, _, hs, _, _ => by simp at hs
  | _ :: _, [], _, _, _ + 1, _, _, hs, _, _ => by simp at hs
  | x :: r, y :: s, p, q, n + 1, h, hp, hs, hb, hsh => by
    have hf := fuel_big
    have e1 : inb (ofN p.length) (q ++ y :: s).length = true := by rw [hp]; exact inb_in
    have e2 : ∀ d, (q ++ y :: s).getD (ofN p.length).toNat d = y := fun d => by rw [hp]; exact get_in
    simp only [F18_c0, lt_in, inb_in, get_in, cond_true, e1, e2]
    simp only [List.length_append, List.length_cons] at h hb hs
    have hx := shortP_at hsh
    have hS : F15 FUEL x.2.2.1 x.2.2.2.1 x.2.2.2.2.1 x.2.2.2.2.2.1 x.2.2.2.2.2.2.1 x.2.2.2.2.2.2.2.1 x.2.2.2.2.2.2.2.2.1 x.2.2.2.2.2.2.2.2.2.1 x.2.2.2.2.2.2.2.2.2.2.1 x.2.2.2.2.2.2.2.2.2.2.2.1 x.2.2.2.2.2.2.2.2.2.2.2.2.1 x.2.2.2.2.2.2.2.2.2.2.2.2.2.1 x.2.2.2.2.2.2.2.2.2.2.2.2.2.2.1 x.2.2.2.2.2.2.2.2.2.2.2.2.2.2.2.1 x.2.2.2.2.2.2.2.2.2.2.2.2.2.2.2.2 y.2.2.1 y.2.2.2.1 y.2.2.2.2.1 y.2.2.2.2.2.1 y.2.2.2.2.2.2.1 y.2.2.2.2.2.2.2.1 y.2.2.2.2.2.2.2.2.1 y.2.2.2.2.2.2.2.2.2.1 y.2.2.2.2.2.2.2.2.2.2.1 y.2.2.2.2.2.2.2.2.2.2.2.1 y.2.2.2.2.2.2.2.2.2.2.2.2.1 y.2.2.2.2.2.2.2.2.2.2.2.2.2.1 y.2.2.2.2.2.2.2.2.2.2.2.2.2.2.1 y.2.2.2.2.2.2.2.2.2.2.2.2.2.2.2.1 y.2.2.2.2.2.2.2.2.2.2.2.2.2.2.2.2 = some (sameM (pm x) (pm y)) := msame_r (show (pm x).l.length < FUEL by omega) (show (pm x).l.length ≤ 9223372036854775807 by omega)
    rw [hS, add_in (x := x) (by omega)]
    have h1 := ssame_rc r s (p ++ [x]) (q ++ [y]) n (by omega) (by simp [hp]) (by omega) (by simp; omega) (by rw [← in_eq]; exact hsh)
    rw [← in_eq, ← in_eq] at h1
    rw [h1, leqP, eqP]
    simp only [Option.bind_some, ine_dec, lad6]
    cases decide (x.1 = y.1)
    · rfl
    · cases decide (x.2.1 = y.2.1) <;> rfl
theorem ssame_r {n : Nat} (hn : 2000 < n) (l m : List PT) (h : l.length < 1000) (hs : shortP l) : F18 n l m = some (leqP l m) := by
  unfold F18
  by_cases hl : l.length = m.length
  · have e : ine (ofN l.length) (ofN m.length) = false := by simp [ine, ofN, hl]
    rw [e, cond_false]
    exact ssame_rc l m [] [] n (by omega) rfl hl (by simpa using h) (by simpa using hs)
  · have e : ine (ofN l.length) (ofN m.length) = true := by simp [ine, ofN]; omega
    rw [e, cond_true]
    cases h2 : leqP l m
    · rfl
    · exact absurd (leqP_len h2) hl
theorem ssame_pc (z : Bool) : ∀ (r s p q : List PT) (n : Nat), r.length < n → p.length = q.length → r.length = s.length → (p ++ r).length < 1000 → shortP (p ++ r) → F23_c0 n (p ++ r) (ofN (p ++ r).length) (ofN p.length) (q ++ s) z = some (leqP r s)
  | _, _, _, _, 0, h, _, _, _, _ => by omega
  | [], [], p, q, n + 1, _, _, _, _, _ => by simp only [F23_c0, List.append_nil, lt_out, cond_false]; rfl
  | [], _ :: _, _, _, _ + 1, _, _, hs, _, _ => by simp at hs
  | _ :: _, [], _, _, _ + 1, _, _, hs, _, _ => by simp at hs
  | x :: r, y :: s, p, q, n + 1, h, hp, hs, hb, hsh => by
    have hf := fuel_big
    have e1 : inb (ofN p.length) (q ++ y :: s).length = true := by rw [hp]; exact inb_in
    have e2 : ∀ d, (q ++ y :: s).getD (ofN p.length).toNat d = y := fun d => by rw [hp]; exact get_in
    simp only [F23_c0, lt_in, inb_in, get_in, cond_true, e1, e2]
    simp only [List.length_append, List.length_cons] at h hb hs
    have hx := shortP_at hsh
    have hS : F37 FUEL x.2.2.1 x.2.2.2.1 x.2.2.2.2.1 x.2.2.2.2.2.1 x.2.2.2.2.2.2.1 x.2.2.2.2.2.2.2.1 x.2.2.2.2.2.2.2.2.1 x.2.2.2.2.2.2.2.2.2.1 x.2.2.2.2.2.2.2.2.2.2.1 x.2.2.2.2.2.2.2.2.2.2.2.1 x.2.2.2.2.2.2.2.2.2.2.2.2.1 x.2.2.2.2.2.2.2.2.2.2.2.2.2.1 x.2.2.2.2.2.2.2.2.2.2.2.2.2.2.1 x.2.2.2.2.2.2.2.2.2.2.2.2.2.2.2.1 x.2.2.2.2.2.2.2.2.2.2.2.2.2.2.2.2 y.2.2.1 y.2.2.2.1 y.2.2.2.2.1 y.2.2.2.2.2.1 y.2.2.2.2.2.2.1 y.2.2.2.2.2.2.2.1 y.2.2.2.2.2.2.2.2.1 y.2.2.2.2.2.2.2.2.2.1 y.2.2.2.2.2.2.2.2.2.2.1 y.2.2.2.2.2.2.2.2.2.2.2.1 y.2.2.2.2.2.2.2.2.2.2.2.2.1 y.2.2.2.2.2.2.2.2.2.2.2.2.2.1 y.2.2.2.2.2.2.2.2.2.2.2.2.2.2.1 y.2.2.2.2.2.2.2.2.2.2.2.2.2.2.2.1 y.2.2.2.2.2.2.2.2.2.2.2.2.2.2.2.2 = some (sameM (pm x) (pm y)) := msame_p (show (pm x).l.length < 100000 by omega)
    rw [hS, add_in (x := x) (by omega)]
    have h1 := ssame_pc z r s (p ++ [x]) (q ++ [y]) n (by omega) (by simp [hp]) (by omega) (by simp; omega) (by rw [← in_eq]; exact hsh)
    rw [← in_eq, ← in_eq] at h1
    rw [h1, leqP, eqP]
    simp only [Option.bind_some, ine_dec, lad6]
    cases decide (x.1 = y.1)
    · rfl
    · cases decide (x.2.1 = y.2.1) <;> rfl
theorem ssame_p {n : Nat} (hn : 2000 < n) (l m : List PT) (h : l.length < 1000) (hs : shortP l) : F23 n l m = some (leqP l m) := by
  unfold F23
  by_cases hl : l.length = m.length
  · have e : ine (ofN l.length) (ofN m.length) = false := by simp [ine, ofN, hl]
    rw [e, cond_false]
    exact ssame_pc false l m [] [] n (by omega) rfl hl (by simpa using h) (by simpa using hs)
  · have e : ine (ofN l.length) (ofN m.length) = true := by simp [ine, ofN]; omega
    rw [e, cond_true]
    cases h2 : leqP l m
    · rfl
    · exact absurd (leqP_len h2) hl
end Go.Proofs.Ytcbhmedknbiffaa
