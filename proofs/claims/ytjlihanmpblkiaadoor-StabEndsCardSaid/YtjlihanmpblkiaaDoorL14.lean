/-
  Chapter 14, in plain words.
-/
import Derived.Test.YtjlihanmpblkiaaDoorPH
import Derived.Test.YtjlihanmpblkiaaDoorPA
import Derived.Test.YtjlihanmpblkiaaDoorPM
namespace Go.Proofs.YtjlihanmpblkiaaDoor
open Go Go.RowKit

theorem cnd {α : Type} {b : Bool} {x y z : α} (h1 : b = true → x = z) (h2 : b = false → y = z) : (bif b then x else y) = z := by
  cases b
  · exact h2 rfl
  · exact h1 rfl
/-! ### Sixteen fingers as a row. -/
theorem q16 {l : List Int} (h : l.length = 16) : ([l.getD 0 0, l.getD 1 0, l.getD 2 0, l.getD 3 0, l.getD 4 0, l.getD 5 0, l.getD 6 0, l.getD 7 0, l.getD 8 0, l.getD 9 0, l.getD 10 0, l.getD 11 0, l.getD 12 0, l.getD 13 0, l.getD 14 0, l.getD 15 0] : List Int) = l := by
  match l, h with
  | [_, _, _, _, _, _, _, _, _, _, _, _, _, _, _, _], _ => rfl
/-- A view with fingers. -/
def mkV (id : Int) (b s : List Int) (p : Int) (l : List Int) : VW := ⟨id, b, s, p, l.getD 0 0, l.getD 1 0, l.getD 2 0, l.getD 3 0, l.getD 4 0, l.getD 5 0, l.getD 6 0, l.getD 7 0, l.getD 8 0, l.getD 9 0, l.getD 10 0, l.getD 11 0, l.getD 12 0, l.getD 13 0, l.getD 14 0, l.getD 15 0⟩
theorem mkV_fg {id : Int} {b s : List Int} {p : Int} {l : List Int} (h : l.length = 16) : (mkV id b s p l).fg = l := q16 h
theorem mkV_right {id : Int} {b s : List Int} {p : Int} {l : List Int} (h : l.length = 16) : rightV (mkV id b s p l) = (isP id && (goodBase b && (good id s && (oth id p && l.all (oth id))))) := by
  unfold rightV
  rw [mkV_fg h]; rfl
theorem mkV_set {id : Int} {b s : List Int} {p : Int} {l : List Int} {i : Nat} {x : Int} (h : l.length = 16) (hr : rightV (mkV id b s p l) = true) (hx : oth id x = true) : rightV (mkV id b s p (l.set i x)) = true := by
  rw [mkV_right h] at hr
  rw [mkV_right (by rw [List.length_set]; exact h)]
  simp only [Bool.and_eq_true, List.all_eq_true] at hr ⊢
  refine ⟨hr.1, hr.2.1, hr.2.2.1, hr.2.2.2.1, fun y hy => ?_⟩
  rcases List.mem_or_eq_of_mem_set hy with hy | rfl
  · exact hr.2.2.2.2 y hy
  · exact hx
theorem mkV_first {id : Int} {b s : List Int} {p : Int} {l l' : List Int} (h : rightV (mkV id b s p l) = true) (h' : rightV (mkV id b s p l') = true) : firstV (mkV id b s p l) = firstV (mkV id b s p l') := by
  unfold firstV; rw [h, h']; rfl
theorem oth_first {v : VW} (h : rightV v = true) : oth v.id (firstV v) = true := by
  obtain ⟨f1, f2⟩ := firstV_ok h
  unfold oth; rw [f1, Bool.true_and, decide_eq_true f2, Bool.or_true]
/-- An owner as a finger. -/
def ownd (id o : Int) : Int := if o = id then -1 else o

/-! ### Starts. -/
def stt (id i : Int) : Int := if 0 ≤ i ∧ i < 16 then pl (pl id + 2 ^ i.toNat) else pl id
theorem two_le {k : Nat} (h : k ≤ 15) : (2 : Int) ^ k ≤ 32768 ∧ 0 < (2 : Int) ^ k := by
  refine ⟨?_, Int.pow_pos (by decide)⟩
  have h1 : (2 : Nat) ^ k ≤ 2 ^ 15 := Nat.pow_le_pow_right (by decide) h
  have h2 : ((2 ^ k : Nat) : Int) = (2 : Int) ^ k := by push_cast; rfl
  omega
def inR (i : Int) : Bool := decide (0 ≤ i) && decide (i < 16)
def startV (v : VW) (i : Int) : Int × Int := bif rightV v && inR i then (stt v.id i, 0) else (0, 2)
theorem inR_of (i : Int) (A B : Option (Int × Int)) : (bif ilt i 0 then A else bif ige i 16 then A else B) = bif inR i then B else A := by
  unfold inR
  by_cases h0 : i < 0
  · rw [show ilt i 0 = true from decide_eq_true h0, decide_eq_false (by omega : ¬ 0 ≤ i)]; rfl
  · rw [show ilt i 0 = false from decide_eq_false h0, decide_eq_true (by omega : 0 ≤ i)]
    by_cases h1 : i < 16
    · rw [show ige i 16 = false from decide_eq_false (by omega), decide_eq_true h1]; rfl
    · rw [show ige i 16 = true from decide_eq_true (by omega), decide_eq_false h1]; rfl
/-- What is told at once. -/
def onceV (v : VW) (i : Int) : Int × Bool := bif (rightV v && inR i) && upt v.id (firstV v) (stt v.id i) then (firstV v, true) else (0, false)

/-! ### Set. -/
/-- A view whose finger is set. -/
def setV (v : VW) (l : List Int) (i o : Int) : List Int × Int := bif (rightV v && inR i) && isP o then (l.set i.toNat (ownd v.id o), 0) else (l, 2)
theorem inR_in {i : Int} (h : inR i = true) : inb i 16 = true ∧ nlt i.toNat 16 = true := by
  unfold inR at h
  simp only [Bool.and_eq_true, decide_eq_true_eq] at h
  refine ⟨?_, decide_eq_true (by omega)⟩
  unfold inb; rw [decide_eq_true h.1, decide_eq_true (by omega : i < (16 : Nat))]; rfl

/-! ### Walk. -/
def wlk (v : VW) : Nat → Nat → List Int → List Int × (Int × (Int × Bool))
  | 0, _, l => (l, 0, 0, false)
  | m + 1, i, l => bif (onceV v (ofN i)).2 then wlk v m (i + 1) (l.set i (firstV v)) else (l, ofN i, stt v.id (ofN i), true)
theorem inR_nat {i : Nat} (h : i < 16) : inR (ofN i) = true := by
  unfold inR ofN; rw [decide_eq_true (by omega : (0 : Int) ≤ i), decide_eq_true (by omega : (i : Int) < 16)]; rfl
theorem once_first {v : VW} {i : Int} (h : (onceV v i).2 = true) : onceV v i = (firstV v, true) := by
  unfold onceV at h ⊢
  cases hc : ((rightV v && inR i) && upt v.id (firstV v) (stt v.id i))
  · rw [hc] at h; cases h
  · rfl
def walkV (v : VW) (l : List Int) (i : Int) : List Int × (Int × (Int × Bool)) := bif rightV v then (bif inR i then wlk v (16 - i.toNat) i.toNat l else wlk v 16 0 l) else (l, 0, 0, false)
theorem once_same {id : Int} {b s : List Int} {p : Int} {l l' : List Int} {i : Int} (h : rightV (mkV id b s p l) = true) (h' : rightV (mkV id b s p l') = true) : onceV (mkV id b s p l') i = onceV (mkV id b s p l) i := by
  unfold onceV
  rw [h, h', mkV_first h' h]; rfl

/-! ### Owners, tables. -/
def ow (l : List Int) (k : Int) : Int := match l with
  | [] => 0
  | x :: r => ownr k (pl x) (x :: r)
theorem ow_r {n : Nat} (hn : 2000 < n) (l : List Int) (k : Int) (hne : l ≠ []) (h : l.length < 1000) : F79 n l k = some (ow l k, true) := by
  cases l with
  | nil => exact absurd rfl hne
  | cons x r => exact owner_r hn k x r h
def tbl (id : Int) (os : List Int) : Nat → Nat → List Int → List Int
  | 0, _, l => l
  | m + 1, i, l => tbl id os m (i + 1) (l.set i (ownd id (ow os (stt id (ofN i)))))
theorem tbl_len {id : Int} {os : List Int} : ∀ (m i : Nat) (l : List Int), (tbl id os m i l).length = l.length
  | 0, _, _ => rfl
  | m + 1, i, l => by rw [tbl, tbl_len m, List.length_set]
def tabV (v : VW) (l : List Int) (os : List Int) : List Int × Int := bif rightV v && (decide (0 < os.length) && os.all isP) then (tbl v.id os 16 0 l, 0) else (l, 2)

/-! ### Make. -/
def mkl (w : Int) : List Int → List Int → List Int
  | acc, [] => acc
  | acc, x :: r => if acc.length < 3 ∧ isP x = true ∧ fr w (acc.getLastD 0) < fr w x then mkl w (acc ++ [x]) r else acc

theorem mkl_pl (w : Int) : ∀ (r acc : List Int), mkl (pl w) acc r = mkl w acc r
  | [], _ => rfl
  | x :: r, acc => by simp only [mkl, fr_pl, mkl_pl w r]

/-- What is made. -/
def made (a b : Int) (l : List Int) : List Int := if isP b = true ∧ b ≠ pl a then mkl a [b] l else []

theorem make_pc : ∀ (r p : List Int) (n : Nat) (w : Int) (q : List Int) (v : Int), r.length + 1 < n → (p ++ r).length < 1000 → q.length < 900 → F41_c1 n (p ++ r) (ofN (p ++ r).length) (ofN p.length) w (q ++ [v]) = some (mkl w (q ++ [v]) r)
  | _, _, 0, _, _, _, h, _, _ => by omega
  | [], p, n + 1, w, q, v, _, _, _ => by simp only [F41_c1, List.append_nil, lt_out, cond_false]; rfl
  | x :: r, p, n + 1, w, q, v, h, hb, hq => by
    simp only [List.length_append, List.length_cons] at h hb
    have c0 : ∀ l, F41_c0 n l = some l := by
      obtain ⟨m, rfl⟩ : ∃ m, n = m + 1 := Nat.exists_eq_succ_of_ne_zero (by omega)
      exact fun l => rfl
    have e3 : isub .i64 (ofN (q ++ [v]).length) 1 = ofN q.length := by
      rw [sub_one (by simp; omega)]; simp [ofN]
    simp only [F41_c1, lt_in, inb_in, get_in, cond_true, isp_list, far_p, Option.bind_some, c0, e3, nlt_in]
    rw [add_in (x := x) (by omega), mkl]
    have e6 : (q ++ [v]).getLastD 0 = v := by simp
    rw [e6]
    by_cases h3 : (q ++ [v]).length < 3
    · have e1 : ige (ofN (q ++ [v]).length) 3 = false := by simp [ige, ofN] at h3 ⊢; omega
      rw [e1, cond_false]
      cases hx : isP x
      · simp
      · simp only [Bool.not_true, cond_false, ile]
        by_cases hd : fr w v < fr w x
        · have h1 := make_pc r (p ++ [x]) n w (q ++ [v]) x (by omega) (by simp; omega) (by simp at h3 ⊢; omega)
          rw [← in_eq] at h1
          rw [decide_eq_false (by omega : ¬ fr w x ≤ fr w v), cond_false, room_in (by simp at h3 ⊢; omega), cond_true, h1, if_pos ⟨h3, trivial, hd⟩]
        · rw [decide_eq_true (by omega : fr w x ≤ fr w v), cond_true, if_neg fun hh => hd hh.2.2]
    · have e1 : ige (ofN (q ++ [v]).length) 3 = true := by simp [ige, ofN] at h3 ⊢; omega
      rw [e1, cond_true, if_neg fun hh => h3 hh.1]

theorem make_p {n : Nat} (hn : 2000 < n) (a b : Int) (l : List Int) (h : l.length < 1000) : F41 n a b l = some (made a b l) := by
  unfold F41 made
  simp only [place_p, isp_list, Option.bind_some]
  obtain ⟨m, rfl⟩ : ∃ m, n = m + 1 := Nat.exists_eq_succ_of_ne_zero (by omega)
  have c0 : ∀ l, F41_c0 (m + 1) l = some l := fun l => rfl
  simp only [c0]
  cases hx : isP b
  · simp
  · simp only [Bool.not_true, cond_false, true_and]
    by_cases hb : b = pl a
    · have e : ieq b (pl a) = true := by simp [ieq, hb]
      rw [e, cond_true, if_neg (by simp [hb])]
    · have e : ieq b (pl a) = false := by simp [ieq, hb]
      have e2 : room [b].length 8 = true := by simp [room]
      rw [e, cond_false, e2, cond_true, if_pos hb]
      have := make_pc l [] (m + 1) (pl a) [] b (by omega) (by simpa using h) (by simp)
      rw [mkl_pl] at this
      simpa [ofN] using this

theorem make_rc : ∀ (r p : List Int) (n : Nat) (w : Int) (q : List Int) (v : Int), r.length < n → (p ++ r).length < 1000 → q.length = p.length → F44_c0 n w (p ++ r) (ofN p.length) (q ++ [v]) = some (mkl w (q ++ [v]) r)
  | _, _, 0, _, _, _, h, _, _ => by omega
  | [], p, n + 1, w, q, v, _, _, _ => by simp only [F44_c0, List.append_nil, lt_out, cond_false]; rfl
  | x :: r, p, n + 1, w, q, v, h, hb, hq => by
    have i1 : inb (ofN p.length) (q ++ [v]).length = true := by rw [← hq]; exact inb_in
    have i2 : nlt (ofN p.length).toNat (q ++ [v]).length = true := by rw [← hq]; exact nlt_in
    have i3 : ∀ d, (q ++ [v]).getD (ofN p.length).toNat d = v := fun d => by rw [← hq]; exact get_in
    simp only [F44_c0, lt_in, inb_in, get_in, cond_true, isp_ref12, farther_r, Option.bind_some, i1, i2, i3]
    simp only [List.length_append, List.length_cons] at h hb
    rw [add_in (x := x) (by omega), mkl]
    have e6 : (q ++ [v]).getLastD 0 = v := by simp
    rw [e6]
    by_cases h3 : (q ++ [v]).length < 3
    · have e1 : ilt (ofN (q ++ [v]).length) 3 = true := by simp [ilt, ofN] at h3 ⊢; omega
      rw [e1, cond_true]
      cases hx : isP x
      · simp
      · simp only [Bool.not_true, cond_false]
        by_cases hd : fr w v < fr w x
        · have h1 := make_rc r (p ++ [x]) n w (q ++ [v]) x (by omega) (by simp; omega) (by simp [hq])
          rw [← in_eq] at h1
          rw [decide_eq_true hd, Bool.not_true, cond_false, room_in (by simp at h3 ⊢; omega), cond_true, h1, if_pos ⟨h3, trivial, hd⟩]
        · rw [decide_eq_false hd, Bool.not_false, cond_true, if_neg fun hh => hd hh.2.2]
    · have e1 : ilt (ofN (q ++ [v]).length) 3 = false := by simp [ilt, ofN] at h3 ⊢; omega
      rw [e1, cond_false, if_neg fun hh => h3 hh.1]

theorem make_r {n : Nat} (hn : 2000 < n) (a b : Int) (l : List Int) (h : l.length < 1000) : F44 n a b l = some (made a b l) := by
  unfold F44 made
  simp only [place_r, isp_ref12, Option.bind_some]
  cases hx : isP b
  · simp
  · simp only [Bool.not_true, cond_false, true_and]
    by_cases hb : b = pl a
    · have e : ieq (pl a) b = true := by simp [ieq, hb]
      rw [e, cond_true, if_neg (by simp [hb])]
    · have e : ieq (pl a) b = false := by simp [ieq]; exact fun h => hb h.symm
      rw [e, cond_false, if_pos hb]
      have := make_rc l [] n a [] b (by omega) (by simpa using h) rfl
      simpa [ofN] using this

/-! ### Skips. -/
/-- Whether a row of peers has stepped over one that is known. -/
def skp : Int → List Int → List Int → Bool
  | _, [], _ => false
  | w, y :: s, r => r.any (cut w y) || skp y s r

theorem skp_pl (w : Int) : ∀ (s r : List Int), skp (pl w) s r = skp w s r
  | [], _ => rfl
  | y :: s, r => by simp only [skp]; congr 2; funext x; exact cut_pl w y x

theorem skips_rc1 : ∀ (t q : List Int) (n : Nat) (w y : Int) (p s : List Int), t.length < n → (q ++ t).length < 1000 →
    F22_c1 n (p ++ y :: s) (q ++ t) w (ofN p.length) (ofN q.length) = if t.any (cut w y) = true then some true else F22_c0 (n - t.length - 1) (p ++ y :: s) (q ++ t) y (iadd .i64 (ofN p.length) 1)
  | _, _, 0, _, _, _, _, h, _ => by omega
  | [], q, n + 1, w, y, p, s, _, _ => by simp only [F22_c1, List.append_nil, lt_out, cond_false, inb_in, get_in, cond_true]; rfl
  | x :: t, q, n + 1, w, y, p, s, h, hb => by
    simp only [List.length_append, List.length_cons] at h hb
    simp only [F22_c1, lt_in, inb_in, get_in, cond_true, in_r, Option.bind_some]
    rw [add_in (p := q) (x := x) (by omega)]
    have h1 := skips_rc1 t (q ++ [x]) n w y p s (by omega) (by simp; omega)
    rw [← in_eq] at h1
    rw [h1, List.any_cons]
    cases cut w y x
    · simp only [cond_false, Bool.false_or]
      rw [show n + 1 - (x :: t).length - 1 = n - t.length - 1 by simp]
    · rfl

theorem skips_rc0 : ∀ (s p : List Int) (n : Nat) (w : Int) (r : List Int), (s.length + 1) * (r.length + 3) ≤ n → (p ++ s).length < 1000 → r.length < 1000 →
    F22_c0 n (p ++ s) r w (ofN p.length) = some (skp w s r)
  | s, _, 0, _, r, h, _, _ => by have : 0 < (s.length + 1) * (r.length + 3) := Nat.mul_pos (by omega) (by omega); omega
  | [], p, n + 1, w, r, _, _, _ => by simp only [F22_c0, List.append_nil, lt_out, cond_false]; rfl
  | y :: s, p, n + 1, w, r, h, hb, hr => by
    simp only [List.length_append, List.length_cons] at h hb
    have hm : (s.length + 1 + 1) * (r.length + 3) = (s.length + 1) * (r.length + 3) + (r.length + 3) := by rw [Nat.add_mul]; simp
    simp only [F22_c0, lt_in, cond_true]
    have h1 := skips_rc1 r [] n w y p s (by omega) (by simpa using hr)
    simp only [List.nil_append, List.length_nil] at h1
    rw [show (ofN 0) = 0 from rfl] at h1
    rw [h1, add_in (x := y) (by omega), skp]
    have h2 := skips_rc0 s (p ++ [y]) (n - r.length - 1) y r (by omega) (by simp; omega) hr
    rw [← in_eq] at h2
    rw [h2]
    cases r.any (cut w y) <;> rfl

theorem skips_r {n : Nat} (a : Int) (s r : List Int) (hn : (s.length + 1) * (r.length + 3) ≤ n) (hs : s.length < 1000) (hr : r.length < 1000) : F22 n a s r = some (skp a s r) := by
  unfold F22
  simpa [ofN] using skips_rc0 s [] n a r hn (by simpa using hs) hr

theorem fuel_two {a b : Nat} (ha : a < 1000) (hb : b < 1000) : (a + 1) * (b + 3) ≤ FUEL := by
  have := Nat.mul_le_mul (show a + 1 ≤ 1000 by omega) (show b + 3 ≤ 1003 by omega)
  have h2 : 1000 * 1003 ≤ FUEL := by unfold FUEL; omega
  omega

theorem mkl_len (w : Int) : ∀ (r acc : List Int), (mkl w acc r).length ≤ acc.length + r.length
  | [], acc => by simp [mkl]
  | x :: r, acc => by
    rw [mkl]
    split
    · have := mkl_len w r (acc ++ [x]); simp at this ⊢; omega
    · simp

theorem made_len (a b : Int) (l : List Int) : (made a b l).length ≤ 1 + l.length := by
  unfold made
  split
  · have := mkl_len a l [b]; simp at this ⊢; omega
  · simp

/-- Between two that rise, seen from elsewhere. -/
theorem cut_rise (a p y b : Int) (h : fr a p < fr a y) : cut p y b = (decide (fr a p < fr a b) && decide (fr a b < fr a y)) := by
  have h1 : ¬ fr p y = 0 := by unfold fr at *; omega
  have h2 : (0 < fr p b ∧ fr p b < fr p y) ↔ (fr a p < fr a b ∧ fr a b < fr a y) := by unfold fr at *; omega
  unfold cut
  rw [decide_eq_false h1, Bool.false_or, ← Bool.decide_and, ← Bool.decide_and]
  exact decide_eq_decide.2 h2

theorem rgt_last (a : Int) : ∀ (l : List Int) (p : Int), rgt a (fr a p) l = true → fr a p ≤ fr a (l.getLastD p)
  | [], _, _ => Int.le_refl _
  | y :: s, p, h => by
    rw [rgt, Bool.and_eq_true, Bool.and_eq_true, decide_eq_true_eq] at h
    have := rgt_last a s y h.2.2
    rw [List.getLastD_cons]; omega

theorem rgt_isP (a : Int) : ∀ (l : List Int) (d : Int), rgt a d l = true → ∀ y ∈ l, isP y = true
  | [], _, _, y, hy => by cases hy
  | x :: s, d, h, y, hy => by
    rw [rgt, Bool.and_eq_true, Bool.and_eq_true] at h
    rcases List.mem_cons.1 hy with rfl | hy
    · exact h.1
    · exact rgt_isP a s _ h.2.2 y hy

theorem mkl_split (w : Int) : ∀ (r q : List Int) (v : Int), (q ++ [v]).length ≤ 3 → ∃ s t, r = s ++ t ∧ mkl w (q ++ [v]) r = q ++ [v] ++ s ∧ rgt w (fr w v) s = true ∧ (q ++ [v] ++ s).length ≤ 3 ∧
    ((q ++ [v] ++ s).length < 3 → ∀ x t', t = x :: t' → isP x = true → ¬ fr w (s.getLastD v) < fr w x)
  | [], q, v, h => ⟨[], [], rfl, by simp [mkl], rfl, by simpa using h, fun _ x t' h => by cases h⟩
  | x :: r, q, v, h => by
    by_cases c : (q ++ [v]).length < 3 ∧ isP x = true ∧ fr w v < fr w x
    · obtain ⟨s, t, h1, h2, h3, h4, h5⟩ := mkl_split w r (q ++ [v]) x (by simp at c ⊢; omega)
      refine ⟨x :: s, t, by rw [h1]; rfl, ?_, ?_, ?_, ?_⟩
      · rw [mkl, show (q ++ [v]).getLastD 0 = v by simp, if_pos c, h2]; simp
      · rw [rgt, c.2.1, decide_eq_true c.2.2, h3]; rfl
      · simpa using h4
      · rw [List.getLastD_cons]
        intro hl; exact h5 (by simpa using hl)
    · refine ⟨[], x :: r, rfl, ?_, rfl, by simpa using h, ?_⟩
      · rw [mkl, show (q ++ [v]).getLastD 0 = v by simp, if_neg c]; simp
      · intro hl y t' hy hp hlt
        cases hy
        exact c ⟨by simpa using hl, hp, hlt⟩

theorem skp_pre : ∀ (p r : List Int) (s : Int) (k : List Int), skp s (p ++ r) k = false → skp s p k = false
  | [], _, _, _, _ => rfl
  | v :: p, r, s, k, h => by
    rw [List.cons_append, skp, Bool.or_eq_false_iff] at h
    rw [skp, h.1, skp_pre p r v k h.2]; rfl

theorem rgt_app (a : Int) : ∀ (p r : List Int) (v : Int), rgt a (fr a v) (p ++ r) = (rgt a (fr a v) p && rgt a (fr a (p.getLastD v)) r)
  | [], _, _ => by simp [rgt]
  | y :: p, r, v => by
    rw [List.cons_append, rgt, rgt, rgt_app a p r y, List.getLastD_cons, Bool.and_assoc, Bool.and_assoc]

theorem skp_snoc : ∀ (p : List Int) (s y : Int) (k : List Int), skp s (p ++ [y]) k = (skp s p k || k.any (cut (p.getLastD s) y))
  | [], s, y, k => by simp [skp]
  | v :: p, s, y, k => by
    rw [List.cons_append, skp, skp, skp_snoc p v y k, List.getLastD_cons, Bool.or_assoc]

theorem rgt_gt (a : Int) : ∀ (l : List Int) (d : Int), rgt a d l = true → ∀ e ∈ l, d < fr a e
  | [], _, _, e, he => by cases he
  | y :: l, d, h, e, he => by
    rw [rgt, Bool.and_eq_true, Bool.and_eq_true, decide_eq_true_eq] at h
    rcases List.mem_cons.1 he with rfl | he
    · exact h.2.1
    · have := rgt_gt a l _ h.2.2 e he; omega

theorem rgt_le (a : Int) : ∀ (l : List Int) (v : Int), rgt a (fr a v) l = true → ∀ e ∈ v :: l, fr a e ≤ fr a (l.getLastD v)
  | [], v, _, e, he => by simp at he; subst he; exact Int.le_refl _
  | y :: l, v, h, e, he => by
    have h' := h
    rw [rgt, Bool.and_eq_true, Bool.and_eq_true, decide_eq_true_eq] at h
    rcases List.mem_cons.1 he with rfl | he
    · exact rgt_last a (y :: l) _ h'
    · rw [List.getLastD_cons]; exact rgt_le a l y h.2.2 e he

theorem drp_drp (v : Int) (l : List Int) : drp v (drp v l) = drp v l := by
  unfold drp; rw [List.filter_filter]; congr; funext x; simp

/-- A row that rises goes on rising without one. -/
theorem rgt_drp (w v : Int) : ∀ (l : List Int) (d d' : Int), d' ≤ d → rgt w d l = true → rgt w d' (drp v l) = true
  | [], _, _, _, _ => rfl
  | x :: l, d, d', hd, h => by
    rw [rgt, Bool.and_eq_true, Bool.and_eq_true, decide_eq_true_eq] at h
    obtain ⟨h1, h2, h3⟩ := h
    rw [drp_cons]
    split
    · rw [rgt, h1, decide_eq_true (by omega : d' < fr w x), rgt_drp w v l _ _ (Int.le_refl _) h3]; rfl
    · exact rgt_drp w v l _ _ (by omega) h3

theorem good_drp (a v : Int) (l : List Int) (h : good a l = true) : good a (drp v l) = true := by
  unfold good at *
  rw [Bool.and_eq_true, decide_eq_true_eq] at h ⊢
  exact ⟨rgt_drp a v l 0 0 (Int.le_refl _) h.1, Nat.le_trans (drp_len v l) h.2⟩

/-- What is made is a list; it is b, and a beginning of the row. -/
theorem made_good {x s : Int} (hx : isP x = true) (hs : isP s = true) (hxs : x ≠ s) (l : List Int) : ∃ t u, l = t ++ u ∧ made x s l = s :: t ∧ good x (s :: t) = true := by
  have hpx := isP_pl hx
  have hps := isP_pl hs
  have hsx : fr x s ≠ 0 := by unfold fr; omega
  obtain ⟨t, u, h2, h3, h4, h5, _⟩ := mkl_split x l [] s (by simp)
  simp only [List.nil_append] at h3 h5
  refine ⟨t, u, h2, ?_, ?_⟩
  · unfold made; rw [if_pos ⟨hs, by rw [hpx.1]; exact fun h => hxs h.symm⟩, h3]; rfl
  · have : 0 < fr x s := by have := fr_bd x s; omega
    unfold good
    rw [rgt, hs, decide_eq_true this, h4, decide_eq_true (by simpa using h5)]; rfl
/-- No list is skipped if none lies between, and s's list skips none. -/
theorem made_skips {x s : Int} (hx : isP x = true) (hs : isP s = true) (hxs : x ≠ s) {l k : List Int} (hc : k.any (cut x s) = false) (hb : skp s l k = false) : skp x (made x s l) k = false := by
  obtain ⟨t, u, h2, h3, _⟩ := made_good hx hs hxs l
  rw [h3, skp, hc, Bool.false_or]
  rw [h2] at hb
  exact skp_pre t u s k hb
theorem made_bad {x s : Int} {l : List Int} (h : isP s = false ∨ s = pl x) : made x s l = [] := by
  unfold made
  rw [if_neg]
  rintro ⟨h1, h2⟩
  rcases h with h | h
  · rw [h] at h1; cases h1
  · exact h2 h

def toS (v : VW) : Si18l2 := ⟨v.id, v.pred, v.f0, v.f1, v.f2, v.f3, v.f4, v.f5, v.f6, v.f7, v.f8, v.f9, v.f10, v.f11, v.f12, v.f13, v.f14, v.f15, v.base, v.lst⟩
theorem ownv_p (n : Nat) (v : VW) (h1 : v.base.length < 1000) (h2 : v.lst.length < 1000) : F38 n v.id v.base v.lst v.pred v.f0 v.f1 v.f2 v.f3 v.f4 v.f5 v.f6 v.f7 v.f8 v.f9 v.f10 v.f11 v.f12 v.f13 v.f14 v.f15 = some (toS v) := own_p n v.id v.base v.lst v.pred v.f0 v.f1 v.f2 v.f3 v.f4 v.f5 v.f6 v.f7 v.f8 v.f9 v.f10 v.f11 v.f12 v.f13 v.f14 v.f15 h1 h2
theorem ownv_r (n : Nat) (v : VW) (h1 : v.base.length < 1000) (h2 : v.lst.length < 1000) : F27 n v.id v.base v.lst v.pred v.f0 v.f1 v.f2 v.f3 v.f4 v.f5 v.f6 v.f7 v.f8 v.f9 v.f10 v.f11 v.f12 v.f13 v.f14 v.f15 = some (toS v) := own_r n v.id v.base v.lst v.pred v.f0 v.f1 v.f2 v.f3 v.f4 v.f5 v.f6 v.f7 v.f8 v.f9 v.f10 v.f11 v.f12 v.f13 v.f14 v.f15 h1 h2
theorem rightv_p {n : Nat} (hn : 70000 < n) (v : VW) : F32 n v.id v.base v.lst v.pred v.f0 v.f1 v.f2 v.f3 v.f4 v.f5 v.f6 v.f7 v.f8 v.f9 v.f10 v.f11 v.f12 v.f13 v.f14 v.f15 = some (rightV v) := viewR_p hn v.id v.base v.lst v.pred v.f0 v.f1 v.f2 v.f3 v.f4 v.f5 v.f6 v.f7 v.f8 v.f9 v.f10 v.f11 v.f12 v.f13 v.f14 v.f15
theorem rightv_r {n : Nat} (hn : 70000 < n) (v : VW) (h : v.lst.length < 1000) : F21 n v.id v.base v.lst v.pred v.f0 v.f1 v.f2 v.f3 v.f4 v.f5 v.f6 v.f7 v.f8 v.f9 v.f10 v.f11 v.f12 v.f13 v.f14 v.f15 = some (rightV v) := viewR_r hn v.id v.base v.lst v.pred v.f0 v.f1 v.f2 v.f3 v.f4 v.f5 v.f6 v.f7 v.f8 v.f9 v.f10 v.f11 v.f12 v.f13 v.f14 v.f15 (by omega)
theorem samev_r (n : Nat) (v w : VW) (h1 : v.base.length < 1000) (h2 : v.lst.length < 1000) : F14 n v.id v.base v.lst v.pred v.f0 v.f1 v.f2 v.f3 v.f4 v.f5 v.f6 v.f7 v.f8 v.f9 v.f10 v.f11 v.f12 v.f13 v.f14 v.f15 w.id w.base w.lst w.pred w.f0 w.f1 w.f2 w.f3 w.f4 w.f5 w.f6 w.f7 w.f8 w.f9 w.f10 w.f11 w.f12 w.f13 w.f14 w.f15 = some (decide (v = w)) := same_r n v.id v.base v.lst v.pred v.f0 v.f1 v.f2 v.f3 v.f4 v.f5 v.f6 v.f7 v.f8 v.f9 v.f10 v.f11 v.f12 v.f13 v.f14 v.f15 w.id w.base w.lst w.pred w.f0 w.f1 w.f2 w.f3 w.f4 w.f5 w.f6 w.f7 w.f8 w.f9 w.f10 w.f11 w.f12 w.f13 w.f14 w.f15 (by omega) (by omega)
theorem firstv_p (n : Nat) (v : VW) : F33 n v.id v.base v.lst v.pred v.f0 v.f1 v.f2 v.f3 v.f4 v.f5 v.f6 v.f7 v.f8 v.f9 v.f10 v.f11 v.f12 v.f13 v.f14 v.f15 = some (firstV v) := first_v n v.id v.base v.lst v.pred v.f0 v.f1 v.f2 v.f3 v.f4 v.f5 v.f6 v.f7 v.f8 v.f9 v.f10 v.f11 v.f12 v.f13 v.f14 v.f15
theorem firstv_r (n : Nat) (v : VW) (h : v.lst.length < 1000) : F35 n v.id v.base v.lst v.pred v.f0 v.f1 v.f2 v.f3 v.f4 v.f5 v.f6 v.f7 v.f8 v.f9 v.f10 v.f11 v.f12 v.f13 v.f14 v.f15 = some (firstV v) := first_vr n v.id v.base v.lst v.pred v.f0 v.f1 v.f2 v.f3 v.f4 v.f5 v.f6 v.f7 v.f8 v.f9 v.f10 v.f11 v.f12 v.f13 v.f14 v.f15 (by omega)

/-! ### Listed. -/
def listV (v : VW) (l : List Int) : VW := bif rightV v && good v.id l then { v with lst := l } else v
theorem listed_p {n : Nat} (hn : 0 < n) (v : VW) (l : List Int) (h1 : v.base.length < 1000) (h2 : v.lst.length < 1000) (hl : l.length < 1000) : F40 n v.id v.base v.lst v.pred v.f0 v.f1 v.f2 v.f3 v.f4 v.f5 v.f6 v.f7 v.f8 v.f9 v.f10 v.f11 v.f12 v.f13 v.f14 v.f15 l = some (toS (listV v l)) := by
  have hf : 70000 < FUEL := by unfold FUEL; omega
  obtain ⟨m, rfl⟩ : ∃ m, n = m + 1 := Nat.exists_eq_succ_of_ne_zero (by omega)
  unfold F40 listV
  rw [ownv_p FUEL v h1 h2, Option.bind_some, rightv_p hf, Option.bind_some, right_p (by omega) v.id l, Option.bind_some, clone_p FUEL l hl]
  cases rightV v
  · rfl
  · cases good v.id l <;> rfl
theorem listV_right {v : VW} {l : List Int} (h : rightV v = true) (hl : good v.id l = true) : rightV { v with lst := l } = true := by
  unfold rightV at h ⊢
  simp only [Bool.and_eq_true] at h ⊢
  exact ⟨h.1, h.2.1, hl, h.2.2.2⟩
theorem listV_ok {v : VW} {l : List Int} (h : rightV v = true) (hl : good v.id l = true) : listV v l = { v with lst := l } := by
  unfold listV; rw [h, hl]; rfl

/-! ### Dead. -/
def deadF (d x : Int) : Int := if x = d then -1 else x
def deadV (v : VW) (d : Int) : VW := bif rightV v && !decide (d ∈ v.base) then mkV v.id v.base (drp d v.lst) (deadF d v.pred) (v.fg.map (deadF d)) else v
theorem dead_step {d : Int} {L : List Int} (hL : L.length = 16) {i : Nat} (hi : i < 16) : (L.take (i + 1)).map (deadF d) ++ L.drop (i + 1) = if L.getD i 0 = d then ((L.take i).map (deadF d) ++ L.drop i).set i (-1) else (L.take i).map (deadF d) ++ L.drop i := by
  have hi' : i < L.length := by omega
  have e1 := drop_getD hi'
  have e2 : L.take (i + 1) = L.take i ++ [L.getD i 0] := by
    rw [List.take_add_one, List.getElem?_eq_getElem hi']; simp [List.getD, hi']
  have e3 : ((L.take i).map (deadF d)).length = i := by simp; omega
  rw [e1, e2, List.map_append, List.map_singleton]
  by_cases h : L.getD i 0 = d
  · rw [if_pos h, List.set_append_right _ _ (by omega), e3, Nat.sub_self, List.set_cons_zero]
    unfold deadF; rw [if_pos h]; simp
  · rw [if_neg h]
    have : deadF d (L.getD i 0) = L.getD i 0 := by unfold deadF; rw [if_neg h]
    rw [this]; simp
theorem dead_len {d : Int} {L : List Int} (hL : L.length = 16) {i : Nat} (hi : i ≤ 16) : ((L.take i).map (deadF d) ++ L.drop i).length = 16 := by simp; omega
theorem dead_at {d : Int} {L : List Int} (hL : L.length = 16) {i : Nat} (hi : i < 16) : ((L.take i).map (deadF d) ++ L.drop i).getD i 0 = L.getD i 0 := by
  have e3 : ((L.take i).map (deadF d)).length = i := by simp; omega
  rw [List.getD_eq_getElem?_getD, List.getElem?_append_right (by omega), e3, Nat.sub_self, List.getElem?_drop, Nat.add_zero, ← List.getD_eq_getElem?_getD]
theorem dead_pc1 (d : Int) {L : List Int} (hL : L.length = 16) (id pr : Int) (b s : List Int) : ∀ (m i n : Nat) (C : List Int), i + m = 16 → m < n → C = (L.take i).map (deadF d) ++ L.drop i →
    F45_c1 n d (L.getD 0 0) (L.getD 1 0) (L.getD 2 0) (L.getD 3 0) (L.getD 4 0) (L.getD 5 0) (L.getD 6 0) (L.getD 7 0) (L.getD 8 0) (L.getD 9 0) (L.getD 10 0) (L.getD 11 0) (L.getD 12 0) (L.getD 13 0) (L.getD 14 0) (L.getD 15 0) (ofN i) 0 0 0 0 0 0 0 0 0 0 0 0 0 0 0 0 0 0 id pr (C.getD 0 0) (C.getD 1 0) (C.getD 2 0) (C.getD 3 0) (C.getD 4 0) (C.getD 5 0) (C.getD 6 0) (C.getD 7 0) (C.getD 8 0) (C.getD 9 0) (C.getD 10 0) (C.getD 11 0) (C.getD 12 0) (C.getD 13 0) (C.getD 14 0) (C.getD 15 0) b s = some ⟨id, pr, (L.map (deadF d)).getD 0 0, (L.map (deadF d)).getD 1 0, (L.map (deadF d)).getD 2 0, (L.map (deadF d)).getD 3 0, (L.map (deadF d)).getD 4 0, (L.map (deadF d)).getD 5 0, (L.map (deadF d)).getD 6 0, (L.map (deadF d)).getD 7 0, (L.map (deadF d)).getD 8 0, (L.map (deadF d)).getD 9 0, (L.map (deadF d)).getD 10 0, (L.map (deadF d)).getD 11 0, (L.map (deadF d)).getD 12 0, (L.map (deadF d)).getD 13 0, (L.map (deadF d)).getD 14 0, (L.map (deadF d)).getD 15 0, b, s⟩
  | _, _, 0, _, _, h, _ => by omega
  | 0, i, n + 1, C, hi, _, hC => by
    have : i = 16 := by omega
    subst this
    have e : ilt (ofN 16) 16 = false := by decide
    have e2 : C = L.map (deadF d) := by
      rw [hC, List.take_of_length_le (by omega), List.drop_eq_nil_of_le (by omega), List.append_nil]
    simp only [F45_c1, e, cond_false]
    rw [e2]
  | m + 1, i, n + 1, C, hi, hn, hC => by
    obtain ⟨e1, e2, e3⟩ := lt16 (show i < 16 by omega)
    have hCl : C.length = 16 := by rw [hC]; exact dead_len hL (by omega)
    have hq := q16 hL
    have hqc := q16 hCl
    have hst := dead_step (d := d) hL (show i < 16 by omega)
    rw [← hC] at hst
    simp only [F45_c1, e1, e2, e3, ofN_toNat, cond_true, fg_ofN i (show i < 16 by omega)]
    rw [hq, hqc, ieq_dec]
    by_cases h : L.getD i 0 = d
    · rw [decide_eq_true h, cond_true]
      rw [if_pos h] at hst
      exact dead_pc1 d hL id pr b s m (i + 1) n (C.set i (-1)) (by omega) (by omega) hst.symm
    · rw [decide_eq_false h, cond_false]
      rw [if_neg h] at hst
      exact dead_pc1 d hL id pr b s m (i + 1) n C (by omega) (by omega) hst.symm
theorem dead_p {n : Nat} (hn : 100 < n) (v : VW) (d : Int) (h1 : v.base.length < 1000) (h2 : v.lst.length < 1000) : F45 n v.id v.base v.lst v.pred v.f0 v.f1 v.f2 v.f3 v.f4 v.f5 v.f6 v.f7 v.f8 v.f9 v.f10 v.f11 v.f12 v.f13 v.f14 v.f15 d = some (toS (deadV v d)) := by
  have hf : 70000 < FUEL := by unfold FUEL; omega
  obtain ⟨m, rfl⟩ : ∃ m, n = m + 1 := Nat.exists_eq_succ_of_ne_zero (by omega)
  unfold F45 deadV
  rw [ownv_p FUEL v h1 h2, Option.bind_some, rightv_p hf, Option.bind_some, mcontains_p v.base d h1, Option.bind_some]
  cases rightV v
  · rfl
  · by_cases hd : d ∈ v.base
    · rw [decide_eq_true hd]; rfl
    · rw [decide_eq_false hd]
      simp only [Bool.not_true, Bool.not_false, Bool.and_true, cond_false, cond_true, toS]
      rw [drop_p (by omega) v.lst d h2, Option.bind_some]
      have hl : v.fg.length = 16 := rfl
      have k1 := dead_pc1 d hl v.id (-1) v.base (drp d v.lst) 16 0 (m + 1) v.fg (by omega) (by omega) (by simp)
      have k2 := dead_pc1 d hl v.id v.pred v.base (drp d v.lst) 16 0 (m + 1) v.fg (by omega) (by omega) (by simp)
      rw [ieq_dec]
      by_cases hp : v.pred = d
      · rw [decide_eq_true hp, cond_true]
        refine Eq.trans (show _ = _ from rfl) (k1.trans ?_)
        have : deadF d v.pred = -1 := by unfold deadF; rw [if_pos hp]
        rw [this]; rfl
      · rw [decide_eq_false hp, cond_false]
        refine Eq.trans (show _ = _ from rfl) (k2.trans ?_)
        have : deadF d v.pred = v.pred := by unfold deadF; rw [if_neg hp]
        rw [this]; rfl
theorem dead_rc1 (d : Int) {L : List Int} (hL : L.length = 16) (id pr : Int) (b s : List Int) : ∀ (m i n : Nat) (C : List Int), i + m = 16 → m < n → C = (L.take i).map (deadF d) ++ L.drop i →
    F28_c1 n d (ofN i) id pr (C.getD 0 0) (C.getD 1 0) (C.getD 2 0) (C.getD 3 0) (C.getD 4 0) (C.getD 5 0) (C.getD 6 0) (C.getD 7 0) (C.getD 8 0) (C.getD 9 0) (C.getD 10 0) (C.getD 11 0) (C.getD 12 0) (C.getD 13 0) (C.getD 14 0) (C.getD 15 0) 0 0 0 0 0 0 0 0 0 0 0 0 0 0 0 0 0 0 b s = some ⟨id, pr, (L.map (deadF d)).getD 0 0, (L.map (deadF d)).getD 1 0, (L.map (deadF d)).getD 2 0, (L.map (deadF d)).getD 3 0, (L.map (deadF d)).getD 4 0, (L.map (deadF d)).getD 5 0, (L.map (deadF d)).getD 6 0, (L.map (deadF d)).getD 7 0, (L.map (deadF d)).getD 8 0, (L.map (deadF d)).getD 9 0, (L.map (deadF d)).getD 10 0, (L.map (deadF d)).getD 11 0, (L.map (deadF d)).getD 12 0, (L.map (deadF d)).getD 13 0, (L.map (deadF d)).getD 14 0, (L.map (deadF d)).getD 15 0, b, s⟩
  | _, _, 0, _, _, h, _ => by omega
  | 0, i, n + 1, C, hi, _, hC => by
    have : i = 16 := by omega
    subst this
    have e : ilt (ofN 16) 16 = false := by decide
    have e2 : C = L.map (deadF d) := by
      rw [hC, List.take_of_length_le (by omega), List.drop_eq_nil_of_le (by omega), List.append_nil]
    simp only [F28_c1, e, cond_false]
    rw [e2]
  | m + 1, i, n + 1, C, hi, hn, hC => by
    obtain ⟨e1, e2, e3⟩ := lt16 (show i < 16 by omega)
    have hCl : C.length = 16 := by rw [hC]; exact dead_len hL (by omega)
    have hqc := q16 hCl
    have hst := dead_step (d := d) hL (show i < 16 by omega)
    have hat := dead_at (d := d) hL (show i < 16 by omega)
    rw [← hC] at hst hat
    simp only [F28_c1, e1, e2, e3, ofN_toNat, cond_true, fg_ofN i (show i < 16 by omega)]
    rw [hqc, ieq_dec, hat]
    by_cases h : L.getD i 0 = d
    · rw [decide_eq_true h, cond_true]
      rw [if_pos h] at hst
      exact dead_rc1 d hL id pr b s m (i + 1) n (C.set i (-1)) (by omega) (by omega) hst.symm
    · rw [decide_eq_false h, cond_false]
      rw [if_neg h] at hst
      exact dead_rc1 d hL id pr b s m (i + 1) n C (by omega) (by omega) hst.symm
theorem dead_rc0 (d : Int) {L : List Int} (hL : L.length = 16) (id pr : Int) (b s : List Int) (hb : b.length < 1000) (hs : s.length < 1000) : ∀ (r p : List Int) (n : Nat), b = p ++ r → r.length + 20 < n →
    F28_c0 n d (ofN p.length) id pr (L.getD 0 0) (L.getD 1 0) (L.getD 2 0) (L.getD 3 0) (L.getD 4 0) (L.getD 5 0) (L.getD 6 0) (L.getD 7 0) (L.getD 8 0) (L.getD 9 0) (L.getD 10 0) (L.getD 11 0) (L.getD 12 0) (L.getD 13 0) (L.getD 14 0) (L.getD 15 0) 0 0 0 0 0 0 0 0 0 0 0 0 0 0 0 0 0 0 b s = some (bif decide (d ∈ r) then ⟨id, pr, (L).getD 0 0, (L).getD 1 0, (L).getD 2 0, (L).getD 3 0, (L).getD 4 0, (L).getD 5 0, (L).getD 6 0, (L).getD 7 0, (L).getD 8 0, (L).getD 9 0, (L).getD 10 0, (L).getD 11 0, (L).getD 12 0, (L).getD 13 0, (L).getD 14 0, (L).getD 15 0, b, s⟩ else ⟨id, deadF d pr, (L.map (deadF d)).getD 0 0, (L.map (deadF d)).getD 1 0, (L.map (deadF d)).getD 2 0, (L.map (deadF d)).getD 3 0, (L.map (deadF d)).getD 4 0, (L.map (deadF d)).getD 5 0, (L.map (deadF d)).getD 6 0, (L.map (deadF d)).getD 7 0, (L.map (deadF d)).getD 8 0, (L.map (deadF d)).getD 9 0, (L.map (deadF d)).getD 10 0, (L.map (deadF d)).getD 11 0, (L.map (deadF d)).getD 12 0, (L.map (deadF d)).getD 13 0, (L.map (deadF d)).getD 14 0, (L.map (deadF d)).getD 15 0, b, drp d s⟩)
  | _, _, 0, _, h => by omega
  | [], p, n + 1, e, h => by
    rw [List.append_nil] at e
    subst e
    have hf := fuel_big
    simp only [F28_c0, lt_out, cond_false]
    rw [drop_r (by omega) s d hs, Option.bind_some, ieq_dec, decide_eq_false (by simp : ¬ d ∈ ([] : List Int)), cond_false]
    have k := fun q => dead_rc1 d hL id q b (drp d s) 16 0 n L (by omega) (by simp at h; omega) (by simp)
    rw [show (0 : Int) = ofN 0 from rfl] at *
    by_cases hp : pr = d
    · rw [decide_eq_true hp, cond_true]
      refine (k (-1)).trans ?_
      unfold deadF; rw [if_pos hp]
    · rw [decide_eq_false hp, cond_false]
      refine (k pr).trans ?_
      have : deadF d pr = pr := by unfold deadF; rw [if_neg hp]
      rw [this]
  | x :: r, p, n + 1, e, h => by
    have hp : p.length < 1000 := by rw [e] at hb; simp at hb; omega
    have e1 : ilt (ofN p.length) (ofN b.length) = true := by rw [e]; exact lt_in
    have e2 : inb (ofN p.length) b.length = true := by rw [e]; exact inb_in
    have e4 : nlt (ofN p.length).toNat b.length = true := by rw [e]; exact nlt_in
    have e3 : b.getD (ofN p.length).toNat 0 = x := by rw [e]; exact get_in
    simp only [List.length_cons] at h
    have ih := dead_rc0 d hL id pr b s hb hs r (p ++ [x]) n (by rw [e]; simp) (by omega)
    simp only [F28_c0, e1, e2, e3, e4, cond_true]
    rw [add_in (x := x) (by omega), ih, ieq_dec]
    by_cases hx : x = d
    · rw [decide_eq_true hx, decide_eq_true (by rw [hx]; simp : d ∈ x :: r)]; rfl
    · rw [decide_eq_false hx, cond_false]
      have : decide (d ∈ x :: r) = decide (d ∈ r) := by
        apply decide_eq_decide.2
        constructor
        · intro h
          rcases List.mem_cons.1 h with h | h
          · exact absurd h.symm hx
          · exact h
        · exact List.mem_cons_of_mem _
      rw [this]
theorem dead_r {n : Nat} (hn : 2000 < n) (v : VW) (d : Int) (h1 : v.base.length < 1000) (h2 : v.lst.length < 1000) : F28 n v.id v.base v.lst v.pred v.f0 v.f1 v.f2 v.f3 v.f4 v.f5 v.f6 v.f7 v.f8 v.f9 v.f10 v.f11 v.f12 v.f13 v.f14 v.f15 d = some (toS (deadV v d)) := by
  have hf : 70000 < FUEL := by unfold FUEL; omega
  unfold F28 deadV
  rw [ownv_r FUEL v h1 h2, Option.bind_some]
  simp only [toS]
  rw [rightv_r hf v (by omega), Option.bind_some]
  cases rightV v
  · rfl
  · simp only [Bool.not_true, cond_false, Bool.true_and]
    have hl : v.fg.length = 16 := rfl
    have k := dead_rc0 d hl v.id v.pred v.base v.lst h1 h2 v.base [] n rfl (by omega)
    refine Eq.trans (show _ = _ from rfl) (k.trans ?_)
    by_cases hd : d ∈ v.base
    · rw [decide_eq_true hd]; rfl
    · rw [decide_eq_false hd]; rfl

/-! ### New. -/
def fillm : Nat → Nat → List Int → List Int
  | 0, _, l => l
  | m + 1, i, l => fillm m (i + 1) (l.set i (-1))
theorem new_c (id pr : Int) (b : List Int) : ∀ (m i n : Nat) (l : List Int), i + m = 16 → m < n → l.length = 16 → ∃ n', F30_c0 n (ofN i) 0 0 0 0 0 0 0 0 0 0 0 0 0 0 0 0 0 0 id pr (l.getD 0 0) (l.getD 1 0) (l.getD 2 0) (l.getD 3 0) (l.getD 4 0) (l.getD 5 0) (l.getD 6 0) (l.getD 7 0) (l.getD 8 0) (l.getD 9 0) (l.getD 10 0) (l.getD 11 0) (l.getD 12 0) (l.getD 13 0) (l.getD 14 0) (l.getD 15 0) b = F30_c0 (n' + 1) (ofN 16) 0 0 0 0 0 0 0 0 0 0 0 0 0 0 0 0 0 0 id pr (((fillm m i l)).getD 0 0) (((fillm m i l)).getD 1 0) (((fillm m i l)).getD 2 0) (((fillm m i l)).getD 3 0) (((fillm m i l)).getD 4 0) (((fillm m i l)).getD 5 0) (((fillm m i l)).getD 6 0) (((fillm m i l)).getD 7 0) (((fillm m i l)).getD 8 0) (((fillm m i l)).getD 9 0) (((fillm m i l)).getD 10 0) (((fillm m i l)).getD 11 0) (((fillm m i l)).getD 12 0) (((fillm m i l)).getD 13 0) (((fillm m i l)).getD 14 0) (((fillm m i l)).getD 15 0) b
  | _, _, 0, _, _, h, _ => by omega
  | 0, i, n + 1, l, hi, _, hl => by
    have : i = 16 := by omega
    subst this
    exact ⟨n, rfl⟩
  | m + 1, i, n + 1, l, hi, hn, hl => by
    obtain ⟨e1, e2, e3⟩ := lt16 (show i < 16 by omega)
    have hq := q16 hl
    obtain ⟨n', h⟩ := new_c id pr b m (i + 1) n (l.set i (-1)) (by omega) (by omega) (by rw [List.length_set]; exact hl)
    refine ⟨n', Eq.trans ?_ h⟩
    rw [F30_c0]
    simp only [e1, e2, e3, ofN_toNat, cond_true, fg_ofN i (show i < 16 by omega)]
    rw [hq]
def newV (id : Int) (b : List Int) : VW := mkV id b [] (-1) [-1, -1, -1, -1, -1, -1, -1, -1, -1, -1, -1, -1, -1, -1, -1, -1]
theorem new_r {n : Nat} (hn : 100 < n) (id : Int) (b : List Int) (hb : b.length < 1000) (hr : rightV (newV id b) = true) : F30 n id b = some ⟨id, -1, -1, -1, -1, -1, -1, -1, -1, -1, -1, -1, -1, -1, -1, -1, -1, -1, 0, b⟩ := by
  have hf : 70000 < FUEL := by unfold FUEL; omega
  unfold F30
  rw [room_all (by omega) (by decide), cond_true, List.nil_append]
  obtain ⟨n', h⟩ := new_c id (-1) b 16 0 n [0, 0, 0, 0, 0, 0, 0, 0, 0, 0, 0, 0, 0, 0, 0, 0] (by omega) (by omega) rfl
  have e : fillm 16 0 [0, 0, 0, 0, 0, 0, 0, 0, 0, 0, 0, 0, 0, 0, 0, 0] = [-1, -1, -1, -1, -1, -1, -1, -1, -1, -1, -1, -1, -1, -1, -1, -1] := by decide
  rw [e] at h
  refine Eq.trans (show _ = _ from rfl) (h.trans ?_)
  have e2 : ilt (ofN 16) 16 = false := by decide
  have k := rightv_r hf (newV id b) (by show (0 : Nat) < 1000; omega)
  rw [hr] at k
  rw [F30_c0, e2, cond_false]
  refine Eq.trans (congrArg (fun z => Option.bind z _) (show _ = some true from k)) ?_
  rfl

abbrev AKT := Int × Int × Int × Int × Int × Bool × Bool × Int × Int × (List Int) × ByteArray × Int × Int × Bool × Int × Int
def askT (k o w : Int) : AKT := (k, 0, 0, o, 0, false, false, 0, 0, [], ByteArray.empty, 0, 0, false, 0, w)
/-- What a round's phase asks. -/
def asksV (ph o : Int) : List AKT := bif decide (ph = 0) then [] else [askT (bif decide (ph = 3) then 3 else 1) o ph]
def rightS (ph o : Int) : Bool := bif decide (ph = 0) then decide (o = 0) else decide (ph < 4) && isP o
theorem fuel_v : 70000 < FUEL := by unfold FUEL; omega

theorem sright_p (n : Nat) (ph o : Int) : F17 n ph o = some (rightS ph o) := by
  unfold F17 rightS
  rw [ieq_dec, ieq_dec, isp_of]
  cases decide (ph = 0)
  · unfold ilt; cases decide (ph < 4) <;> rfl
  · rfl
theorem sright_r (n : Nat) (ph o : Int) : F18 n ph o = some (rightS ph o) := by
  unfold F18 rightS
  rw [ieq_dec, ieq_dec, isp_of]
  have e : ile ph 3 = decide (ph < 4) := by unfold ile; apply decide_eq_decide.2; omega
  rw [e]
  cases decide (ph = 0)
  · cases decide (ph < 4) <;> rfl
  · rfl
theorem phases {ph o : Int} (h0 : 0 ≤ ph) (h : rightS ph o = true) : (ph = 0 ∧ o = 0) ∨ ((ph = 1 ∨ ph = 2 ∨ ph = 3) ∧ isP o = true) := by
  unfold rightS at h
  by_cases e : ph = 0
  · rw [decide_eq_true e] at h; exact .inl ⟨e, by simpa using h⟩
  · rw [decide_eq_false e] at h
    simp only [cond_false, Bool.and_eq_true, decide_eq_true_eq] at h
    exact .inr ⟨by omega, h.2⟩
theorem rightS_of {ph o : Int} (hp : ph = 1 ∨ ph = 2 ∨ ph = 3) (ho : isP o = true) : rightS ph o = true := by
  rcases hp with rfl | rfl | rfl <;> simp [rightS, ho]
def whyV (ph o : Int) : Int := bif rightS ph o then ph else 0
theorem why_p (n : Nat) {ph : Int} (h0 : 0 ≤ ph) (o : Int) : F19 n ph o = some (whyV ph o) := by
  unfold F19 whyV
  rw [sright_p, Option.bind_some]
  cases h : rightS ph o
  · rfl
  · rcases phases h0 h with ⟨rfl, _⟩ | ⟨rfl | rfl | rfl, _⟩ <;> rfl
theorem why_r (n : Nat) {ph : Int} (h0 : 0 ≤ ph) (o : Int) : F20 n ph o = some (whyV ph o) := by
  unfold F20 whyV
  rw [sright_r, Option.bind_some]
  cases h : rightS ph o
  · rfl
  · rcases phases h0 h with ⟨rfl, _⟩ | ⟨rfl | rfl | rfl, _⟩ <;> rfl
theorem asks_p (n : Nat) {ph : Int} (hp : ph = 0 ∨ ph = 1 ∨ ph = 2 ∨ ph = 3) (o : Int) : F34 n ph o = some (asksV ph o) := by
  rcases hp with rfl | rfl | rfl | rfl <;> rfl
theorem asks_r (n : Nat) {ph : Int} (hp : ph = 1 ∨ ph = 2 ∨ ph = 3) {o : Int} (ho : isP o = true) : F36 n ph o = some (asksV ph o) := by
  unfold F36
  rw [why_r _ (by omega)]
  unfold whyV
  rw [rightS_of hp ho]
  rcases hp with rfl | rfl | rfl <;> rfl
theorem asks_same {n : Nat} (hn : 10 < n) {ph : Int} (hp : ph = 0 ∨ ph = 1 ∨ ph = 2 ∨ ph = 3) (o : Int) : F11 n (asksV ph o) (asksV ph o) = some true := by
  obtain ⟨m, rfl⟩ : ∃ m, n = m + 3 := ⟨n - 3, by omega⟩
  have hs : ∀ k w : Int, F37 FUEL (askT k o w).1 (askT k o w).2.1 (askT k o w).2.2.1 (askT k o w).2.2.2.1 (askT k o w).2.2.2.2.1 (askT k o w).2.2.2.2.2.1 (askT k o w).2.2.2.2.2.2.1 (askT k o w).2.2.2.2.2.2.2.1 (askT k o w).2.2.2.2.2.2.2.2.1 (askT k o w).2.2.2.2.2.2.2.2.2.1 (askT k o w).2.2.2.2.2.2.2.2.2.2.1 (askT k o w).2.2.2.2.2.2.2.2.2.2.2.1 (askT k o w).2.2.2.2.2.2.2.2.2.2.2.2.1 (askT k o w).2.2.2.2.2.2.2.2.2.2.2.2.2.1 (askT k o w).2.2.2.2.2.2.2.2.2.2.2.2.2.2.1
      (askT k o w).1 (askT k o w).2.1 (askT k o w).2.2.1 (askT k o w).2.2.2.1 (askT k o w).2.2.2.2.1 (askT k o w).2.2.2.2.2.1 (askT k o w).2.2.2.2.2.2.1 (askT k o w).2.2.2.2.2.2.2.1 (askT k o w).2.2.2.2.2.2.2.2.1 (askT k o w).2.2.2.2.2.2.2.2.2.1 (askT k o w).2.2.2.2.2.2.2.2.2.2.1 (askT k o w).2.2.2.2.2.2.2.2.2.2.2.1 (askT k o w).2.2.2.2.2.2.2.2.2.2.2.2.1 (askT k o w).2.2.2.2.2.2.2.2.2.2.2.2.2.1 (askT k o w).2.2.2.2.2.2.2.2.2.2.2.2.2.2.1 = some true := fun k w => by
    have hf := fuel_big
    have h := msame_r (n := FUEL) (a0 := k) (b0 := k) (a1 := 0) (b1 := 0) (a2 := 0) (b2 := 0) (a3 := o) (b3 := o) (a4 := 0) (b4 := 0) (a5 := false) (b5 := false) (a6 := false) (b6 := false) (a7 := 0) (b7 := 0) (a8 := 0) (b8 := 0) (a9 := []) (b9 := []) (a10 := ByteArray.empty) (b10 := ByteArray.empty) (a11 := 0) (b11 := 0) (a12 := 0) (b12 := 0) (a13 := false) (b13 := false) (a14 := 0) (b14 := 0) (by simp; omega) (by simp)
    rw [sameM_self] at h
    exact h
  have one : ∀ k w : Int, F11 (m + 3) [askT k o w] [askT k o w] = some true := fun k w => by
    unfold F11
    have e1 : ine (ofN [askT k o w].length) (ofN [askT k o w].length) = false := by simp [ine]
    have e2 : ilt 0 (ofN [askT k o w].length) = true := rfl
    have e3 : inb 0 [askT k o w].length = true := rfl
    have e4 : ∀ d : AKT, [askT k o w].getD (Int.toNat 0) d = askT k o w := fun _ => rfl
    have e5 : iadd .i64 0 1 = 1 := rfl
    have e6 : ilt 1 (ofN [askT k o w].length) = false := rfl
    have e7 : ∀ z : Int, ine z z = false := fun z => by simp [ine]
    simp only [F11_c0, e1, e2, e3, e4, e5, e6, e7, hs, cond_true, cond_false, Option.bind_some, Bool.not_true]
  rcases hp with rfl | rfl | rfl | rfl
  · rfl
  · exact one 1 1
  · exact one 1 2
  · exact one 3 3

/-! ### Begun. -/
def beginV (v : VW) (ph o : Int) : Int × Int × List AKT := bif rightV v && (rightS ph o && decide (ph = 0)) then (1, firstV v, asksV 1 (firstV v)) else (ph, o, [])
theorem begin_p (n : Nat) (v : VW) (ph o : Int) : F9 n v.id v.base v.lst v.pred v.f0 v.f1 v.f2 v.f3 v.f4 v.f5 v.f6 v.f7 v.f8 v.f9 v.f10 v.f11 v.f12 v.f13 v.f14 v.f15 ph o = some (beginV v ph o) := by
  unfold F9 beginV
  rw [rightv_p fuel_v, sright_p, firstv_p, ine_dec]
  simp only [Option.bind_some]
  cases rightV v
  · rfl
  · cases rightS ph o
    · rfl
    · by_cases h : ph = 0
      · rw [decide_eq_true h, asks_p FUEL (by omega)]; rfl
      · rw [decide_eq_false h]; rfl
theorem begin_r (n : Nat) (v : VW) (ph o : Int) (hl : v.lst.length < 1000) : F10 n v.id v.base v.lst v.pred v.f0 v.f1 v.f2 v.f3 v.f4 v.f5 v.f6 v.f7 v.f8 v.f9 v.f10 v.f11 v.f12 v.f13 v.f14 v.f15 ph o = some (beginV v ph o) := by
  unfold F10 beginV
  rw [rightv_r fuel_v v hl, sright_r, firstv_r _ v hl, ine_dec]
  simp only [Option.bind_some]
  cases hr : rightV v
  · rfl
  · cases rightS ph o
    · rfl
    · by_cases h : ph = 0
      · rw [decide_eq_true h, asks_r FUEL (by omega) (firstV_ok hr).1]; rfl
      · rw [decide_eq_false h]; rfl

/-! ### Told. -/
def countV (v : VW) (ph o : Int) (m : MW) : Bool := rightV v && (rightS ph o && (!decide (ph = 0) && (rightM m && (decide (m.f = o) && (decide (m.t = v.id) && decide (m.k = bif decide (ph = 3) then 9 else 7))))))
def madeV (v : VW) (m : MW) : VW := { v with lst := made v.id m.f m.l }
def toldV (v : VW) (ph o : Int) (m : MW) : VW × Int × Int × List AKT :=
  bif countV v ph o m then (bif decide (ph = 3) then (v, 0, 0, []) else bif decide (ph = 1) && (!decide (m.pr = -1) && cut v.id m.f m.pr) then (madeV v m, 2, m.pr, asksV 2 m.pr) else (madeV v m, 3, firstV (madeV v m), asksV 3 (firstV (madeV v m))))
  else (v, ph, o, [])
/-- Of what counts. -/
structure Cnt (v : VW) (ph o : Int) (m : MW) : Prop where
  hv : rightV v = true
  hp : ph = 1 ∨ ph = 2 ∨ ph = 3
  ho : isP o = true
  hm : rightM m = true
  hf : m.f = o
  ht : m.t = v.id
  hk : m.k = bif decide (ph = 3) then 9 else 7
theorem count_iff {v : VW} {ph o : Int} {m : MW} (h0 : 0 ≤ ph) : countV v ph o m = true ↔ Cnt v ph o m := by
  unfold countV
  simp only [Bool.and_eq_true, Bool.not_eq_true', decide_eq_false_iff_not, decide_eq_true_eq]
  constructor
  · rintro ⟨h1, h2, h3, h4, h5, h6, h7⟩
    rcases phases h0 h2 with ⟨h, _⟩ | ⟨h, h'⟩
    · exact absurd h h3
    · exact ⟨h1, h, h', h4, h5, h6, h7⟩
  · rintro ⟨h1, h2, h3, h4, h5, h6, h7⟩
    exact ⟨h1, rightS_of h2 h3, by omega, h4, h5, h6, h7⟩
theorem rightM_ft {m : MW} (h : rightM m = true) : isP m.f = true ∧ isP m.t = true ∧ m.f ≠ m.t := by
  unfold rightM at h
  simp only [Bool.and_eq_true, Bool.not_eq_true', decide_eq_false_iff_not] at h
  exact ⟨h.2.1, h.2.2.1, h.2.2.2.1⟩
theorem rightM_pr {m : MW} (h : rightM m = true) (hk : m.k = 7) : m.pr = -1 ∨ isP m.pr = true := by
  unfold rightM at h
  simp only [Bool.and_eq_true] at h
  have := h.2.2.2.2.2.2
  unfold hasM at this
  rw [hk] at this
  simp only [decide_eq_true_eq, Int.reduceEq, decide_false, decide_true, cond_false, cond_true, Bool.and_eq_true, Bool.or_eq_true] at this
  exact this.1
theorem made_cnt {v : VW} {ph o : Int} {m : MW} (h : Cnt v ph o m) : ∃ t u, m.l = t ++ u ∧ madeV v m = { v with lst := o :: t } ∧ good v.id (o :: t) = true ∧ rightV (madeV v m) = true ∧ firstV (madeV v m) = o := by
  have hx := (rightV_parts h.hv).1
  have hn := (rightM_ft h.hm).2.2
  rw [h.hf, h.ht] at hn
  obtain ⟨t, u, h1, h2, h3⟩ := made_good hx h.ho (fun e => hn e.symm) m.l
  have e : madeV v m = { v with lst := o :: t } := by unfold madeV; rw [h.hf, h2]
  have hr : rightV (madeV v m) = true := by rw [e]; exact listV_right h.hv h3
  refine ⟨t, u, h1, e, h3, hr, ?_⟩
  unfold firstV
  rw [hr, e]; rfl
theorem counts_p (n : Nat) (v : VW) {ph : Int} (hp : ph = 1 ∨ ph = 2 ∨ ph = 3) (o : Int) (m : MW) (hm : m.l.length < 1000) : F39 n v.id v.base v.lst v.pred v.f0 v.f1 v.f2 v.f3 v.f4 v.f5 v.f6 v.f7 v.f8 v.f9 v.f10 v.f11 v.f12 v.f13 v.f14 v.f15 ph o m.k m.c m.f m.t m.key m.s m.d m.p m.pr m.l m.ik m.iv m.ir m.ig m.cd = some (decide (m.k = bif decide (ph = 3) then 9 else 7) && (decide (m.f = o) && (decide (m.t = v.id) && rightM m))) := by
  have hf := fuel_big
  unfold F39
  have hr : F66 FUEL m.k m.c m.f m.t m.key m.s m.d m.p m.pr m.l m.ik m.iv m.ir m.ig m.cd = some (rightM m) := mright_p (by omega) m.k m.c m.f m.t m.key m.s m.d m.p m.pr m.l m.ik m.iv m.ir m.ig m.cd hm
  rw [hr]
  rcases hp with rfl | rfl | rfl
  · have e : ∀ z : Int, ieq z (iadd .u8 ([(0 : Int), 1, 1, 3].getD (Int.toNat 1) 0) 6) = decide (z = 7) := fun z => by rw [ieq_dec]; rfl
    rw [show (bif decide ((1 : Int) = 3) then (9 : Int) else 7) = 7 from rfl, e, ieq_dec, ieq_dec, ieq_dec]
    cases decide (m.k = 7) <;> cases decide (m.f = o) <;> cases decide (m.t = v.id) <;> rfl
  · have e : ∀ z : Int, ieq z (iadd .u8 ([(0 : Int), 1, 1, 3].getD (Int.toNat 2) 0) 6) = decide (z = 7) := fun z => by rw [ieq_dec]; rfl
    rw [show (bif decide ((2 : Int) = 3) then (9 : Int) else 7) = 7 from rfl, e, ieq_dec, ieq_dec, ieq_dec]
    cases decide (m.k = 7) <;> cases decide (m.f = o) <;> cases decide (m.t = v.id) <;> rfl
  · have e : ∀ z : Int, ieq z (iadd .u8 ([(0 : Int), 1, 1, 3].getD (Int.toNat 3) 0) 6) = decide (z = 9) := fun z => by rw [ieq_dec]; rfl
    rw [show (bif decide ((3 : Int) = 3) then (9 : Int) else 7) = 9 from rfl, e, ieq_dec, ieq_dec, ieq_dec]
    cases decide (m.k = 9) <;> cases decide (m.f = o) <;> cases decide (m.t = v.id) <;> rfl
def mkT (r : VW × Int × Int × List AKT) : Sil2i19l_i5b2i2lsi2bi2_ := ⟨r.1.id, r.1.base, r.1.lst, r.1.pred, r.1.f0, r.1.f1, r.1.f2, r.1.f3, r.1.f4, r.1.f5, r.1.f6, r.1.f7, r.1.f8, r.1.f9, r.1.f10, r.1.f11, r.1.f12, r.1.f13, r.1.f14, r.1.f15, r.2.1, r.2.2.1, r.2.2.2⟩
theorem told_p {n : Nat} (hn : 0 < n) (v : VW) {ph : Int} (h0 : 0 ≤ ph) (o : Int) (m : MW) (h1 : v.base.length < 1000) (h2 : v.lst.length < 1000) (hm : m.l.length < 1000) : F12 n v.id v.base v.lst v.pred v.f0 v.f1 v.f2 v.f3 v.f4 v.f5 v.f6 v.f7 v.f8 v.f9 v.f10 v.f11 v.f12 v.f13 v.f14 v.f15 ph o m.k m.c m.f m.t m.key m.s m.d m.p m.pr m.l m.ik m.iv m.ir m.ig m.cd = some (mkT (toldV v ph o m)) := by
  have hf := fuel_big
  obtain ⟨n, rfl⟩ : ∃ m, n = m + 1 := Nat.exists_eq_succ_of_ne_zero (by omega)
  unfold F12
  rw [ownv_p _ v h1 h2, rightv_p fuel_v, sright_p]
  simp only [Option.bind_some]
  cases hr : rightV v
  · unfold toldV countV; rw [hr]; rfl
  · cases hs : rightS ph o
    · unfold toldV countV; rw [hr, hs]; rfl
    · simp only [Bool.not_true, cond_false]
      rcases phases h0 hs with ⟨rfl, rfl⟩ | ⟨hp, ho⟩
      · unfold toldV countV; rw [hr, hs]
        have e : F39 FUEL v.id v.base v.lst v.pred v.f0 v.f1 v.f2 v.f3 v.f4 v.f5 v.f6 v.f7 v.f8 v.f9 v.f10 v.f11 v.f12 v.f13 v.f14 v.f15 0 0 m.k m.c m.f m.t m.key m.s m.d m.p m.pr m.l m.ik m.iv m.ir m.ig m.cd = some false := rfl
        rw [e]; rfl
      · rw [counts_p FUEL v hp o m hm, Option.bind_some]
        have hc : countV v ph o m = (decide (m.k = bif decide (ph = 3) then 9 else 7) && (decide (m.f = o) && (decide (m.t = v.id) && rightM m))) := by
          unfold countV
          rw [hr, hs, decide_eq_false (by omega : ¬ ph = 0)]
          simp only [Bool.not_false, Bool.true_and]
          cases rightM m <;> cases decide (m.f = o) <;> cases decide (m.t = v.id) <;> simp
        rw [← hc]
        cases hcv : countV v ph o m
        · unfold toldV; rw [hcv]; rfl
        · have C := (count_iff h0).1 hcv
          simp only [Bool.not_true, cond_false]
          unfold toldV
          rw [hcv, cond_true, ieq_dec, ieq_dec]
          by_cases h3 : ph = 3
          · subst h3; rfl
          · rw [decide_eq_false h3, cond_false, cond_false]
            obtain ⟨t, u, k1, k2, k3, k4, k5⟩ := made_cnt C
            have hmk : made v.id m.f m.l = o :: t := congrArg VW.lst k2
            have htl : (o :: t).length < 1000 := by have := good_len k3; omega
            rw [make_p (by omega) v.id m.f m.l hm, Option.bind_some, hmk]
            simp only [toS]
            rw [listed_p (by omega) v (o :: t) h1 h2 htl, Option.bind_some, listV_ok C.hv k3, ← k2]
            simp only [toS]
            rw [firstv_p, ine_dec, in_p]
            simp only [Option.bind_some]
            by_cases h1' : ph = 1
            · rw [decide_eq_true h1']
              simp only [cond_true, Bool.true_and]
              by_cases hpr : m.pr = -1
              · rw [decide_eq_true hpr, asks_p FUEL (by omega)]; rfl
              · rw [decide_eq_false hpr]
                simp only [Bool.not_false, cond_true, Bool.true_and]
                cases cut v.id m.f m.pr
                · rw [asks_p FUEL (by omega)]; rfl
                · rw [cond_true, F12_c0, asks_p FUEL (by omega)]; rfl
            · rw [decide_eq_false h1', asks_p FUEL (by omega)]; rfl
theorem counts_r (n : Nat) (v : VW) (ph o : Int) (m : MW) (hl : v.lst.length < 1000) (hm : m.l.length < 1000) : F43 n v.id v.base v.lst v.pred v.f0 v.f1 v.f2 v.f3 v.f4 v.f5 v.f6 v.f7 v.f8 v.f9 v.f10 v.f11 v.f12 v.f13 v.f14 v.f15 ph o m.k m.c m.f m.t m.key m.s m.d m.p m.pr m.l m.ik m.iv m.ir m.ig m.cd = some (countV v ph o m) := by
  unfold F43 countV
  have hr : F24 FUEL m.k m.c m.f m.t m.key m.s m.d m.p m.pr m.l m.ik m.iv m.ir m.ig m.cd = some (rightM m) := mright_r FUEL m.k m.c m.f m.t m.key m.s m.d m.p m.pr m.l m.ik m.iv m.ir m.ig m.cd hm
  rw [hr, rightv_r fuel_v v hl, sright_r, ieq_dec, ieq_dec, ieq_dec, ieq_dec, ine_dec, ine_dec]
  simp only [Option.bind_some]
  cases rightV v
  · rfl
  · cases rightS ph o
    · rfl
    · cases decide (ph = 0)
      · cases rightM m
        · rfl
        · cases decide (m.f = o) <;> cases decide (m.t = v.id) <;> cases decide (ph = 3) <;> rfl
      · rfl
def mkR (r : VW × Int × Int × List AKT) : Si20l_i5b2i2lsi2bi2_l2 := ⟨r.1.id, r.1.pred, r.1.f0, r.1.f1, r.1.f2, r.1.f3, r.1.f4, r.1.f5, r.1.f6, r.1.f7, r.1.f8, r.1.f9, r.1.f10, r.1.f11, r.1.f12, r.1.f13, r.1.f14, r.1.f15, r.2.1, r.2.2.1, r.2.2.2, r.1.base, r.1.lst⟩
theorem told_r (n : Nat) (v : VW) {ph : Int} (h0 : 0 ≤ ph) (o : Int) (m : MW) (h1 : v.base.length < 1000) (h2 : v.lst.length < 1000) (hm : m.l.length < 1000) : F13 n v.id v.base v.lst v.pred v.f0 v.f1 v.f2 v.f3 v.f4 v.f5 v.f6 v.f7 v.f8 v.f9 v.f10 v.f11 v.f12 v.f13 v.f14 v.f15 ph o m.k m.c m.f m.t m.key m.s m.d m.p m.pr m.l m.ik m.iv m.ir m.ig m.cd = some (mkR (toldV v ph o m)) := by
  have hf := fuel_big
  unfold F13
  rw [ownv_r _ v h1 h2]
  simp only [Option.bind_some, toS]
  rw [counts_r _ v ph o m h2 hm, Option.bind_some]
  cases hcv : countV v ph o m
  · unfold toldV; rw [hcv]; rfl
  · have C := (count_iff h0).1 hcv
    simp only [Bool.not_true, cond_false]
    unfold toldV
    rw [hcv, cond_true, ieq_dec, ieq_dec]
    by_cases h3 : ph = 3
    · subst h3; rfl
    · rw [decide_eq_false h3, cond_false, cond_false]
      obtain ⟨t, u, k1, k2, k3, k4, k5⟩ := made_cnt C
      have hmk : made v.id m.f m.l = o :: t := congrArg VW.lst k2
      have htl : (madeV v m).lst.length < 1000 := by rw [k2]; have := good_len k3; show (o :: t).length < 1000; omega
      have hfv : F35 FUEL v.id v.base (o :: t) v.pred v.f0 v.f1 v.f2 v.f3 v.f4 v.f5 v.f6 v.f7 v.f8 v.f9 v.f10 v.f11 v.f12 v.f13 v.f14 v.f15 = some (firstV (madeV v m)) := by
        have := firstv_r FUEL (madeV v m) htl
        rw [k2] at this ⊢
        exact this
      have hk7 : m.k = 7 := by have := C.hk; rw [decide_eq_false h3] at this; exact this
      rw [make_r (by omega) v.id m.f m.l hm, Option.bind_some, hmk, hfv, in_r]
      simp only [Option.bind_some]
      have hfo : isP (firstV (madeV v m)) = true := by rw [k5]; exact C.ho
      have e3 : F36 FUEL 3 (firstV (madeV v m)) = some (asksV 3 (firstV (madeV v m))) := asks_r FUEL (by omega) hfo
      rw [e3]
      simp only [Option.bind_some]
      have hge : ige m.pr 0 = !decide (m.pr = -1) := by
        rcases rightM_pr C.hm hk7 with h | h
        · rw [h]; rfl
        · have := isP_iff.1 h
          rw [decide_eq_false (by omega : ¬ m.pr = -1)]; exact decide_eq_true (by omega)
      rw [hge]
      by_cases h1' : ph = 1
      · rw [decide_eq_true h1']
        simp only [cond_true, Bool.true_and]
        rcases rightM_pr C.hm hk7 with h | h
        · rw [decide_eq_true h, k2]; rfl
        · have hpr : ¬ m.pr = -1 := by have := isP_iff.1 h; omega
          rw [decide_eq_false hpr, asks_r FUEL (by omega) h]
          simp only [Bool.not_false, cond_true, Bool.true_and]
          cases cut v.id m.f m.pr
          · rw [k2]; rfl
          · rw [k2]; rfl
      · rw [decide_eq_false h1', k2]; rfl

/-! ### Failed. -/
def failV (v : VW) (ph o d : Int) : VW × Int × Int := bif rightV v && rightS ph o then (bif !decide (ph = 0) && decide (o = d) then (deadV v d, 0, 0) else (deadV v d, ph, o)) else (v, ph, o)
def mkF (r : VW × Int × Int) : Sil2i19 := ⟨r.1.id, r.1.base, r.1.lst, r.1.pred, r.1.f0, r.1.f1, r.1.f2, r.1.f3, r.1.f4, r.1.f5, r.1.f6, r.1.f7, r.1.f8, r.1.f9, r.1.f10, r.1.f11, r.1.f12, r.1.f13, r.1.f14, r.1.f15, r.2.1, r.2.2⟩
theorem failed_p (n : Nat) (v : VW) (ph o d : Int) (h1 : v.base.length < 1000) (h2 : v.lst.length < 1000) : F15 n v.id v.base v.lst v.pred v.f0 v.f1 v.f2 v.f3 v.f4 v.f5 v.f6 v.f7 v.f8 v.f9 v.f10 v.f11 v.f12 v.f13 v.f14 v.f15 ph o d = some (mkF (failV v ph o d)) := by
  have hf := fuel_big
  unfold F15 failV
  rw [rightv_p fuel_v, ownv_p _ v h1 h2, sright_p, dead_p (by omega) v d h1 h2, ine_dec, ieq_dec]
  simp only [Option.bind_some]
  cases rightV v
  · rfl
  · cases rightS ph o
    · rfl
    · cases decide (ph = 0)
      · cases decide (o = d) <;> rfl
      · rfl
theorem failed_r (n : Nat) (v : VW) (ph o d : Int) (h1 : v.base.length < 1000) (h2 : v.lst.length < 1000) : F16 n v.id v.base v.lst v.pred v.f0 v.f1 v.f2 v.f3 v.f4 v.f5 v.f6 v.f7 v.f8 v.f9 v.f10 v.f11 v.f12 v.f13 v.f14 v.f15 ph o d = some (mkF (failV v ph o d)) := by
  have hf := fuel_big
  unfold F16 failV
  rw [ownv_r _ v h1 h2]
  simp only [Option.bind_some, toS]
  rw [rightv_r fuel_v v h2, sright_r, dead_r (by omega) v d h1 h2, ine_dec, ieq_dec]
  simp only [Option.bind_some]
  cases rightV v
  · rfl
  · cases rightS ph o
    · rfl
    · cases decide (ph = 0)
      · cases decide (o = d) <;> rfl
      · rfl

theorem bnd {α β : Type} {x : Option α} {y : α} {f : α → Option β} {z : Option β} (h : x = some y) (k : f y = z) : Option.bind x f = z := by rw [h]; exact k
theorem ieq_self (a : Int) : ieq a a = true := by simp [ieq]
theorem ine_self (a : Int) : ine a a = false := by simp [ine]
theorem beqb_self (a : Bool) : beqb a a = true := by simp [beqb]
def wV1 : VW := { newV 5 [1, 9] with lst := [9, 1] }
def wV2 : VW := { newV 5 [1, 9] with lst := [7, 8, 9] }
def wV3 : VW := { newV 5 [1, 9] with lst := [8, 9] }
theorem wakes14 : F8 FUEL = some true := by
  have hf := fuel_big
  have l0 : (newV 5 [1, 9]).lst.length < 1000 := by decide
  have l1 : wV1.lst.length < 1000 := by decide
  have l2 : wV2.lst.length < 1000 := by decide
  have l3 : wV3.lst.length < 1000 := by decide
  have b0 : (newV 5 [1, 9]).base.length < 1000 := by decide
  unfold F8
  refine bnd (new_r (by omega) 5 [1, 9] (by decide) (by kernel_rfl)) ?_
  refine bnd ((begin_p FUEL (newV 5 [1, 9]) 0 0).trans (congrArg some (show _ = ((1 : Int), (9 : Int), asksV 1 9) by kernel_rfl))) ?_
  refine bnd (y := ⟨7, 5242881, 9, 5, 0, false, false, 0, 7, ByteArray.empty, 0, 0, false, 0⟩) (by kernel_rfl) ?_
  refine bnd ((told_p (by omega) (newV 5 [1, 9]) (by decide) 9 ⟨7, 5242881, 9, 5, 0, false, false, 0, 7, [1, 5], ByteArray.empty, 0, 0, false, 0⟩ b0 l0 (by decide)).trans (congrArg some (show _ = mkT (wV1, 2, 7, asksV 2 7) by kernel_rfl))) ?_
  refine bnd (y := ⟨7, 5242881, 7, 5, 0, false, false, 0, -1, ByteArray.empty, 0, 0, false, 0⟩) (by kernel_rfl) ?_
  refine bnd ((told_p (by omega) wV1 (by decide) 7 ⟨7, 5242881, 7, 5, 0, false, false, 0, -1, [8, 9], ByteArray.empty, 0, 0, false, 0⟩ b0 l1 (by decide)).trans (congrArg some (show _ = mkT (wV2, 3, 7, asksV 3 7) by kernel_rfl))) ?_
  refine bnd ((told_p (by omega) wV2 (by decide) 7 ⟨9, 5242883, 7, 5, 0, false, false, 0, 0, [], ByteArray.empty, 0, 0, false, 0⟩ b0 l2 (by decide)).trans (congrArg some (show _ = mkT (wV2, 0, 0, []) by kernel_rfl))) ?_
  refine bnd ((failed_p FUEL wV2 3 7 7 b0 l2).trans (congrArg some (show _ = mkF (wV3, 0, 0) by kernel_rfl))) ?_
  kernel_rfl

theorem great14 (n : Nat) (v : VW) (m : MW) : ∃ b, F7 n v.id v.base v.lst v.pred v.f0 v.f1 v.f2 v.f3 v.f4 v.f5 v.f6 v.f7 v.f8 v.f9 v.f10 v.f11 v.f12 v.f13 v.f14 v.f15 m.k m.c m.f m.t m.key m.s m.d m.p m.pr m.l m.ik m.iv m.ir m.ig m.cd = some b ∧ (b = false → v.base.length ≤ 20 ∧ v.lst.length ≤ 20 ∧ m.l.length ≤ 20) := by
  unfold F7
  have hg : F29 FUEL v.id v.base v.lst v.pred v.f0 v.f1 v.f2 v.f3 v.f4 v.f5 v.f6 v.f7 v.f8 v.f9 v.f10 v.f11 v.f12 v.f13 v.f14 v.f15 = some (decide (20 < v.base.length) || decide (20 < v.lst.length)) := vgreat FUEL v.id v.base v.lst v.pred v.f0 v.f1 v.f2 v.f3 v.f4 v.f5 v.f6 v.f7 v.f8 v.f9 v.f10 v.f11 v.f12 v.f13 v.f14 v.f15
  rw [hg, Option.bind_some]
  cases h : (decide (20 < v.base.length) || decide (20 < v.lst.length))
  · simp only [Bool.or_eq_false_iff, decide_eq_false_iff_not] at h
    rw [cond_false]
    have e : igt (ofN m.l.length) 20 = decide (20 < m.l.length) := by unfold igt ofN; apply decide_eq_decide.2; omega
    rw [e]
    by_cases hm : 20 < m.l.length
    · rw [decide_eq_true hm]; exact ⟨true, rfl, by simp⟩
    · rw [decide_eq_false hm]; exact ⟨_, rfl, fun _ => ⟨by omega, by omega, by omega⟩⟩
  · exact ⟨true, rfl, by simp⟩
theorem told_len {v : VW} {ph o : Int} {m : MW} (h0 : 0 ≤ ph) (h1 : v.base.length < 1000) (h2 : v.lst.length < 1000) : (toldV v ph o m).1.base.length < 1000 ∧ (toldV v ph o m).1.lst.length < 1000 := by
  unfold toldV
  cases hc : countV v ph o m
  · exact ⟨h1, h2⟩
  · have C := (count_iff h0).1 hc
    obtain ⟨t, u, k1, k2, k3, k4, k5⟩ := made_cnt C
    have hb : (madeV v m).base.length < 1000 := by rw [k2]; exact h1
    have hl : (madeV v m).lst.length < 1000 := by rw [k2]; have := good_len k3; show (o :: t).length < 1000; omega
    cases decide (ph = 3)
    · simp only [cond_true, cond_false]
      cases decide (ph = 1) && (!decide (m.pr = -1) && cut v.id m.f m.pr)
      · exact ⟨hb, hl⟩
      · exact ⟨hb, hl⟩
    · exact ⟨h1, h2⟩
theorem told_asks {v : VW} {ph o : Int} {m : MW} {n : Nat} (hn : 10 < n) : F11 n (toldV v ph o m).2.2.2 (toldV v ph o m).2.2.2 = some true := by
  have h0 : F11 n [] [] = some true := asks_same hn (.inl rfl) 0
  unfold toldV
  cases countV v ph o m
  · exact h0
  · cases decide (ph = 3)
    · simp only [cond_true, cond_false]
      cases decide (ph = 1) && (!decide (m.pr = -1) && cut v.id m.f m.pr)
      · exact asks_same (ph := 3) hn (by omega) _
      · exact asks_same (ph := 2) hn (by omega) _
    · exact h0
theorem begin_asks {v : VW} {ph o : Int} {n : Nat} (hn : 10 < n) : F11 n (beginV v ph o).2.2 (beginV v ph o).2.2 = some true := by
  unfold beginV
  cases rightV v && (rightS ph o && decide (ph = 0))
  · exact asks_same hn (.inl rfl) 0
  · exact asks_same (ph := 1) hn (by omega) _
theorem dead_lens {v : VW} (d : Int) (h1 : v.base.length < 1000) (h2 : v.lst.length < 1000) : (deadV v d).base.length < 1000 ∧ (deadV v d).lst.length < 1000 := by
  unfold deadV
  cases rightV v && !decide (d ∈ v.base)
  · exact ⟨h1, h2⟩
  · exact ⟨h1, Nat.lt_of_le_of_lt (drp_len d v.lst) h2⟩
theorem fail_len {v : VW} (ph o d : Int) (h1 : v.base.length < 1000) (h2 : v.lst.length < 1000) : (failV v ph o d).1.base.length < 1000 ∧ (failV v ph o d).1.lst.length < 1000 := by
  unfold failV
  cases rightV v && rightS ph o
  · exact ⟨h1, h2⟩
  · cases !decide (ph = 0) && decide (o = d)
    · exact dead_lens d h1 h2
    · exact dead_lens d h1 h2

theorem plain_StabTells (n : Nat) (v : VW) (ph o : Int) (m : MW) (d : Int) (h0 : 0 ≤ ph) : F3 n v.id v.base v.lst v.pred v.f0 v.f1 v.f2 v.f3 v.f4 v.f5 v.f6 v.f7 v.f8 v.f9 v.f10 v.f11 v.f12 v.f13 v.f14 v.f15 ph o m.k m.c m.f m.t m.key m.s m.d m.p m.pr m.l m.ik m.iv m.ir m.ig m.cd d = some true := by
  have hf := fuel_big
  unfold F3
  obtain ⟨b, e, hb⟩ := great14 FUEL v m
  rw [e, wakes14, Option.bind_some]
  cases b
  · obtain ⟨h1, h2, h3⟩ := hb rfl
    obtain ⟨t1, t2⟩ := told_len (o := o) (m := m) h0 (show v.base.length < 1000 by omega) (show v.lst.length < 1000 by omega)
    obtain ⟨f1, f2⟩ := fail_len ph o d (show v.base.length < 1000 by omega) (show v.lst.length < 1000 by omega)
    rw [cond_false, begin_p, begin_r _ v ph o (by omega)]
    simp only [Option.bind_some]
    rw [begin_asks (by omega), told_p (by omega) v h0 o m (by omega) (by omega) (by omega), told_r _ v h0 o m (by omega) (by omega) (by omega)]
    simp only [Option.bind_some, ieq_self, mkT, mkR]
    rw [samev_r FUEL (toldV v ph o m).1 (toldV v ph o m).1 t1 t2, told_asks (by omega), failed_p _ v ph o d (by omega) (by omega), failed_r _ v ph o d (by omega) (by omega)]
    simp only [Option.bind_some, decide_true, mkF]
    rw [samev_r FUEL (failV v ph o d).1 (failV v ph o d).1 f1 f2, sright_p, sright_r, why_p _ h0, why_r _ h0]
    simp only [Option.bind_some, decide_true, ieq_self, beqb_self, cond_true, Bool.and_true, Bool.not_true, cond_false]
  · rfl

/-! ### What changes nothing. -/
theorem plain_StabNot (n : Nat) (v : VW) (ph o : Int) (m : MW) (d : Int) (h0 : 0 ≤ ph) : F6 n v.id v.base v.lst v.pred v.f0 v.f1 v.f2 v.f3 v.f4 v.f5 v.f6 v.f7 v.f8 v.f9 v.f10 v.f11 v.f12 v.f13 v.f14 v.f15 ph o m.k m.c m.f m.t m.key m.s m.d m.p m.pr m.l m.ik m.iv m.ir m.ig m.cd d = some true := by
  have hf := fuel_big
  unfold F6
  obtain ⟨b, e, hb⟩ := great14 FUEL v m
  rw [e, wakes14, Option.bind_some]
  cases b
  · obtain ⟨h1, h2, h3⟩ := hb rfl
    rw [cond_false, rightv_r fuel_v v (by omega), sright_r]
    simp only [Option.bind_some]
    cases hr : rightV v
    · rfl
    cases hs : rightS ph o
    · rfl
    obtain ⟨t1, t2⟩ := told_len (o := o) (m := m) h0 (show v.base.length < 1000 by omega) (show v.lst.length < 1000 by omega)
    obtain ⟨f1, f2⟩ := fail_len ph o d (show v.base.length < 1000 by omega) (show v.lst.length < 1000 by omega)
    obtain ⟨d1, d2⟩ := dead_lens d (show v.base.length < 1000 by omega) (show v.lst.length < 1000 by omega)
    have hm : F24 FUEL m.k m.c m.f m.t m.key m.s m.d m.p m.pr m.l m.ik m.iv m.ir m.ig m.cd = some (rightM m) := mright_r FUEL m.k m.c m.f m.t m.key m.s m.d m.p m.pr m.l m.ik m.iv m.ir m.ig m.cd (by omega)
    rw [told_p (by omega) v h0 o m (by omega) (by omega) (by omega), failed_p _ v ph o d (by omega) (by omega), dead_r (by omega) v d (by omega) (by omega), hm]
    simp only [Bool.not_true, cond_false, Option.bind_some, mkT, mkF, toS]
    rw [samev_r FUEL (toldV v ph o m).1 v t1 t2, samev_r FUEL (failV v ph o d).1 (deadV v d) f1 f2]
    have ef : (failV v ph o d).1 = deadV v d := by
      unfold failV; rw [hr, hs]
      cases !decide (ph = 0) && decide (o = d) <;> rfl
    have e1 : ieq (failV v ph o d).2.1 ph = (decide (ph = 0) || !decide (o = d)) := by
      rw [ieq_dec]; unfold failV; rw [hr, hs]
      by_cases c1 : ph = 0
      · simp [c1]
      · by_cases c2 : o = d
        · have : ¬ 0 = ph := fun h => c1 h.symm
          simp [c1, c2, this]
        · simp [c1, c2]
    have e2 : (ieq (failV v ph o d).2.1 0 && (ieq (failV v ph o d).2.2 0 && true)) = (decide (ph = 0) || decide (o = d)) := by
      rw [ieq_dec, ieq_dec]; unfold failV; rw [hr, hs]
      by_cases c1 : ph = 0
      · have : o = 0 := by
          rcases phases h0 hs with ⟨_, h⟩ | ⟨h, _⟩
          · exact h
          · omega
        simp [c1, this]
      · by_cases c2 : o = d
        · simp [c1, c2]
        · simp [c1, c2]
    have e3 : (ieq (failV v ph o d).2.1 ph && (ieq (failV v ph o d).2.2 o && true)) = (decide (ph = 0) || !decide (o = d)) := by
      rw [e1, ieq_dec]; unfold failV; rw [hr, hs]
      by_cases c1 : ph = 0
      · simp [c1]
      · by_cases c2 : o = d
        · simp [c1, c2]
        · simp [c1, c2]
    rw [e2, e3, ef]
    simp only [ieq_dec, ine_dec, Option.bind_some, decide_true, Bool.not_true, cond_false]
    have tail : ∀ A : Option Bool, A = some true → (bif !(decide (ph = 0) || !decide (o = d)) then (bif !(decide (ph = 0) || decide (o = d)) then some false else bif !decide (o = d) then some false else bif decide (ph = 0) then A else bif !decide (o = d) then A else bif decide (ph = 0) || decide (o = d) then A else some false) else bif decide (ph = 0) then A else bif !decide (o = d) then A else bif decide (ph = 0) || decide (o = d) then A else some false) = some true := by
      intro A hA
      subst hA
      cases decide (ph = 0) <;> cases decide (o = d) <;> rfl
    rw [tail _ rfl]
    cases hc : countV v ph o m
    · have et : toldV v ph o m = (v, ph, o, []) := by unfold toldV; rw [hc]; rfl
      have e0 : decide (ofN ([] : List AKT).length = 0) = true := rfl
      simp only [et, e0, decide_true, Bool.not_true, cond_false, Bool.and_true, Bool.cond_self]
    · have C := (count_iff h0).1 hc
      have k1 := C.hk
      rw [C.hf, C.ht, C.hm]
      simp only [decide_true, Bool.not_true, cond_false]
      rcases C.hp with hp | hp | hp
      · rw [hp] at k1
        have k1 : m.k = 7 := k1
        rw [k1, hp]; rfl
      · rw [hp] at k1
        have k1 : m.k = 7 := k1
        rw [k1, hp]; rfl
      · rw [hp] at k1
        have k1 : m.k = 9 := k1
        rw [k1, hp]; rfl
  · rfl

/-! ### A round ends. -/
theorem ends_end (n : Nat) (v : VW) (l : List Int) (p0 p1 p2 : Int) (l0 l1 l2 : List Int) (k i : Nat) (hk : k = 2 ∨ k = 3) (h1 : v.base.length < 1000) (h2 : v.lst.length < 1000) :
    F5_c0 (n + 1) [] (ofN k) (ofN i) v.id v.base v.lst v.pred v.f0 v.f1 v.f2 v.f3 v.f4 v.f5 v.f6 v.f7 v.f8 v.f9 v.f10 v.f11 v.f12 v.f13 v.f14 v.f15 p0 p1 p2 l0 l1 l2 0 0 v.id v.base l v.pred v.f0 v.f1 v.f2 v.f3 v.f4 v.f5 v.f6 v.f7 v.f8 v.f9 v.f10 v.f11 v.f12 v.f13 v.f14 v.f15 = some true := by
  have e1 : ine 0 0 = false := rfl
  have e2 : (ieq 0 0 && (ieq 0 0 && true)) = true := rfl
  have e3 : ige (ofN k) 2 = true := decide_eq_true (by simp only [ofN]; omega)
  have e4 : ile (ofN k) 3 = true := decide_eq_true (by simp only [ofN]; omega)
  have e5 : ieq (ofN ([] : List AKT).length) 0 = true := rfl
  have e6 := samev_r FUEL v v h1 h2
  simp only [F5_c0, e1, e2, e3, e4, e5, cond_false, cond_true]
  rw [e6, wakes14]
  simp only [decide_true, Option.bind_some, cond_true, Bool.cond_self]
def tell14 (v : VW) (o p : Int) (l : List Int) : MW := ⟨7, iadd .i64 (imul .i64 v.id 1048576) 1, o, v.id, 0, false, false, 0, p, l, ByteArray.empty, 0, 0, false, 0⟩
def note14 (v : VW) (o : Int) : MW := ⟨9, iadd .i64 (imul .i64 v.id 1048576) 1, o, v.id, 0, false, false, 0, 0, [], ByteArray.empty, 0, 0, false, 0⟩
/-- What comes behind a phase that counted. -/
theorem told_next {w : VW} {ph o : Int} {m : MW} (C : Cnt w ph o m) : ∃ ph' o' l', toldV w ph o m = ({ w with lst := l' }, ph', o', asksV ph' o') ∧ rightV { w with lst := l' } = true ∧
    ((ph = 3 ∧ ph' = 0 ∧ o' = 0) ∨ (ph ≠ 3 ∧ (ph' = 3 ∨ (ph = 1 ∧ ph' = 2)) ∧ isP o' = true)) := by
  have h0 : 0 ≤ ph := by have := C.hp; omega
  have hc := (count_iff h0).2 C
  obtain ⟨t, u, k1, k2, k3, k4, k5⟩ := made_cnt C
  unfold toldV
  rw [hc, cond_true]
  by_cases h3 : ph = 3
  · subst h3
    exact ⟨0, 0, w.lst, rfl, C.hv, .inl ⟨rfl, rfl, rfl⟩⟩
  · rw [decide_eq_false h3, cond_false]
    have hk7 : m.k = 7 := by have := C.hk; rw [decide_eq_false h3] at this; exact this
    cases hb : decide (ph = 1) && (!decide (m.pr = -1) && cut w.id m.f m.pr)
    · refine ⟨3, firstV (madeV w m), o :: t, ?_, ?_, .inr ⟨h3, .inl rfl, ?_⟩⟩
      · rw [cond_false, k2]
      · rw [← k2]; exact k4
      · rw [k5]; exact C.ho
    · simp only [Bool.and_eq_true, decide_eq_true_eq, Bool.not_eq_true', decide_eq_false_iff_not] at hb
      refine ⟨2, m.pr, o :: t, ?_, ?_, .inr ⟨h3, .inr ⟨hb.1, rfl⟩, ?_⟩⟩
      · rw [cond_true, k2]
      · rw [← k2]; exact k4
      · rcases rightM_pr C.hm hk7 with h | h
        · exact absurd h hb.2.1
        · exact h
theorem ends_step {n : Nat} {v : VW} {l : List Int} (p0 p1 p2 : Int) (l0 l1 l2 : List Int) {ph o : Int} {i : Nat} (hi : i < 3) (hp : ph = 1 ∨ ph = 2 ∨ ph = 3) (ho : isP o = true) (hr : rightV { v with lst := l } = true)
    (ih : ∀ ph' o' l', rightV { v with lst := l' } = true → ((ph = 3 ∧ ph' = 0 ∧ o' = 0) ∨ (ph ≠ 3 ∧ (ph' = 3 ∨ (ph = 1 ∧ ph' = 2)) ∧ isP o' = true)) →
      F5_c0 n (asksV ph' o') (ofN (i + 1)) (ofN (i + 1)) v.id v.base v.lst v.pred v.f0 v.f1 v.f2 v.f3 v.f4 v.f5 v.f6 v.f7 v.f8 v.f9 v.f10 v.f11 v.f12 v.f13 v.f14 v.f15 p0 p1 p2 l0 l1 l2 ph' o' v.id v.base l' v.pred v.f0 v.f1 v.f2 v.f3 v.f4 v.f5 v.f6 v.f7 v.f8 v.f9 v.f10 v.f11 v.f12 v.f13 v.f14 v.f15 = some true) :
    F5_c0 (n + 1) (asksV ph o) (ofN i) (ofN i) v.id v.base v.lst v.pred v.f0 v.f1 v.f2 v.f3 v.f4 v.f5 v.f6 v.f7 v.f8 v.f9 v.f10 v.f11 v.f12 v.f13 v.f14 v.f15 p0 p1 p2 l0 l1 l2 ph o v.id v.base l v.pred v.f0 v.f1 v.f2 v.f3 v.f4 v.f5 v.f6 v.f7 v.f8 v.f9 v.f10 v.f11 v.f12 v.f13 v.f14 v.f15 = some true := by
  have hf := fuel_big
  have e1 : ilt (ofN i) 3 = true := decide_eq_true (by simp only [ofN]; omega)
  have e2 : ine ph 0 = true := by rw [ine_dec, decide_eq_false (by omega)]; rfl
  have e3 : inb (ofN i) 3 = true := by unfold inb ofN; rw [decide_eq_true (by omega : (0 : Int) ≤ i), decide_eq_true (by omega : (i : Int) < (3 : Nat))]; rfl
  have e4 : nlt (ofN i).toNat 3 = true := decide_eq_true (by simp [ofN]; omega)
  have ea : ∃ k, asksV ph o = [askT k o ph] := by rcases hp with rfl | rfl | rfl <;> exact ⟨_, rfl⟩
  obtain ⟨k, ea⟩ := ea
  have e5 : ∀ z : AKT, ine (ofN [z].length) 1 = false := fun _ => rfl
  have e6 : ∀ z : AKT, inb 0 [z].length = true := fun _ => rfl
  have e7 : ∀ z d : AKT, [z].getD (Int.toNat 0) d = z := fun _ _ => rfl
  have e8 : iadd .i64 (ofN i) 1 = ofN (i + 1) := by simp only [iadd, ofN]; rw [wrap_mid (by omega) (by omega)]; omega
  have ew : whyV ph o = ph := by unfold whyV; rw [rightS_of hp ho]; rfl
  simp only [F5_c0, e1, e2, e3, e4, cond_true, wakes14, Option.bind_some]
  generalize [l0, l1, l2].getD (ofN i).toNat [] = L
  generalize [p0, p1, p2].getD (ofN i).toNat 0 = p
  by_cases hL : 6 < L.length
  · rw [show igt (ofN L.length) 6 = true from decide_eq_true (by simp only [ofN]; omega)]; rfl
  · rw [show igt (ofN L.length) 6 = false from decide_eq_false (by simp only [ofN]; omega), ea]
    simp only [cond_false, e5, e6, e7, cond_true, askT]
    rw [why_p _ (by omega), ew]
    simp only [Option.bind_some, ine_self, cond_false, F23]
    obtain ⟨hw1, hw2⟩ := rightV_len hr
    have hw1 : v.base.length ≤ 4 := hw1
    have hw2 : l.length ≤ 3 := hw2
    by_cases h3 : ph = 3
    · rw [show ieq ph 3 = true by rw [ieq_dec]; exact decide_eq_true h3, cond_true]
      have hm : F24 FUEL (note14 v o).k (note14 v o).c (note14 v o).f (note14 v o).t (note14 v o).key (note14 v o).s (note14 v o).d (note14 v o).p (note14 v o).pr (note14 v o).l (note14 v o).ik (note14 v o).iv (note14 v o).ir (note14 v o).ig (note14 v o).cd = some (rightM (note14 v o)) := mright_r FUEL (note14 v o).k (note14 v o).c (note14 v o).f (note14 v o).t (note14 v o).key (note14 v o).s (note14 v o).d (note14 v o).p (note14 v o).pr (note14 v o).l (note14 v o).ik (note14 v o).iv (note14 v o).ir (note14 v o).ig (note14 v o).cd (by show (0 : Nat) < 1000; omega)
      refine bnd hm ?_
      cases hM : rightM (note14 v o)
      · rfl
      · have C : Cnt { v with lst := l } ph o (note14 v o) := ⟨hr, hp, ho, hM, rfl, rfl, by rw [decide_eq_true h3]; rfl⟩
        obtain ⟨ph', o', l', t1, t2, t3⟩ := told_next C
        have ht := told_p (n := FUEL) (by omega) { v with lst := l } (by omega : 0 ≤ ph) o (note14 v o) (show v.base.length < 1000 by omega) (show l.length < 1000 by omega) (show (0 : Nat) < 1000 by omega)
        rw [t1] at ht
        rw [Bool.not_true, cond_false]
        refine bnd ht ?_
        have hl' := (rightV_len t2).2
        have hrr := rightv_r fuel_v { v with lst := l' } (show l'.length < 1000 by have : l'.length ≤ 3 := hl'; omega)
        rw [t2] at hrr
        have z1 : ieq ph' ph = false := by rw [ieq_dec]; exact decide_eq_false (by omega)
        have z2 : ine ph' 0 = false := by rw [ine_dec, decide_eq_true (by omega)]; rfl
        simp only [mkT, z1, z2, cond_false]
        refine bnd hrr ?_
        rw [Bool.not_true, cond_false, e8]
        exact ih ph' o' l' t2 t3
    · rw [show ieq ph 3 = false by rw [ieq_dec]; exact decide_eq_false h3, cond_false]
      have hm : F24 FUEL (tell14 v o p L).k (tell14 v o p L).c (tell14 v o p L).f (tell14 v o p L).t (tell14 v o p L).key (tell14 v o p L).s (tell14 v o p L).d (tell14 v o p L).p (tell14 v o p L).pr (tell14 v o p L).l (tell14 v o p L).ik (tell14 v o p L).iv (tell14 v o p L).ir (tell14 v o p L).ig (tell14 v o p L).cd = some (rightM (tell14 v o p L)) := mright_r FUEL (tell14 v o p L).k (tell14 v o p L).c (tell14 v o p L).f (tell14 v o p L).t (tell14 v o p L).key (tell14 v o p L).s (tell14 v o p L).d (tell14 v o p L).p (tell14 v o p L).pr (tell14 v o p L).l (tell14 v o p L).ik (tell14 v o p L).iv (tell14 v o p L).ir (tell14 v o p L).ig (tell14 v o p L).cd (show L.length < 1000 by omega)
      refine bnd hm ?_
      cases hM : rightM (tell14 v o p L)
      · rfl
      · have C : Cnt { v with lst := l } ph o (tell14 v o p L) := ⟨hr, hp, ho, hM, rfl, rfl, by rw [decide_eq_false h3]; rfl⟩
        obtain ⟨ph', o', l', t1, t2, t3⟩ := told_next C
        have ht := told_p (n := FUEL) (by omega) { v with lst := l } (by omega : 0 ≤ ph) o (tell14 v o p L) (show v.base.length < 1000 by omega) (show l.length < 1000 by omega) (show L.length < 1000 by omega)
        rw [t1] at ht
        rw [Bool.not_true, cond_false]
        refine bnd ht ?_
        have hl' := (rightV_len t2).2
        have hrr := rightv_r fuel_v { v with lst := l' } (show l'.length < 1000 by have : l'.length ≤ 3 := hl'; omega)
        rw [t2] at hrr
        have z1 : ieq ph' ph = false := by rw [ieq_dec]; exact decide_eq_false (by omega)
        have z2 : ine ph' 0 = true := by rw [ine_dec, decide_eq_false (by omega)]; rfl
        have z3 : ilt ph' ph = false := decide_eq_false (by omega)
        simp only [mkT, z1, z2, z3, cond_false, cond_true]
        refine bnd hrr ?_
        rw [Bool.not_true, cond_false, e8]
        exact ih ph' o' l' t2 t3
theorem plain_StabEnds {n : Nat} (v : VW) (p0 p1 p2 : Int) (l0 l1 l2 : List Int) (hl : v.lst.length ≤ 9223372036854775807) (hn : 2000 < n) : F5 n v.id v.base v.lst v.pred v.f0 v.f1 v.f2 v.f3 v.f4 v.f5 v.f6 v.f7 v.f8 v.f9 v.f10 v.f11 v.f12 v.f13 v.f14 v.f15 p0 p1 p2 l0 l1 l2 = some true := by
  have hf := fuel_big
  obtain ⟨n, rfl⟩ : ∃ m, n = m + 5 := ⟨n - 5, by omega⟩
  unfold F5
  refine bnd (viewR_r fuel_v v.id v.base v.lst v.pred v.f0 v.f1 v.f2 v.f3 v.f4 v.f5 v.f6 v.f7 v.f8 v.f9 v.f10 v.f11 v.f12 v.f13 v.f14 v.f15 hl) ?_
  rw [wakes14]
  show (bif !rightV v then _ else _) = _
  cases hr : rightV v
  · rfl
  · obtain ⟨hw1, hw2⟩ := rightV_len hr
    rw [Bool.not_true, cond_false, begin_p, ownv_r _ v (by omega) (by omega)]
    have hb : beginV v 0 0 = (1, firstV v, asksV 1 (firstV v)) := by unfold beginV; rw [hr]; rfl
    rw [hb]
    simp only [Option.bind_some, toS]
    have hfo := (firstV_ok hr).1
    have e0 : (0 : Int) = ofN 0 := rfl
    rw [e0]
    refine ends_step p0 p1 p2 l0 l1 l2 (by omega) (.inl rfl) hfo hr fun ph o l hr1 hc => ?_
    rcases hc with ⟨hc, _⟩ | ⟨_, hc, ho⟩
    · omega
    · rcases hc with rfl | ⟨_, rfl⟩
      · refine ends_step p0 p1 p2 l0 l1 l2 (by omega) (by omega) ho hr1 fun ph o l hr2 hc => ?_
        rcases hc with ⟨_, rfl, rfl⟩ | ⟨hc, _⟩
        · exact ends_end _ v l p0 p1 p2 l0 l1 l2 2 2 (by omega) (by omega) (by omega)
        · omega
      · refine ends_step p0 p1 p2 l0 l1 l2 (by omega) (by omega) ho hr1 fun ph o l hr2 hc => ?_
        rcases hc with ⟨hc, _⟩ | ⟨_, hc, ho⟩
        · omega
        · rcases hc with rfl | ⟨hc, _⟩
          · refine ends_step p0 p1 p2 l0 l1 l2 (by omega) (by omega) ho hr2 fun ph o l hr3 hc => ?_
            rcases hc with ⟨_, rfl, rfl⟩ | ⟨hc, _⟩
            · exact ends_end _ v l p0 p1 p2 l0 l1 l2 3 3 (by omega) (by omega) (by omega)
            · omega
          · omega

/-! ### What is skipped. -/
theorem first_near {v : VW} (hr : rightV v = true) (hs : skp v.id v.lst v.base = false) : v.base.any (cut v.id (firstV v)) = false := by
  obtain ⟨h1, h2, _⟩ := rightV_parts hr
  unfold firstV
  rw [if_pos hr]
  cases hl : v.lst with
  | cons x r =>
    rw [hl, skp, Bool.or_eq_false_iff] at hs
    exact hs.1
  | nil =>
    simp only
    obtain ⟨hp, y, hy, hne⟩ := base_two (id := v.id) h2
    obtain ⟨b1, b2, b3⟩ := anch_ok (id := v.id) v.base (-1) (fun z hz => (isP_iff.1 (hp z hz)).1)
    refine List.any_eq_false.2 fun b hb hc => ?_
    unfold cut at hc
    simp only [Bool.and_eq_true, Bool.or_eq_true, decide_eq_true_eq] at hc
    by_cases hbi : b = v.id
    · have : fr v.id b = 0 := by rw [hbi]; unfold fr; omega
      omega
    · have h3 := (b2 b hb hbi).2
      have h4 := b2 y hy hne
      rcases b1 with h | h
      · omega
      · have : fr v.id (anch v.id (-1) v.base) ≠ 0 := by
          have := (fr_pos h1 (hp _ h.1)).2 h.2
          omega
        omega
theorem cut_less {w y z : Int} {k : List Int} (h : k.any (cut w y) = false) (hz : cut w y z = true) : k.any (cut w z) = false := by
  refine List.any_eq_false.2 fun b hb hc => ?_
  have h1 := List.any_eq_false.1 h b hb
  unfold cut at h1 hz hc
  simp only [Bool.and_eq_true, Bool.or_eq_true, decide_eq_true_eq] at h1 hz hc
  omega
theorem plain_StabSkips {n : Nat} (v : VW) (pred : Int) (l nx : List Int) (hl : v.lst.length ≤ 9223372036854775807) (hn : 2000 < n) : F4 n v.id v.base v.lst v.pred v.f0 v.f1 v.f2 v.f3 v.f4 v.f5 v.f6 v.f7 v.f8 v.f9 v.f10 v.f11 v.f12 v.f13 v.f14 v.f15 pred l nx = some true := by
  have hf := fuel_big
  have hfv := fuel_v
  unfold F4
  refine bnd (viewR_r fuel_v v.id v.base v.lst v.pred v.f0 v.f1 v.f2 v.f3 v.f4 v.f5 v.f6 v.f7 v.f8 v.f9 v.f10 v.f11 v.f12 v.f13 v.f14 v.f15 hl) ?_
  rw [wakes14]
  show (bif !rightV v then _ else _) = _
  cases hr : rightV v
  · rfl
  obtain ⟨hw1, hw2⟩ := rightV_len hr
  rw [Bool.not_true, cond_false, skips_r v.id v.lst v.base (fuel_two (by omega) (by omega)) (by omega) (by omega), Option.bind_some]
  cases hsk : skp v.id v.lst v.base
  rotate_left
  · rfl
  rw [cond_false]
  by_cases hL : 6 < l.length
  · rw [show igt (ofN l.length) 6 = true from decide_eq_true (by simp only [ofN]; omega)]; rfl
  by_cases hN : 6 < nx.length
  · rw [show igt (ofN nx.length) 6 = true from decide_eq_true (by simp only [ofN]; omega)]
    cases igt (ofN l.length) 6 <;> rfl
  rw [show igt (ofN l.length) 6 = false from decide_eq_false (by simp only [ofN]; omega), show igt (ofN nx.length) 6 = false from decide_eq_false (by simp only [ofN]; omega), begin_p]
  have hb : beginV v 0 0 = (1, firstV v, [askT 1 (firstV v) 1]) := by unfold beginV; rw [hr]; rfl
  obtain ⟨ho, hne⟩ := firstV_ok hr
  have hnear := first_near hr hsk
  rw [hb]
  generalize firstV v = o at ho hne hnear
  have e5 : ∀ z : AKT, ine (ofN [z].length) 1 = false := fun _ => rfl
  have e5' : ∀ z : AKT, ieq (ofN [z].length) 1 = true := fun _ => rfl
  have e6 : ∀ z : AKT, inb 0 [z].length = true := fun _ => rfl
  have e7 : ∀ z d : AKT, [z].getD (Int.toNat 0) d = z := fun _ _ => rfl
  have e8 : ieq o v.id = false := by rw [ieq_dec]; exact decide_eq_false hne
  have e9 : ∀ (z : Int) (r : List Int), ilt (ofN (z :: r).length) 1 = false := fun z r => decide_eq_false (by simp only [ofN, List.length_cons]; omega)
  have e10 : ∀ (z : Int) (r : List Int), inb 0 (z :: r).length = true := fun z r => by simp [inb]
  have e11 : ∀ (z : Int) (r : List Int) (d : Int), (z :: r).getD (Int.toNat 0) d = z := fun _ _ _ => rfl
  have e12 : ∀ (z : Int) (r : List Int), igt (ofN (z :: r).length) 0 = true := fun z r => decide_eq_true (by simp only [ofN, List.length_cons]; omega)
  simp only [cond_false, Option.bind_some, F23, e5, e6, e7, e8, cond_true, askT, ine_self]
  have hm : F24 FUEL (tell14 v o pred l).k (tell14 v o pred l).c (tell14 v o pred l).f (tell14 v o pred l).t (tell14 v o pred l).key (tell14 v o pred l).s (tell14 v o pred l).d (tell14 v o pred l).p (tell14 v o pred l).pr (tell14 v o pred l).l (tell14 v o pred l).ik (tell14 v o pred l).iv (tell14 v o pred l).ir (tell14 v o pred l).ig (tell14 v o pred l).cd = some (rightM (tell14 v o pred l)) := mright_r FUEL (tell14 v o pred l).k (tell14 v o pred l).c (tell14 v o pred l).f (tell14 v o pred l).t (tell14 v o pred l).key (tell14 v o pred l).s (tell14 v o pred l).d (tell14 v o pred l).p (tell14 v o pred l).pr (tell14 v o pred l).l (tell14 v o pred l).ik (tell14 v o pred l).iv (tell14 v o pred l).ir (tell14 v o pred l).ig (tell14 v o pred l).cd (show l.length < 1000 by omega)
  refine bnd hm ?_
  cases hM : rightM (tell14 v o pred l)
  · rfl
  rw [Bool.not_true, cond_false, right_r (by omega) o l (by omega), Option.bind_some]
  cases hg : good o l
  · rfl
  rw [Bool.not_true, cond_false, skips_r o l v.base (fuel_two (by omega) (by omega)) (by omega) (by omega), Option.bind_some]
  cases hs2 : skp o l v.base
  rotate_left
  · rfl
  rw [cond_false]
  have C : Cnt v 1 o (tell14 v o pred l) := ⟨hr, .inl rfl, ho, hM, rfl, rfl, rfl⟩
  have hx := (rightV_parts hr).1
  obtain ⟨t, u, k1, k2, k3, k4, k5⟩ := made_cnt C
  have hmk : made v.id o l = o :: t := congrArg VW.lst k2
  have hsm : skp v.id (o :: t) v.base = false := by
    rw [← hmk]; exact made_skips hx ho (fun e => hne e.symm) hnear hs2
  have htl : t.length < 4 := by have := good_len k3; simp at this; omega
  have ht := told_p (n := FUEL) (by omega) v (show (0 : Int) ≤ 1 by decide) o (tell14 v o pred l) (by omega) (by omega) (show l.length < 1000 by omega)
  have htv : toldV v 1 o (tell14 v o pred l) = bif !decide (pred = -1) && cut v.id o pred then (madeV v (tell14 v o pred l), 2, pred, [askT 1 pred 2]) else (madeV v (tell14 v o pred l), 3, o, [askT 3 o 3]) := by
    unfold toldV
    rw [(count_iff (by decide)).2 C, k5]; rfl
  rw [htv, k2] at ht
  have hrw := rightv_r fuel_v { v with lst := o :: t } (show (o :: t).length < 1000 by simp; omega)
  rw [← k2, k4, k2] at hrw
  have hsr := skips_r (n := FUEL) v.id (o :: t) v.base (fuel_two (by simp; omega) (by omega)) (by simp; omega) (by omega)
  rw [hsm] at hsr
  cases hcp : !decide (pred = -1) && cut v.id o pred
  · rw [hcp, cond_false] at ht
    refine bnd ht ?_
    refine bnd hrw ?_
    simp only [mkT, Bool.not_true, cond_false, e9, hsr, Option.bind_some, e10, e11, cond_true, ine_self, e5, e6, e7, askT]
    have z : ine 3 2 = true := rfl
    rw [z, cond_true, ieq_self, ieq_self]; rfl
  · rw [hcp, cond_true] at ht
    refine bnd ht ?_
    refine bnd hrw ?_
    simp only [Bool.and_eq_true, Bool.not_eq_true', decide_eq_false_iff_not] at hcp
    simp only [mkT, Bool.not_true, cond_false, e9, hsr, Option.bind_some, e10, e11, cond_true, ine_self, e5, e6, e7, askT, in_r, hcp.2]
    have hpp : isP pred = true := by
      rcases rightM_pr C.hm rfl with h | h
      · exact absurd h hcp.1
      · exact h
    have hm2 : F24 FUEL (tell14 v pred (-1) nx).k (tell14 v pred (-1) nx).c (tell14 v pred (-1) nx).f (tell14 v pred (-1) nx).t (tell14 v pred (-1) nx).key (tell14 v pred (-1) nx).s (tell14 v pred (-1) nx).d (tell14 v pred (-1) nx).p (tell14 v pred (-1) nx).pr (tell14 v pred (-1) nx).l (tell14 v pred (-1) nx).ik (tell14 v pred (-1) nx).iv (tell14 v pred (-1) nx).ir (tell14 v pred (-1) nx).ig (tell14 v pred (-1) nx).cd = some (rightM (tell14 v pred (-1) nx)) := mright_r FUEL (tell14 v pred (-1) nx).k (tell14 v pred (-1) nx).c (tell14 v pred (-1) nx).f (tell14 v pred (-1) nx).t (tell14 v pred (-1) nx).key (tell14 v pred (-1) nx).s (tell14 v pred (-1) nx).d (tell14 v pred (-1) nx).p (tell14 v pred (-1) nx).pr (tell14 v pred (-1) nx).l (tell14 v pred (-1) nx).ik (tell14 v pred (-1) nx).iv (tell14 v pred (-1) nx).ir (tell14 v pred (-1) nx).ig (tell14 v pred (-1) nx).cd (show nx.length < 1000 by omega)
    refine bnd hm2 ?_
    cases hM2 : rightM (tell14 v pred (-1) nx)
    · rfl
    rw [Bool.not_true, cond_false, right_r (by omega) pred nx (by omega), Option.bind_some]
    cases hg2 : good pred nx
    · rfl
    rw [Bool.not_true, cond_false, skips_r pred nx v.base (fuel_two (by omega) (by omega)) (by omega) (by omega), Option.bind_some]
    cases hs3 : skp pred nx v.base
    rotate_left
    · rfl
    rw [cond_false]
    have hrv : rightV { v with lst := o :: t } = true := by rw [← k2]; exact k4
    have C2 : Cnt { v with lst := o :: t } 2 pred (tell14 v pred (-1) nx) := ⟨hrv, .inr (.inl rfl), hpp, hM2, rfl, rfl, rfl⟩
    obtain ⟨t', u', j1, j2, j3, j4, j5⟩ := made_cnt C2
    have hpn : v.id ≠ pred := by
      intro e
      have h2 := hcp.2
      rw [← e] at h2
      unfold cut fr at h2
      simp only [Bool.and_eq_true, decide_eq_true_eq] at h2
      omega
    have hmk2 : made v.id pred nx = pred :: t' := congrArg VW.lst j2
    have hsm2 : skp v.id (pred :: t') v.base = false := by
      rw [← hmk2]; exact made_skips hx hpp hpn (cut_less hnear hcp.2) hs3
    have htl2 : t'.length < 4 := by have := good_len j3; simp at this; omega
    have ht2 := told_p (n := FUEL) (by omega) { v with lst := o :: t } (show (0 : Int) ≤ 2 by decide) pred (tell14 v pred (-1) nx) (show v.base.length < 1000 by omega) (show (o :: t).length < 1000 by simp; omega) (show nx.length < 1000 by omega)
    have htv2 : toldV { v with lst := o :: t } 2 pred (tell14 v pred (-1) nx) = (madeV { v with lst := o :: t } (tell14 v pred (-1) nx), 3, pred, [askT 3 pred 3]) := by
      unfold toldV
      rw [(count_iff (by decide)).2 C2, j5]; rfl
    rw [htv2, j2] at ht2
    have hrw2 := rightv_r fuel_v { v with lst := pred :: t' } (show (pred :: t').length < 1000 by simp; omega)
    have j4' : rightV { v with lst := pred :: t' } = true := by rw [j2] at j4; exact j4
    rw [j4'] at hrw2
    have hsr2 := skips_r (n := FUEL) v.id (pred :: t') v.base (fuel_two (by simp; omega) (by omega)) (by simp; omega) (by omega)
    rw [hsm2] at hsr2
    refine bnd ht2 ?_
    refine bnd hrw2 ?_
    simp only [mkT, hsr2, Option.bind_some, Bool.not_false, cond_true, e12, e10, e11, ieq_self, e5', Bool.and_true]

end Go.Proofs.YtjlihanmpblkiaaDoor
