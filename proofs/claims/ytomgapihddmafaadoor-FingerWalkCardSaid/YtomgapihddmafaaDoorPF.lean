/-
  In plain words: fingers.
-/
import Derived.Test.YtomgapihddmafaaDoorPH
namespace Go.Proofs.YtomgapihddmafaaDoor
open Go Go.RowKit

theorem cnd {α : Type} {b : Bool} {x y z : α} (h1 : b = true → x = z) (h2 : b = false → y = z) : (bif b then x else y) = z := by
  cases b
  · exact h2 rfl
  · exact h1 rfl
/-! ### Sixteen fingers as a row. -/
theorem q16 {l : List Int} (h : l.length = 16) : ([l.getD 0 0, l.getD 1 0, l.getD 2 0, l.getD 3 0, l.getD 4 0, l.getD 5 0, l.getD 6 0, l.getD 7 0, l.getD 8 0, l.getD 9 0, l.getD 10 0, l.getD 11 0, l.getD 12 0, l.getD 13 0, l.getD 14 0, l.getD 15 0] : List Int) = l := by
  match l, h with
  | [_, _, _, _, _, _, _, _, _, _, _, _, _, _, _, _], _ => rfl
/-- A view with fingers. -/
def mkV (id : Int) (b s : List Int) (p : Int) (l : List Int) : VW := ⟨id, b, s, p, l.getD 0 0, l.getD 1 0, l.getD 2 0, l.getD 3 0, l.getD 4 0, l.getD 5 0, l.getD 6 0, l.getD 7 0, l.getD 8 0, l.getD 9 0, l.getD 10 0, l.getD 11 0, l.getD 12 0, l.getD 13 0, l.getD 14 0, l.getD 15 0⟩
theorem mkV_fg {id : Int} {b s : List Int} {p : Int} {l : List Int} (h : l.length = 16) : (mkV id b s p l).fg = l := q16 h
theorem mkV_right {id : Int} {b s : List Int} {p : Int} {l : List Int} (h : l.length = 16) : rightV (mkV id b s p l) = (isP id && (goodBase b && (good id s && (oth id p && l.all (oth id))))) := by
  unfold rightV
  rw [mkV_fg h]; rfl
theorem mkV_set {id : Int} {b s : List Int} {p : Int} {l : List Int} {i : Nat} {x : Int} (h : l.length = 16) (hr : rightV (mkV id b s p l) = true) (hx : oth id x = true) : rightV (mkV id b s p (l.set i x)) = true := by
  rw [mkV_right h] at hr
  rw [mkV_right (by rw [List.length_set]; exact h)]
  simp only [Bool.and_eq_true, List.all_eq_true] at hr ⊢
  refine ⟨hr.1, hr.2.1, hr.2.2.1, hr.2.2.2.1, fun y hy => ?_⟩
  rcases List.mem_or_eq_of_mem_set hy with hy | rfl
  · exact hr.2.2.2.2 y hy
  · exact hx
theorem mkV_first {id : Int} {b s : List Int} {p : Int} {l l' : List Int} (h : rightV (mkV id b s p l) = true) (h' : rightV (mkV id b s p l') = true) : firstV (mkV id b s p l) = firstV (mkV id b s p l') := by
  unfold firstV; rw [h, h']; rfl
theorem oth_first {v : VW} (h : rightV v = true) : oth v.id (firstV v) = true := by
  obtain ⟨f1, f2⟩ := firstV_ok h
  unfold oth; rw [f1, Bool.true_and, decide_eq_true f2, Bool.or_true]
/-- An owner as a finger. -/
def ownd (id o : Int) : Int := if o = id then -1 else o

/-! ### Starts. -/
def stt (id i : Int) : Int := if 0 ≤ i ∧ i < 16 then pl (pl id + 2 ^ i.toNat) else pl id
theorem two_le {k : Nat} (h : k ≤ 15) : (2 : Int) ^ k ≤ 32768 ∧ 0 < (2 : Int) ^ k := by
  refine ⟨?_, Int.pow_pos (by decide)⟩
  have h1 : (2 : Nat) ^ k ≤ 2 ^ 15 := Nat.pow_le_pow_right (by decide) h
  have h2 : ((2 ^ k : Nat) : Int) = (2 : Int) ^ k := by push_cast; rfl
  omega
theorem starts_at : ∀ k : Nat, k < 16 → ([1, 2, 4, 8, 16, 32, 64, 128, 256, 512, 1024, 2048, 4096, 8192, 16384, 32768] : List Int).getD k 0 = 2 ^ k := by decide
theorem start_p (n : Nat) (id i : Int) : F29 n id i = some (stt id i) := by
  unfold F29 stt
  simp only [place_p, Option.bind_some]
  by_cases h0 : i < 0
  · rw [show ilt i 0 = true from decide_eq_true h0, if_neg (by omega)]; rfl
  rw [show ilt i 0 = false from decide_eq_false h0, cond_false]
  by_cases h1 : 16 ≤ i
  · rw [show ige i 16 = true from decide_eq_true h1, if_neg (by omega)]; rfl
  rw [show ige i 16 = false from decide_eq_false (by omega), cond_false, if_pos (by omega)]
  have hk : i.toNat < 16 := by omega
  have e1 : inb i 16 = true := by unfold inb; rw [decide_eq_true (by omega : 0 ≤ i), decide_eq_true (by omega : i < (16 : Nat))]; rfl
  have e2 : nlt i.toNat 16 = true := decide_eq_true hk
  obtain ⟨b1, b2⟩ := two_le (k := i.toNat) (by omega)
  have b3 := pl_bd id
  rw [e1, e2, starts_at _ hk]
  simp only [cond_true, iadd]
  rw [wrap_mid (by omega) (by omega)]
theorem start_c (id : Int) (i : Nat) (hi : i < 16) : ∀ (m k n : Nat), k + m = i → m < n → F25_c0 n id (ofN i) (2 ^ k) (ofN k) = some (pl (pl id + 2 ^ i))
  | _, _, 0, _, h => by omega
  | 0, k, n + 1, hk, _ => by
    have : k = i := by omega
    subst this
    simp only [F25_c0, place_r, Option.bind_some]
    rw [show ilt (ofN k) (ofN k) = false from decide_eq_false (by omega), cond_false]
    obtain ⟨b1, b2⟩ := two_le (k := k) (by omega)
    have b3 := pl_bd id
    simp only [iadd]
    rw [wrap_mid (by omega) (by omega)]
  | m + 1, k, n + 1, hk, hn => by
    simp only [F25_c0]
    rw [show ilt (ofN k) (ofN i) = true from decide_eq_true (by simp only [ofN]; omega), cond_true]
    obtain ⟨b1, b2⟩ := two_le (k := k) (by omega)
    have e : imul .i64 2 (2 ^ k) = 2 ^ (k + 1) := by
      simp only [imul]; rw [wrap_mid (by omega) (by omega), Int.pow_succ, Int.mul_comm]
    rw [e, show iadd .i64 (ofN k) 1 = ofN (k + 1) by simp only [iadd, ofN]; rw [wrap_mid (by omega) (by omega)]; omega]
    exact start_c id i hi m (k + 1) n (by omega) (by omega)
theorem start_r {n : Nat} (hn : 100 < n) (id i : Int) : F25 n id i = some (stt id i) := by
  unfold F25 stt
  simp only [place_r, Option.bind_some]
  by_cases h0 : i < 0
  · rw [show ilt i 0 = true from decide_eq_true h0, if_neg (by omega)]; rfl
  rw [show ilt i 0 = false from decide_eq_false h0, cond_false]
  by_cases h1 : 16 ≤ i
  · rw [show ige i 16 = true from decide_eq_true h1, if_neg (by omega)]; rfl
  rw [show ige i 16 = false from decide_eq_false (by omega), cond_false, if_pos (by omega)]
  have e : i = ofN i.toNat := by simp only [ofN]; omega
  have := start_c id i.toNat (by omega) i.toNat 0 n (by omega) (by omega)
  rw [← e] at this
  exact this
def inR (i : Int) : Bool := decide (0 ≤ i) && decide (i < 16)
def startV (v : VW) (i : Int) : Int × Int := bif rightV v && inR i then (stt v.id i, 0) else (0, 2)
theorem inR_of (i : Int) (A B : Option (Int × Int)) : (bif ilt i 0 then A else bif ige i 16 then A else B) = bif inR i then B else A := by
  unfold inR
  by_cases h0 : i < 0
  · rw [show ilt i 0 = true from decide_eq_true h0, decide_eq_false (by omega : ¬ 0 ≤ i)]; rfl
  · rw [show ilt i 0 = false from decide_eq_false h0, decide_eq_true (by omega : 0 ≤ i)]
    by_cases h1 : i < 16
    · rw [show ige i 16 = false from decide_eq_false (by omega), decide_eq_true h1]; rfl
    · rw [show ige i 16 = true from decide_eq_true (by omega), decide_eq_false h1]; rfl
theorem fstart_p {n : Nat} (hn : 0 < n) (a0 : Int) (a1 a2 : List Int) (a3 a4 a5 a6 a7 a8 a9 a10 a11 a12 a13 a14 a15 a16 a17 a18 a19 : Int) (i : Int) : F10 n a0 a1 a2 a3 a4 a5 a6 a7 a8 a9 a10 a11 a12 a13 a14 a15 a16 a17 a18 a19 i = some (startV ⟨a0, a1, a2, a3, a4, a5, a6, a7, a8, a9, a10, a11, a12, a13, a14, a15, a16, a17, a18, a19⟩ i) := by
  unfold F10 startV
  have hf := fuel_big
  obtain ⟨m, rfl⟩ : ∃ m, n = m + 1 := Nat.exists_eq_succ_of_ne_zero (by omega)
  rw [viewR_p (show 70000 < FUEL by omega), start_p]
  simp only [Option.bind_some, F10_c0, inR_of]
  cases inR i
  · rw [Bool.and_false]; rfl
  · cases rightV ⟨a0, a1, a2, a3, a4, a5, a6, a7, a8, a9, a10, a11, a12, a13, a14, a15, a16, a17, a18, a19⟩ <;> rfl
theorem fstart_r (n : Nat) (a0 : Int) (a1 a2 : List Int) (a3 a4 a5 a6 a7 a8 a9 a10 a11 a12 a13 a14 a15 a16 a17 a18 a19 : Int) (i : Int) (h : a2.length ≤ 9223372036854775807) : F11 n a0 a1 a2 a3 a4 a5 a6 a7 a8 a9 a10 a11 a12 a13 a14 a15 a16 a17 a18 a19 i = some (startV ⟨a0, a1, a2, a3, a4, a5, a6, a7, a8, a9, a10, a11, a12, a13, a14, a15, a16, a17, a18, a19⟩ i) := by
  unfold F11 startV
  have hf := fuel_big
  rw [viewR_r (show 70000 < FUEL by omega) a0 a1 a2 a3 a4 a5 a6 a7 a8 a9 a10 a11 a12 a13 a14 a15 a16 a17 a18 a19 h, start_r (by omega)]
  simp only [Option.bind_some, inR_of]
  cases rightV ⟨a0, a1, a2, a3, a4, a5, a6, a7, a8, a9, a10, a11, a12, a13, a14, a15, a16, a17, a18, a19⟩
  · rfl
  · cases inR i <;> rfl
/-- What is told at once. -/
def onceV (v : VW) (i : Int) : Int × Bool := bif (rightV v && inR i) && upt v.id (firstV v) (stt v.id i) then (firstV v, true) else (0, false)
theorem fonce_p (n : Nat) (a0 : Int) (a1 a2 : List Int) (a3 a4 a5 a6 a7 a8 a9 a10 a11 a12 a13 a14 a15 a16 a17 a18 a19 : Int) (i : Int) : F12 n a0 a1 a2 a3 a4 a5 a6 a7 a8 a9 a10 a11 a12 a13 a14 a15 a16 a17 a18 a19 i = some (onceV ⟨a0, a1, a2, a3, a4, a5, a6, a7, a8, a9, a10, a11, a12, a13, a14, a15, a16, a17, a18, a19⟩ i) := by
  unfold F12 onceV
  have hf := fuel_big
  rw [fstart_p (by omega), first_v]
  simp only [Option.bind_some, upto_p]
  unfold startV
  cases (rightV ⟨a0, a1, a2, a3, a4, a5, a6, a7, a8, a9, a10, a11, a12, a13, a14, a15, a16, a17, a18, a19⟩ && inR i)
  · rfl
  · simp only [cond_true, Bool.true_and, show ine 0 0 = false from rfl, cond_false]
    cases upt a0 (firstV ⟨a0, a1, a2, a3, a4, a5, a6, a7, a8, a9, a10, a11, a12, a13, a14, a15, a16, a17, a18, a19⟩) (stt a0 i) <;> rfl
theorem fonce_r (n : Nat) (a0 : Int) (a1 a2 : List Int) (a3 a4 a5 a6 a7 a8 a9 a10 a11 a12 a13 a14 a15 a16 a17 a18 a19 : Int) (i : Int) (h : a2.length ≤ 9223372036854775807) : F13 n a0 a1 a2 a3 a4 a5 a6 a7 a8 a9 a10 a11 a12 a13 a14 a15 a16 a17 a18 a19 i = some (onceV ⟨a0, a1, a2, a3, a4, a5, a6, a7, a8, a9, a10, a11, a12, a13, a14, a15, a16, a17, a18, a19⟩ i) := by
  unfold F13 onceV
  have hf := fuel_big
  rw [fstart_r FUEL a0 a1 a2 a3 a4 a5 a6 a7 a8 a9 a10 a11 a12 a13 a14 a15 a16 a17 a18 a19 i h, first_vr FUEL a0 a1 a2 a3 a4 a5 a6 a7 a8 a9 a10 a11 a12 a13 a14 a15 a16 a17 a18 a19 h]
  simp only [Option.bind_some, upto_r]
  unfold startV
  cases (rightV ⟨a0, a1, a2, a3, a4, a5, a6, a7, a8, a9, a10, a11, a12, a13, a14, a15, a16, a17, a18, a19⟩ && inR i)
  · rfl
  · simp only [cond_true, Bool.true_and, show ine 0 0 = false from rfl, cond_false]
    cases upt a0 (firstV ⟨a0, a1, a2, a3, a4, a5, a6, a7, a8, a9, a10, a11, a12, a13, a14, a15, a16, a17, a18, a19⟩) (stt a0 i) <;> rfl

/-! ### Set. -/
theorem owned_p (n : Nat) (a0 : Int) (a1 a2 : List Int) (a3 a4 a5 a6 a7 a8 a9 a10 a11 a12 a13 a14 a15 a16 a17 a18 a19 : Int) (o : Int) : F34 n a0 a1 a2 a3 a4 a5 a6 a7 a8 a9 a10 a11 a12 a13 a14 a15 a16 a17 a18 a19 o = some (ownd a0 o) := by
  unfold F34 ownd
  rw [ieq_dec]
  by_cases h : o = a0 <;> simp [h]
theorem with_p (n : Nat) (a0 : Int) (a1 a2 : List Int) (a3 a4 a5 a6 a7 a8 a9 a10 a11 a12 a13 a14 a15 a16 a17 a18 a19 : Int) (l : List Int) (h1 : a1.length < 1000) (h2 : a2.length < 1000) : F35 n a0 a1 a2 a3 a4 a5 a6 a7 a8 a9 a10 a11 a12 a13 a14 a15 a16 a17 a18 a19 (l.getD 0 0) (l.getD 1 0) (l.getD 2 0) (l.getD 3 0) (l.getD 4 0) (l.getD 5 0) (l.getD 6 0) (l.getD 7 0) (l.getD 8 0) (l.getD 9 0) (l.getD 10 0) (l.getD 11 0) (l.getD 12 0) (l.getD 13 0) (l.getD 14 0) (l.getD 15 0) = some ⟨a0, a3, l.getD 0 0, l.getD 1 0, l.getD 2 0, l.getD 3 0, l.getD 4 0, l.getD 5 0, l.getD 6 0, l.getD 7 0, l.getD 8 0, l.getD 9 0, l.getD 10 0, l.getD 11 0, l.getD 12 0, l.getD 13 0, l.getD 14 0, l.getD 15 0, a1, a2⟩ := by
  unfold F35
  rw [own_p FUEL a0 a1 a2 a3 a4 a5 a6 a7 a8 a9 a10 a11 a12 a13 a14 a15 a16 a17 a18 a19 h1 h2]
  simp only [Option.bind_some, ieq_dec, Bool.and_true]
  refine cnd (fun _ => rfl) fun hc => ?_
  · simp only [Bool.not_eq_false', Bool.and_eq_true, decide_eq_true_eq] at hc
    obtain ⟨e0, e1, e2, e3, e4, e5, e6, e7, e8, e9, e10, e11, e12, e13, e14, e15⟩ := hc
    rw [e0, e1, e2, e3, e4, e5, e6, e7, e8, e9, e10, e11, e12, e13, e14, e15]
/-- A view whose finger is set. -/
def setV (v : VW) (l : List Int) (i o : Int) : List Int × Int := bif (rightV v && inR i) && isP o then (l.set i.toNat (ownd v.id o), 0) else (l, 2)
theorem inR_in {i : Int} (h : inR i = true) : inb i 16 = true ∧ nlt i.toNat 16 = true := by
  unfold inR at h
  simp only [Bool.and_eq_true, decide_eq_true_eq] at h
  refine ⟨?_, decide_eq_true (by omega)⟩
  unfold inb; rw [decide_eq_true h.1, decide_eq_true (by omega : i < (16 : Nat))]; rfl
theorem fset_p {n : Nat} (hn : 0 < n) (a0 : Int) (a1 a2 : List Int) (a3 a4 a5 a6 a7 a8 a9 a10 a11 a12 a13 a14 a15 a16 a17 a18 a19 : Int) (i o : Int) (h1 : a1.length < 1000) (h2 : a2.length < 1000) : ∃ l e, setV ⟨a0, a1, a2, a3, a4, a5, a6, a7, a8, a9, a10, a11, a12, a13, a14, a15, a16, a17, a18, a19⟩ [a4, a5, a6, a7, a8, a9, a10, a11, a12, a13, a14, a15, a16, a17, a18, a19] i o = (l, e) ∧ F14 n a0 a1 a2 a3 a4 a5 a6 a7 a8 a9 a10 a11 a12 a13 a14 a15 a16 a17 a18 a19 i o = some ⟨a0, a3, l.getD 0 0, l.getD 1 0, l.getD 2 0, l.getD 3 0, l.getD 4 0, l.getD 5 0, l.getD 6 0, l.getD 7 0, l.getD 8 0, l.getD 9 0, l.getD 10 0, l.getD 11 0, l.getD 12 0, l.getD 13 0, l.getD 14 0, l.getD 15 0, e, a1, a2⟩ := by
  unfold F14 setV
  obtain ⟨m, rfl⟩ : ∃ m, n = m + 1 := Nat.exists_eq_succ_of_ne_zero (by omega)
  rw [fstart_p (show 0 < FUEL by unfold FUEL; omega)]
  simp only [Option.bind_some, isp_finger, owned_p, F14_c0]
  rw [own_p FUEL a0 a1 a2 a3 a4 a5 a6 a7 a8 a9 a10 a11 a12 a13 a14 a15 a16 a17 a18 a19 h1 h2]
  simp only [Option.bind_some]
  unfold startV
  cases hc : (rightV ⟨a0, a1, a2, a3, a4, a5, a6, a7, a8, a9, a10, a11, a12, a13, a14, a15, a16, a17, a18, a19⟩ && inR i)
  · exact ⟨_, _, rfl, rfl⟩
  · simp only [cond_true, show ine 0 0 = false from rfl, cond_false, Bool.true_and]
    cases isP o
    · exact ⟨_, _, rfl, rfl⟩
    · simp only [Bool.not_true, cond_false, cond_true]
      rw [Bool.and_eq_true] at hc
      obtain ⟨e1, e2⟩ := inR_in hc.2
      rw [e1, e2]
      simp only [cond_true]
      refine ⟨_, _, rfl, ?_⟩
      rw [with_p FUEL a0 a1 a2 a3 a4 a5 a6 a7 a8 a9 a10 a11 a12 a13 a14 a15 a16 a17 a18 a19 ([a4, a5, a6, a7, a8, a9, a10, a11, a12, a13, a14, a15, a16, a17, a18, a19].set i.toNat (ownd a0 o)) h1 h2]; rfl
theorem fset_r (n : Nat) (a0 : Int) (a1 a2 : List Int) (a3 a4 a5 a6 a7 a8 a9 a10 a11 a12 a13 a14 a15 a16 a17 a18 a19 : Int) (i o : Int) (h1 : a1.length < 1000) (h2 : a2.length < 1000) : ∃ l e, setV ⟨a0, a1, a2, a3, a4, a5, a6, a7, a8, a9, a10, a11, a12, a13, a14, a15, a16, a17, a18, a19⟩ [a4, a5, a6, a7, a8, a9, a10, a11, a12, a13, a14, a15, a16, a17, a18, a19] i o = (l, e) ∧ F15 n a0 a1 a2 a3 a4 a5 a6 a7 a8 a9 a10 a11 a12 a13 a14 a15 a16 a17 a18 a19 i o = some ⟨a0, a3, l.getD 0 0, l.getD 1 0, l.getD 2 0, l.getD 3 0, l.getD 4 0, l.getD 5 0, l.getD 6 0, l.getD 7 0, l.getD 8 0, l.getD 9 0, l.getD 10 0, l.getD 11 0, l.getD 12 0, l.getD 13 0, l.getD 14 0, l.getD 15 0, e, a1, a2⟩ := by
  unfold F15 setV
  rw [own_r FUEL a0 a1 a2 a3 a4 a5 a6 a7 a8 a9 a10 a11 a12 a13 a14 a15 a16 a17 a18 a19 h1 h2]
  simp only [Option.bind_some]
  rw [fstart_r FUEL a0 a1 a2 a3 a4 a5 a6 a7 a8 a9 a10 a11 a12 a13 a14 a15 a16 a17 a18 a19 i (by omega)]
  simp only [Option.bind_some]
  unfold startV
  cases hc : (rightV ⟨a0, a1, a2, a3, a4, a5, a6, a7, a8, a9, a10, a11, a12, a13, a14, a15, a16, a17, a18, a19⟩ && inR i)
  · exact ⟨_, _, rfl, rfl⟩
  · simp only [cond_true, show ine 0 0 = false from rfl, cond_false, Bool.true_and]
    rw [Bool.and_eq_true] at hc
    obtain ⟨e1, e2⟩ := inR_in hc.2
    rw [e1, e2]
    simp only [cond_true]
    have hl : ([a4, a5, a6, a7, a8, a9, a10, a11, a12, a13, a14, a15, a16, a17, a18, a19] : List Int).length = 16 := rfl
    by_cases o0 : o < 0
    · have : isP o = false := by unfold isP; rw [decide_eq_false (by omega : ¬ 0 ≤ o)]; rfl
      rw [show ilt o 0 = true from decide_eq_true o0, this]
      exact ⟨_, _, rfl, rfl⟩
    · rw [show ilt o 0 = false from decide_eq_false o0, cond_false]
      by_cases o1 : 65536 ≤ o
      · have : isP o = false := by unfold isP; rw [decide_eq_false (by omega : ¬ o < 65536), Bool.and_false]
        rw [show ige o 65536 = true from decide_eq_true o1, this]
        exact ⟨_, _, rfl, rfl⟩
      · have : isP o = true := isP_iff.2 (by omega)
        rw [show ige o 65536 = false from decide_eq_false (by omega), this, cond_false, cond_true]
        unfold ownd
        have hq := q16 (l := [a4, a5, a6, a7, a8, a9, a10, a11, a12, a13, a14, a15, a16, a17, a18, a19].set i.toNat o) (by rw [List.length_set]; rfl)
        rw [hq, List.set_set, ieq_dec]
        by_cases ho : o = a0
        · rw [decide_eq_true ho, cond_true, if_pos ho]
          exact ⟨_, _, rfl, rfl⟩
        · rw [decide_eq_false ho, cond_false, if_neg ho]
          exact ⟨_, _, rfl, rfl⟩

/-! ### Walk. -/
def wlk (v : VW) : Nat → Nat → List Int → List Int × (Int × (Int × Bool))
  | 0, _, l => (l, 0, 0, false)
  | m + 1, i, l => bif (onceV v (ofN i)).2 then wlk v m (i + 1) (l.set i (firstV v)) else (l, ofN i, stt v.id (ofN i), true)
theorem inR_nat {i : Nat} (h : i < 16) : inR (ofN i) = true := by
  unfold inR ofN; rw [decide_eq_true (by omega : (0 : Int) ≤ i), decide_eq_true (by omega : (i : Int) < 16)]; rfl
theorem once_first {v : VW} {i : Int} (h : (onceV v i).2 = true) : onceV v i = (firstV v, true) := by
  unfold onceV at h ⊢
  cases hc : ((rightV v && inR i) && upt v.id (firstV v) (stt v.id i))
  · rw [hc] at h; cases h
  · rfl
def walkV (v : VW) (l : List Int) (i : Int) : List Int × (Int × (Int × Bool)) := bif rightV v then (bif inR i then wlk v (16 - i.toNat) i.toNat l else wlk v 16 0 l) else (l, 0, 0, false)
theorem fwalk_c (a0 : Int) (a1 a2 : List Int) (a3 a4 a5 a6 a7 a8 a9 a10 a11 a12 a13 a14 a15 a16 a17 a18 a19 : Int) (hr : rightV ⟨a0, a1, a2, a3, a4, a5, a6, a7, a8, a9, a10, a11, a12, a13, a14, a15, a16, a17, a18, a19⟩ = true) (h1 : a1.length < 1000) (h2 : a2.length < 1000) : ∀ (m i n : Nat) (l : List Int), i + m = 16 → m < n → l.length = 16 → ∃ l' x k b, wlk ⟨a0, a1, a2, a3, a4, a5, a6, a7, a8, a9, a10, a11, a12, a13, a14, a15, a16, a17, a18, a19⟩ m i l = (l', x, k, b) ∧ l'.length = 16 ∧
    F17_c0 n (ofN i) a0 a1 a2 a3 a4 a5 a6 a7 a8 a9 a10 a11 a12 a13 a14 a15 a16 a17 a18 a19 0 0 0 0 0 0 0 0 0 0 0 0 0 0 0 0 0 0 0 0 false (l.getD 0 0) (l.getD 1 0) (l.getD 2 0) (l.getD 3 0) (l.getD 4 0) (l.getD 5 0) (l.getD 6 0) (l.getD 7 0) (l.getD 8 0) (l.getD 9 0) (l.getD 10 0) (l.getD 11 0) (l.getD 12 0) (l.getD 13 0) (l.getD 14 0) (l.getD 15 0) = some ⟨a0, a1, a2, a3, l'.getD 0 0, l'.getD 1 0, l'.getD 2 0, l'.getD 3 0, l'.getD 4 0, l'.getD 5 0, l'.getD 6 0, l'.getD 7 0, l'.getD 8 0, l'.getD 9 0, l'.getD 10 0, l'.getD 11 0, l'.getD 12 0, l'.getD 13 0, l'.getD 14 0, l'.getD 15 0, x, k, b⟩
  | _, _, 0, _, _, h, _ => by omega
  | 0, i, n + 1, l, hi, _, hl => by
    have : i = 16 := by omega
    subst this
    have e : ilt (ofN 16) 16 = false := by decide
    refine ⟨l, 0, 0, false, rfl, hl, ?_⟩
    simp only [F17_c0, e, cond_false]
    rw [with_p FUEL a0 a1 a2 a3 a4 a5 a6 a7 a8 a9 a10 a11 a12 a13 a14 a15 a16 a17 a18 a19 l h1 h2]; rfl
  | m + 1, i, n + 1, l, hi, hn, hl => by
    obtain ⟨e1, e2, e3⟩ := lt16 (show i < 16 by omega)
    simp only [F17_c0, e1, e2, ofN_toNat, e3, cond_true, fonce_p, start_p, owned_p, Option.bind_some, fg_ofN i (show i < 16 by omega)]
    rw [wlk]
    cases ho : (onceV ⟨a0, a1, a2, a3, a4, a5, a6, a7, a8, a9, a10, a11, a12, a13, a14, a15, a16, a17, a18, a19⟩ (ofN i)).2
    · refine ⟨l, ofN i, stt a0 (ofN i), true, rfl, hl, ?_⟩
      obtain ⟨j, rfl⟩ : ∃ j, n = j + 1 := Nat.exists_eq_succ_of_ne_zero (by omega)
      simp only [Bool.not_false, cond_true, F17_c1]
      rw [with_p FUEL a0 a1 a2 a3 a4 a5 a6 a7 a8 a9 a10 a11 a12 a13 a14 a15 a16 a17 a18 a19 l h1 h2]; rfl
    · rw [once_first ho]
      obtain ⟨f1, f2⟩ := firstV_ok hr
      have eo : ownd a0 (firstV ⟨a0, a1, a2, a3, a4, a5, a6, a7, a8, a9, a10, a11, a12, a13, a14, a15, a16, a17, a18, a19⟩) = firstV ⟨a0, a1, a2, a3, a4, a5, a6, a7, a8, a9, a10, a11, a12, a13, a14, a15, a16, a17, a18, a19⟩ := by unfold ownd; rw [if_neg (show ¬ firstV ⟨a0, a1, a2, a3, a4, a5, a6, a7, a8, a9, a10, a11, a12, a13, a14, a15, a16, a17, a18, a19⟩ = a0 from f2)]
      have hq := q16 hl
      simp only [Bool.not_true, cond_false, cond_true, eo]
      rw [hq]
      exact fwalk_c a0 a1 a2 a3 a4 a5 a6 a7 a8 a9 a10 a11 a12 a13 a14 a15 a16 a17 a18 a19 hr h1 h2 m (i + 1) n (l.set i (firstV ⟨a0, a1, a2, a3, a4, a5, a6, a7, a8, a9, a10, a11, a12, a13, a14, a15, a16, a17, a18, a19⟩)) (by omega) (by omega) (by rw [List.length_set]; exact hl)
theorem fwalk_p {n : Nat} (hn : 100 < n) (a0 : Int) (a1 a2 : List Int) (a3 a4 a5 a6 a7 a8 a9 a10 a11 a12 a13 a14 a15 a16 a17 a18 a19 : Int) (i : Int) (h1 : a1.length < 1000) (h2 : a2.length < 1000) : ∃ l x k b, walkV ⟨a0, a1, a2, a3, a4, a5, a6, a7, a8, a9, a10, a11, a12, a13, a14, a15, a16, a17, a18, a19⟩ [a4, a5, a6, a7, a8, a9, a10, a11, a12, a13, a14, a15, a16, a17, a18, a19] i = (l, x, k, b) ∧ l.length = 16 ∧ F17 n a0 a1 a2 a3 a4 a5 a6 a7 a8 a9 a10 a11 a12 a13 a14 a15 a16 a17 a18 a19 i = some ⟨a0, a1, a2, a3, l.getD 0 0, l.getD 1 0, l.getD 2 0, l.getD 3 0, l.getD 4 0, l.getD 5 0, l.getD 6 0, l.getD 7 0, l.getD 8 0, l.getD 9 0, l.getD 10 0, l.getD 11 0, l.getD 12 0, l.getD 13 0, l.getD 14 0, l.getD 15 0, x, k, b⟩ := by
  unfold F17 walkV
  have hf := fuel_big
  rw [viewR_p (show 70000 < FUEL by omega)]
  simp only [Option.bind_some]
  cases hr : rightV ⟨a0, a1, a2, a3, a4, a5, a6, a7, a8, a9, a10, a11, a12, a13, a14, a15, a16, a17, a18, a19⟩
  · refine ⟨_, _, _, _, rfl, rfl, ?_⟩
    rw [own_p FUEL a0 a1 a2 a3 a4 a5 a6 a7 a8 a9 a10 a11 a12 a13 a14 a15 a16 a17 a18 a19 h1 h2]; rfl
  · simp only [Bool.not_true, cond_false, cond_true]
    have h0 : (0 : Int) = ofN 0 := rfl
    by_cases i0 : i < 0
    · have hi : inR i = false := by unfold inR; rw [decide_eq_false (by omega : ¬ 0 ≤ i)]; rfl
      rw [show ilt i 0 = true from decide_eq_true i0, hi]
      exact fwalk_c a0 a1 a2 a3 a4 a5 a6 a7 a8 a9 a10 a11 a12 a13 a14 a15 a16 a17 a18 a19 hr h1 h2 16 0 n [a4, a5, a6, a7, a8, a9, a10, a11, a12, a13, a14, a15, a16, a17, a18, a19] rfl (by omega) rfl
    rw [show ilt i 0 = false from decide_eq_false i0, cond_false]
    by_cases i1 : 16 ≤ i
    · have hi : inR i = false := by unfold inR; rw [decide_eq_false (by omega : ¬ i < 16), Bool.and_false]
      rw [show ige i 16 = true from decide_eq_true i1, hi]
      exact fwalk_c a0 a1 a2 a3 a4 a5 a6 a7 a8 a9 a10 a11 a12 a13 a14 a15 a16 a17 a18 a19 hr h1 h2 16 0 n [a4, a5, a6, a7, a8, a9, a10, a11, a12, a13, a14, a15, a16, a17, a18, a19] rfl (by omega) rfl
    have hi : inR i = true := by unfold inR; rw [decide_eq_true (by omega : 0 ≤ i), decide_eq_true (by omega : i < 16)]; rfl
    rw [show ige i 16 = false from decide_eq_false (by omega), hi]
    have := fwalk_c a0 a1 a2 a3 a4 a5 a6 a7 a8 a9 a10 a11 a12 a13 a14 a15 a16 a17 a18 a19 hr h1 h2 (16 - i.toNat) i.toNat n [a4, a5, a6, a7, a8, a9, a10, a11, a12, a13, a14, a15, a16, a17, a18, a19] (by omega) (by omega) rfl
    rw [show ofN i.toNat = i by simp only [ofN]; omega] at this
    exact this
theorem once_same {id : Int} {b s : List Int} {p : Int} {l l' : List Int} {i : Int} (h : rightV (mkV id b s p l) = true) (h' : rightV (mkV id b s p l') = true) : onceV (mkV id b s p l') i = onceV (mkV id b s p l) i := by
  unfold onceV
  rw [h, h', mkV_first h' h]; rfl
theorem rwalk_c (id : Int) (b s : List Int) (p : Int) (l0 : List Int) (hr0 : rightV (mkV id b s p l0) = true) (hs : s.length ≤ 9223372036854775807) : ∀ (m i n : Nat) (l : List Int), i + m = 16 → m < n → l.length = 16 → rightV (mkV id b s p l) = true → ∃ l' x k t, wlk (mkV id b s p l0) m i l = (l', x, k, t) ∧ l'.length = 16 ∧
    F18_c0 n (ofN i) id p (l.getD 0 0) (l.getD 1 0) (l.getD 2 0) (l.getD 3 0) (l.getD 4 0) (l.getD 5 0) (l.getD 6 0) (l.getD 7 0) (l.getD 8 0) (l.getD 9 0) (l.getD 10 0) (l.getD 11 0) (l.getD 12 0) (l.getD 13 0) (l.getD 14 0) (l.getD 15 0) 0 0 0 0 0 0 0 0 0 0 0 0 0 0 0 0 0 0 b s = some ⟨id, p, l'.getD 0 0, l'.getD 1 0, l'.getD 2 0, l'.getD 3 0, l'.getD 4 0, l'.getD 5 0, l'.getD 6 0, l'.getD 7 0, l'.getD 8 0, l'.getD 9 0, l'.getD 10 0, l'.getD 11 0, l'.getD 12 0, l'.getD 13 0, l'.getD 14 0, l'.getD 15 0, x, k, t, b, s⟩
  | _, _, 0, _, _, h, _, _ => by omega
  | 0, i, n + 1, l, hi, _, hl, hr => by
    have : i = 16 := by omega
    subst this
    have e : ilt (ofN 16) 16 = false := by decide
    refine ⟨l, 0, 0, false, rfl, hl, ?_⟩
    simp only [F18_c0, e, cond_false]
  | m + 1, i, n + 1, l, hi, hn, hl, hr => by
    have hf := fuel_big
    obtain ⟨e1, e2, e3⟩ := lt16 (show i < 16 by omega)
    simp only [F18_c0, e1, e2, ofN_toNat, e3, cond_true]
    rw [fonce_r FUEL id b s p (l.getD 0 0) (l.getD 1 0) (l.getD 2 0) (l.getD 3 0) (l.getD 4 0) (l.getD 5 0) (l.getD 6 0) (l.getD 7 0) (l.getD 8 0) (l.getD 9 0) (l.getD 10 0) (l.getD 11 0) (l.getD 12 0) (l.getD 13 0) (l.getD 14 0) (l.getD 15 0) (ofN i) hs, start_r (show 100 < FUEL by omega)]
    simp only [Option.bind_some]
    rw [show onceV ⟨id, b, s, p, l.getD 0 0, l.getD 1 0, l.getD 2 0, l.getD 3 0, l.getD 4 0, l.getD 5 0, l.getD 6 0, l.getD 7 0, l.getD 8 0, l.getD 9 0, l.getD 10 0, l.getD 11 0, l.getD 12 0, l.getD 13 0, l.getD 14 0, l.getD 15 0⟩ (ofN i) = onceV (mkV id b s p l0) (ofN i) from once_same hr0 hr, wlk, fg_ofN i (show i < 16 by omega)]
    cases ho : (onceV (mkV id b s p l0) (ofN i)).2
    · exact ⟨l, ofN i, stt id (ofN i), true, rfl, hl, rfl⟩
    · rw [once_first ho]
      have hq := q16 hl
      simp only [Bool.not_true, cond_false, cond_true]
      rw [hq]
      exact rwalk_c id b s p l0 hr0 hs m (i + 1) n (l.set i (firstV (mkV id b s p l0))) (by omega) (by omega) (by rw [List.length_set]; exact hl) (mkV_set hl hr (oth_first hr0))
theorem rwalk_r {n : Nat} (hn : 100 < n) (a0 : Int) (a1 a2 : List Int) (a3 a4 a5 a6 a7 a8 a9 a10 a11 a12 a13 a14 a15 a16 a17 a18 a19 : Int) (i : Int) (h1 : a1.length < 1000) (h2 : a2.length < 1000) : ∃ l x k b, walkV ⟨a0, a1, a2, a3, a4, a5, a6, a7, a8, a9, a10, a11, a12, a13, a14, a15, a16, a17, a18, a19⟩ [a4, a5, a6, a7, a8, a9, a10, a11, a12, a13, a14, a15, a16, a17, a18, a19] i = (l, x, k, b) ∧ l.length = 16 ∧ F18 n a0 a1 a2 a3 a4 a5 a6 a7 a8 a9 a10 a11 a12 a13 a14 a15 a16 a17 a18 a19 i = some ⟨a0, a3, l.getD 0 0, l.getD 1 0, l.getD 2 0, l.getD 3 0, l.getD 4 0, l.getD 5 0, l.getD 6 0, l.getD 7 0, l.getD 8 0, l.getD 9 0, l.getD 10 0, l.getD 11 0, l.getD 12 0, l.getD 13 0, l.getD 14 0, l.getD 15 0, x, k, b, a1, a2⟩ := by
  unfold F18 walkV
  have hf := fuel_big
  rw [own_r FUEL a0 a1 a2 a3 a4 a5 a6 a7 a8 a9 a10 a11 a12 a13 a14 a15 a16 a17 a18 a19 h1 h2]
  simp only [Option.bind_some]
  rw [viewR_r (show 70000 < FUEL by omega) a0 a1 a2 a3 a4 a5 a6 a7 a8 a9 a10 a11 a12 a13 a14 a15 a16 a17 a18 a19 (by omega)]
  simp only [Option.bind_some]
  cases hr : rightV ⟨a0, a1, a2, a3, a4, a5, a6, a7, a8, a9, a10, a11, a12, a13, a14, a15, a16, a17, a18, a19⟩
  · exact ⟨_, _, _, _, rfl, rfl, rfl⟩
  · simp only [Bool.not_true, cond_false, cond_true]
    have hm : rightV (mkV a0 a1 a2 a3 [a4, a5, a6, a7, a8, a9, a10, a11, a12, a13, a14, a15, a16, a17, a18, a19]) = true := hr
    by_cases i0 : i < 0
    · have hi : inR i = false := by unfold inR; rw [decide_eq_false (by omega : ¬ 0 ≤ i)]; rfl
      rw [show ilt i 0 = true from decide_eq_true i0, hi]
      exact rwalk_c a0 a1 a2 a3 [a4, a5, a6, a7, a8, a9, a10, a11, a12, a13, a14, a15, a16, a17, a18, a19] hm (by omega) 16 0 n [a4, a5, a6, a7, a8, a9, a10, a11, a12, a13, a14, a15, a16, a17, a18, a19] rfl (by omega) rfl hm
    rw [show ilt i 0 = false from decide_eq_false i0, cond_false]
    by_cases i1 : 16 ≤ i
    · have hi : inR i = false := by unfold inR; rw [decide_eq_false (by omega : ¬ i < 16), Bool.and_false]
      rw [show ige i 16 = true from decide_eq_true i1, hi]
      exact rwalk_c a0 a1 a2 a3 [a4, a5, a6, a7, a8, a9, a10, a11, a12, a13, a14, a15, a16, a17, a18, a19] hm (by omega) 16 0 n [a4, a5, a6, a7, a8, a9, a10, a11, a12, a13, a14, a15, a16, a17, a18, a19] rfl (by omega) rfl hm
    have hi : inR i = true := by unfold inR; rw [decide_eq_true (by omega : 0 ≤ i), decide_eq_true (by omega : i < 16)]; rfl
    rw [show ige i 16 = false from decide_eq_false (by omega), hi]
    have := rwalk_c a0 a1 a2 a3 [a4, a5, a6, a7, a8, a9, a10, a11, a12, a13, a14, a15, a16, a17, a18, a19] hm (by omega) (16 - i.toNat) i.toNat n [a4, a5, a6, a7, a8, a9, a10, a11, a12, a13, a14, a15, a16, a17, a18, a19] (by omega) (by omega) rfl hm
    rw [show ofN i.toNat = i by simp only [ofN]; omega] at this
    exact this

/-! ### Owners, tables. -/
def ow (l : List Int) (k : Int) : Int := match l with
  | [] => 0
  | x :: r => ownr k (pl x) (x :: r)
theorem aowner_c (k : Int) : ∀ (r p : List Int) (n : Nat) (q : Int), r.length + 1 < n → (p ++ r).length < 1000 → F40_c1 n (p ++ r) k q (fr k q) (ofN p.length) = some (ownr k q r, true)
  | _, _, 0, _, h, _ => by omega
  | [], p, n + 1, q, h, _ => by
    obtain ⟨j, rfl⟩ : ∃ j, n = j + 1 := Nat.exists_eq_succ_of_ne_zero (by simp at h; omega)
    simp only [F40_c1, List.append_nil, show ieq (ofN p.length) (ofN p.length) = true by simp [ieq], cond_true, F40_c0]
    rw [show ilt (fr k q) 65536 = true from decide_eq_true (fr_bd k q).2]; rfl
  | x :: r, p, n + 1, q, h, hb => by
    simp only [List.length_cons] at h
    have e : ieq (ofN p.length) (ofN (p ++ x :: r).length) = false := by rw [ieq_dec]; exact decide_eq_false (by simp only [ofN, List.length_append, List.length_cons]; omega)
    simp only [F40_c1, e, inb_in, get_in, cond_true, cond_false, far_p, place_p, Option.bind_some]
    simp only [List.length_append, List.length_cons] at hb
    rw [add_in (x := x) (by omega)]
    have h1 := fun q => aowner_c k r (p ++ [x]) n q (by omega) (by simp; omega)
    rw [← in_eq] at h1
    have h2 := h1 (pl x)
    rw [fr_pr] at h2
    rw [h2, h1, ownr]
    simp only [ilt]
    by_cases e3 : fr k x < fr k q <;> simp [e3]
theorem aowner_p {n : Nat} (hn : 2000 < n) (l : List Int) (k : Int) (hne : l ≠ []) (h : l.length < 1000) : F40 n l k = some (ow l k, true) := by
  unfold F40
  cases l with
  | nil => exact absurd rfl hne
  | cons x r =>
    have e1 : ieq 0 (ofN (x :: r).length) = false := by rw [ieq_dec]; exact decide_eq_false (by simp only [ofN, List.length_cons]; omega)
    have e2 : inb 0 (x :: r).length = true := by simp [inb]
    have e3 : (x :: r).getD (Int.toNat 0) 0 = x := rfl
    rw [e1, e2, e3]
    simp only [far_p, place_p, Option.bind_some, cond_false, cond_true]
    rw [show ilt (fr k x) 65536 = true from decide_eq_true (fr_bd k x).2, cond_true]
    have := aowner_c k r [x] n (pl x) (by simp at h; omega) (by simpa using h)
    rw [fr_pr] at this
    rw [show iadd .i64 0 1 = ofN ([x] : List Int).length from (by decide : iadd .i64 0 1 = 1)]
    rw [show [x] ++ r = x :: r from rfl] at this
    rw [this]
    have e4 : ownr k (pl x) (x :: r) = ownr k (pl x) r := by rw [ownr, fr_pr, if_neg (by omega)]
    show some (ownr k (pl x) r, true) = some (ownr k (pl x) (x :: r), true)
    rw [e4]
theorem ow_r {n : Nat} (hn : 2000 < n) (l : List Int) (k : Int) (hne : l ≠ []) (h : l.length < 1000) : F22 n l k = some (ow l k, true) := by
  cases l with
  | nil => exact absurd rfl hne
  | cons x r => exact owner_r hn k x r h
def tbl (id : Int) (os : List Int) : Nat → Nat → List Int → List Int
  | 0, _, l => l
  | m + 1, i, l => tbl id os m (i + 1) (l.set i (ownd id (ow os (stt id (ofN i)))))
theorem tbl_len {id : Int} {os : List Int} : ∀ (m i : Nat) (l : List Int), (tbl id os m i l).length = l.length
  | 0, _, _ => rfl
  | m + 1, i, l => by rw [tbl, tbl_len m, List.length_set]
def tabV (v : VW) (l : List Int) (os : List Int) : List Int × Int := bif rightV v && (decide (0 < os.length) && os.all isP) then (tbl v.id os 16 0 l, 0) else (l, 2)
theorem ftab_c2 (a0 : Int) (a1 a2 : List Int) (a3 a4 a5 a6 a7 a8 a9 a10 a11 a12 a13 a14 a15 a16 a17 a18 a19 : Int) (os : List Int) (h1 : a1.length < 1000) (h2 : a2.length < 1000) (ho : os ≠ []) (hos : os.length < 1000) : ∀ (m i n : Nat) (l : List Int), i + m = 16 → m < n → l.length = 16 →
    F19_c2 n (ofN i) a0 a1 a2 a3 a4 a5 a6 a7 a8 a9 a10 a11 a12 a13 a14 a15 a16 a17 a18 a19 os 0 0 0 0 0 0 0 0 0 0 0 0 0 0 0 0 0 0 (l.getD 0 0) (l.getD 1 0) (l.getD 2 0) (l.getD 3 0) (l.getD 4 0) (l.getD 5 0) (l.getD 6 0) (l.getD 7 0) (l.getD 8 0) (l.getD 9 0) (l.getD 10 0) (l.getD 11 0) (l.getD 12 0) (l.getD 13 0) (l.getD 14 0) (l.getD 15 0) = some ⟨a0, a3, (tbl a0 os m i l).getD 0 0, (tbl a0 os m i l).getD 1 0, (tbl a0 os m i l).getD 2 0, (tbl a0 os m i l).getD 3 0, (tbl a0 os m i l).getD 4 0, (tbl a0 os m i l).getD 5 0, (tbl a0 os m i l).getD 6 0, (tbl a0 os m i l).getD 7 0, (tbl a0 os m i l).getD 8 0, (tbl a0 os m i l).getD 9 0, (tbl a0 os m i l).getD 10 0, (tbl a0 os m i l).getD 11 0, (tbl a0 os m i l).getD 12 0, (tbl a0 os m i l).getD 13 0, (tbl a0 os m i l).getD 14 0, (tbl a0 os m i l).getD 15 0, 0, a1, a2⟩
  | _, _, 0, _, _, h, _ => by omega
  | 0, i, n + 1, l, hi, _, hl => by
    have : i = 16 := by omega
    subst this
    have e : ilt (ofN 16) 16 = false := by decide
    simp only [F19_c2, e, cond_false]
    rw [with_p FUEL a0 a1 a2 a3 a4 a5 a6 a7 a8 a9 a10 a11 a12 a13 a14 a15 a16 a17 a18 a19 l h1 h2]; rfl
  | m + 1, i, n + 1, l, hi, hn, hl => by
    obtain ⟨e1, e2, e3⟩ := lt16 (show i < 16 by omega)
    simp only [F19_c2, e1, e2, ofN_toNat, e3, cond_true, start_p, owned_p, Option.bind_some, fg_ofN i (show i < 16 by omega)]
    rw [aowner_p (show 2000 < FUEL by unfold FUEL; omega) os _ ho hos]
    have hq := q16 hl
    simp only [Option.bind_some]
    rw [hq]
    exact ftab_c2 a0 a1 a2 a3 a4 a5 a6 a7 a8 a9 a10 a11 a12 a13 a14 a15 a16 a17 a18 a19 os h1 h2 ho hos m (i + 1) n (l.set i (ownd a0 (ow os (stt a0 (ofN i))))) (by omega) (by omega) (by rw [List.length_set]; exact hl)
theorem ftab_c0 {n : Nat} (hn : 0 < n) (a0 : Int) (a1 a2 : List Int) (a3 a4 a5 a6 a7 a8 a9 a10 a11 a12 a13 a14 a15 a16 a17 a18 a19 : Int) (h1 : a1.length < 1000) (h2 : a2.length < 1000) : F19_c0 n a0 a1 a2 a3 a4 a5 a6 a7 a8 a9 a10 a11 a12 a13 a14 a15 a16 a17 a18 a19 0 0 0 0 0 0 0 0 0 0 0 0 0 0 0 0 0 0 = some ⟨a0, a3, a4, a5, a6, a7, a8, a9, a10, a11, a12, a13, a14, a15, a16, a17, a18, a19, 2, a1, a2⟩ := by
  obtain ⟨j, rfl⟩ : ∃ j, n = j + 1 := Nat.exists_eq_succ_of_ne_zero (by omega)
  simp only [F19_c0]
  rw [own_p FUEL a0 a1 a2 a3 a4 a5 a6 a7 a8 a9 a10 a11 a12 a13 a14 a15 a16 a17 a18 a19 h1 h2]; rfl
theorem ftab_c1 (a0 : Int) (a1 a2 : List Int) (a3 a4 a5 a6 a7 a8 a9 a10 a11 a12 a13 a14 a15 a16 a17 a18 a19 : Int) (os : List Int) (h1 : a1.length < 1000) (h2 : a2.length < 1000) (ho : os ≠ []) (hos : os.length < 1000) : ∀ (r p : List Int) (n : Nat), os = p ++ r → r.length + 20 < n →
    F19_c1 n os (ofN os.length) (ofN p.length) a0 a1 a2 a3 a4 a5 a6 a7 a8 a9 a10 a11 a12 a13 a14 a15 a16 a17 a18 a19 os 0 0 0 0 0 0 0 0 0 0 0 0 0 0 0 0 0 0 a4 a5 a6 a7 a8 a9 a10 a11 a12 a13 a14 a15 a16 a17 a18 a19 = some (bif r.all isP then ⟨a0, a3, (tbl a0 os 16 0 [a4, a5, a6, a7, a8, a9, a10, a11, a12, a13, a14, a15, a16, a17, a18, a19]).getD 0 0, (tbl a0 os 16 0 [a4, a5, a6, a7, a8, a9, a10, a11, a12, a13, a14, a15, a16, a17, a18, a19]).getD 1 0, (tbl a0 os 16 0 [a4, a5, a6, a7, a8, a9, a10, a11, a12, a13, a14, a15, a16, a17, a18, a19]).getD 2 0, (tbl a0 os 16 0 [a4, a5, a6, a7, a8, a9, a10, a11, a12, a13, a14, a15, a16, a17, a18, a19]).getD 3 0, (tbl a0 os 16 0 [a4, a5, a6, a7, a8, a9, a10, a11, a12, a13, a14, a15, a16, a17, a18, a19]).getD 4 0, (tbl a0 os 16 0 [a4, a5, a6, a7, a8, a9, a10, a11, a12, a13, a14, a15, a16, a17, a18, a19]).getD 5 0, (tbl a0 os 16 0 [a4, a5, a6, a7, a8, a9, a10, a11, a12, a13, a14, a15, a16, a17, a18, a19]).getD 6 0, (tbl a0 os 16 0 [a4, a5, a6, a7, a8, a9, a10, a11, a12, a13, a14, a15, a16, a17, a18, a19]).getD 7 0, (tbl a0 os 16 0 [a4, a5, a6, a7, a8, a9, a10, a11, a12, a13, a14, a15, a16, a17, a18, a19]).getD 8 0, (tbl a0 os 16 0 [a4, a5, a6, a7, a8, a9, a10, a11, a12, a13, a14, a15, a16, a17, a18, a19]).getD 9 0, (tbl a0 os 16 0 [a4, a5, a6, a7, a8, a9, a10, a11, a12, a13, a14, a15, a16, a17, a18, a19]).getD 10 0, (tbl a0 os 16 0 [a4, a5, a6, a7, a8, a9, a10, a11, a12, a13, a14, a15, a16, a17, a18, a19]).getD 11 0, (tbl a0 os 16 0 [a4, a5, a6, a7, a8, a9, a10, a11, a12, a13, a14, a15, a16, a17, a18, a19]).getD 12 0, (tbl a0 os 16 0 [a4, a5, a6, a7, a8, a9, a10, a11, a12, a13, a14, a15, a16, a17, a18, a19]).getD 13 0, (tbl a0 os 16 0 [a4, a5, a6, a7, a8, a9, a10, a11, a12, a13, a14, a15, a16, a17, a18, a19]).getD 14 0, (tbl a0 os 16 0 [a4, a5, a6, a7, a8, a9, a10, a11, a12, a13, a14, a15, a16, a17, a18, a19]).getD 15 0, 0, a1, a2⟩ else ⟨a0, a3, a4, a5, a6, a7, a8, a9, a10, a11, a12, a13, a14, a15, a16, a17, a18, a19, 2, a1, a2⟩)
  | _, _, 0, _, h => by omega
  | [], p, n + 1, hp, h => by
    rw [List.append_nil] at hp
    simp only [List.length_nil] at h
    have h0 : (0 : Int) = ofN 0 := rfl
    simp only [F19_c1]
    rw [show ilt (ofN p.length) (ofN os.length) = false by rw [hp]; exact lt_out, cond_false]
    have := ftab_c2 a0 a1 a2 a3 a4 a5 a6 a7 a8 a9 a10 a11 a12 a13 a14 a15 a16 a17 a18 a19 os h1 h2 ho hos 16 0 n [a4, a5, a6, a7, a8, a9, a10, a11, a12, a13, a14, a15, a16, a17, a18, a19] rfl (by omega) rfl
    exact this
  | x :: r, p, n + 1, hp, h => by
    simp only [List.length_cons] at h
    have hlen : p.length < 1000 := by rw [hp] at hos; simp at hos; omega
    simp only [F19_c1]
    rw [show ilt (ofN p.length) (ofN os.length) = true by rw [hp]; exact lt_in, show inb (ofN p.length) os.length = true by rw [hp]; exact inb_in, show os.getD (ofN p.length).toNat 0 = x by rw [hp]; exact get_in, isp_finger, add_in (x := x) (by omega), ftab_c1 a0 a1 a2 a3 a4 a5 a6 a7 a8 a9 a10 a11 a12 a13 a14 a15 a16 a17 a18 a19 os h1 h2 ho hos r (p ++ [x]) n (by rw [hp, in_eq]) (by omega), ftab_c0 (by omega) a0 a1 a2 a3 a4 a5 a6 a7 a8 a9 a10 a11 a12 a13 a14 a15 a16 a17 a18 a19 h1 h2, List.all_cons]
    simp only [cond_true, Option.bind_some]
    cases isP x <;> rfl
theorem ftab_p {n : Nat} (hn : 2000 < n) (a0 : Int) (a1 a2 : List Int) (a3 a4 a5 a6 a7 a8 a9 a10 a11 a12 a13 a14 a15 a16 a17 a18 a19 : Int) (os : List Int) (h1 : a1.length < 1000) (h2 : a2.length < 1000) (hos : os.length < 1000) : F19 n a0 a1 a2 a3 a4 a5 a6 a7 a8 a9 a10 a11 a12 a13 a14 a15 a16 a17 a18 a19 os = some ⟨a0, a3, ((tabV ⟨a0, a1, a2, a3, a4, a5, a6, a7, a8, a9, a10, a11, a12, a13, a14, a15, a16, a17, a18, a19⟩ [a4, a5, a6, a7, a8, a9, a10, a11, a12, a13, a14, a15, a16, a17, a18, a19] os).1).getD 0 0, ((tabV ⟨a0, a1, a2, a3, a4, a5, a6, a7, a8, a9, a10, a11, a12, a13, a14, a15, a16, a17, a18, a19⟩ [a4, a5, a6, a7, a8, a9, a10, a11, a12, a13, a14, a15, a16, a17, a18, a19] os).1).getD 1 0, ((tabV ⟨a0, a1, a2, a3, a4, a5, a6, a7, a8, a9, a10, a11, a12, a13, a14, a15, a16, a17, a18, a19⟩ [a4, a5, a6, a7, a8, a9, a10, a11, a12, a13, a14, a15, a16, a17, a18, a19] os).1).getD 2 0, ((tabV ⟨a0, a1, a2, a3, a4, a5, a6, a7, a8, a9, a10, a11, a12, a13, a14, a15, a16, a17, a18, a19⟩ [a4, a5, a6, a7, a8, a9, a10, a11, a12, a13, a14, a15, a16, a17, a18, a19] os).1).getD 3 0, ((tabV ⟨a0, a1, a2, a3, a4, a5, a6, a7, a8, a9, a10, a11, a12, a13, a14, a15, a16, a17, a18, a19⟩ [a4, a5, a6, a7, a8, a9, a10, a11, a12, a13, a14, a15, a16, a17, a18, a19] os).1).getD 4 0, ((tabV ⟨a0, a1, a2, a3, a4, a5, a6, a7, a8, a9, a10, a11, a12, a13, a14, a15, a16, a17, a18, a19⟩ [a4, a5, a6, a7, a8, a9, a10, a11, a12, a13, a14, a15, a16, a17, a18, a19] os).1).getD 5 0, ((tabV ⟨a0, a1, a2, a3, a4, a5, a6, a7, a8, a9, a10, a11, a12, a13, a14, a15, a16, a17, a18, a19⟩ [a4, a5, a6, a7, a8, a9, a10, a11, a12, a13, a14, a15, a16, a17, a18, a19] os).1).getD 6 0, ((tabV ⟨a0, a1, a2, a3, a4, a5, a6, a7, a8, a9, a10, a11, a12, a13, a14, a15, a16, a17, a18, a19⟩ [a4, a5, a6, a7, a8, a9, a10, a11, a12, a13, a14, a15, a16, a17, a18, a19] os).1).getD 7 0, ((tabV ⟨a0, a1, a2, a3, a4, a5, a6, a7, a8, a9, a10, a11, a12, a13, a14, a15, a16, a17, a18, a19⟩ [a4, a5, a6, a7, a8, a9, a10, a11, a12, a13, a14, a15, a16, a17, a18, a19] os).1).getD 8 0, ((tabV ⟨a0, a1, a2, a3, a4, a5, a6, a7, a8, a9, a10, a11, a12, a13, a14, a15, a16, a17, a18, a19⟩ [a4, a5, a6, a7, a8, a9, a10, a11, a12, a13, a14, a15, a16, a17, a18, a19] os).1).getD 9 0, ((tabV ⟨a0, a1, a2, a3, a4, a5, a6, a7, a8, a9, a10, a11, a12, a13, a14, a15, a16, a17, a18, a19⟩ [a4, a5, a6, a7, a8, a9, a10, a11, a12, a13, a14, a15, a16, a17, a18, a19] os).1).getD 10 0, ((tabV ⟨a0, a1, a2, a3, a4, a5, a6, a7, a8, a9, a10, a11, a12, a13, a14, a15, a16, a17, a18, a19⟩ [a4, a5, a6, a7, a8, a9, a10, a11, a12, a13, a14, a15, a16, a17, a18, a19] os).1).getD 11 0, ((tabV ⟨a0, a1, a2, a3, a4, a5, a6, a7, a8, a9, a10, a11, a12, a13, a14, a15, a16, a17, a18, a19⟩ [a4, a5, a6, a7, a8, a9, a10, a11, a12, a13, a14, a15, a16, a17, a18, a19] os).1).getD 12 0, ((tabV ⟨a0, a1, a2, a3, a4, a5, a6, a7, a8, a9, a10, a11, a12, a13, a14, a15, a16, a17, a18, a19⟩ [a4, a5, a6, a7, a8, a9, a10, a11, a12, a13, a14, a15, a16, a17, a18, a19] os).1).getD 13 0, ((tabV ⟨a0, a1, a2, a3, a4, a5, a6, a7, a8, a9, a10, a11, a12, a13, a14, a15, a16, a17, a18, a19⟩ [a4, a5, a6, a7, a8, a9, a10, a11, a12, a13, a14, a15, a16, a17, a18, a19] os).1).getD 14 0, ((tabV ⟨a0, a1, a2, a3, a4, a5, a6, a7, a8, a9, a10, a11, a12, a13, a14, a15, a16, a17, a18, a19⟩ [a4, a5, a6, a7, a8, a9, a10, a11, a12, a13, a14, a15, a16, a17, a18, a19] os).1).getD 15 0, (tabV ⟨a0, a1, a2, a3, a4, a5, a6, a7, a8, a9, a10, a11, a12, a13, a14, a15, a16, a17, a18, a19⟩ [a4, a5, a6, a7, a8, a9, a10, a11, a12, a13, a14, a15, a16, a17, a18, a19] os).2, a1, a2⟩ := by
  unfold F19 tabV
  have hf := fuel_big
  rw [viewR_p (show 70000 < FUEL by omega), ftab_c0 (by omega) a0 a1 a2 a3 a4 a5 a6 a7 a8 a9 a10 a11 a12 a13 a14 a15 a16 a17 a18 a19 h1 h2]
  simp only [Option.bind_some]
  cases hr : rightV ⟨a0, a1, a2, a3, a4, a5, a6, a7, a8, a9, a10, a11, a12, a13, a14, a15, a16, a17, a18, a19⟩
  · rw [ieq_dec]
    cases decide (ofN os.length = 0) <;> rfl
  · by_cases ho : os = []
    · subst ho; rfl
    · have hpos : 0 < os.length := by
        cases os with
        | nil => exact absurd rfl ho
        | cons _ _ => simp
      rw [show ieq (ofN os.length) 0 = false by rw [ieq_dec]; exact decide_eq_false (by simp only [ofN]; omega), decide_eq_true hpos]
      simp only [Bool.not_true, cond_false, Bool.true_and]
      have := ftab_c1 a0 a1 a2 a3 a4 a5 a6 a7 a8 a9 a10 a11 a12 a13 a14 a15 a16 a17 a18 a19 os h1 h2 ho hos os [] n rfl (by omega)
      rw [show ofN ([] : List Int).length = 0 from rfl] at this
      rw [this]
      cases os.all isP <;> rfl
theorem rtab_c1 (id p : Int) (b v : List Int) (os : List Int) (ho : os ≠ []) (hos : os.length < 1000) : ∀ (m i n : Nat) (l : List Int), i + m = 16 → m < n → l.length = 16 →
    F20_c1 n os (ofN i) id p (l.getD 0 0) (l.getD 1 0) (l.getD 2 0) (l.getD 3 0) (l.getD 4 0) (l.getD 5 0) (l.getD 6 0) (l.getD 7 0) (l.getD 8 0) (l.getD 9 0) (l.getD 10 0) (l.getD 11 0) (l.getD 12 0) (l.getD 13 0) (l.getD 14 0) (l.getD 15 0) 0 0 0 0 0 0 0 0 0 0 0 0 0 0 0 0 0 0 b v = some ⟨id, p, (tbl id os m i l).getD 0 0, (tbl id os m i l).getD 1 0, (tbl id os m i l).getD 2 0, (tbl id os m i l).getD 3 0, (tbl id os m i l).getD 4 0, (tbl id os m i l).getD 5 0, (tbl id os m i l).getD 6 0, (tbl id os m i l).getD 7 0, (tbl id os m i l).getD 8 0, (tbl id os m i l).getD 9 0, (tbl id os m i l).getD 10 0, (tbl id os m i l).getD 11 0, (tbl id os m i l).getD 12 0, (tbl id os m i l).getD 13 0, (tbl id os m i l).getD 14 0, (tbl id os m i l).getD 15 0, 0, b, v⟩
  | _, _, 0, _, _, h, _ => by omega
  | 0, i, n + 1, l, hi, _, hl => by
    have : i = 16 := by omega
    subst this
    have e : ilt (ofN 16) 16 = false := by decide
    simp only [F20_c1, e, cond_false]; rfl
  | m + 1, i, n + 1, l, hi, hn, hl => by
    have hf := fuel_big
    obtain ⟨e1, e2, e3⟩ := lt16 (show i < 16 by omega)
    have hq := q16 hl
    have ih := fun x => rtab_c1 id p b v os ho hos m (i + 1) n (l.set i x) (by omega) (by omega) (by rw [List.length_set]; exact hl)
    simp only [F20_c1, e1, e2, ofN_toNat, e3, cond_true]
    rw [start_r (show 100 < FUEL by omega)]
    simp only [Option.bind_some]
    rw [ow_r (show 2000 < FUEL by omega) os _ ho hos]
    simp only [Option.bind_some, fg_ofN i (show i < 16 by omega)]
    rw [hq]
    have hq2 := q16 (l := l.set i (ow os (stt id (ofN i)))) (by rw [List.length_set]; exact hl)
    rw [hq2, List.set_set, ih, ih, ieq_dec, tbl]
    unfold ownd
    by_cases h : ow os (stt id (ofN i)) = id
    · rw [decide_eq_true h, if_pos h]; rfl
    · rw [decide_eq_false h, if_neg h]; rfl
theorem rtab_c0 (id p : Int) (b v l : List Int) (os : List Int) (hos : os.length < 1000) (hl : l.length = 16) : ∀ (r q : List Int) (n : Nat) (t : Bool), os = q ++ r → r.length + 20 < n → (t = true → os ≠ []) →
    F20_c0 n os t (ofN q.length) id p (l.getD 0 0) (l.getD 1 0) (l.getD 2 0) (l.getD 3 0) (l.getD 4 0) (l.getD 5 0) (l.getD 6 0) (l.getD 7 0) (l.getD 8 0) (l.getD 9 0) (l.getD 10 0) (l.getD 11 0) (l.getD 12 0) (l.getD 13 0) (l.getD 14 0) (l.getD 15 0) 0 0 0 0 0 0 0 0 0 0 0 0 0 0 0 0 0 0 b v = some (bif t && r.all isP then ⟨id, p, (tbl id os 16 0 l).getD 0 0, (tbl id os 16 0 l).getD 1 0, (tbl id os 16 0 l).getD 2 0, (tbl id os 16 0 l).getD 3 0, (tbl id os 16 0 l).getD 4 0, (tbl id os 16 0 l).getD 5 0, (tbl id os 16 0 l).getD 6 0, (tbl id os 16 0 l).getD 7 0, (tbl id os 16 0 l).getD 8 0, (tbl id os 16 0 l).getD 9 0, (tbl id os 16 0 l).getD 10 0, (tbl id os 16 0 l).getD 11 0, (tbl id os 16 0 l).getD 12 0, (tbl id os 16 0 l).getD 13 0, (tbl id os 16 0 l).getD 14 0, (tbl id os 16 0 l).getD 15 0, 0, b, v⟩ else ⟨id, p, l.getD 0 0, l.getD 1 0, l.getD 2 0, l.getD 3 0, l.getD 4 0, l.getD 5 0, l.getD 6 0, l.getD 7 0, l.getD 8 0, l.getD 9 0, l.getD 10 0, l.getD 11 0, l.getD 12 0, l.getD 13 0, l.getD 14 0, l.getD 15 0, 2, b, v⟩)
  | _, _, 0, _, _, h, _ => by omega
  | [], q, n + 1, t, hp, h, ho => by
    rw [List.append_nil] at hp
    simp only [List.length_nil] at h
    simp only [F20_c0]
    rw [show ilt (ofN q.length) (ofN os.length) = false by rw [hp]; exact lt_out, cond_false]
    cases t
    · rfl
    · have := rtab_c1 id p b v os (ho rfl) hos 16 0 n l rfl (by omega) hl
      exact this
  | x :: r, q, n + 1, t, hp, h, ho => by
    simp only [List.length_cons] at h
    have hlen : q.length < 1000 := by rw [hp] at hos; simp at hos; omega
    have ih := fun t ht => rtab_c0 id p b v l os hos hl r (q ++ [x]) n t (by rw [hp, in_eq]) (by omega) ht
    have hne : os ≠ [] := by rw [hp]; simp
    simp only [F20_c0]
    rw [show ilt (ofN q.length) (ofN os.length) = true by rw [hp]; exact lt_in, show inb (ofN q.length) os.length = true by rw [hp]; exact inb_in, show os.getD (ofN q.length).toNat 0 = x by rw [hp]; exact get_in, add_in (x := x) (by omega), List.all_cons, ih _ (fun _ => hne), ih _ (fun _ => hne)]
    simp only [cond_true]
    cases t
    · rfl
    · unfold isP ige ilt
      by_cases h0 : 0 ≤ x
      · rw [decide_eq_true h0]; rfl
      · rw [decide_eq_false h0]; rfl
theorem rtab_r {n : Nat} (hn : 2000 < n) (a0 : Int) (a1 a2 : List Int) (a3 a4 a5 a6 a7 a8 a9 a10 a11 a12 a13 a14 a15 a16 a17 a18 a19 : Int) (os : List Int) (h1 : a1.length < 1000) (h2 : a2.length < 1000) (hos : os.length < 1000) : F20 n a0 a1 a2 a3 a4 a5 a6 a7 a8 a9 a10 a11 a12 a13 a14 a15 a16 a17 a18 a19 os = some ⟨a0, a3, ((tabV ⟨a0, a1, a2, a3, a4, a5, a6, a7, a8, a9, a10, a11, a12, a13, a14, a15, a16, a17, a18, a19⟩ [a4, a5, a6, a7, a8, a9, a10, a11, a12, a13, a14, a15, a16, a17, a18, a19] os).1).getD 0 0, ((tabV ⟨a0, a1, a2, a3, a4, a5, a6, a7, a8, a9, a10, a11, a12, a13, a14, a15, a16, a17, a18, a19⟩ [a4, a5, a6, a7, a8, a9, a10, a11, a12, a13, a14, a15, a16, a17, a18, a19] os).1).getD 1 0, ((tabV ⟨a0, a1, a2, a3, a4, a5, a6, a7, a8, a9, a10, a11, a12, a13, a14, a15, a16, a17, a18, a19⟩ [a4, a5, a6, a7, a8, a9, a10, a11, a12, a13, a14, a15, a16, a17, a18, a19] os).1).getD 2 0, ((tabV ⟨a0, a1, a2, a3, a4, a5, a6, a7, a8, a9, a10, a11, a12, a13, a14, a15, a16, a17, a18, a19⟩ [a4, a5, a6, a7, a8, a9, a10, a11, a12, a13, a14, a15, a16, a17, a18, a19] os).1).getD 3 0, ((tabV ⟨a0, a1, a2, a3, a4, a5, a6, a7, a8, a9, a10, a11, a12, a13, a14, a15, a16, a17, a18, a19⟩ [a4, a5, a6, a7, a8, a9, a10, a11, a12, a13, a14, a15, a16, a17, a18, a19] os).1).getD 4 0, ((tabV ⟨a0, a1, a2, a3, a4, a5, a6, a7, a8, a9, a10, a11, a12, a13, a14, a15, a16, a17, a18, a19⟩ [a4, a5, a6, a7, a8, a9, a10, a11, a12, a13, a14, a15, a16, a17, a18, a19] os).1).getD 5 0, ((tabV ⟨a0, a1, a2, a3, a4, a5, a6, a7, a8, a9, a10, a11, a12, a13, a14, a15, a16, a17, a18, a19⟩ [a4, a5, a6, a7, a8, a9, a10, a11, a12, a13, a14, a15, a16, a17, a18, a19] os).1).getD 6 0, ((tabV ⟨a0, a1, a2, a3, a4, a5, a6, a7, a8, a9, a10, a11, a12, a13, a14, a15, a16, a17, a18, a19⟩ [a4, a5, a6, a7, a8, a9, a10, a11, a12, a13, a14, a15, a16, a17, a18, a19] os).1).getD 7 0, ((tabV ⟨a0, a1, a2, a3, a4, a5, a6, a7, a8, a9, a10, a11, a12, a13, a14, a15, a16, a17, a18, a19⟩ [a4, a5, a6, a7, a8, a9, a10, a11, a12, a13, a14, a15, a16, a17, a18, a19] os).1).getD 8 0, ((tabV ⟨a0, a1, a2, a3, a4, a5, a6, a7, a8, a9, a10, a11, a12, a13, a14, a15, a16, a17, a18, a19⟩ [a4, a5, a6, a7, a8, a9, a10, a11, a12, a13, a14, a15, a16, a17, a18, a19] os).1).getD 9 0, ((tabV ⟨a0, a1, a2, a3, a4, a5, a6, a7, a8, a9, a10, a11, a12, a13, a14, a15, a16, a17, a18, a19⟩ [a4, a5, a6, a7, a8, a9, a10, a11, a12, a13, a14, a15, a16, a17, a18, a19] os).1).getD 10 0, ((tabV ⟨a0, a1, a2, a3, a4, a5, a6, a7, a8, a9, a10, a11, a12, a13, a14, a15, a16, a17, a18, a19⟩ [a4, a5, a6, a7, a8, a9, a10, a11, a12, a13, a14, a15, a16, a17, a18, a19] os).1).getD 11 0, ((tabV ⟨a0, a1, a2, a3, a4, a5, a6, a7, a8, a9, a10, a11, a12, a13, a14, a15, a16, a17, a18, a19⟩ [a4, a5, a6, a7, a8, a9, a10, a11, a12, a13, a14, a15, a16, a17, a18, a19] os).1).getD 12 0, ((tabV ⟨a0, a1, a2, a3, a4, a5, a6, a7, a8, a9, a10, a11, a12, a13, a14, a15, a16, a17, a18, a19⟩ [a4, a5, a6, a7, a8, a9, a10, a11, a12, a13, a14, a15, a16, a17, a18, a19] os).1).getD 13 0, ((tabV ⟨a0, a1, a2, a3, a4, a5, a6, a7, a8, a9, a10, a11, a12, a13, a14, a15, a16, a17, a18, a19⟩ [a4, a5, a6, a7, a8, a9, a10, a11, a12, a13, a14, a15, a16, a17, a18, a19] os).1).getD 14 0, ((tabV ⟨a0, a1, a2, a3, a4, a5, a6, a7, a8, a9, a10, a11, a12, a13, a14, a15, a16, a17, a18, a19⟩ [a4, a5, a6, a7, a8, a9, a10, a11, a12, a13, a14, a15, a16, a17, a18, a19] os).1).getD 15 0, (tabV ⟨a0, a1, a2, a3, a4, a5, a6, a7, a8, a9, a10, a11, a12, a13, a14, a15, a16, a17, a18, a19⟩ [a4, a5, a6, a7, a8, a9, a10, a11, a12, a13, a14, a15, a16, a17, a18, a19] os).2, a1, a2⟩ := by
  unfold F20 tabV
  have hf := fuel_big
  rw [own_r FUEL a0 a1 a2 a3 a4 a5 a6 a7 a8 a9 a10 a11 a12 a13 a14 a15 a16 a17 a18 a19 h1 h2]
  simp only [Option.bind_some]
  rw [viewR_r (show 70000 < FUEL by omega) a0 a1 a2 a3 a4 a5 a6 a7 a8 a9 a10 a11 a12 a13 a14 a15 a16 a17 a18 a19 (by omega)]
  simp only [Option.bind_some]
  have h0 : (0 : Int) = ofN ([] : List Int).length := rfl
  have e : igt (ofN os.length) 0 = decide (0 < os.length) := by unfold igt ofN; apply decide_eq_decide.2; omega
  cases hr : rightV ⟨a0, a1, a2, a3, a4, a5, a6, a7, a8, a9, a10, a11, a12, a13, a14, a15, a16, a17, a18, a19⟩
  · have := rtab_c0 a0 a3 a1 a2 [a4, a5, a6, a7, a8, a9, a10, a11, a12, a13, a14, a15, a16, a17, a18, a19] os hos rfl os [] n false rfl (by omega) (fun h => by cases h)
    exact this
  · rw [e]
    have := rtab_c0 a0 a3 a1 a2 [a4, a5, a6, a7, a8, a9, a10, a11, a12, a13, a14, a15, a16, a17, a18, a19] os hos rfl os [] n (decide (0 < os.length)) rfl (by omega) (fun h => by
      intro e'; subst e'; cases h)
    refine Eq.trans this ?_
    simp only [Bool.true_and]
    cases (decide (0 < os.length) && os.all isP) <;> rfl
end Go.Proofs.YtomgapihddmafaaDoor
