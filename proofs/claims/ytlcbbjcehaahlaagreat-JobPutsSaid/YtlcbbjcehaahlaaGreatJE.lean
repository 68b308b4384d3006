/-
  Chapter 21, in plain words: a pair that is put to all.
-/
import Derived.Test.YtlcbbjcehaahlaaGreatJB
namespace Go.Proofs.YtlcbbjcehaahlaaGreat
open Go Go.RowKit

section
variable {α : Type}
theorem eqT {b : Bool} {x y z : α} (hb : b = true) (h : x = z) : (bif b then x else y) = z := by rw [hb]; exact h
theorem eqF {b : Bool} {x y z : α} (hb : b = false) (h : y = z) : (bif b then x else y) = z := by rw [hb]; exact h
theorem eqD {b : Bool} {x y z : α} (h1 : b = true → x = z) (h2 : b = false → y = z) : (bif b then x else y) = z := by
  cases b
  · exact h2 rfl
  · exact h1 rfl
theorem ieq_t {a b : Int} (h : a = b) : ieq a b = true := by rw [h]; exact ieq_me b
theorem ieq_f {a b : Int} (h : a ≠ b) : ieq a b = false := by rw [ieq_dec]; exact decide_eq_false h
theorem ine_f {a b : Int} (h : a = b) : ine a b = false := by rw [h]; exact ine_me b
theorem ine_t {a b : Int} (h : a ≠ b) : ine a b = true := by rw [ine_dec, decide_eq_false h]; rfl
theorem getD_mid {p q : List α} {x d : α} : ((p ++ x :: q)).getD (ofN p.length).toNat d = x := by rw [toN]; simp
end
theorem lstB_all (f : Int) : ∀ (r p : List Int), lstB f p r = true → (∀ x ∈ r, isP x = true ∧ x ≠ f ∧ x ∉ p) ∧ r.Nodup
  | [], _, _ => ⟨fun x h => by simp at h, List.nodup_nil⟩
  | x :: r, p, h => by
    simp only [lstB, Bool.and_eq_true, decide_eq_true_eq, Bool.not_eq_true', decide_eq_false_iff_not] at h
    obtain ⟨h1, h2, h3, h4⟩ := h
    obtain ⟨k1, k2⟩ := lstB_all f r (p ++ [x]) h4
    refine ⟨fun y hy => ?_, List.nodup_cons.2 ⟨fun hx => (k1 x hx).2.2 (by simp), k2⟩⟩
    rcases List.mem_cons.1 hy with e | hy
    · rw [e]; exact ⟨h1, h2, h3⟩
    · obtain ⟨j1, j2, j3⟩ := k1 y hy
      exact ⟨j1, j2, fun hp => j3 (by simp [hp])⟩

def askP (k : ByteArray) (v r : Int) (g : Bool) (t : Int) : Int × Int × Int × Int × Int × Bool × Bool × Int × Int × (List (Int)) × ByteArray × Int × Int × Bool × Int := (5, 0, 0, t, 0, false, false, 0, 0, [], k, v, r, g, 0)

theorem tl_put {x8 x9 x10 x11 x12 x13 x14 x15 x16 x17 x18 x19 x20 x21 x22 x23 x24 x25 x26 x27 x28 x29 x30 x31 x32 x33 x34 x35 x36 x37 x38 x39 x40 x41 x42 x43 x44 x45 x46 x47 x48 x49 x50 x51 x52 x53 x54 x55} (L q : List Int) (hL : L.length < 1000) (M : Nat) (h3 : M ≤ 3) : ∀ (r p : List Int) (n : Nat) (x4 t : Bool) (u : List Int) (v : List (Int × Int × Int × Int × Int × Bool × Bool × Int × Int × (List (Int)) × ByteArray × Int × Int × Bool × Int)),
    L = p ++ (r ++ q) → M = p.length + r.length → (p ++ r).Nodup → u.length ≤ p.length → v.length ≤ p.length → r.length < n →
    F12_c2 n 0 M (ofN M) (ofN p.length) x4 0 M L x8 x9 x10 x11 x12 x13 x14 x15 x16 x17 x18 x19 x20 x21 x22 x23 x24 x25 x26 x27 x28 x29 x30 x31 x32 x33 x34 x35 x36 x37 x38 x39 x40 x41 x42 x43 x44 x45 x46 x47 x48 x49 x50 x51 x52 x53 x54 x55 t u v =
      some ⟨x42, (bif (u ++ r.filter (· != x22)).isEmpty then 5 else 3), x44, x45, x46, x47, x48, x49, x50, x51, x52, x53, x54, u ++ r.filter (· != x22), x55, t || decide (x22 ∈ r), v ++ (r.filter (· != x22)).map (askP x50 x51 x52 x53)⟩ := by
  intro r
  induction r with
  | nil =>
    intro p n x4 t u v hd hM hN hu hv hn
    obtain ⟨m, rfl⟩ : ∃ m, n = m + 1 := Nat.exists_eq_succ_of_ne_zero (by omega)
    rw [F12_c2]
    refine eqF (ilt_f (by simp at hM; omega)) ?_
    cases u with
    | nil => simp [ieq, ofN]
    | cons a u => exact eqF (ieq_f (by simp [ofN]; omega)) (by simp)
  | cons z r ih =>
    intro p n x4 t u v hd hM hN hu hv hn
    simp only [List.length_cons] at hM hn
    obtain ⟨m, rfl⟩ : ∃ m, n = m + 1 := Nat.exists_eq_succ_of_ne_zero (by omega)
    have hlen : L.length = p.length + (r.length + 1 + q.length) := by rw [hd]; simp; omega
    have hz : L.getD (0 + (ofN p.length).toNat) 0 = z := by rw [Nat.zero_add, hd, List.cons_append]; exact getD_mid
    have ht : List.take ((ofN p.length).toNat - 0) (List.drop (0 + 0) L) = p := by rw [toN, hd]; simp
    have hzp : z ∉ p := fun h => by
      rw [List.nodup_append] at hN
      exact hN.2.2 z h z (by simp) rfl
    rw [F12_c2]
    refine eqT (ilt_t (by omega)) (eqT (inb_t (by omega)) (eqT (by rw [toN, Nat.zero_add]; exact decide_eq_true (by omega)) (eqT (inns_t (by omega)) ?_)))
    rw [ht, hz, mcontains_p _ _ (by omega), Option.bind_some, decide_eq_false hzp, Bool.not_false, cond_true, add_one (by omega)]
    have hstep : ofN (p.length + 1) = ofN (p ++ [z]).length := by simp
    have hN' : ((p ++ [z]) ++ r).Nodup := by rw [List.append_assoc]; exact hN
    have hd' : L = (p ++ [z]) ++ (r ++ q) := by rw [hd]; simp
    rw [hstep]
    by_cases he : z = x22
    · refine eqT (ieq_t he) ?_
      rw [ih (p ++ [z]) m x4 true u v hd' (by simp; omega) hN' (by simp; omega) (by simp; omega) (by omega)]
      simp [he]
    · refine eqF (ieq_f he) (eqT (room_small (by simp; omega) (by omega)) (eqT (room_small (by simp; omega) (by omega)) ?_))
      rw [ih (p ++ [z]) m x4 t _ _ hd' (by simp; omega) hN' (by simp; omega) (by simp; omega) (by omega)]
      have e1 : (z != x22) = true := by simpa using he
      have e2 : decide (x22 ∈ z :: r) = decide (x22 ∈ r) := by
        simp [Ne.symm he]
      simp only [List.filter_cons, e1, if_true, e2, List.map_cons, List.append_assoc, List.cons_append, List.nil_append]
      rfl

theorem law_all {x6 x7 x8 x9 x10 x11 x12 x13 x14 x15 x16 x17 x18 x19 x20 x21 x22 x23 x24 x25 x26 x27 x28 x29 x30 x31 x32 x33 x34 x35 x36 x37 x38 x39 x40 x41 x42 x43 x44 x45} {x0 own} (L q : List Int) (hL : L.length < 1000) (M : Nat) (h3 : M ≤ 3) : ∀ (r p : List Int) (n : Nat) (t : Bool) (u : List Int),
    L = p ++ (r ++ q) → M = p.length + r.length → u.length ≤ p.length → r.length < n → ∃ n', n ≤ n' + r.length + 1 ∧
    F5_c0 n x0 own 0 M t (ofN p.length) x6 x7 x8 x9 x10 x11 x12 x13 x14 x15 x16 x17 x18 x19 x20 x21 x22 x23 x24 x25 x26 x27 x28 x29 x30 x31 x32 x33 x34 x35 x36 x37 x38 x39 x40 x41 x42 x43 x44 x45 L u =
      (bif (bneb own (t || decide (x6 ∈ r))) then (some false) else (bif (ine (ofN (List.length x45)) (ofN (List.length (u ++ r.filter (· != x6))))) then (some false) else (bif (ine (ofN (List.length x43)) (ofN (List.length (u ++ r.filter (· != x6))))) then (some false) else
        (F5_c1 n' x0 (0) (0) x6 x7 x8 x9 x10 x11 x12 x13 x14 x15 x16 x17 x18 x19 x20 x21 x22 x23 x24 x25 x26 x27 x28 x29 x30 x31 x32 x33 x34 x35 x36 x37 x38 x39 x40 x41 x42 x43 x44 x45 (u ++ r.filter (· != x6)))))) := by
  intro r
  induction r with
  | nil =>
    intro p n t u hd hM hu hn
    obtain ⟨m, rfl⟩ : ∃ m, n = m + 1 := Nat.exists_eq_succ_of_ne_zero (by omega)
    refine ⟨m, by simp, ?_⟩
    rw [F5_c0]
    refine eqF (ilt_f (by simp at hM; omega)) ?_
    simp
  | cons z r ih =>
    intro p n t u hd hM hu hn
    simp only [List.length_cons] at hM hn
    obtain ⟨m, rfl⟩ : ∃ m, n = m + 1 := Nat.exists_eq_succ_of_ne_zero (by omega)
    have hlen : L.length = p.length + (r.length + 1 + q.length) := by rw [hd]; simp; omega
    have hz : L.getD (0 + (ofN p.length).toNat) 0 = z := by rw [Nat.zero_add, hd, List.cons_append]; exact getD_mid
    have hd' : L = (p ++ [z]) ++ (r ++ q) := by rw [hd]; simp
    have hstep : ofN (p.length + 1) = ofN (p ++ [z]).length := by simp
    have i1 : inb (ofN p.length) M = true := inb_t (by omega)
    have i2 : nlt (0 + (ofN p.length).toNat) L.length = true := by rw [toN, Nat.zero_add]; exact decide_eq_true (by omega)
    by_cases he : z = x6
    · obtain ⟨n', k1, k2⟩ := ih (p ++ [z]) m true u hd' (by simp; omega) (by simp; omega) (by omega)
      refine ⟨n', by simp; omega, ?_⟩
      have e0 : (u ++ (z :: r).filter (· != x6)) = u ++ r.filter (· != x6) := by simp [he]
      have e2 : (t || decide (x6 ∈ z :: r)) = (true || decide (x6 ∈ r)) := by simp [he]
      rw [e0, e2, ← k2, F5_c0, hz, i1, i2, add_one (by omega), hstep]
      simp only [cond_true, ine_f he, ieq_t he, cond_false]
      rw [ilt_t (by omega), cond_true]
      cases t <;> rfl
    · obtain ⟨n', k1, k2⟩ := ih (p ++ [z]) m t (u ++ [z]) hd' (by simp; omega) (by simp; omega) (by omega)
      refine ⟨n', by simp; omega, ?_⟩
      have e1 : (z != x6) = true := by simpa using he
      have e0 : (u ++ (z :: r).filter (· != x6)) = (u ++ [z]) ++ r.filter (· != x6) := by simp [e1]
      have e2 : decide (x6 ∈ z :: r) = decide (x6 ∈ r) := by simp [Ne.symm he]
      rw [e0, e2, ← k2, F5_c0, hz, i1, i2, add_one (by omega), hstep]
      simp only [cond_true, ine_t he, ieq_f he, cond_false]
      rw [ilt_t (by omega), cond_true, room_small (by simp; omega) (by omega), cond_true]
      cases t <;> rfl

theorem tl_cut {x2 x4 x5 x6 x7 x8 x9 x10 x11 x12 x13 x14 x15 x16 x17 x18 x19 x20 x21 x22 x23 x24 x25 x26 x27 x28 x29 x30 x31 x32 x33 x34 x35 x36 x37 x38 x39 x40 x41 x42 x43 x44 x45 x46 x47 x48 x49 x50 x51 x52 x53} : ∀ (r q : List Int) (z : Int) (n : Nat), q.length + r.length < 100 → (∀ y ∈ r, y ≠ x4) → r.length < n →
    F12_c6 n (ofN q.length) (ofN (q.length + 1)) x2 (q ++ z :: r) x4 x5 x6 x7 x8 x9 x10 x11 x12 x13 x14 x15 x16 x17 x18 x19 x20 x21 x22 x23 x24 x25 x26 x27 x28 x29 x30 x31 x32 x33 x34 x35 x36 x37 x38 x39 x40 x41 x42 x43 x44 x45 x46 x47 x48 x49 x50 x51 x52 x53 = some ⟨x25, (bif (q ++ r).isEmpty then 5 else x26), x27, x28, x29, x30, x31, x32, x33, x34, x35, x36, x37, q ++ r, (bif ine x2 0 then x2 else x38), x39, []⟩ := by
  intro r
  induction r with
  | nil =>
    intro q z n hl hr hn
    obtain ⟨m, rfl⟩ : ∃ m, n = m + 1 := Nat.exists_eq_succ_of_ne_zero (by omega)
    rw [F12_c6]
    have hk : (q ++ [z]).length = q.length + 1 := by simp
    have hc : (List.take (ofN q.length).toNat (q ++ [z]) ++ List.replicate ((q ++ [z]).length - (ofN q.length).toNat) (0 : Int) ++ List.drop ((ofN q.length).toNat + ((q ++ [z]).length - (ofN q.length).toNat)) (q ++ [z])) = q ++ [0] := by
      rw [toN, hk]; simp
    have ht : List.take ((ofN q.length).toNat - 0) (List.drop 0 (q ++ [(0 : Int)])) = q := by rw [toN]; simp
    rw [hc, ht]
    refine eqF (ilt_f (by omega)) (eqT (innt_t (by omega)) (eqT (by rw [toN]; exact decide_eq_true (by omega)) (eqT (inns_t (by simp)) ?_)))
    rw [toN, Nat.sub_zero]
    cases q with
    | nil => cases ine x2 0 <;> rfl
    | cons a q =>
      rw [ieq_f (by simp [ofN]; omega)]
      cases ine x2 0 <;> simp
  | cons y r ih =>
    intro q z n hl hr hn
    simp only [List.length_cons] at hl hn
    obtain ⟨m, rfl⟩ : ∃ m, n = m + 1 := Nat.exists_eq_succ_of_ne_zero (by omega)
    rw [F12_c6]
    have hk : (q ++ z :: y :: r).length = q.length + (r.length + 2) := by simp
    have hy : (q ++ z :: y :: r).getD (ofN (q.length + 1)).toNat 0 = y := by
      rw [toN, show q ++ z :: y :: r = (q ++ [z]) ++ y :: r by simp, show q.length + 1 = (q ++ [z]).length by simp]
      exact getD_mid
    have hs : (q ++ z :: y :: r).set (ofN q.length).toNat y = (q ++ [y]) ++ y :: r := by rw [toN]; simp
    rw [hy, hs]
    refine eqT (ilt_t (by omega)) (eqT (inb_t (by omega)) (eqT (nlt_t (by omega)) (eqT (by rw [ieq_f (hr y (by simp))]; rfl) (eqT (inb_t (by omega)) (eqT (nlt_t (by omega)) ?_)))))
    rw [add_one (by omega), add_one (by omega)]
    have := ih (q ++ [y]) y m (by simp; omega) (fun w hw => hr w (by simp [hw])) (by omega)
    simp only [List.length_append, List.length_cons, List.length_nil, List.append_assoc, List.cons_append, List.nil_append] at this ⊢
    exact this
theorem tl_first {x2 x5 x6 x7 x8 x9 x10 x11 x12 x13 x14 x15 x16 x17 x18 x19 x20 x21 x22 x23 x24 x25 x26 x27 x28 x29 x30 x31 x32 x33 x34 x35 x36 x37 x38 x39 x40 x41 x42 x43 x44 x45 x46 x47 x48 x49 x50 x51 x52 x53} (w : Int) (l : List Int) (n : Nat) (hl : l.length < 90) (hw : ∀ y ∈ l, y ≠ w) (hn : 200 < n) :
    F12_c3 n (ofN (w :: l).length) 0 x2 (w :: l) w x5 x6 x7 x8 x9 x10 x11 x12 x13 x14 x15 x16 x17 x18 x19 x20 x21 x22 x23 x24 x25 x26 x27 x28 x29 x30 x31 x32 x33 x34 x35 x36 x37 x38 x39 x40 x41 x42 x43 x44 x45 x46 x47 x48 x49 x50 x51 x52 x53 = some ⟨x25, (bif l.isEmpty then 5 else x26), x27, x28, x29, x30, x31, x32, x33, x34, x35, x36, x37, l, (bif ine x2 0 then x2 else x38), x39, []⟩ := by
  obtain ⟨m, rfl⟩ : ∃ m, n = m + 1 := Nat.exists_eq_succ_of_ne_zero (by omega)
  rw [F12_c3]
  refine eqT (ilt_t (i := 0) (by simp)) (eqT (inb_t (i := 0) (by simp)) (eqT (nlt_t (i := 0) (by simp)) (eqT (ieq_t rfl) (eqF rfl ?_))))
  exact tl_cut l [] w m (by simp; omega) hw (by omega)

theorem fl_cut {x2 x4 x5 x6 x7 x8 x9 x10 x11 x12 x13 x14 x15 x16 x17 x18 x19 x20 x21 x22 x23 x24 x25 x26 x27 x28 x29 x30 x31 x32 x33 x34 x35 x36 x37 x38 x39 x40 x41 x42 x43 x44 x45 x46 x47 x48 x49 x50 x51 x52 x53} : ∀ (r q : List Int) (z : Int) (n : Nat), q.length + r.length < 100 → (∀ y ∈ r, y ≠ x4) → r.length < n →
    F11_c5 n (ofN q.length) (ofN (q.length + 1)) x2 (q ++ z :: r) x4 x5 x6 x7 x8 x9 x10 x11 x12 x13 x14 x15 x16 x17 x18 x19 x20 x21 x22 x23 x24 x25 x26 x27 x28 x29 x30 x31 x32 x33 x34 x35 x36 x37 x38 x39 x40 x41 x42 x43 x44 x45 x46 x47 x48 x49 x50 x51 x52 x53 = some ⟨x25, (bif (q ++ r).isEmpty then 5 else x26), x27, x28, x29, x30, x31, x32, x33, x34, x35, x36, x37, q ++ r, (bif ine x2 0 then x2 else x38), x39, []⟩ := by
  intro r
  induction r with
  | nil =>
    intro q z n hl hr hn
    obtain ⟨m, rfl⟩ : ∃ m, n = m + 1 := Nat.exists_eq_succ_of_ne_zero (by omega)
    rw [F11_c5]
    have hk : (q ++ [z]).length = q.length + 1 := by simp
    have hc : (List.take (ofN q.length).toNat (q ++ [z]) ++ List.replicate ((q ++ [z]).length - (ofN q.length).toNat) (0 : Int) ++ List.drop ((ofN q.length).toNat + ((q ++ [z]).length - (ofN q.length).toNat)) (q ++ [z])) = q ++ [0] := by
      rw [toN, hk]; simp
    have ht : List.take ((ofN q.length).toNat - 0) (List.drop 0 (q ++ [(0 : Int)])) = q := by rw [toN]; simp
    rw [hc, ht]
    refine eqF (ilt_f (by omega)) (eqT (innt_t (by omega)) (eqT (by rw [toN]; exact decide_eq_true (by omega)) (eqT (inns_t (by simp)) ?_)))
    rw [toN, Nat.sub_zero]
    cases q with
    | nil => cases ine x2 0 <;> rfl
    | cons a q =>
      rw [ieq_f (by simp [ofN]; omega)]
      cases ine x2 0 <;> simp
  | cons y r ih =>
    intro q z n hl hr hn
    simp only [List.length_cons] at hl hn
    obtain ⟨m, rfl⟩ : ∃ m, n = m + 1 := Nat.exists_eq_succ_of_ne_zero (by omega)
    rw [F11_c5]
    have hk : (q ++ z :: y :: r).length = q.length + (r.length + 2) := by simp
    have hy : (q ++ z :: y :: r).getD (ofN (q.length + 1)).toNat 0 = y := by
      rw [toN, show q ++ z :: y :: r = (q ++ [z]) ++ y :: r by simp, show q.length + 1 = (q ++ [z]).length by simp]
      exact getD_mid
    have hs : (q ++ z :: y :: r).set (ofN q.length).toNat y = (q ++ [y]) ++ y :: r := by rw [toN]; simp
    rw [hy, hs]
    refine eqT (ilt_t (by omega)) (eqT (inb_t (by omega)) (eqT (nlt_t (by omega)) (eqT (by rw [ieq_f (hr y (by simp))]; rfl) (eqT (inb_t (by omega)) (eqT (nlt_t (by omega)) ?_)))))
    rw [add_one (by omega), add_one (by omega)]
    have := ih (q ++ [y]) y m (by simp; omega) (fun w hw => hr w (by simp [hw])) (by omega)
    simp only [List.length_append, List.length_cons, List.length_nil, List.append_assoc, List.cons_append, List.nil_append] at this ⊢
    exact this
theorem fl_first {x2 x5 x6 x7 x8 x9 x10 x11 x12 x13 x14 x15 x16 x17 x18 x19 x20 x21 x22 x23 x24 x25 x26 x27 x28 x29 x30 x31 x32 x33 x34 x35 x36 x37 x38 x39 x40 x41 x42 x43 x44 x45 x46 x47 x48 x49 x50 x51 x52 x53} (w : Int) (l : List Int) (n : Nat) (hl : l.length < 90) (hw : ∀ y ∈ l, y ≠ w) (hn : 200 < n) :
    F11_c2 n (ofN (w :: l).length) 0 x2 (w :: l) w x5 x6 x7 x8 x9 x10 x11 x12 x13 x14 x15 x16 x17 x18 x19 x20 x21 x22 x23 x24 x25 x26 x27 x28 x29 x30 x31 x32 x33 x34 x35 x36 x37 x38 x39 x40 x41 x42 x43 x44 x45 x46 x47 x48 x49 x50 x51 x52 x53 = some ⟨x25, (bif l.isEmpty then 5 else x26), x27, x28, x29, x30, x31, x32, x33, x34, x35, x36, x37, l, (bif ine x2 0 then x2 else x38), x39, []⟩ := by
  obtain ⟨m, rfl⟩ : ∃ m, n = m + 1 := Nat.exists_eq_succ_of_ne_zero (by omega)
  rw [F11_c2]
  refine eqT (ilt_t (i := 0) (by simp)) (eqT (inb_t (i := 0) (by simp)) (eqT (nlt_t (i := 0) (by simp)) (eqT (ieq_t rfl) (eqF rfl ?_))))
  exact fl_cut l [] w m (by simp; omega) hw (by omega)

theorem right_said {id w cd : Int} (h1 : isP id = true) (h2 : isP w = true) (h3 : w ≠ id) (hc : cd = 0 ∨ cd = 200) : rightM ⟨11, id * 1048576 + 1, w, id, 0, false, false, 0, 0, [], ByteArray.empty, 0, 0, false, cd⟩ = true := by
  unfold rightM
  have e : askB 11 = false := by decide
  have hc' : callB id (id * 1048576 + 1) = true := by unfold callB; simp only [Bool.and_eq_true, decide_eq_true_eq]; omega
  simp only [askerV, e, Bool.false_eq_true, if_false, h1, h2, decide_eq_false h3, restM, hasM, noIt, hc']
  rcases hc with e | e <;> subst e <;> simp

theorem told_put (a0 : Int) (a1 a2 : List Int) (a3 a4 a5 a6 a7 a8 a9 a10 a11 a12 a13 a14 a15 a16 a17 a18 a19 : Int) (b0 : Int) (b1 : Int) (b2 : Int) (b3 : Int) (b4 : Int) (b5 : Bool) (b6 : Bool) (b7 : Int) (b8 : ByteArray) (b9 : Int) (b10 : Int) (b11 : Bool) (b12 : Int) (b13 : List Int) (b14 : Int) (w cd : Int) (l : List Int) (hv : rightV ⟨a0, a1, a2, a3, a4, a5, a6, a7, a8, a9, a10, a11, a12, a13, a14, a15, a16, a17, a18, a19⟩ = true) (hi : isP a0 = true) (hw : isP w = true) (hne : w ≠ a0) (hc : cd = 0 ∨ cd = 200) (hl : l.length < 30) (hn : ∀ y ∈ l, y ≠ w) (h1 : b1 = 3) (h13 : b13 = w :: l) :
    F12 FUEL a0 a1 a2 a3 a4 a5 a6 a7 a8 a9 a10 a11 a12 a13 a14 a15 a16 a17 a18 a19 b0 b1 b2 b3 b4 b5 b6 b7 b8 b9 b10 b11 b12 b13 b14 11 (iadd .i64 (imul .i64 a0 1048576) 1) w a0 0 false false 0 0 [] ByteArray.empty 0 0 false cd = some ⟨b0, (bif l.isEmpty then 5 else 3), b2, b3, b4, b5, b6, b7, b8, b9, b10, b11, b12, l, (bif ine cd 0 then cd else b14), false, []⟩ := by
  have hf := fuel_big
  subst h1 h13
  unfold F12
  rw [jown _ _ _ _ _ _ _ _ _ _ _ _ _ _ _ (by simp; omega), viewR_p (by omega), call_num hi (by omega) (by omega), mright_p (n := FUEL) (by omega) 11 (a0 * 1048576 + 1) w a0 0 false false 0 0 [] ByteArray.empty 0 0 false cd (by simp), right_said hi hw hne hc, hv]
  simp only [Option.bind_some, cond_true]
  refine eqT (ieq_me _) (eqF rfl (eqF rfl (eqT rfl (eqT rfl ?_))))
  rw [mcontains_p _ _ (by simp; omega), Option.bind_some]
  refine eqF (by simp) ?_
  exact tl_first w l FUEL (by omega) hn (by omega)

theorem failed_put (a0 : Int) (a1 a2 : List Int) (a3 a4 a5 a6 a7 a8 a9 a10 a11 a12 a13 a14 a15 a16 a17 a18 a19 : Int) (b0 : Int) (b1 : Int) (b2 : Int) (b3 : Int) (b4 : Int) (b5 : Bool) (b6 : Bool) (b7 : Int) (b8 : ByteArray) (b9 : Int) (b10 : Int) (b11 : Bool) (b12 : Int) (b13 : List Int) (b14 : Int) (w : Int) (l : List Int) (hv : rightV ⟨a0, a1, a2, a3, a4, a5, a6, a7, a8, a9, a10, a11, a12, a13, a14, a15, a16, a17, a18, a19⟩ = true) (hl : l.length < 30) (hn : ∀ y ∈ l, y ≠ w) (h1 : b1 = 3) (h13 : b13 = w :: l) :
    F11 FUEL a0 a1 a2 a3 a4 a5 a6 a7 a8 a9 a10 a11 a12 a13 a14 a15 a16 a17 a18 a19 b0 b1 b2 b3 b4 b5 b6 b7 b8 b9 b10 b11 b12 b13 b14 w = some ⟨b0, (bif l.isEmpty then 5 else 3), b2, b3, b4, b5, b6, b7, b8, b9, b10, b11, b12, l, 210, false, []⟩ := by
  have hf := fuel_big
  subst h1 h13
  unfold F11
  rw [jown _ _ _ _ _ _ _ _ _ _ _ _ _ _ _ (by simp; omega), viewR_p (by omega), hv]
  simp only [Option.bind_some, cond_true]
  refine eqF rfl (eqF rfl (eqT rfl ?_))
  rw [mcontains_p _ _ (by simp; omega), Option.bind_some]
  refine eqF (by simp) ?_
  exact fl_first w l FUEL (by omega) hn (by omega)

theorem inn_u (z : Int) : inn (IntKind.wrap .u64 z) = true := by
  unfold inn; exact decide_eq_true (by show (0 : Int) ≤ z % 18446744073709551616; omega)
theorem sub_len {i k : Nat} (h : i ≤ k) (hk : k < 1000) : isub .i64 (ofN k) (ofN i) = ofN (k - i) := by
  simp only [isub, ofN]; rw [wrap_mid (by omega) (by omega)]; omega
theorem min_l (k : Nat) : minI 3 (ofN k) = ofN (min 3 k) := by
  unfold minI ofN
  split <;> omega
theorem min_r (k : Nat) : minI (ofN k) 3 = ofN (min 3 k) := by
  unfold minI ofN
  split <;> omega

theorem puts_c (a0 : Int) (a1 a2 : List Int) (a3 a4 a5 a6 a7 a8 a9 a10 a11 a12 a13 a14 a15 a16 a17 a18 a19 : Int) (hv : rightV ⟨a0, a1, a2, a3, a4, a5, a6, a7, a8, a9, a10, a11, a12, a13, a14, a15, a16, a17, a18, a19⟩ = true) (hi : isP a0 = true) (bits : Int) (k : ByteArray) (v r : Int) (g : Bool) (W : List Int) (hW : W.length ≤ 3) (hN : W.Nodup) (hP : ∀ w ∈ W, isP w = true ∧ w ≠ a0) :
    ∀ (s p : List Int) (n : Nat) (code : Int) (b0 : Int) (b1 : Int) (b2 : Int) (b3 : Int) (b4 : Int) (b5 : Bool) (b6 : Bool) (b7 : Int) (b8 : ByteArray) (b9 : Int) (b10 : Int) (b11 : Bool) (b12 : Int) (b13 : List Int) (b14 : Int), W = p ++ s → b13 = s → b1 = (bif s.isEmpty then 5 else 3) → b14 = code → s.length + 1 < n →
      F5_c1 n bits code (ofN p.length) a0 a1 a2 a3 a4 a5 a6 a7 a8 a9 a10 a11 a12 a13 a14 a15 a16 a17 a18 a19 k v r g b0 b1 b2 b3 b4 b5 b6 b7 b8 b9 b10 b11 b12 b13 b14 (W.map (askP k v r g)) W = some true := by
  intro s
  induction s with
  | nil =>
    intro p n code b0 b1 b2 b3 b4 b5 b6 b7 b8 b9 b10 b11 b12 b13 b14 hd h13 h1 h14 hn
    obtain ⟨m, rfl⟩ : ∃ m, n = m + 1 := Nat.exists_eq_succ_of_ne_zero (by omega)
    subst h13 h1 h14
    rw [F5_c1]
    refine eqF (ilt_f (by rw [hd]; simp)) (eqT (ieq_me _) (eqT (ieq_me _) (eqT rfl ?_)))
    rw [wakes21]; rfl
  | cons w s ih =>
    intro p n code b0 b1 b2 b3 b4 b5 b6 b7 b8 b9 b10 b11 b12 b13 b14 hd h13 h1 h14 hn
    obtain ⟨m, rfl⟩ : ∃ m, n = m + 1 := Nat.exists_eq_succ_of_ne_zero (by omega)
    have hl : W.length = p.length + (s.length + 1) := by rw [hd]; simp
    have hlm : (W.map (askP k v r g)).length = W.length := List.length_map _
    have hget : W.getD (ofN p.length).toNat 0 = w := by rw [hd]; exact getD_mid
    have hask : ∀ d, (W.map (askP k v r g)).getD (ofN p.length).toNat d = askP k v r g w := fun d => by
      have e : (p.map (askP k v r g)).length = p.length := List.length_map _
      rw [hd, List.map_append, List.map_cons, ← e]; exact getD_mid
    have hw := hP w (by rw [hd]; simp)
    have hs : ∀ y ∈ s, y ≠ w := by
      intro y hy e
      rw [hd, List.nodup_append] at hN
      have := hN.2.1
      rw [List.nodup_cons] at this
      exact this.1 (e ▸ hy)
    have hstep : iadd .i64 (ofN p.length) 1 = ofN (p ++ [w]).length := by rw [add_one (by omega)]; simp
    have hd' : W = (p ++ [w]) ++ s := by rw [hd]; simp
    have h1' : b1 = 3 := h1
    have hlen : ofN b13.length = isub .i64 (ofN W.length) (ofN p.length) := by rw [sub_len (by omega) (by omega), h13, hl]; simp
    rw [F5_c1, hget, hask, hstep]
    refine eqT (ilt_t (by omega)) (eqT (inb_t (by omega)) (eqT (nlt_t (by omega)) (eqT (inb_t (by omega)) (eqT (nlt_t (by omega)) (eqF (ine_f rfl) (eqT (inb_t (by omega)) (eqT (nlt_t (by omega)) (eqF (ine_f rfl) (eqT (inb_t (by omega)) (eqT (nlt_t (by omega)) (eqF ?_ (eqF (ine_f h1') (eqF (ine_f hlen) (eqT (inb_t (by omega)) (eqT (nlt_t (by omega)) (eqT (inn_u _) ?_))))))))))))))))
    · show (!(steq k k && (ieq v v && (ieq r r && (beqb g g && true))))) = false
      rw [steq_me, ieq_me, ieq_me, beqb_me]; rfl
    · refine eqD (fun _ => ?_) fun _ => eqT (inn_u _) (eqD (fun _ => eqT (inb_t (by omega)) (eqT (nlt_t (by omega)) ?_)) fun _ => ?_)
      · rw [told_put a0 a1 a2 a3 a4 a5 a6 a7 a8 a9 a10 a11 a12 a13 a14 a15 a16 a17 a18 a19 b0 b1 b2 b3 b4 b5 b6 b7 b8 b9 b10 b11 b12 b13 b14 w 200 s hv hi hw.1 hw.2 (.inr rfl) (by omega) hs h1' h13, Option.bind_some]
        exact ih (p ++ [w]) m 200 _ _ _ _ _ _ _ _ _ _ _ _ _ _ _ hd' rfl rfl rfl (by simp at hn; omega)
      · rw [failed_put a0 a1 a2 a3 a4 a5 a6 a7 a8 a9 a10 a11 a12 a13 a14 a15 a16 a17 a18 a19 b0 b1 b2 b3 b4 b5 b6 b7 b8 b9 b10 b11 b12 b13 b14 w s hv (by omega) hs h1' h13, Option.bind_some]
        exact ih (p ++ [w]) m 210 _ _ _ _ _ _ _ _ _ _ _ _ _ _ _ hd' rfl rfl rfl (by simp at hn; omega)
      · rw [told_put a0 a1 a2 a3 a4 a5 a6 a7 a8 a9 a10 a11 a12 a13 a14 a15 a16 a17 a18 a19 b0 b1 b2 b3 b4 b5 b6 b7 b8 b9 b10 b11 b12 b13 b14 w 0 s hv hi hw.1 hw.2 (.inl rfl) (by omega) hs h1' h13, Option.bind_some]
        exact ih (p ++ [w]) m code _ _ _ _ _ _ _ _ _ _ _ _ _ _ _ hd' rfl rfl h14 (by simp at hn; omega)

theorem told_state (a0 : Int) (a1 a2 : List Int) (a3 a4 a5 a6 a7 a8 a9 a10 a11 a12 a13 a14 a15 a16 a17 a18 a19 : Int) (o : Int) (l : List Int) (k : ByteArray) (v r : Int) (g : Bool) (c : Int) (hv : rightV ⟨a0, a1, a2, a3, a4, a5, a6, a7, a8, a9, a10, a11, a12, a13, a14, a15, a16, a17, a18, a19⟩ = true) (hl : l.length ≤ 3) (hN : (o :: l).Nodup) (hm : rightM ⟨7, c, o, a0, 0, false, false, 0, -1, l, ByteArray.empty, 0, 0, false, 0⟩ = true) :
    F12 FUEL a0 a1 a2 a3 a4 a5 a6 a7 a8 a9 a10 a11 a12 a13 a14 a15 a16 a17 a18 a19 2 2 0 0 0 false false 0 k v r g o [] 0 7 c o a0 0 false false 0 (-1) l ByteArray.empty 0 0 false 0 =
      some ⟨2, (bif (((o :: l).take (min 3 (o :: l).length)).filter (· != a0)).isEmpty then 5 else 3), 0, 0, 0, false, false, 0, k, v, r, g, o, ((o :: l).take (min 3 (o :: l).length)).filter (· != a0), 0, decide (a0 ∈ (o :: l).take (min 3 (o :: l).length)), (((o :: l).take (min 3 (o :: l).length)).filter (· != a0)).map (askP k v r g)⟩ := by
  have hf := fuel_big
  unfold F12
  rw [jown _ _ _ _ _ _ _ _ _ _ _ _ _ _ _ (by simp), viewR_p (by omega), mright_p (n := FUEL) (by omega) 7 c o a0 0 false false 0 (-1) l ByteArray.empty 0 0 false 0 (by omega), hm, hv]
  simp only [Option.bind_some, cond_true]
  have hk : ([o] ++ l) = o :: l := rfl
  refine eqT (ieq_me _) (eqF rfl (eqT rfl (eqT rfl (eqT (ieq_me _) (eqT (room_small (by simp; omega) (by omega)) ?_)))))
  rw [hk, min_l]
  refine eqT (inns_t (by omega)) ?_
  have e2 : (ofN (min 3 (o :: l).length)).toNat - 0 = min 3 (o :: l).length := rfl
  rw [e2]
  have hT : ((o :: l).take (min 3 (o :: l).length)).length = min 3 (o :: l).length := by rw [List.length_take]; omega
  have := tl_put (x8 := 0) (x9 := 0) (x10 := 0) (x11 := 0) (x12 := 0) (x13 := false) (x14 := false) (x15 := 0) (x16 := ByteArray.empty) (x17 := 0) (x18 := 0) (x19 := false) (x20 := 0) (x21 := 0) (x22 := a0) (x23 := a1) (x24 := a2) (x25 := a3) (x26 := a4) (x27 := a5) (x28 := a6) (x29 := a7) (x30 := a8) (x31 := a9) (x32 := a10) (x33 := a11) (x34 := a12) (x35 := a13) (x36 := a14) (x37 := a15) (x38 := a16) (x39 := a17) (x40 := a18) (x41 := a19) (x42 := 2) (x43 := 2) (x44 := 0) (x45 := 0) (x46 := 0) (x47 := false) (x48 := false) (x49 := 0) (x50 := k) (x51 := v) (x52 := r) (x53 := g) (x54 := o) (x55 := 0) (o :: l) ((o :: l).drop (min 3 (o :: l).length)) (by simp; omega) (min 3 (o :: l).length) (by omega) ((o :: l).take (min 3 (o :: l).length)) [] FUEL false false [] [] (by simp) (by rw [hT]; simp) (by rw [List.nil_append]; exact hN.sublist (List.take_sublist _ _)) (by simp) (by simp) (by rw [hT]; omega)
  simp only [List.nil_append, Bool.false_or] at this
  exact this

theorem great15 (n : Nat) (a0 : Int) (a1 a2 : List Int) (a3 a4 a5 a6 a7 a8 a9 a10 a11 a12 a13 a14 a15 a16 a17 a18 a19 : Int) : ∃ g, F6 n a0 a1 a2 a3 a4 a5 a6 a7 a8 a9 a10 a11 a12 a13 a14 a15 a16 a17 a18 a19 = some g ∧ (g = false → a1.length ≤ 20 ∧ a2.length ≤ 20) := by
  unfold F6
  cases h1 : igt (ofN a1.length) 20
  · cases h2 : igt (ofN a2.length) 20
    · have k1 := igt_len h1
      have k2 := igt_len h2
      exact ⟨_, rfl, fun _ => by omega⟩
    · exact ⟨_, rfl, fun h => by cases h⟩
  · exact ⟨_, rfl, fun h => by cases h⟩

theorem plain_JobPuts (a0 : Int) (a1 a2 : List Int) (a3 a4 a5 a6 a7 a8 a9 a10 a11 a12 a13 a14 a15 a16 a17 a18 a19 : Int) (o : Int) (l : List Int) (k : ByteArray) (v r : Int) (g : Bool) (bits : Int) : F5 FUEL a0 a1 a2 a3 a4 a5 a6 a7 a8 a9 a10 a11 a12 a13 a14 a15 a16 a17 a18 a19 o l k v r g bits = some true := by
  have hf := fuel_big
  unfold F5
  obtain ⟨gr, eg, hg⟩ := great15 FUEL a0 a1 a2 a3 a4 a5 a6 a7 a8 a9 a10 a11 a12 a13 a14 a15 a16 a17 a18 a19
  rw [eg, Option.bind_some, wakes21]
  cases gr
  · obtain ⟨h1, h2⟩ := hg rfl
    rw [cond_false, viewR_r (by omega) a0 a1 a2 a3 a4 a5 a6 a7 a8 a9 a10 a11 a12 a13 a14 a15 a16 a17 a18 a19 (by omega), Option.bind_some]
    cases hv : rightV ⟨a0, a1, a2, a3, a4, a5, a6, a7, a8, a9, a10, a11, a12, a13, a14, a15, a16, a17, a18, a19⟩
    · rfl
    · cases hl : igt (ofN l.length) 40
      · have hl' := igt_len hl
        simp only [Bool.not_true, cond_false]
        rw [mright_r FUEL 7 (iadd .i64 (imul .i64 a0 1048576) 1) o a0 0 false false 0 (-1) l ByteArray.empty 0 0 false 0 (by omega), pair_r]
        simp only [Option.bind_some]
        cases hm : rightM ⟨7, iadd .i64 (imul .i64 a0 1048576) 1, o, a0, 0, false, false, 0, -1, l, ByteArray.empty, 0, 0, false, 0⟩
        · rfl
        · cases hp : pairB k v r
          · rfl
          · have hm' := hm
            simp only [rightM, Bool.and_eq_true] at hm'
            obtain ⟨_, hio, hia, _, _, _, hh⟩ := hm'
            have hh' : ((decide ((-1 : Int) = -1) || isP (-1)) && (lstB o [] l && decide (l.length ≤ 3))) = true := hh
            simp only [Bool.and_eq_true, decide_eq_true_eq] at hh'
            obtain ⟨_, hb, h3⟩ := hh'
            obtain ⟨q1, q2⟩ := lstB_all o l [] hb
            have hN : (o :: l).Nodup := List.nodup_cons.2 ⟨fun h => (q1 o h).2.1 rfl, q2⟩
            have hall : ∀ x ∈ o :: l, isP x = true := by
              intro x hx
              rcases List.mem_cons.1 hx with e | hx
              · rw [e]; exact hio
              · exact (q1 x hx).1
            simp only [Bool.not_true, cond_false]
            rw [told_state a0 a1 a2 a3 a4 a5 a6 a7 a8 a9 a10 a11 a12 a13 a14 a15 a16 a17 a18 a19 o l k v r g _ hv h3 hN hm, Option.bind_some]
            have hk : ([o] ++ l) = o :: l := rfl
            refine eqT (room_small (by simp; omega) (by omega)) ?_
            rw [hk, min_r]
            refine eqT (inns_t (by omega)) ?_
            have e2 : (ofN (min 3 (o :: l).length)).toNat - 0 = min 3 (o :: l).length := rfl
            rw [e2]
            have hT : ((o :: l).take (min 3 (o :: l).length)).length = min 3 (o :: l).length := by rw [List.length_take]; omega
            generalize hM : min 3 (o :: l).length = M at hT ⊢
            have hM3 : M ≤ 3 := by omega
            have hTs := List.take_sublist M (o :: l)
            have hTN : ((o :: l).take M).Nodup := hN.sublist hTs
            have hcat : o :: l = [] ++ ((o :: l).take M ++ (o :: l).drop M) := by simp
            generalize hTT : (o :: l).take M = T at hT hTs hTN hcat ⊢
            generalize hWW : T.filter (· != a0) = W
            have hWP : ∀ w ∈ W, isP w = true ∧ w ≠ a0 := by
              intro w hw
              rw [← hWW, List.mem_filter] at hw
              exact ⟨hall w (hTs.subset hw.1), by simpa using hw.2⟩
            have hWl : W.length ≤ 3 := by
              have := List.length_filter_le (· != a0) T
              rw [hWW] at this; omega
            have hWN : W.Nodup := by rw [← hWW]; exact hTN.filter _
            obtain ⟨n', k1, k2⟩ := law_all (x6 := a0) (x7 := a1) (x8 := a2) (x9 := a3) (x10 := a4) (x11 := a5) (x12 := a6) (x13 := a7) (x14 := a8) (x15 := a9) (x16 := a10) (x17 := a11) (x18 := a12) (x19 := a13) (x20 := a14) (x21 := a15) (x22 := a16) (x23 := a17) (x24 := a18) (x25 := a19) (x26 := k) (x27 := v) (x28 := r) (x29 := g) (x30 := 2) (x31 := bif W.isEmpty then 5 else 3) (x32 := 0) (x33 := 0) (x34 := 0) (x35 := false) (x36 := false) (x37 := 0) (x38 := k) (x39 := v) (x40 := r) (x41 := g) (x42 := o) (x43 := W) (x44 := 0) (x45 := W.map (askP k v r g)) (x0 := bits) (own := decide (a0 ∈ T)) (o :: l) ((o :: l).drop M) (by simp; omega) M hM3 T [] FUEL false [] hcat (by simp [hT]) (by simp) (by omega)
            have k2' := k2
            simp only [List.nil_append, Bool.false_or] at k2'
            rw [hWW] at k2'
            refine k2'.trans ?_
            refine eqF (by rw [bneb_dec]; simp) (eqF (ine_f (by rw [List.length_map])) (eqF (ine_f rfl) ?_))
            exact puts_c a0 a1 a2 a3 a4 a5 a6 a7 a8 a9 a10 a11 a12 a13 a14 a15 a16 a17 a18 a19 hv hia bits k v r g W hWl hWN hWP W [] n' 0 _ _ _ _ _ _ _ _ _ _ _ _ _ _ _ rfl rfl rfl rfl (by omega)
      · rfl
  · rfl

end Go.Proofs.YtlcbbjcehaahlaaGreat
