/-
  What the functions compute, in plain words.
-/
import Derived.Test.YtlcbbjcehaahlaaGreatPlB
import Derived.Test.YtlcbbjcehaahlaaGreatPlA
namespace Go.Proofs.YtlcbbjcehaahlaaGreat
open Go Go.RowKit
section
variable {α : Type}
theorem exTP {b : Bool} {x y : Option α} {P : α → Prop} (hb : b = true) (h : ∃ r, x = some r ∧ P r) : ∃ r, (bif b then x else y) = some r ∧ P r := by
  rw [hb]; exact h
theorem exFP {b : Bool} {x y : Option α} {P : α → Prop} (hb : b = false) (h : ∃ r, y = some r ∧ P r) : ∃ r, (bif b then x else y) = some r ∧ P r := by
  rw [hb]; exact h
theorem exDP {b : Bool} {x y : Option α} {P : α → Prop} (h1 : b = true → ∃ r, x = some r ∧ P r) (h2 : b = false → ∃ r, y = some r ∧ P r) : ∃ r, (bif b then x else y) = some r ∧ P r := by
  cases b
  · exact h2 rfl
  · exact h1 rfl
end
abbrev MT := Int × Int × Int × Int × Int × Bool × Bool × Int × Int × (List (Int)) × ByteArray × Int × Int × Bool × Int
def askH (k t : Int) (s : Bool) : MT := (4, 0, 0, t, k, s, false, 0, 0, [], ByteArray.empty, 0, 0, false, 0)
def askS (o : Int) : MT := (1, 0, 0, o, 0, false, false, 0, 0, [], ByteArray.empty, 0, 0, false, 0)
def askG (k : ByteArray) (o : Int) : MT := (6, 0, 0, o, 0, false, false, 0, 0, [], k, 0, 0, false, 0)
inductive JS (id w : Int) (ow fu : Bool) (N : Nat) : Int → Int → Int → Int → Bool → Bool → Int → ByteArray → Int → Int → Bool → Int → List Int → Int → List MT → Prop where
  | over (k t h : Int) (s f : Bool) (c : Int) (ik : ByteArray) (iv ir : Int) (ig : Bool) (o e : Int) : (w = 2 → e = 0 → fu = false) → (w = 1 → ow = false) → N ≤ 45 → JS id w ow fu N 5 k t h s f c ik iv ir ig o [] e []
  | look (k t : Int) (s : Bool) (ik : ByteArray) (iv ir : Int) (ig : Bool) (o e : Int) : (w = 1 ∨ w = 2 ∨ w = 3) → isP k = true → isP t = true → t ≠ id → (w = 1 → ow = false) → fu = false → N ≤ 40 → JS id w ow fu N 1 k t (ofN N) s false 0 ik iv ir ig o [] e [askH k t s]
  | state (k t h : Int) (s f : Bool) (c : Int) (ik : ByteArray) (iv ir : Int) (ig : Bool) (o e : Int) : w = 2 → isP o = true → o ≠ id → fu = false → N ≤ 40 → JS id w ow fu N 2 k t h s f c ik iv ir ig o [] e [askS o]
  | put (k t h : Int) (s f : Bool) (c : Int) (ik : ByteArray) (iv ir : Int) (ig : Bool) (o e z : Int) (W : List Int) : w = 2 → (z :: W).Nodup → (∀ x ∈ z :: W, isP x = true ∧ x ≠ id) → (e = 0 → fu = false) → N + W.length ≤ 43 ∧ W.length ≤ 2 → JS id w ow fu N 3 k t h s f c ik iv ir ig o (z :: W) e ((z :: W).map (askP ik iv ir ig))
  | get (k t h : Int) (s f : Bool) (c : Int) (ik : ByteArray) (iv ir : Int) (ig : Bool) (o e : Int) : w = 3 → isP o = true → o ≠ id → N ≤ 40 → JS id w ow fu N 4 k t h s f c ik iv ir ig o [] e [askG ik o]
theorem JS.all {id w : Int} {ow fu : Bool} {N : Nat} {k t h : Int} {s f : Bool} {c : Int} {ik : ByteArray} {iv ir : Int} {ig : Bool} {o e : Int} {W : List Int} (hw : w = 2) (hN : W.Nodup) (hP : ∀ x ∈ W, isP x = true ∧ x ≠ id) (he : e = 0 → fu = false) (hl : N + W.length ≤ 44 ∧ W.length ≤ 3) :
    JS id w ow fu N (bif W.isEmpty then 5 else 3) k t h s f c ik iv ir ig o W e (W.map (askP ik iv ir ig)) := by
  cases W with
  | nil => exact .over _ _ _ _ _ _ _ _ _ _ _ _ (fun _ => he) (fun h => by omega) (by have := hl.1; omega)
  | cons z W => exact .put _ _ _ _ _ _ _ _ _ _ _ _ _ _ hw hN hP he (by simp only [List.length_cons] at hl; omega)
theorem view_lst {v : VW} (hv : rightV v = true) : isP v.id = true ∧ (v.id :: v.lst).Nodup ∧ (∀ x ∈ v.lst, isP x = true ∧ x ≠ v.id) ∧ v.lst.length ≤ 3 := by
  have h3 := (rightV_len hv).2
  unfold rightV good at hv
  simp only [Bool.and_eq_true] at hv
  obtain ⟨hi, _, ⟨hr, _⟩, _⟩ := hv
  have ha := rgt_all v.lst 0 hr
  have hne : ∀ x ∈ v.lst, isP x = true ∧ x ≠ v.id := fun x hx => ⟨(ha x hx).1, (fr_pos hi (ha x hx).1).1 (ha x hx).2⟩
  have nd : ∀ (l : List Int) (d : Int), rgt v.id d l = true → l.Nodup := by
    intro l
    induction l with
    | nil => intro _ _; exact List.nodup_nil
    | cons y r ih =>
      intro d h
      simp only [rgt, Bool.and_eq_true, decide_eq_true_eq] at h
      refine List.nodup_cons.2 ⟨fun hy => ?_, ih _ h.2.2⟩
      have := (rgt_all r _ h.2.2 y hy).2
      omega
  exact ⟨hi, List.nodup_cons.2 ⟨fun h => (hne _ h).2 rfl, nd _ _ hr⟩, hne, h3⟩
theorem tl_put5 {x8 x9 x10 x11 x12 x13 x14 x15 x16 x17 x18 x19 x20 x21 x22 x23 x24 x25 x26 x27 x28 x29 x30 x31 x32 x33 x34 x35 x36 x37 x38 x39 x40 x41 x42 x43 x44 x45 x46 x47 x48 x49 x50 x51 x52 x53 x54 x55} (L q : List Int) (hL : L.length < 1000) (M : Nat) (h3 : M ≤ 3) : ∀ (r p : List Int) (n : Nat) (x4 t : Bool) (u : List Int) (v : List (Int × Int × Int × Int × Int × Bool × Bool × Int × Int × (List (Int)) × ByteArray × Int × Int × Bool × Int)),
    L = p ++ (r ++ q) → M = p.length + r.length → (p ++ r).Nodup → u.length ≤ p.length → v.length ≤ p.length → r.length < n →
    F12_c5 n 0 M (ofN M) (ofN p.length) x4 0 M L x8 x9 x10 x11 x12 x13 x14 x15 x16 x17 x18 x19 x20 x21 x22 x23 x24 x25 x26 x27 x28 x29 x30 x31 x32 x33 x34 x35 x36 x37 x38 x39 x40 x41 x42 x43 x44 x45 x46 x47 x48 x49 x50 x51 x52 x53 x54 x55 t u v =
      some ⟨x42, (bif (u ++ r.filter (· != x22)).isEmpty then 5 else 3), x44, x45, x46, x47, x48, x49, x50, x51, x52, x53, x54, u ++ r.filter (· != x22), x55, t || decide (x22 ∈ r), v ++ (r.filter (· != x22)).map (askP x50 x51 x52 x53)⟩ := by
  intro r
  induction r with
  | nil =>
    intro p n x4 t u v hd hM hN hu hv hn
    obtain ⟨m, rfl⟩ : ∃ m, n = m + 1 := Nat.exists_eq_succ_of_ne_zero (by omega)
    rw [F12_c5]
    refine eqF (ilt_f (by simp at hM; omega)) ?_
    cases u with
    | nil => simp [ieq, ofN]
    | cons a u => exact eqF (ieq_f (by simp [ofN]; omega)) (by simp)
  | cons z r ih =>
    intro p n x4 t u v hd hM hN hu hv hn
    simp only [List.length_cons] at hM hn
    obtain ⟨m, rfl⟩ : ∃ m, n = m + 1 := Nat.exists_eq_succ_of_ne_zero (by omega)
    have hlen : L.length = p.length + (r.length + 1 + q.length) := by rw [hd]; simp; omega
    have hz : L.getD (0 + (ofN p.length).toNat) 0 = z := by rw [Nat.zero_add, hd, List.cons_append]; exact getD_mid
    have ht : List.take ((ofN p.length).toNat - 0) (List.drop (0 + 0) L) = p := by rw [toN, hd]; simp
    have hzp : z ∉ p := fun h => by
      rw [List.nodup_append] at hN
      exact hN.2.2 z h z (by simp) rfl
    rw [F12_c5]
    refine eqT (ilt_t (by omega)) (eqT (inb_t (by omega)) (eqT (by rw [toN, Nat.zero_add]; exact decide_eq_true (by omega)) (eqT (inns_t (by omega)) ?_)))
    rw [ht, hz, mcontains_p _ _ (by omega), Option.bind_some, decide_eq_false hzp, Bool.not_false, cond_true, add_one (by omega)]
    have hstep : ofN (p.length + 1) = ofN (p ++ [z]).length := by simp
    have hN' : ((p ++ [z]) ++ r).Nodup := by rw [List.append_assoc]; exact hN
    have hd' : L = (p ++ [z]) ++ (r ++ q) := by rw [hd]; simp
    rw [hstep]
    by_cases he : z = x22
    · refine eqT (ieq_t he) ?_
      rw [ih (p ++ [z]) m x4 true u v hd' (by simp; omega) hN' (by simp; omega) (by simp; omega) (by omega)]
      simp [he]
    · refine eqF (ieq_f he) (eqT (room_small (by simp; omega) (by omega)) (eqT (room_small (by simp; omega) (by omega)) ?_))
      rw [ih (p ++ [z]) m x4 t _ _ hd' (by simp; omega) hN' (by simp; omega) (by simp; omega) (by omega)]
      have e1 : (z != x22) = true := by simpa using he
      have e2 : decide (x22 ∈ z :: r) = decide (x22 ∈ r) := by
        simp [Ne.symm he]
      simp only [List.filter_cons, e1, if_true, e2, List.map_cons, List.append_assoc, List.cons_append, List.nil_append]
      rfl
theorem i_eq {a b : Int} (h : ieq a b = true) : a = b := by simpa [ieq] using h
theorem i_ne {a b : Int} (h : ieq a b = false) : a ≠ b := by simpa [ieq] using h
theorem tl_found {n N : Nat} (hn : 100 < n) {x0 x1 x2 x3 x4 x5 x6 x7 x8 x9 x10 x11 x12 x13 x14 x15 x16 x17 x18 x19 x20 x21 x22 x23 x24 x25 x26 x27 x28 x29 x30 x31 x32 x33 x34 x35 x36 x37 x38 x39 x40 x41 x42 x43 x44 x45 x46 x47 x48 x49} (hi : isP x0 = true) (hN : (x0 :: x2).Nodup) (hP : ∀ x ∈ x2, isP x = true ∧ x ≠ x0) (h2 : x2.length ≤ 3) (hw : x20 = 1 ∨ x20 = 2 ∨ x20 = 3) (ht : isP x23 = true) (ho : x34 = false) (hl : x49 = []) (hs : N ≤ 40) :
    ∃ y, F12_c1 n x0 x1 x2 x3 x4 x5 x6 x7 x8 x9 x10 x11 x12 x13 x14 x15 x16 x17 x18 x19 x20 x21 x22 x23 x24 x25 x26 x27 x28 x29 x30 x31 x32 x33 x34 x35 x36 x37 x38 x39 x40 x41 x42 x43 x44 x45 x46 x47 x48 x49 = some y ∧ y.q0 = x20 ∧ JS x0 x20 y.q15 false N y.q1 y.q2 y.q3 y.q4 y.q5 y.q6 y.q7 y.q8 y.q9 y.q10 y.q11 y.q12 y.q13 y.q14 y.q16 := by
  obtain ⟨m, rfl⟩ : ∃ m, n = m + 1 := Nat.exists_eq_succ_of_ne_zero (by omega)
  subst ho hl
  have four : ∀ (m : Nat), 0 < m → ∀ {x0 x1 x2 x3 x4 x5 x6 x7 x8 x9 x10 x11 x12 x13 x14 x15 x16 x17 x18 x19 x20 x21 x22 x23 x24 x25 x26 x27 x28 x29 x30 x31 x32 x33 x34 x35 x36 x37 x38 x39 x40 x41 x42 x43 x44 x45 x46 x47 x48 x49}, x20 ≠ 2 → (x20 = 1 → x34 = false) → ∃ y, F12_c4 m x0 x1 x2 x3 x4 x5 x6 x7 x8 x9 x10 x11 x12 x13 x14 x15 x16 x17 x18 x19 x20 x21 x22 x23 x24 x25 x26 x27 x28 x29 x30 x31 x32 x33 x34 x35 x36 x37 x38 x39 x40 x41 x42 x43 x44 x45 x46 x47 x48 x49 = some y ∧ y.q0 = x20 ∧ JS x0 x20 y.q15 false N y.q1 y.q2 y.q3 y.q4 y.q5 y.q6 y.q7 y.q8 y.q9 y.q10 y.q11 y.q12 y.q13 y.q14 y.q16 := by
    intro m hm x0 x1 x2 x3 x4 x5 x6 x7 x8 x9 x10 x11 x12 x13 x14 x15 x16 x17 x18 x19 x20 x21 x22 x23 x24 x25 x26 x27 x28 x29 x30 x31 x32 x33 x34 x35 x36 x37 x38 x39 x40 x41 x42 x43 x44 x45 x46 x47 x48 x49 h1 h3
    obtain ⟨m, rfl⟩ : ∃ m', m = m' + 1 := Nat.exists_eq_succ_of_ne_zero (by omega)
    exact ⟨_, rfl, rfl, .over _ _ _ _ _ _ _ _ _ _ _ _ (fun h => absurd h h1) h3 (by omega)⟩
  rw [F12_c1]
  refine exDP (fun h => ?_) fun h1 => exDP (fun h2' => exDP (fun h3 => ?_) fun h3 => ?_) fun h2' => ?_
  · have := i_eq h
    exact four _ (by omega) (by omega) fun _ => rfl
  · have e3 := i_eq h3
    have e2 := i_eq h2'
    subst e3
    refine exTP (room_small (by simp; omega) (by omega)) ?_
    have hk : ([x23] ++ x2) = x23 :: x2 := rfl
    rw [hk, min_l]
    refine exTP (inns_t (by omega)) ?_
    have e2' : (ofN (min 3 (x23 :: x2).length)).toNat - 0 = min 3 (x23 :: x2).length := rfl
    rw [e2']
    have hT : ((x23 :: x2).take (min 3 (x23 :: x2).length)).length = min 3 (x23 :: x2).length := by rw [List.length_take]; omega
    have hTs := List.take_sublist (min 3 (x23 :: x2).length) (x23 :: x2)
    have := tl_put5 (x8 := x35) (x9 := x36) (x10 := x37) (x11 := x38) (x12 := x39) (x13 := x40) (x14 := x41) (x15 := x42) (x16 := x43) (x17 := x44) (x18 := x45) (x19 := x46) (x20 := x47) (x21 := x48) (x22 := x23) (x23 := x1) (x24 := x2) (x25 := x3) (x26 := x4) (x27 := x5) (x28 := x6) (x29 := x7) (x30 := x8) (x31 := x9) (x32 := x10) (x33 := x11) (x34 := x12) (x35 := x13) (x36 := x14) (x37 := x15) (x38 := x16) (x39 := x17) (x40 := x18) (x41 := x19) (x42 := x20) (x43 := x21) (x44 := x22) (x45 := x23) (x46 := x24) (x47 := x25) (x48 := x26) (x49 := x27) (x50 := x28) (x51 := x29) (x52 := x30) (x53 := x31) (x54 := x23) (x55 := x33) (x23 :: x2) ((x23 :: x2).drop (min 3 (x23 :: x2).length)) (by simp; omega) (min 3 (x23 :: x2).length) (by omega) ((x23 :: x2).take (min 3 (x23 :: x2).length)) [] m false false [] [] (by simp) (by rw [hT]; simp) (by rw [List.nil_append]; exact hN.sublist hTs) (by simp) (by simp) (by rw [hT]; omega)
    simp only [List.nil_append, Bool.false_or] at this
    refine ⟨_, this, rfl, ?_⟩
    refine JS.all e2 ((hN.sublist hTs).filter _) (fun x hx => ?_) (fun _ => rfl) ?_
    · rw [List.mem_filter] at hx
      have hne : x ≠ x23 := by simpa using hx.2
      rcases List.mem_cons.1 (hTs.subset hx.1) with h | h
      · exact absurd h hne
      · exact hP x h
    · have := List.length_filter_le (· != x23) ((x23 :: x2).take (min 3 (x23 :: x2).length))
      omega
  · have e2 := i_eq h2'
    exact exTP h2' (exTP rfl ⟨_, rfl, rfl, .state _ _ _ _ _ _ _ _ _ _ _ _ e2 ht (i_ne h3) rfl hs⟩)
  · have hw3 : x20 = 3 := by
      have := i_ne h1; have := i_ne h2'; omega
    refine exFP h2' (exDP (fun h3 => ?_) fun h3 => exTP rfl ⟨_, rfl, rfl, .get _ _ _ _ _ _ _ _ _ _ _ _ hw3 ht (i_ne h3) hs⟩)
    exact four _ (by omega) (by omega) (fun h => by omega)
theorem fl_found {n N : Nat} (hn : 100 < n) {x0 x1 x2 x3 x4 x5 x6 x7 x8 x9 x10 x11 x12 x13 x14 x15 x16 x17 x18 x19 x20 x21 x22 x23 x24 x25 x26 x27 x28 x29 x30 x31 x32 x33 x34 x35 x36 x37 x38 x39 x40 x41 x42 x43 x44 x45 x46 x47 x48 x49} (hne : x23 ≠ x0) (hw : x20 = 1 ∨ x20 = 2 ∨ x20 = 3) (ht : isP x23 = true) (ho : x34 = false) (hl : x49 = []) (hs : N ≤ 40) :
    ∃ y, F11_c1 n x0 x1 x2 x3 x4 x5 x6 x7 x8 x9 x10 x11 x12 x13 x14 x15 x16 x17 x18 x19 x20 x21 x22 x23 x24 x25 x26 x27 x28 x29 x30 x31 x32 x33 x34 x35 x36 x37 x38 x39 x40 x41 x42 x43 x44 x45 x46 x47 x48 x49 = some y ∧ y.q0 = x20 ∧ JS x0 x20 y.q15 false N y.q1 y.q2 y.q3 y.q4 y.q5 y.q6 y.q7 y.q8 y.q9 y.q10 y.q11 y.q12 y.q13 y.q14 y.q16 := by
  obtain ⟨m, rfl⟩ : ∃ m, n = m + 1 := Nat.exists_eq_succ_of_ne_zero (by omega)
  subst ho hl
  have four : ∀ (m : Nat), 0 < m → ∀ {x0 x1 x2 x3 x4 x5 x6 x7 x8 x9 x10 x11 x12 x13 x14 x15 x16 x17 x18 x19 x20 x21 x22 x23 x24 x25 x26 x27 x28 x29 x30 x31 x32 x33 x34 x35 x36 x37 x38 x39 x40 x41 x42 x43 x44 x45 x46 x47 x48 x49}, x20 ≠ 2 → (x20 = 1 → x34 = false) → ∃ y, F11_c3 m x0 x1 x2 x3 x4 x5 x6 x7 x8 x9 x10 x11 x12 x13 x14 x15 x16 x17 x18 x19 x20 x21 x22 x23 x24 x25 x26 x27 x28 x29 x30 x31 x32 x33 x34 x35 x36 x37 x38 x39 x40 x41 x42 x43 x44 x45 x46 x47 x48 x49 = some y ∧ y.q0 = x20 ∧ JS x0 x20 y.q15 false N y.q1 y.q2 y.q3 y.q4 y.q5 y.q6 y.q7 y.q8 y.q9 y.q10 y.q11 y.q12 y.q13 y.q14 y.q16 := by
    intro m hm x0 x1 x2 x3 x4 x5 x6 x7 x8 x9 x10 x11 x12 x13 x14 x15 x16 x17 x18 x19 x20 x21 x22 x23 x24 x25 x26 x27 x28 x29 x30 x31 x32 x33 x34 x35 x36 x37 x38 x39 x40 x41 x42 x43 x44 x45 x46 x47 x48 x49 h1 h3
    obtain ⟨m, rfl⟩ : ∃ m', m = m' + 1 := Nat.exists_eq_succ_of_ne_zero (by omega)
    exact ⟨_, rfl, rfl, .over _ _ _ _ _ _ _ _ _ _ _ _ (fun h => absurd h h1) h3 (by omega)⟩
  rw [F11_c1]
  refine exDP (fun h => ?_) fun h1 => exDP (fun h2' => exFP (ieq_f hne) ?_) fun h2' => ?_
  · have := i_eq h
    exact four _ (by omega) (by omega) fun _ => rfl
  · have e2 := i_eq h2'
    exact exTP h2' (exTP rfl ⟨_, rfl, rfl, .state _ _ _ _ _ _ _ _ _ _ _ _ e2 ht hne rfl hs⟩)
  · have hw3 : x20 = 3 := by
      have := i_ne h1; have := i_ne h2'; omega
    exact exFP h2' (exFP (ieq_f hne) (exTP rfl ⟨_, rfl, rfl, .get _ _ _ _ _ _ _ _ _ _ _ _ hw3 ht hne hs⟩))
theorem bg_found {n N : Nat} (hn : 100 < n) {x0 x1 x2 x3 x4 x5 x6 x7 x8 x9 x10 x11 x12 x13 x14 x15 x16 x17 x18 x19 x20 x21 x22 x23 x24 x25 x26 x27 x28 x29 x30 x31 x32 x33 x34 x35 x36 x37 x38 x39 x40 x41 x42 x43 x44 x45 x46 x47 x48} (hne : x23 ≠ x0) (hw : x20 = 1 ∨ x20 = 2 ∨ x20 = 3) (ht : isP x23 = true) (ho : x34 = false) (hs : N ≤ 40) :
    ∃ y, F9_c1 n x0 x1 x2 x3 x4 x5 x6 x7 x8 x9 x10 x11 x12 x13 x14 x15 x16 x17 x18 x19 x20 x21 x22 x23 x24 x25 x26 x27 x28 x29 x30 x31 x32 x33 x34 x35 x36 x37 x38 x39 x40 x41 x42 x43 x44 x45 x46 x47 x48 = some y ∧ y.q0 = x20 ∧ JS x0 x20 y.q14 false N y.q1 y.q2 y.q3 y.q4 y.q5 y.q6 y.q7 y.q8 y.q9 y.q10 y.q11 y.q12 y.q15 y.q13 y.q16 := by
  obtain ⟨m, rfl⟩ : ∃ m, n = m + 1 := Nat.exists_eq_succ_of_ne_zero (by omega)
  subst ho
  have four : ∀ (m : Nat), 0 < m → ∀ {x0 x1 x2 x3 x4 x5 x6 x7 x8 x9 x10 x11 x12 x13 x14 x15 x16 x17 x18 x19 x20 x21 x22 x23 x24 x25 x26 x27 x28 x29 x30 x31 x32 x33 x34 x35 x36 x37 x38 x39 x40 x41 x42 x43 x44 x45 x46 x47 x48}, x20 ≠ 2 → (x20 = 1 → x34 = false) → ∃ y, F9_c2 m x0 x1 x2 x3 x4 x5 x6 x7 x8 x9 x10 x11 x12 x13 x14 x15 x16 x17 x18 x19 x20 x21 x22 x23 x24 x25 x26 x27 x28 x29 x30 x31 x32 x33 x34 x35 x36 x37 x38 x39 x40 x41 x42 x43 x44 x45 x46 x47 x48 = some y ∧ y.q0 = x20 ∧ JS x0 x20 y.q14 false N y.q1 y.q2 y.q3 y.q4 y.q5 y.q6 y.q7 y.q8 y.q9 y.q10 y.q11 y.q12 y.q15 y.q13 y.q16 := by
    intro m hm x0 x1 x2 x3 x4 x5 x6 x7 x8 x9 x10 x11 x12 x13 x14 x15 x16 x17 x18 x19 x20 x21 x22 x23 x24 x25 x26 x27 x28 x29 x30 x31 x32 x33 x34 x35 x36 x37 x38 x39 x40 x41 x42 x43 x44 x45 x46 x47 x48 h1 h3
    obtain ⟨m, rfl⟩ : ∃ m', m = m' + 1 := Nat.exists_eq_succ_of_ne_zero (by omega)
    exact ⟨_, rfl, rfl, .over _ _ _ _ _ _ _ _ _ _ _ _ (fun h => absurd h h1) h3 (by omega)⟩
  rw [F9_c1]
  refine exDP (fun h => ?_) fun h1 => exDP (fun h2' => exFP (ieq_f hne) ?_) fun h2' => ?_
  · have := i_eq h
    exact four _ (by omega) (by omega) fun _ => rfl
  · have e2 := i_eq h2'
    exact exTP h2' (exTP rfl ⟨_, rfl, rfl, .state _ _ _ _ _ _ _ _ _ _ _ _ e2 ht hne rfl hs⟩)
  · have hw3 : x20 = 3 := by
      have := i_ne h1; have := i_ne h2'; omega
    exact exFP h2' (exFP (ieq_f hne) (exTP rfl ⟨_, rfl, rfl, .get _ _ _ _ _ _ _ _ _ _ _ _ hw3 ht hne hs⟩))
theorem rightL_on {k t : Int} {s : Bool} {N : Nat} (hk : isP k = true) (ht : isP t = true) (hN : N ≤ 40) : (rightL ⟨k, t, ofN N, s, false, 0⟩ && !overL ⟨k, t, ofN N, s, false, 0⟩) = true := by
  unfold rightL overL ofN
  have e1 : decide ((0 : Int) ≤ (N : Int)) = true := decide_eq_true (by omega)
  have e2 : decide ((N : Int) ≤ 41) = true := decide_eq_true (by omega)
  have e3 : decide ((40 : Int) < (N : Int)) = false := decide_eq_false (by omega)
  simp only [hk, ht, e1, e2, e3, cond_false]
  rfl
theorem inc_N (N : Nat) : (ofN N : Int) + 1 = ofN (N + 1) := by unfold ofN; omega
theorem told_look (a0 : Int) (a1 a2 : List Int) (a3 a4 a5 a6 a7 a8 a9 a10 a11 a12 a13 a14 a15 a16 a17 a18 a19 : Int) (w k t : Int) (N : Nat) (s : Bool) (ik : ByteArray) (iv ir : Int) (ig : Bool) (o e c : Int) (d : Bool) (p : Int) (hv : rightV ⟨a0, a1, a2, a3, a4, a5, a6, a7, a8, a9, a10, a11, a12, a13, a14, a15, a16, a17, a18, a19⟩ = true) (hw : w = 1 ∨ w = 2 ∨ w = 3) (hk : isP k = true) (ht : isP t = true) (hN : N ≤ 40)
    (hm : rightM ⟨10, c, t, a0, 0, false, d, p, 0, [], ByteArray.empty, 0, 0, false, 0⟩ = true) :
    ∃ y, F12 FUEL a0 a1 a2 a3 a4 a5 a6 a7 a8 a9 a10 a11 a12 a13 a14 a15 a16 a17 a18 a19 w 1 k t (ofN N) s false 0 ik iv ir ig o [] e 10 c t a0 0 false d p 0 [] ByteArray.empty 0 0 false 0 = some y ∧ y.q0 = w ∧ JS a0 w y.q15 false (N + 1) y.q1 y.q2 y.q3 y.q4 y.q5 y.q6 y.q7 y.q8 y.q9 y.q10 y.q11 y.q12 y.q13 y.q14 y.q16 := by
  have hf := fuel_big
  obtain ⟨hi, hnd, hP, h3⟩ := view_lst hv
  unfold F12
  rw [jown _ _ _ _ _ _ _ _ _ _ _ _ _ _ _ (by simp), viewR_p (by omega), mright_p (n := FUEL) (by omega) 10 c t a0 0 false d p 0 [] ByteArray.empty 0 0 false 0 (by simp), hm, hv]
  simp only [Option.bind_some, cond_true]
  refine exTP (ieq_me _) (exTP rfl (exTP rfl (exTP (ieq_me _) ?_)))
  rw [told_p (by omega) a0 a1 a2 a3 a4 a5 a6 a7 a8 a9 a10 a11 a12 a13 a14 a15 a16 a17 a18 a19 k t (ofN N) s false 0 10 c t a0 0 false d p 0 [] ByteArray.empty 0 0 false 0 (by simp), Option.bind_some]
  have hc : cntL ⟨a0, a1, a2, a3, a4, a5, a6, a7, a8, a9, a10, a11, a12, a13, a14, a15, a16, a17, a18, a19⟩ ⟨k, t, ofN N, s, false, 0⟩ ⟨10, c, t, a0, 0, false, d, p, 0, [], ByteArray.empty, 0, 0, false, 0⟩ = true := by
    unfold cntL
    rw [hv, hm, rightL_on hk ht hN]
    simp
  have hT : toldV ⟨a0, a1, a2, a3, a4, a5, a6, a7, a8, a9, a10, a11, a12, a13, a14, a15, a16, a17, a18, a19⟩ ⟨k, t, ofN N, s, false, 0⟩ ⟨10, c, t, a0, 0, false, d, p, 0, [], ByteArray.empty, 0, 0, false, 0⟩ = bif decide (40 < (ofN N : Int) + 1) then ⟨k, t, ofN N + 1, s, false, 211⟩ else onV ⟨a0, a1, a2, a3, a4, a5, a6, a7, a8, a9, a10, a11, a12, a13, a14, a15, a16, a17, a18, a19⟩ ⟨k, t, ofN N + 1, s, false, 0⟩ p d := by
    unfold toldV
    rw [hc]; rfl
  rw [hT]
  by_cases h40 : (40 : Int) < (ofN N : Int) + 1
  · rw [decide_eq_true h40, cond_true]
    refine exTP rfl ?_
    obtain ⟨m, hm'⟩ : ∃ m, FUEL = m + 1 := Nat.exists_eq_succ_of_ne_zero (by omega)
    rw [hm', F12_c0]
    exact ⟨_, rfl, rfl, .over _ _ _ _ _ _ _ _ _ _ _ _ (fun _ h => by cases h) (fun _ => rfl) (by omega)⟩
  · rw [decide_eq_false h40, cond_false, inc_N]
    have hN1 : N + 1 ≤ 40 := by unfold ofN at h40; omega
    have hpp : isP p = true := by
      have hm' := hm
      simp only [rightM, Bool.and_eq_true] at hm'
      exact hm'.2.2.2.2.2.2
    obtain ⟨t', f', eo, h1, h2⟩ : ∃ t' f', onV ⟨a0, a1, a2, a3, a4, a5, a6, a7, a8, a9, a10, a11, a12, a13, a14, a15, a16, a17, a18, a19⟩ ⟨k, t, ofN (N + 1), s, false, 0⟩ p d = ⟨k, t', ofN (N + 1), s, f', 0⟩ ∧ isP t' = true ∧ (f' = false → t' ≠ a0) := by
      unfold onV
      by_cases hp : p = a0
      · cases d with
        | true => exact ⟨p, true, by simp, hpp, fun h => by cases h⟩
        | false =>
          obtain ⟨n1, n2, _⟩ := nextV_ok (v := ⟨a0, a1, a2, a3, a4, a5, a6, a7, a8, a9, a10, a11, a12, a13, a14, a15, a16, a17, a18, a19⟩) (k := k) (s := s) hv
          exact ⟨_, _, by rw [decide_eq_true (show p = a0 from hp)]; rfl, n1, fun _ => n2⟩
      · exact ⟨p, d, by rw [decide_eq_false (show ¬ p = a0 from hp)]; rfl, hpp, fun _ => hp⟩
    rw [eo]
    refine exFP rfl ?_
    cases f' with
    | true => exact exTP rfl (tl_found (by omega) hi hnd hP h3 hw h1 rfl rfl hN1)
    | false =>
      refine exFP rfl ?_
      rw [lask_p, rightL_on hk h1 hN1]
      simp only [Option.bind_some, cond_true]
      exact exTP rfl ⟨_, rfl, rfl, .look _ _ _ _ _ _ _ _ _ hw hk h1 (h2 rfl) (fun _ => rfl) rfl hN1⟩
theorem failed_look (a0 : Int) (a1 a2 : List Int) (a3 a4 a5 a6 a7 a8 a9 a10 a11 a12 a13 a14 a15 a16 a17 a18 a19 : Int) (w k t : Int) (N : Nat) (s : Bool) (ik : ByteArray) (iv ir : Int) (ig : Bool) (o e : Int) (hv : rightV ⟨a0, a1, a2, a3, a4, a5, a6, a7, a8, a9, a10, a11, a12, a13, a14, a15, a16, a17, a18, a19⟩ = true) (hw : w = 1 ∨ w = 2 ∨ w = 3) (hk : isP k = true) (ht : isP t = true) (hN : N ≤ 40) :
    ∃ y, F11 FUEL a0 a1 a2 a3 a4 a5 a6 a7 a8 a9 a10 a11 a12 a13 a14 a15 a16 a17 a18 a19 w 1 k t (ofN N) s false 0 ik iv ir ig o [] e t = some y ∧ y.q0 = w ∧ JS a0 w y.q15 false (N + 1) y.q1 y.q2 y.q3 y.q4 y.q5 y.q6 y.q7 y.q8 y.q9 y.q10 y.q11 y.q12 y.q13 y.q14 y.q16 := by
  have hf := fuel_big
  unfold F11
  rw [jown _ _ _ _ _ _ _ _ _ _ _ _ _ _ _ (by simp), viewR_p (by omega), hv]
  simp only [Option.bind_some, cond_true]
  refine exTP rfl (exTP (ieq_me _) ?_)
  rw [again_p (by omega) a0 a1 a2 a3 a4 a5 a6 a7 a8 a9 a10 a11 a12 a13 a14 a15 a16 a17 a18 a19 k t (ofN N) s false 0, Option.bind_some]
  have hT : againV ⟨a0, a1, a2, a3, a4, a5, a6, a7, a8, a9, a10, a11, a12, a13, a14, a15, a16, a17, a18, a19⟩ ⟨k, t, ofN N, s, false, 0⟩ = bif decide (40 < (ofN N : Int) + 1) then ⟨k, t, ofN N + 1, s, false, 211⟩ else onV ⟨a0, a1, a2, a3, a4, a5, a6, a7, a8, a9, a10, a11, a12, a13, a14, a15, a16, a17, a18, a19⟩ ⟨k, t, ofN N + 1, true, false, 0⟩ a0 false := by
    unfold againV
    rw [hv, rightL_on hk ht hN]; rfl
  rw [hT]
  by_cases h40 : (40 : Int) < (ofN N : Int) + 1
  · rw [decide_eq_true h40, cond_true]
    refine exTP rfl ?_
    obtain ⟨m, hm'⟩ : ∃ m, FUEL = m + 1 := Nat.exists_eq_succ_of_ne_zero (by omega)
    rw [hm', F11_c0]
    exact ⟨_, rfl, rfl, .over _ _ _ _ _ _ _ _ _ _ _ _ (fun _ h => by cases h) (fun _ => rfl) (by omega)⟩
  · rw [decide_eq_false h40, cond_false, inc_N]
    have hN1 : N + 1 ≤ 40 := by unfold ofN at h40; omega
    obtain ⟨t', f', eo, h1, h2⟩ : ∃ t' f', onV ⟨a0, a1, a2, a3, a4, a5, a6, a7, a8, a9, a10, a11, a12, a13, a14, a15, a16, a17, a18, a19⟩ ⟨k, t, ofN (N + 1), true, false, 0⟩ a0 false = ⟨k, t', ofN (N + 1), true, f', 0⟩ ∧ isP t' = true ∧ t' ≠ a0 := by
      obtain ⟨n1, n2, _⟩ := nextV_ok (v := ⟨a0, a1, a2, a3, a4, a5, a6, a7, a8, a9, a10, a11, a12, a13, a14, a15, a16, a17, a18, a19⟩) (k := k) (s := true) hv
      exact ⟨_, _, by unfold onV; rw [decide_eq_true (show a0 = a0 from rfl)]; rfl, n1, n2⟩
    rw [eo]
    refine exFP rfl ?_
    cases f' with
    | true => exact exTP rfl (fl_found (by omega) h2 hw h1 rfl rfl hN1)
    | false =>
      refine exFP rfl ?_
      rw [lask_p, rightL_on hk h1 hN1]
      simp only [Option.bind_some, cond_true]
      exact exTP rfl ⟨_, rfl, rfl, .look _ _ _ _ _ _ _ _ _ hw hk h1 h2 (fun _ => rfl) rfl hN1⟩
end Go.Proofs.YtlcbbjcehaahlaaGreat
namespace Go.Proofs.YtlcbbjcehaahlaaGreat
open Go Go.RowKit
theorem mixgo_c (k : ByteArray) (hk : k.size ≤ 20) : ∀ (d i n : Nat) (y : Int), k.size = i + d → d < n → ∃ r, F77_c0 n (ofN k.size) (ofN i) k y = some r ∧ True := by
  intro d
  induction d with
  | zero =>
    intro i n y hd hn
    obtain ⟨m, rfl⟩ : ∃ m, n = m + 1 := Nat.exists_eq_succ_of_ne_zero (by omega)
    rw [F77_c0]
    exact exFP (ilt_f (by omega)) ⟨_, rfl, trivial⟩
  | succ d ih =>
    intro i n y hd hn
    obtain ⟨m, rfl⟩ : ∃ m, n = m + 1 := Nat.exists_eq_succ_of_ne_zero (by omega)
    rw [F77_c0]
    refine exTP (ilt_t (by omega)) (exTP (inb_t (by omega)) ?_)
    unfold F99 F97
    simp only [Option.bind_some]
    rw [add_one (by omega)]
    exact ih _ _ _ (by omega) (by omega)
theorem mixof (k : ByteArray) : ∃ r, F44 FUEL k = some r ∧ True := by
  have hf := fuel_big
  unfold F44
  have z : ∀ n, 0 < n → ∃ r, F44_c0 n = some r ∧ True := fun n hn => by
    obtain ⟨m, rfl⟩ : ∃ m, n = m + 1 := Nat.exists_eq_succ_of_ne_zero (by omega)
    exact ⟨_, rfl, trivial⟩
  refine exDP (fun _ => z _ (by omega)) fun _ => exDP (fun _ => z _ (by omega)) fun h => ?_
  have h2 : (k.size : Int) ≤ 20 := igt_len h
  unfold F77 F97
  simp only [Option.bind_some]
  obtain ⟨r, e, _⟩ := mixgo_c k (by omega) k.size 0 FUEL (bits .and .i64 7 65535) (by omega) (by omega)
  have e' : F77_c0 FUEL (stlen k) 0 k (bits .and .i64 7 65535) = some r := e
  rw [e']
  exact ⟨_, rfl, trivial⟩
theorem begun_p (w p : Int) (k : ByteArray) (v r : Int) (g : Bool) : ∃ y, F25 FUEL w p k v r g = some y ∧ (y.q5 = true → (w = 1 ∨ w = 2) ∨ (w = 3 ∧ y.q1 = k ∧ y.q2 = 0 ∧ y.q3 = 0 ∧ y.q4 = false)) := by
  unfold F25
  refine exDP (fun h => exDP (fun _ => ⟨_, rfl, fun _ => .inl (.inl (by simpa [ieq] using h))⟩) fun _ => ⟨_, rfl, fun _ => .inl (.inl (by simpa [ieq] using h))⟩) fun _ => ?_
  obtain ⟨x, ex, _⟩ := mixof k
  refine exDP (fun h => ?_) fun _ => exDP (fun h => ?_) fun _ => ⟨_, rfl, fun h => by cases h⟩
  · rw [ex, Option.bind_some, pair_p]
    exact exDP (fun _ => ⟨_, rfl, fun _ => .inl (.inr (by simpa [ieq] using h))⟩) fun _ => ⟨_, rfl, fun h => by cases h⟩
  · rw [ex, Option.bind_some]
    exact ⟨_, rfl, fun _ => .inr ⟨by simpa [ieq] using h, rfl, rfl, rfl, rfl⟩⟩
theorem begin_job (a0 : Int) (a1 a2 : List Int) (a3 a4 a5 a6 a7 a8 a9 a10 a11 a12 a13 a14 a15 a16 a17 a18 a19 : Int) (w p : Int) (k : ByteArray) (v r : Int) (g : Bool) (hv : rightV ⟨a0, a1, a2, a3, a4, a5, a6, a7, a8, a9, a10, a11, a12, a13, a14, a15, a16, a17, a18, a19⟩ = true) :
    ∃ y, F9 FUEL a0 a1 a2 a3 a4 a5 a6 a7 a8 a9 a10 a11 a12 a13 a14 a15 a16 a17 a18 a19 w p k v r g = some y ∧ y.q0 = w ∧ JS a0 w y.q14 false 0 y.q1 y.q2 y.q3 y.q4 y.q5 y.q6 y.q7 y.q8 y.q9 y.q10 y.q11 y.q12 y.q15 y.q13 y.q16 := by
  have hf := fuel_big
  unfold F9
  obtain ⟨y, ey, hy⟩ := begun_p w p k v r g
  rw [ey, Option.bind_some, viewR_p (by omega), begin_p, hv]
  simp only [Option.bind_some]
  refine exDP (fun _ => ⟨_, rfl, rfl, .over _ _ _ _ _ _ _ _ _ _ _ _ (fun _ h => by cases h) (fun _ => rfl) (by omega)⟩) fun hq => ?_
  have hw : w = 1 ∨ w = 2 ∨ w = 3 := by
    rcases hy (by simpa using hq) with (h | h) | ⟨h, _⟩
    · exact .inl h
    · exact .inr (.inl h)
    · exact .inr (.inr h)
  have hb : beginV ⟨a0, a1, a2, a3, a4, a5, a6, a7, a8, a9, a10, a11, a12, a13, a14, a15, a16, a17, a18, a19⟩ y.q0 = ⟨pl y.q0, (nextV ⟨a0, a1, a2, a3, a4, a5, a6, a7, a8, a9, a10, a11, a12, a13, a14, a15, a16, a17, a18, a19⟩ (pl y.q0) false).1, 0, false, (nextV ⟨a0, a1, a2, a3, a4, a5, a6, a7, a8, a9, a10, a11, a12, a13, a14, a15, a16, a17, a18, a19⟩ (pl y.q0) false).2, 0⟩ := by unfold beginV; rw [hv]; rfl
  rw [hb]
  obtain ⟨n1, n2, _⟩ := nextV_ok (v := ⟨a0, a1, a2, a3, a4, a5, a6, a7, a8, a9, a10, a11, a12, a13, a14, a15, a16, a17, a18, a19⟩) (k := pl y.q0) (s := false) hv
  generalize nextV ⟨a0, a1, a2, a3, a4, a5, a6, a7, a8, a9, a10, a11, a12, a13, a14, a15, a16, a17, a18, a19⟩ (pl y.q0) false = e at n1 n2 ⊢
  obtain ⟨t, fd⟩ := e
  simp only at n1 n2 ⊢
  refine exFP rfl (exFP rfl ?_)
  cases fd
  · refine exFP rfl ?_
    rw [lask_p]
    have hr : (rightL ⟨pl y.q0, t, 0, false, false, 0⟩ && !overL ⟨pl y.q0, t, 0, false, false, 0⟩) = true := rightL_on (N := 0) (isP_of_pl _) n1 (by omega)
    rw [hr]
    simp only [Option.bind_some, cond_true]
    exact exTP rfl ⟨_, rfl, rfl, JS.look (N := 0) _ _ _ _ _ _ _ _ _ hw (isP_of_pl _) n1 n2 (fun _ => rfl) rfl (by omega)⟩
  · exact exTP rfl (bg_found (by omega) n2 hw n1 rfl (by omega))
theorem told_list (a0 : Int) (a1 a2 : List Int) (a3 a4 a5 a6 a7 a8 a9 a10 a11 a12 a13 a14 a15 a16 a17 a18 a19 : Int) (b2 : Int) (b3 : Int) (b4 : Int) (b5 : Bool) (b6 : Bool) (b7 : Int) (b8 : ByteArray) (b9 : Int) (b10 : Int) (b11 : Bool) (o e : Int) (l : List Int) (c : Int) (N : Nat) (hs : N ≤ 40) (hv : rightV ⟨a0, a1, a2, a3, a4, a5, a6, a7, a8, a9, a10, a11, a12, a13, a14, a15, a16, a17, a18, a19⟩ = true) (hio : isP o = true) (hm : rightM ⟨7, c, o, a0, 0, false, false, 0, -1, l, ByteArray.empty, 0, 0, false, 0⟩ = true) :
    ∃ y, F12 FUEL a0 a1 a2 a3 a4 a5 a6 a7 a8 a9 a10 a11 a12 a13 a14 a15 a16 a17 a18 a19 2 2 b2 b3 b4 b5 b6 b7 b8 b9 b10 b11 o [] e 7 c o a0 0 false false 0 (-1) l ByteArray.empty 0 0 false 0 = some y ∧ y.q0 = 2 ∧ JS a0 2 y.q15 false (N + 1) y.q1 y.q2 y.q3 y.q4 y.q5 y.q6 y.q7 y.q8 y.q9 y.q10 y.q11 y.q12 y.q13 y.q14 y.q16 := by
  have hf := fuel_big
  have hm' := hm
  simp only [rightM, Bool.and_eq_true] at hm'
  obtain ⟨_, _, hia, _, _, _, hh⟩ := hm'
  have hh' : ((decide ((-1 : Int) = -1) || isP (-1)) && (lstB o [] l && decide (l.length ≤ 3))) = true := hh
  simp only [Bool.and_eq_true, decide_eq_true_eq] at hh'
  obtain ⟨_, hb, hl⟩ := hh'
  obtain ⟨q1, q2⟩ := lstB_all o l [] hb
  have hN : (o :: l).Nodup := List.nodup_cons.2 ⟨fun h => (q1 o h).2.1 rfl, q2⟩
  have hall : ∀ x ∈ o :: l, isP x = true := by
    intro x hx
    rcases List.mem_cons.1 hx with e | hx
    · rw [e]; exact hio
    · exact (q1 x hx).1
  unfold F12
  rw [jown _ _ _ _ _ _ _ _ _ _ _ _ _ _ _ (by simp), viewR_p (by omega), mright_p (n := FUEL) (by omega) 7 c o a0 0 false false 0 (-1) l ByteArray.empty 0 0 false 0 (by show l.length < 1000; omega), hm, hv]
  simp only [Option.bind_some, cond_true]
  have hk : ([o] ++ l) = o :: l := rfl
  refine exTP (ieq_me _) (exFP rfl (exTP rfl (exTP rfl (exTP (ieq_me _) (exTP (room_small (by simp; omega) (by omega)) ?_)))))
  rw [hk, min_l]
  refine exTP (inns_t (by omega)) ?_
  have e2 : (ofN (min 3 (o :: l).length)).toNat - 0 = min 3 (o :: l).length := rfl
  rw [e2]
  have hT : ((o :: l).take (min 3 (o :: l).length)).length = min 3 (o :: l).length := by rw [List.length_take]; omega
  have hTs := List.take_sublist (min 3 (o :: l).length) (o :: l)
  have := tl_put (x8 := 0) (x9 := 0) (x10 := 0) (x11 := 0) (x12 := 0) (x13 := false) (x14 := false) (x15 := 0) (x16 := ByteArray.empty) (x17 := 0) (x18 := 0) (x19 := false) (x20 := 0) (x21 := 0) (x22 := a0) (x23 := a1) (x24 := a2) (x25 := a3) (x26 := a4) (x27 := a5) (x28 := a6) (x29 := a7) (x30 := a8) (x31 := a9) (x32 := a10) (x33 := a11) (x34 := a12) (x35 := a13) (x36 := a14) (x37 := a15) (x38 := a16) (x39 := a17) (x40 := a18) (x41 := a19) (x42 := 2) (x43 := 2) (x44 := b2) (x45 := b3) (x46 := b4) (x47 := b5) (x48 := b6) (x49 := b7) (x50 := b8) (x51 := b9) (x52 := b10) (x53 := b11) (x54 := o) (x55 := e) (o :: l) ((o :: l).drop (min 3 (o :: l).length)) (by simp; omega) (min 3 (o :: l).length) (by omega) ((o :: l).take (min 3 (o :: l).length)) [] FUEL false false [] [] (by simp) (by rw [hT]; simp) (by rw [List.nil_append]; exact hN.sublist hTs) (by simp) (by simp) (by rw [hT]; omega)
  simp only [List.nil_append, Bool.false_or] at this
  refine ⟨_, this, rfl, ?_⟩
  refine JS.all rfl ((hN.sublist hTs).filter _) (fun x hx => ?_) (fun _ => rfl) ?_
  · rw [List.mem_filter] at hx
    exact ⟨hall x (hTs.subset hx.1), by simpa using hx.2⟩
  · have := List.length_filter_le (· != a0) ((o :: l).take (min 3 (o :: l).length))
    omega
theorem failed_owner (a0 : Int) (a1 a2 : List Int) (a3 a4 a5 a6 a7 a8 a9 a10 a11 a12 a13 a14 a15 a16 a17 a18 a19 : Int) (b0 b1 : Int) (b2 : Int) (b3 : Int) (b4 : Int) (b5 : Bool) (b6 : Bool) (b7 : Int) (b8 : ByteArray) (b9 : Int) (b10 : Int) (b11 : Bool) (o e : Int) (hv : rightV ⟨a0, a1, a2, a3, a4, a5, a6, a7, a8, a9, a10, a11, a12, a13, a14, a15, a16, a17, a18, a19⟩ = true) (h1 : b1 = 2 ∨ b1 = 4) :
    F11 FUEL a0 a1 a2 a3 a4 a5 a6 a7 a8 a9 a10 a11 a12 a13 a14 a15 a16 a17 a18 a19 b0 b1 b2 b3 b4 b5 b6 b7 b8 b9 b10 b11 o [] e o = some ⟨b0, 5, b2, b3, b4, b5, b6, b7, b8, b9, b10, b11, o, [], 210, false, []⟩ := by
  have hf := fuel_big
  unfold F11
  rw [jown _ _ _ _ _ _ _ _ _ _ _ _ _ _ _ (by simp), viewR_p (by omega), hv]
  simp only [Option.bind_some, cond_true]
  rcases h1 with h | h
  · subst h; exact eqF rfl (eqT rfl (eqT (ieq_me _) rfl))
  · subst h; exact eqF rfl (eqF rfl (eqF rfl (eqT rfl (eqT (ieq_me _) rfl))))
theorem told_got (a0 : Int) (a1 a2 : List Int) (a3 a4 a5 a6 a7 a8 a9 a10 a11 a12 a13 a14 a15 a16 a17 a18 a19 : Int) (b0 : Int) (b2 : Int) (b3 : Int) (b4 : Int) (b5 : Bool) (b6 : Bool) (b7 : Int) (b8 : ByteArray) (b9 : Int) (b10 : Int) (b11 : Bool) (o e : Int) (c : Int) (k : ByteArray) (v cd : Int) (hv : rightV ⟨a0, a1, a2, a3, a4, a5, a6, a7, a8, a9, a10, a11, a12, a13, a14, a15, a16, a17, a18, a19⟩ = true) (hm : rightM ⟨12, c, o, a0, 0, false, false, 0, 0, [], k, v, 0, false, cd⟩ = true) :
    ∃ y, F12 FUEL a0 a1 a2 a3 a4 a5 a6 a7 a8 a9 a10 a11 a12 a13 a14 a15 a16 a17 a18 a19 b0 4 b2 b3 b4 b5 b6 b7 b8 b9 b10 b11 o [] e 12 c o a0 0 false false 0 0 [] k v 0 false cd = some y ∧ y.q0 = b0 ∧ (y.q1 = 5 ∧ y.q13 = [] ∧ y.q15 = false ∧ y.q16 = []) := by
  have hf := fuel_big
  unfold F12
  rw [jown _ _ _ _ _ _ _ _ _ _ _ _ _ _ _ (by simp), viewR_p (by omega), mright_p (n := FUEL) (by omega) 12 c o a0 0 false false 0 0 [] k v 0 false cd (by simp), hm, hv]
  simp only [Option.bind_some, cond_true]
  refine exTP (ieq_me _) (exFP rfl (exFP rfl (exFP rfl (exTP rfl (exTP rfl (exTP (ieq_me _) ?_))))))
  exact exDP (fun _ => ⟨_, rfl, rfl, rfl, rfl, rfl, rfl⟩) fun _ => ⟨_, rfl, rfl, rfl, rfl, rfl, rfl⟩
theorem and_i {a b : Bool} (h1 : a = true) (h2 : b = true) : (a && b) = true := by rw [h1, h2]; rfl
section
variable {Y : Type} {z : Option Bool}
theorem round1 {okE : Option Bool} {fe te : Option Y} {inn lost ow fu b5 bc c1 ok : Bool} {q c2 : Y → Bool} {X : Y → Bool → Bool → Option Bool} (hok : okE = some ok) (hin : inn = true) (hc1 : c1 = true)
    (hf : ∃ y, fe = some y ∧ c2 y = true ∧ X y (ow || q y) (fu || b5) = z) (ht : ok = true → ∃ y, te = some y ∧ c2 y = true ∧ X y (ow || q y) (fu || (b5 && bc)) = z) :
    (Option.bind okE fun y8 => bif inn then (bif lost then (Option.bind fe fun y => bif fu then (bif ow then (bif c1 then (bif c2 y then X y true true else none) else none) else (bif c1 then (bif c2 y then X y (q y) true else none) else none)) else (bif ow then (bif c1 then (bif c2 y then X y true b5 else none) else none) else (bif c1 then (bif c2 y then X y (q y) b5 else none) else none)))
      else (bif (!y8) then (Option.bind fe fun y => bif fu then (bif ow then (bif c1 then (bif c2 y then X y true true else none) else none) else (bif c1 then (bif c2 y then X y (q y) true else none) else none)) else (bif ow then (bif c1 then (bif c2 y then X y true b5 else none) else none) else (bif c1 then (bif c2 y then X y (q y) b5 else none) else none)))
      else (Option.bind te fun y => bif fu then (bif ow then (bif c1 then (bif c2 y then X y true true else none) else none) else (bif c1 then (bif c2 y then X y (q y) true else none) else none)) else (bif b5 then (bif ow then (bif c1 then (bif c2 y then X y true bc else none) else none) else (bif c1 then (bif c2 y then X y (q y) bc else none) else none)) else (bif ow then (bif c1 then (bif c2 y then X y true false else none) else none) else (bif c1 then (bif c2 y then X y (q y) false else none) else none)))))) else none) = z := by
  subst hok hin hc1
  obtain ⟨y, rfl, h1, h2⟩ := hf
  have fail : (Option.bind (some y) fun y => bif fu then (bif ow then (bif true then (bif c2 y then X y true true else none) else none) else (bif true then (bif c2 y then X y (q y) true else none) else none)) else (bif ow then (bif true then (bif c2 y then X y true b5 else none) else none) else (bif true then (bif c2 y then X y (q y) b5 else none) else none))) = z := by
    simp only [Option.bind_some, h1, cond_true]
    rw [← h2]
    cases fu <;> cases ow <;> rfl
  simp only [Option.bind_some, cond_true] at fail ⊢
  cases lost
  · cases ok
    · simpa only [Bool.not_false, cond_true, cond_false] using fail
    · obtain ⟨y', rfl, h3, h4⟩ := ht rfl
      simp only [Bool.not_true, cond_false, Option.bind_some, h3, cond_true]
      rw [← h4]
      cases fu <;> cases ow <;> cases b5 <;> rfl
  · simpa only [cond_true] using fail
end
theorem JS.own {id w : Int} {ow fu : Bool} {N : Nat} {b1 b2 b3 b4 b5 b6 b7 b8 b9 b10 b11 b12 b13 b14} {asks : List MT} (h : JS id w ow fu N b1 b2 b3 b4 b5 b6 b7 b8 b9 b10 b11 b12 b13 b14 asks) (o : Bool) (ho : w = 1 → o = false) : JS id w (o || ow) fu N b1 b2 b3 b4 b5 b6 b7 b8 b9 b10 b11 b12 b13 b14 asks := by
  have c : ∀ (_ : w = 1 → ow = false), w = 1 → (o || ow) = false := fun h1 h2 => by rw [ho h2, h1 h2]; rfl
  cases h with
  | over _ _ _ _ _ _ _ _ _ _ _ _ q1 q2 q3 => exact .over _ _ _ _ _ _ _ _ _ _ _ _ q1 (c q2) q3
  | look _ _ _ _ _ _ _ _ _ q1 q2 q3 q4 q5 q6 q7 => exact .look _ _ _ _ _ _ _ _ _ q1 q2 q3 q4 (c q5) q6 q7
  | state _ _ _ _ _ _ _ _ _ _ _ _ q1 q2 q3 q4 q5 => exact .state _ _ _ _ _ _ _ _ _ _ _ _ q1 q2 q3 q4 q5
  | put _ _ _ _ _ _ _ _ _ _ _ _ z W q1 q2 q3 q4 q5 => exact .put _ _ _ _ _ _ _ _ _ _ _ _ z W q1 q2 q3 q4 q5
  | get _ _ _ _ _ _ _ _ _ _ _ _ q1 q2 q3 q4 => exact .get _ _ _ _ _ _ _ _ _ _ _ _ q1 q2 q3 q4
theorem JS.len {id w : Int} {ow fu : Bool} {N : Nat} {b1 b2 b3 b4 b5 b6 b7 b8 b9 b10 b11 b12 b13 b14} {asks : List MT} (h : JS id w ow fu N b1 b2 b3 b4 b5 b6 b7 b8 b9 b10 b11 b12 b13 b14 asks) : asks.length ≤ 44 := by
  cases h with
  | over => simp
  | look => simp
  | state => simp
  | get => simp
  | put => simp; omega
theorem JS.steps {id w : Int} {ow fu : Bool} {N : Nat} {b1 b2 b3 b4 b5 b6 b7 b8 b9 b10 b11 b12 b13 b14} {asks : List MT} (h : JS id w ow fu N b1 b2 b3 b4 b5 b6 b7 b8 b9 b10 b11 b12 b13 b14 asks) : N ≤ 45 := by
  cases h <;> omega
theorem getD_mem {α : Type} {l : List α} {i : Nat} {d : α} (h : i < l.length) : l.getD (ofN i).toNat d ∈ l := by
  have : l.getD (ofN i).toNat d = l[i] := by rw [toN]; simp [List.getD, h]
  rw [this]; exact List.getElem_mem h
theorem over_u (a0 : Int) (a1 a2 : List Int) (a3 a4 a5 a6 a7 a8 a9 a10 a11 a12 a13 a14 a15 a16 a17 a18 a19 : Int) (b0 : Int) (b2 : Int) (b3 : Int) (b4 : Int) (b5 : Bool) (b6 : Bool) (b7 : Int) (b8 : ByteArray) (b9 : Int) (b10 : Int) (b11 : Bool) (b12 : Int) (b14 : Int) (h1 : a1.length ≤ 20) (h2 : a2.length ≤ 20) :
    (bif (igt (ofN (List.length ([] : List Int))) 0) then some false else Option.bind (F12 FUEL a0 a1 a2 a3 a4 a5 a6 a7 a8 a9 a10 a11 a12 a13 a14 a15 a16 a17 a18 a19 b0 5 b2 b3 b4 b5 b6 b7 b8 b9 b10 b11 b12 [] b14 0 0 0 0 0 false false 0 0 [] ByteArray.empty 0 0 false 0) fun y => Option.bind (F13 FUEL y.q0 y.q1 y.q2 y.q3 y.q4 y.q5 y.q6 y.q7 y.q8 y.q9 y.q10 y.q11 y.q12 y.q13 y.q14 b0 5 b2 b3 b4 b5 b6 b7 b8 b9 b10 b11 b12 [] b14) fun y' =>
      bif y' then (bif (ieq (ofN (List.length y.q16)) 0) then (Option.bind (F8 FUEL) fun z => some z) else some false) else some false) = some true := by
  have hf := fuel_big
  refine eqF rfl ?_
  obtain ⟨y, ey, hy⟩ := jtold a0 a1 a2 a3 a4 a5 a6 a7 a8 a9 a10 a11 a12 a13 a14 a15 a16 a17 a18 a19 b0 5 b2 b3 b4 b5 b6 b7 b8 b9 b10 b11 b12 [] b14 0 0 0 0 0 false false 0 0 [] ByteArray.empty 0 0 false 0 h1 h2 (by simp) (by simp)
  rw [ey, Option.bind_some]
  have hy := hy (.inr (.inl (by omega)))
  subst hy
  refine (congrArg (fun z => Option.bind z _) (jsame (n := FUEL) (by omega) b0 5 b2 b3 b4 b5 b6 b7 b8 b9 b10 b11 b12 [] b14 (by simp))).trans ?_
  rw [Option.bind_some]
  refine eqT rfl (eqT rfl ?_)
  rw [wakes21]; rfl
section
variable {z : Option Bool}
theorem fin_over {st big ow fu w1 w2 e0 : Bool} {V U : Option Bool} (h1 : st = false) (h2 : big = false) (hU : U = z) (h3 : w2 = true → e0 = true → fu = false) (h4 : w1 = true → ow = false) :
    (bif st then some false else (bif big then V else (bif w2 then (bif e0 then (bif fu then some false else (bif w1 then (bif ow then some false else U) else U)) else (bif w1 then (bif ow then some false else U) else U)) else (bif w1 then (bif ow then some false else U) else U)))) = z := by
  subst h1 h2
  simp only [cond_false]
  cases w2 <;> cases e0 <;> cases fu <;> cases w1 <;> cases ow <;> simp_all
end
theorem getD_hd {α : Type} {x d : α} {r : List α} : List.getD (x :: r) (Int.toNat 0) d = x := rfl
theorem c0_hop (a0 : Int) (a1 a2 : List Int) (a3 a4 a5 a6 a7 a8 a9 a10 a11 a12 a13 a14 a15 a16 a17 a18 a19 : Int) {m i : Nat} {w : Int} {l : List (Bool × Bool × Int × (List (Int)) × Bool)} {ow fu : Bool} (b0 : Int) (b1 : Int) (b2 : Int) (b3 : Int) (b4 : Int) (b5 : Bool) (b6 : Bool) (b7 : Int) (b8 : ByteArray) (b9 : Int) (b10 : Int) (b11 : Bool) (b12 : Int) (b13 : List Int) (b14 : Int) (A : MT) (rest : List MT) (hA : A.1 = 4) (hil : i < l.length) (hl : rest.length < 100) (hb : b1 ≠ 5)
    (rR : (List.getD l (Int.toNat (ofN i)) (false, false, 0, [], false)).2.2.2.1.length ≤ 9223372036854775807)
    (hf : ∃ y, F11 FUEL a0 a1 a2 a3 a4 a5 a6 a7 a8 a9 a10 a11 a12 a13 a14 a15 a16 a17 a18 a19 b0 b1 b2 b3 b4 b5 b6 b7 b8 b9 b10 b11 b12 b13 b14 A.2.2.2.1 = some y ∧ y.q16.length < 100 ∧ F3_c0 m w l (ow || y.q15) (fu || ieq A.1 5) (iadd .i64 (ofN i) 1) (iadd .i64 (ofN i) 1) a0 a1 a2 a3 a4 a5 a6 a7 a8 a9 a10 a11 a12 a13 a14 a15 a16 a17 a18 a19 y.q0 y.q1 y.q2 y.q3 y.q4 y.q5 y.q6 y.q7 y.q8 y.q9 y.q10 y.q11 y.q12 y.q13 y.q14 (rest ++ y.q16) = some true)
    (ht0 : (rightM ⟨10, (iadd .i64 (imul .i64 a0 1048576) 1), A.2.2.2.1, a0, 0, false, (List.getD l (Int.toNat (ofN i)) (false, false, 0, [], false)).2.1, (List.getD l (Int.toNat (ofN i)) (false, false, 0, [], false)).2.2.1, 0, [], ByteArray.empty, 0, 0, false, 0⟩ = true → ∃ y, F12 FUEL a0 a1 a2 a3 a4 a5 a6 a7 a8 a9 a10 a11 a12 a13 a14 a15 a16 a17 a18 a19 b0 b1 b2 b3 b4 b5 b6 b7 b8 b9 b10 b11 b12 b13 b14 10 (iadd .i64 (imul .i64 a0 1048576) 1) A.2.2.2.1 a0 0 false (List.getD l (Int.toNat (ofN i)) (false, false, 0, [], false)).2.1 (List.getD l (Int.toNat (ofN i)) (false, false, 0, [], false)).2.2.1 0 [] ByteArray.empty 0 0 false 0 = some y ∧ y.q16.length < 100 ∧ F3_c0 m w l (ow || y.q15) (fu || (ieq A.1 5 && ine 0 0)) (iadd .i64 (ofN i) 1) (iadd .i64 (ofN i) 1) a0 a1 a2 a3 a4 a5 a6 a7 a8 a9 a10 a11 a12 a13 a14 a15 a16 a17 a18 a19 y.q0 y.q1 y.q2 y.q3 y.q4 y.q5 y.q6 y.q7 y.q8 y.q9 y.q10 y.q11 y.q12 y.q13 y.q14 (rest ++ y.q16) = some true))
    : F3_c0 (m + 1) w l ow fu (ofN i) (ofN i) a0 a1 a2 a3 a4 a5 a6 a7 a8 a9 a10 a11 a12 a13 a14 a15 a16 a17 a18 a19 b0 b1 b2 b3 b4 b5 b6 b7 b8 b9 b10 b11 b12 b13 b14 (A :: rest) = some true := by
  rw [F3_c0]
  have e0 : ieq (ofN (List.length (A :: rest))) 0 = false := ieq_f (by simp [ofN]; omega)
  have e1 : inb 0 (List.length (A :: rest)) = true := inb_t (i := 0) (by simp)
  have e2 : nlt (Int.toNat 0) (List.length (A :: rest)) = true := nlt_t (i := 0) (by simp)
  have ec : ((inn 1 && true) && inbs (Int.toNat 1) (List.length (A :: rest)) (List.length (A :: rest))) = true := innt_t (i := 1) (by simp)
  have ef : ∀ (y : Si5b2isi2bilibl_i5b2i2lsi2bi_), y.q16.length < 100 → (full (Int.toNat 1) ((List.length (A :: rest)) - (Int.toNat 1)) (List.length (A :: rest)) && room (((List.length (A :: rest)) - (Int.toNat 1)) + List.length y.q16) 136) = true := fun y hy =>
    and_i (decide_eq_true (by simp; omega)) (room_small (by simp; omega) (by omega))
  refine eqT (ilt_t hil) (eqT (ine_t hb) (eqF e0 (eqT e1 (eqT e2 (eqT (inb_t hil) ?_)))))
  have e10 : iadd .u8 A.1 6 = 10 := by rw [hA]; rfl
  simp only [getD_hd]
  rw [e10]
  refine eqT (by rw [hA]; rfl) ?_
  refine round1 (Y := Si5b2isi2bilibl_i5b2i2lsi2bi_) (X := fun y o f => F3_c0 m w l o f (iadd .i64 (ofN i) 1) (iadd .i64 (ofN i) 1) a0 a1 a2 a3 a4 a5 a6 a7 a8 a9 a10 a11 a12 a13 a14 a15 a16 a17 a18 a19 y.q0 y.q1 y.q2 y.q3 y.q4 y.q5 y.q6 y.q7 y.q8 y.q9 y.q10 y.q11 y.q12 y.q13 y.q14 (List.drop (Int.toNat 1) (A :: rest) ++ y.q16)) (q := fun y => y.q15) (c2 := fun y => full (Int.toNat 1) ((List.length (A :: rest)) - (Int.toNat 1)) (List.length (A :: rest)) && room (((List.length (A :: rest)) - (Int.toNat 1)) + List.length y.q16) 136) (bc := ine 0 0) (mright_rl FUEL 10 (iadd .i64 (imul .i64 a0 1048576) 1) A.2.2.2.1 a0 0 false (List.getD l (Int.toNat (ofN i)) (false, false, 0, [], false)).2.1 (List.getD l (Int.toNat (ofN i)) (false, false, 0, [], false)).2.2.1 0 [] ByteArray.empty 0 0 false 0 (by first | exact rR | simp)) (inb_t hil) ec ?_ fun hok => ?_
  · obtain ⟨y, q1, q2, q3⟩ := hf
    exact ⟨y, q1, ef _ q2, q3⟩
  · obtain ⟨y, q1, q2, q3⟩ := ht0 hok
    exact ⟨y, q1, ef _ q2, q3⟩
theorem c0_state (a0 : Int) (a1 a2 : List Int) (a3 a4 a5 a6 a7 a8 a9 a10 a11 a12 a13 a14 a15 a16 a17 a18 a19 : Int) {m i : Nat} {w : Int} {l : List (Bool × Bool × Int × (List (Int)) × Bool)} {ow fu : Bool} (b0 : Int) (b1 : Int) (b2 : Int) (b3 : Int) (b4 : Int) (b5 : Bool) (b6 : Bool) (b7 : Int) (b8 : ByteArray) (b9 : Int) (b10 : Int) (b11 : Bool) (b12 : Int) (b13 : List Int) (b14 : Int) (A : MT) (rest : List MT) (hA : A.1 = 1) (hil : i < l.length) (hl : rest.length < 100) (hb : b1 ≠ 5)
    (rR : (List.getD l (Int.toNat (ofN i)) (false, false, 0, [], false)).2.2.2.1.length ≤ 9223372036854775807)
    (hf : ∃ y, F11 FUEL a0 a1 a2 a3 a4 a5 a6 a7 a8 a9 a10 a11 a12 a13 a14 a15 a16 a17 a18 a19 b0 b1 b2 b3 b4 b5 b6 b7 b8 b9 b10 b11 b12 b13 b14 A.2.2.2.1 = some y ∧ y.q16.length < 100 ∧ F3_c0 m w l (ow || y.q15) (fu || ieq A.1 5) (iadd .i64 (ofN i) 1) (iadd .i64 (ofN i) 1) a0 a1 a2 a3 a4 a5 a6 a7 a8 a9 a10 a11 a12 a13 a14 a15 a16 a17 a18 a19 y.q0 y.q1 y.q2 y.q3 y.q4 y.q5 y.q6 y.q7 y.q8 y.q9 y.q10 y.q11 y.q12 y.q13 y.q14 (rest ++ y.q16) = some true)
    (ht0 : (rightM ⟨7, (iadd .i64 (imul .i64 a0 1048576) 1), A.2.2.2.1, a0, 0, false, false, 0, (-1), (List.getD l (Int.toNat (ofN i)) (false, false, 0, [], false)).2.2.2.1, ByteArray.empty, 0, 0, false, 0⟩ = true → ∃ y, F12 FUEL a0 a1 a2 a3 a4 a5 a6 a7 a8 a9 a10 a11 a12 a13 a14 a15 a16 a17 a18 a19 b0 b1 b2 b3 b4 b5 b6 b7 b8 b9 b10 b11 b12 b13 b14 7 (iadd .i64 (imul .i64 a0 1048576) 1) A.2.2.2.1 a0 0 false false 0 (-1) (List.getD l (Int.toNat (ofN i)) (false, false, 0, [], false)).2.2.2.1 ByteArray.empty 0 0 false 0 = some y ∧ y.q16.length < 100 ∧ F3_c0 m w l (ow || y.q15) (fu || (ieq A.1 5 && ine 0 0)) (iadd .i64 (ofN i) 1) (iadd .i64 (ofN i) 1) a0 a1 a2 a3 a4 a5 a6 a7 a8 a9 a10 a11 a12 a13 a14 a15 a16 a17 a18 a19 y.q0 y.q1 y.q2 y.q3 y.q4 y.q5 y.q6 y.q7 y.q8 y.q9 y.q10 y.q11 y.q12 y.q13 y.q14 (rest ++ y.q16) = some true))
    : F3_c0 (m + 1) w l ow fu (ofN i) (ofN i) a0 a1 a2 a3 a4 a5 a6 a7 a8 a9 a10 a11 a12 a13 a14 a15 a16 a17 a18 a19 b0 b1 b2 b3 b4 b5 b6 b7 b8 b9 b10 b11 b12 b13 b14 (A :: rest) = some true := by
  rw [F3_c0]
  have e0 : ieq (ofN (List.length (A :: rest))) 0 = false := ieq_f (by simp [ofN]; omega)
  have e1 : inb 0 (List.length (A :: rest)) = true := inb_t (i := 0) (by simp)
  have e2 : nlt (Int.toNat 0) (List.length (A :: rest)) = true := nlt_t (i := 0) (by simp)
  have ec : ((inn 1 && true) && inbs (Int.toNat 1) (List.length (A :: rest)) (List.length (A :: rest))) = true := innt_t (i := 1) (by simp)
  have ef : ∀ (y : Si5b2isi2bilibl_i5b2i2lsi2bi_), y.q16.length < 100 → (full (Int.toNat 1) ((List.length (A :: rest)) - (Int.toNat 1)) (List.length (A :: rest)) && room (((List.length (A :: rest)) - (Int.toNat 1)) + List.length y.q16) 136) = true := fun y hy =>
    and_i (decide_eq_true (by simp; omega)) (room_small (by simp; omega) (by omega))
  refine eqT (ilt_t hil) (eqT (ine_t hb) (eqF e0 (eqT e1 (eqT e2 (eqT (inb_t hil) ?_)))))
  have e10 : iadd .u8 A.1 6 = 7 := by rw [hA]; rfl
  simp only [getD_hd]
  rw [e10]
  refine eqF (by rw [hA]; rfl) (eqT (by rw [hA]; rfl) ?_)
  refine round1 (Y := Si5b2isi2bilibl_i5b2i2lsi2bi_) (X := fun y o f => F3_c0 m w l o f (iadd .i64 (ofN i) 1) (iadd .i64 (ofN i) 1) a0 a1 a2 a3 a4 a5 a6 a7 a8 a9 a10 a11 a12 a13 a14 a15 a16 a17 a18 a19 y.q0 y.q1 y.q2 y.q3 y.q4 y.q5 y.q6 y.q7 y.q8 y.q9 y.q10 y.q11 y.q12 y.q13 y.q14 (List.drop (Int.toNat 1) (A :: rest) ++ y.q16)) (q := fun y => y.q15) (c2 := fun y => full (Int.toNat 1) ((List.length (A :: rest)) - (Int.toNat 1)) (List.length (A :: rest)) && room (((List.length (A :: rest)) - (Int.toNat 1)) + List.length y.q16) 136) (bc := ine 0 0) (mright_rl FUEL 7 (iadd .i64 (imul .i64 a0 1048576) 1) A.2.2.2.1 a0 0 false false 0 (-1) (List.getD l (Int.toNat (ofN i)) (false, false, 0, [], false)).2.2.2.1 ByteArray.empty 0 0 false 0 (by first | exact rR | simp)) (inb_t hil) ec ?_ fun hok => ?_
  · obtain ⟨y, q1, q2, q3⟩ := hf
    exact ⟨y, q1, ef _ q2, q3⟩
  · obtain ⟨y, q1, q2, q3⟩ := ht0 hok
    exact ⟨y, q1, ef _ q2, q3⟩
theorem c0_put (a0 : Int) (a1 a2 : List Int) (a3 a4 a5 a6 a7 a8 a9 a10 a11 a12 a13 a14 a15 a16 a17 a18 a19 : Int) {m i : Nat} {w : Int} {l : List (Bool × Bool × Int × (List (Int)) × Bool)} {ow fu : Bool} (b0 : Int) (b1 : Int) (b2 : Int) (b3 : Int) (b4 : Int) (b5 : Bool) (b6 : Bool) (b7 : Int) (b8 : ByteArray) (b9 : Int) (b10 : Int) (b11 : Bool) (b12 : Int) (b13 : List Int) (b14 : Int) (A : MT) (rest : List MT) (hA : A.1 = 5) (hil : i < l.length) (hl : rest.length < 100) (hb : b1 ≠ 5)
    (rR : (List.getD l (Int.toNat (ofN i)) (false, false, 0, [], false)).2.2.2.1.length ≤ 9223372036854775807)
    (hf : ∃ y, F11 FUEL a0 a1 a2 a3 a4 a5 a6 a7 a8 a9 a10 a11 a12 a13 a14 a15 a16 a17 a18 a19 b0 b1 b2 b3 b4 b5 b6 b7 b8 b9 b10 b11 b12 b13 b14 A.2.2.2.1 = some y ∧ y.q16.length < 100 ∧ F3_c0 m w l (ow || y.q15) (fu || ieq A.1 5) (iadd .i64 (ofN i) 1) (iadd .i64 (ofN i) 1) a0 a1 a2 a3 a4 a5 a6 a7 a8 a9 a10 a11 a12 a13 a14 a15 a16 a17 a18 a19 y.q0 y.q1 y.q2 y.q3 y.q4 y.q5 y.q6 y.q7 y.q8 y.q9 y.q10 y.q11 y.q12 y.q13 y.q14 (rest ++ y.q16) = some true)
    (ht0 : ((List.getD l (Int.toNat (ofN i)) (false, false, 0, [], false)).2.2.2.2 = true → rightM ⟨11, (iadd .i64 (imul .i64 a0 1048576) 1), A.2.2.2.1, a0, 0, false, false, 0, 0, [], ByteArray.empty, 0, 0, false, 200⟩ = true → ∃ y, F12 FUEL a0 a1 a2 a3 a4 a5 a6 a7 a8 a9 a10 a11 a12 a13 a14 a15 a16 a17 a18 a19 b0 b1 b2 b3 b4 b5 b6 b7 b8 b9 b10 b11 b12 b13 b14 11 (iadd .i64 (imul .i64 a0 1048576) 1) A.2.2.2.1 a0 0 false false 0 0 [] ByteArray.empty 0 0 false 200 = some y ∧ y.q16.length < 100 ∧ F3_c0 m w l (ow || y.q15) (fu || (ieq A.1 5 && ine 200 0)) (iadd .i64 (ofN i) 1) (iadd .i64 (ofN i) 1) a0 a1 a2 a3 a4 a5 a6 a7 a8 a9 a10 a11 a12 a13 a14 a15 a16 a17 a18 a19 y.q0 y.q1 y.q2 y.q3 y.q4 y.q5 y.q6 y.q7 y.q8 y.q9 y.q10 y.q11 y.q12 y.q13 y.q14 (rest ++ y.q16) = some true))
    (ht1 : ((List.getD l (Int.toNat (ofN i)) (false, false, 0, [], false)).2.2.2.2 = false → rightM ⟨11, (iadd .i64 (imul .i64 a0 1048576) 1), A.2.2.2.1, a0, 0, false, false, 0, 0, [], ByteArray.empty, 0, 0, false, 0⟩ = true → ∃ y, F12 FUEL a0 a1 a2 a3 a4 a5 a6 a7 a8 a9 a10 a11 a12 a13 a14 a15 a16 a17 a18 a19 b0 b1 b2 b3 b4 b5 b6 b7 b8 b9 b10 b11 b12 b13 b14 11 (iadd .i64 (imul .i64 a0 1048576) 1) A.2.2.2.1 a0 0 false false 0 0 [] ByteArray.empty 0 0 false 0 = some y ∧ y.q16.length < 100 ∧ F3_c0 m w l (ow || y.q15) (fu || (ieq A.1 5 && ine 0 0)) (iadd .i64 (ofN i) 1) (iadd .i64 (ofN i) 1) a0 a1 a2 a3 a4 a5 a6 a7 a8 a9 a10 a11 a12 a13 a14 a15 a16 a17 a18 a19 y.q0 y.q1 y.q2 y.q3 y.q4 y.q5 y.q6 y.q7 y.q8 y.q9 y.q10 y.q11 y.q12 y.q13 y.q14 (rest ++ y.q16) = some true))
    : F3_c0 (m + 1) w l ow fu (ofN i) (ofN i) a0 a1 a2 a3 a4 a5 a6 a7 a8 a9 a10 a11 a12 a13 a14 a15 a16 a17 a18 a19 b0 b1 b2 b3 b4 b5 b6 b7 b8 b9 b10 b11 b12 b13 b14 (A :: rest) = some true := by
  rw [F3_c0]
  have e0 : ieq (ofN (List.length (A :: rest))) 0 = false := ieq_f (by simp [ofN]; omega)
  have e1 : inb 0 (List.length (A :: rest)) = true := inb_t (i := 0) (by simp)
  have e2 : nlt (Int.toNat 0) (List.length (A :: rest)) = true := nlt_t (i := 0) (by simp)
  have ec : ((inn 1 && true) && inbs (Int.toNat 1) (List.length (A :: rest)) (List.length (A :: rest))) = true := innt_t (i := 1) (by simp)
  have ef : ∀ (y : Si5b2isi2bilibl_i5b2i2lsi2bi_), y.q16.length < 100 → (full (Int.toNat 1) ((List.length (A :: rest)) - (Int.toNat 1)) (List.length (A :: rest)) && room (((List.length (A :: rest)) - (Int.toNat 1)) + List.length y.q16) 136) = true := fun y hy =>
    and_i (decide_eq_true (by simp; omega)) (room_small (by simp; omega) (by omega))
  refine eqT (ilt_t hil) (eqT (ine_t hb) (eqF e0 (eqT e1 (eqT e2 (eqT (inb_t hil) ?_)))))
  have e10 : iadd .u8 A.1 6 = 11 := by rw [hA]; rfl
  simp only [getD_hd]
  rw [e10]
  refine eqF (by rw [hA]; rfl) (eqF (by rw [hA]; rfl) (eqT (by rw [hA]; rfl) ?_))
  refine eqD (fun h => ?_) fun h => ?_
  · refine round1 (Y := Si5b2isi2bilibl_i5b2i2lsi2bi_) (X := fun y o f => F3_c0 m w l o f (iadd .i64 (ofN i) 1) (iadd .i64 (ofN i) 1) a0 a1 a2 a3 a4 a5 a6 a7 a8 a9 a10 a11 a12 a13 a14 a15 a16 a17 a18 a19 y.q0 y.q1 y.q2 y.q3 y.q4 y.q5 y.q6 y.q7 y.q8 y.q9 y.q10 y.q11 y.q12 y.q13 y.q14 (List.drop (Int.toNat 1) (A :: rest) ++ y.q16)) (q := fun y => y.q15) (c2 := fun y => full (Int.toNat 1) ((List.length (A :: rest)) - (Int.toNat 1)) (List.length (A :: rest)) && room (((List.length (A :: rest)) - (Int.toNat 1)) + List.length y.q16) 136) (bc := ine 200 0) (mright_rl FUEL 11 (iadd .i64 (imul .i64 a0 1048576) 1) A.2.2.2.1 a0 0 false false 0 0 [] ByteArray.empty 0 0 false 200 (by first | exact rR | simp)) (inb_t hil) ec ?_ fun hok => ?_
    · obtain ⟨y, q1, q2, q3⟩ := hf
      exact ⟨y, q1, ef _ q2, q3⟩
    · obtain ⟨y, q1, q2, q3⟩ := ht0 h hok
      exact ⟨y, q1, ef _ q2, q3⟩
  · refine round1 (Y := Si5b2isi2bilibl_i5b2i2lsi2bi_) (X := fun y o f => F3_c0 m w l o f (iadd .i64 (ofN i) 1) (iadd .i64 (ofN i) 1) a0 a1 a2 a3 a4 a5 a6 a7 a8 a9 a10 a11 a12 a13 a14 a15 a16 a17 a18 a19 y.q0 y.q1 y.q2 y.q3 y.q4 y.q5 y.q6 y.q7 y.q8 y.q9 y.q10 y.q11 y.q12 y.q13 y.q14 (List.drop (Int.toNat 1) (A :: rest) ++ y.q16)) (q := fun y => y.q15) (c2 := fun y => full (Int.toNat 1) ((List.length (A :: rest)) - (Int.toNat 1)) (List.length (A :: rest)) && room (((List.length (A :: rest)) - (Int.toNat 1)) + List.length y.q16) 136) (bc := ine 0 0) (mright_rl FUEL 11 (iadd .i64 (imul .i64 a0 1048576) 1) A.2.2.2.1 a0 0 false false 0 0 [] ByteArray.empty 0 0 false 0 (by first | exact rR | simp)) (inb_t hil) ec ?_ fun hok => ?_
    · obtain ⟨y, q1, q2, q3⟩ := hf
      exact ⟨y, q1, ef _ q2, q3⟩
    · obtain ⟨y, q1, q2, q3⟩ := ht1 h hok
      exact ⟨y, q1, ef _ q2, q3⟩
theorem c0_get (a0 : Int) (a1 a2 : List Int) (a3 a4 a5 a6 a7 a8 a9 a10 a11 a12 a13 a14 a15 a16 a17 a18 a19 : Int) {m i : Nat} {w : Int} {l : List (Bool × Bool × Int × (List (Int)) × Bool)} {ow fu : Bool} (b0 : Int) (b1 : Int) (b2 : Int) (b3 : Int) (b4 : Int) (b5 : Bool) (b6 : Bool) (b7 : Int) (b8 : ByteArray) (b9 : Int) (b10 : Int) (b11 : Bool) (b12 : Int) (b13 : List Int) (b14 : Int) (A : MT) (rest : List MT) (hA : A.1 = 6) (hil : i < l.length) (hl : rest.length < 100) (hb : b1 ≠ 5)
    (rR : (List.getD l (Int.toNat (ofN i)) (false, false, 0, [], false)).2.2.2.1.length ≤ 9223372036854775807)
    (hf : ∃ y, F11 FUEL a0 a1 a2 a3 a4 a5 a6 a7 a8 a9 a10 a11 a12 a13 a14 a15 a16 a17 a18 a19 b0 b1 b2 b3 b4 b5 b6 b7 b8 b9 b10 b11 b12 b13 b14 A.2.2.2.1 = some y ∧ y.q16.length < 100 ∧ F3_c0 m w l (ow || y.q15) (fu || ieq A.1 5) (iadd .i64 (ofN i) 1) (iadd .i64 (ofN i) 1) a0 a1 a2 a3 a4 a5 a6 a7 a8 a9 a10 a11 a12 a13 a14 a15 a16 a17 a18 a19 y.q0 y.q1 y.q2 y.q3 y.q4 y.q5 y.q6 y.q7 y.q8 y.q9 y.q10 y.q11 y.q12 y.q13 y.q14 (rest ++ y.q16) = some true)
    (ht0 : ((!(List.getD l (Int.toNat (ofN i)) (false, false, 0, [], false)).2.2.2.2) = true → rightM ⟨12, (iadd .i64 (imul .i64 a0 1048576) 1), A.2.2.2.1, a0, 0, false, false, 0, 0, [], A.2.2.2.2.2.2.2.2.2.2.1, 1, 0, false, 0⟩ = true → ∃ y, F12 FUEL a0 a1 a2 a3 a4 a5 a6 a7 a8 a9 a10 a11 a12 a13 a14 a15 a16 a17 a18 a19 b0 b1 b2 b3 b4 b5 b6 b7 b8 b9 b10 b11 b12 b13 b14 12 (iadd .i64 (imul .i64 a0 1048576) 1) A.2.2.2.1 a0 0 false false 0 0 [] A.2.2.2.2.2.2.2.2.2.2.1 1 0 false 0 = some y ∧ y.q16.length < 100 ∧ F3_c0 m w l (ow || y.q15) (fu || (ieq A.1 5 && ine 0 0)) (iadd .i64 (ofN i) 1) (iadd .i64 (ofN i) 1) a0 a1 a2 a3 a4 a5 a6 a7 a8 a9 a10 a11 a12 a13 a14 a15 a16 a17 a18 a19 y.q0 y.q1 y.q2 y.q3 y.q4 y.q5 y.q6 y.q7 y.q8 y.q9 y.q10 y.q11 y.q12 y.q13 y.q14 (rest ++ y.q16) = some true))
    (ht1 : ((!(List.getD l (Int.toNat (ofN i)) (false, false, 0, [], false)).2.2.2.2) = false → rightM ⟨12, (iadd .i64 (imul .i64 a0 1048576) 1), A.2.2.2.1, a0, 0, false, false, 0, 0, [], ByteArray.empty, 0, 0, false, 201⟩ = true → ∃ y, F12 FUEL a0 a1 a2 a3 a4 a5 a6 a7 a8 a9 a10 a11 a12 a13 a14 a15 a16 a17 a18 a19 b0 b1 b2 b3 b4 b5 b6 b7 b8 b9 b10 b11 b12 b13 b14 12 (iadd .i64 (imul .i64 a0 1048576) 1) A.2.2.2.1 a0 0 false false 0 0 [] ByteArray.empty 0 0 false 201 = some y ∧ y.q16.length < 100 ∧ F3_c0 m w l (ow || y.q15) (fu || (ieq A.1 5 && ine 201 0)) (iadd .i64 (ofN i) 1) (iadd .i64 (ofN i) 1) a0 a1 a2 a3 a4 a5 a6 a7 a8 a9 a10 a11 a12 a13 a14 a15 a16 a17 a18 a19 y.q0 y.q1 y.q2 y.q3 y.q4 y.q5 y.q6 y.q7 y.q8 y.q9 y.q10 y.q11 y.q12 y.q13 y.q14 (rest ++ y.q16) = some true))
    : F3_c0 (m + 1) w l ow fu (ofN i) (ofN i) a0 a1 a2 a3 a4 a5 a6 a7 a8 a9 a10 a11 a12 a13 a14 a15 a16 a17 a18 a19 b0 b1 b2 b3 b4 b5 b6 b7 b8 b9 b10 b11 b12 b13 b14 (A :: rest) = some true := by
  rw [F3_c0]
  have e0 : ieq (ofN (List.length (A :: rest))) 0 = false := ieq_f (by simp [ofN]; omega)
  have e1 : inb 0 (List.length (A :: rest)) = true := inb_t (i := 0) (by simp)
  have e2 : nlt (Int.toNat 0) (List.length (A :: rest)) = true := nlt_t (i := 0) (by simp)
  have ec : ((inn 1 && true) && inbs (Int.toNat 1) (List.length (A :: rest)) (List.length (A :: rest))) = true := innt_t (i := 1) (by simp)
  have ef : ∀ (y : Si5b2isi2bilibl_i5b2i2lsi2bi_), y.q16.length < 100 → (full (Int.toNat 1) ((List.length (A :: rest)) - (Int.toNat 1)) (List.length (A :: rest)) && room (((List.length (A :: rest)) - (Int.toNat 1)) + List.length y.q16) 136) = true := fun y hy =>
    and_i (decide_eq_true (by simp; omega)) (room_small (by simp; omega) (by omega))
  refine eqT (ilt_t hil) (eqT (ine_t hb) (eqF e0 (eqT e1 (eqT e2 (eqT (inb_t hil) ?_)))))
  have e10 : iadd .u8 A.1 6 = 12 := by rw [hA]; rfl
  simp only [getD_hd]
  rw [e10]
  refine eqF (by rw [hA]; rfl) (eqF (by rw [hA]; rfl) (eqF (by rw [hA]; rfl) (eqT (by rw [hA]; rfl) ?_)))
  refine eqD (fun h => ?_) fun h => ?_
  · refine round1 (Y := Si5b2isi2bilibl_i5b2i2lsi2bi_) (X := fun y o f => F3_c0 m w l o f (iadd .i64 (ofN i) 1) (iadd .i64 (ofN i) 1) a0 a1 a2 a3 a4 a5 a6 a7 a8 a9 a10 a11 a12 a13 a14 a15 a16 a17 a18 a19 y.q0 y.q1 y.q2 y.q3 y.q4 y.q5 y.q6 y.q7 y.q8 y.q9 y.q10 y.q11 y.q12 y.q13 y.q14 (List.drop (Int.toNat 1) (A :: rest) ++ y.q16)) (q := fun y => y.q15) (c2 := fun y => full (Int.toNat 1) ((List.length (A :: rest)) - (Int.toNat 1)) (List.length (A :: rest)) && room (((List.length (A :: rest)) - (Int.toNat 1)) + List.length y.q16) 136) (bc := ine 0 0) (mright_rl FUEL 12 (iadd .i64 (imul .i64 a0 1048576) 1) A.2.2.2.1 a0 0 false false 0 0 [] A.2.2.2.2.2.2.2.2.2.2.1 1 0 false 0 (by first | exact rR | simp)) (inb_t hil) ec ?_ fun hok => ?_
    · obtain ⟨y, q1, q2, q3⟩ := hf
      exact ⟨y, q1, ef _ q2, q3⟩
    · obtain ⟨y, q1, q2, q3⟩ := ht0 h hok
      exact ⟨y, q1, ef _ q2, q3⟩
  · refine round1 (Y := Si5b2isi2bilibl_i5b2i2lsi2bi_) (X := fun y o f => F3_c0 m w l o f (iadd .i64 (ofN i) 1) (iadd .i64 (ofN i) 1) a0 a1 a2 a3 a4 a5 a6 a7 a8 a9 a10 a11 a12 a13 a14 a15 a16 a17 a18 a19 y.q0 y.q1 y.q2 y.q3 y.q4 y.q5 y.q6 y.q7 y.q8 y.q9 y.q10 y.q11 y.q12 y.q13 y.q14 (List.drop (Int.toNat 1) (A :: rest) ++ y.q16)) (q := fun y => y.q15) (c2 := fun y => full (Int.toNat 1) ((List.length (A :: rest)) - (Int.toNat 1)) (List.length (A :: rest)) && room (((List.length (A :: rest)) - (Int.toNat 1)) + List.length y.q16) 136) (bc := ine 201 0) (mright_rl FUEL 12 (iadd .i64 (imul .i64 a0 1048576) 1) A.2.2.2.1 a0 0 false false 0 0 [] ByteArray.empty 0 0 false 201 (by first | exact rR | simp)) (inb_t hil) ec ?_ fun hok => ?_
    · obtain ⟨y, q1, q2, q3⟩ := hf
      exact ⟨y, q1, ef _ q2, q3⟩
    · obtain ⟨y, q1, q2, q3⟩ := ht1 h hok
      exact ⟨y, q1, ef _ q2, q3⟩
theorem ends_c (a0 : Int) (a1 a2 : List Int) (a3 a4 a5 a6 a7 a8 a9 a10 a11 a12 a13 a14 a15 a16 a17 a18 a19 : Int) (hv : rightV ⟨a0, a1, a2, a3, a4, a5, a6, a7, a8, a9, a10, a11, a12, a13, a14, a15, a16, a17, a18, a19⟩ = true) (h1 : a1.length ≤ 20) (h2 : a2.length ≤ 20) (w : Int) (l : List (Bool × Bool × Int × (List (Int)) × Bool)) (hl : l.length ≤ 100) (hle : ∀ z ∈ l, z.2.2.2.1.length ≤ 9223372036854775807) :
    ∀ (d i n : Nat) (ow fu : Bool) (b0 : Int) (b1 : Int) (b2 : Int) (b3 : Int) (b4 : Int) (b5 : Bool) (b6 : Bool) (b7 : Int) (b8 : ByteArray) (b9 : Int) (b10 : Int) (b11 : Bool) (b12 : Int) (b13 : List Int) (b14 : Int) (asks : List MT), l.length = i + d → d < n → b0 = w → JS a0 w ow fu i b1 b2 b3 b4 b5 b6 b7 b8 b9 b10 b11 b12 b13 b14 asks → F3_c0 n w l ow fu (ofN i) (ofN i) a0 a1 a2 a3 a4 a5 a6 a7 a8 a9 a10 a11 a12 a13 a14 a15 a16 a17 a18 a19 b0 b1 b2 b3 b4 b5 b6 b7 b8 b9 b10 b11 b12 b13 b14 asks = some true := by
  have hf := fuel_big
  obtain ⟨hi, _⟩ := view_lst hv
  intro d
  induction d with
  | zero =>
    intro i n ow fu b0 b1 b2 b3 b4 b5 b6 b7 b8 b9 b10 b11 b12 b13 b14 asks hL hn hb hJ
    obtain ⟨m, rfl⟩ : ∃ m, n = m + 1 := Nat.exists_eq_succ_of_ne_zero (by omega)
    have hst := hJ.steps
    have i47 : igt (ofN i) 47 = false := by unfold igt ofN; exact decide_eq_false (by omega)
    rw [F3_c0, ilt_f (by omega), cond_false]
    by_cases hb5 : b1 = 5
    · subst hb5
      cases hJ with
      | over _ _ _ _ _ _ _ _ _ _ _ _ q1 q2 q3 =>
        refine fin_over i47 (ine_f rfl) (over_u a0 a1 a2 a3 a4 a5 a6 a7 a8 a9 a10 a11 a12 a13 a14 a15 a16 a17 a18 a19 b0 b2 b3 b4 b5 b6 b7 b8 b9 b10 b11 b12 b14 h1 h2) (fun h h' => q1 (i_eq h) (i_eq h')) fun h => q2 (i_eq h)
    · refine eqF i47 (eqT (ine_t hb5) (eqT ?_ ?_))
      · unfold ilt ofN; exact decide_eq_true (by omega)
      · rw [wakes21]; rfl
  | succ d ih =>
    intro i n ow fu b0 b1 b2 b3 b4 b5 b6 b7 b8 b9 b10 b11 b12 b13 b14 asks hL hn hb hJ
    obtain ⟨m, rfl⟩ : ∃ m, n = m + 1 := Nat.exists_eq_succ_of_ne_zero (by omega)
    have hst := hJ.steps
    have i47 : igt (ofN i) 47 = false := by unfold igt ofN; exact decide_eq_false (by omega)
    have hil : i < l.length := by omega
    have next : ∀ (o f : Bool) (c0 : Int) (c1 : Int) (c2 : Int) (c3 : Int) (c4 : Int) (c5 : Bool) (c6 : Bool) (c7 : Int) (c8 : ByteArray) (c9 : Int) (c10 : Int) (c11 : Bool) (c12 : Int) (c13 : List Int) (c14 : Int) (asks : List MT), c0 = w → JS a0 w o f (i + 1) c1 c2 c3 c4 c5 c6 c7 c8 c9 c10 c11 c12 c13 c14 asks → F3_c0 m w l o f (iadd .i64 (ofN i) 1) (iadd .i64 (ofN i) 1) a0 a1 a2 a3 a4 a5 a6 a7 a8 a9 a10 a11 a12 a13 a14 a15 a16 a17 a18 a19 c0 c1 c2 c3 c4 c5 c6 c7 c8 c9 c10 c11 c12 c13 c14 asks = some true := fun o f c0 c1 c2 c3 c4 c5 c6 c7 c8 c9 c10 c11 c12 c13 c14 asks e0 hj => by
      rw [add_one (by omega)]
      exact ih (i + 1) m o f c0 c1 c2 c3 c4 c5 c6 c7 c8 c9 c10 c11 c12 c13 c14 asks (by omega) (by omega) e0 hj
    have rm : ∀ {k : Nat}, k ≤ 200 → room k 136 = true := fun h => room_small (by omega) (by omega)
    have rR := hle _ (getD_mem (d := (false, false, (0 : Int), ([] : List Int), false)) hil)
    cases hJ with
    | over _ _ _ _ _ _ _ _ _ _ _ _ q1 q2 q3 =>
      rw [F3_c0]
      refine eqT (ilt_t hil) (eqF (ine_f rfl) ?_)
      exact fin_over i47 (ine_f rfl) (over_u a0 a1 a2 a3 a4 a5 a6 a7 a8 a9 a10 a11 a12 a13 a14 a15 a16 a17 a18 a19 b0 b2 b3 b4 b5 b6 b7 b8 b9 b10 b11 b12 b14 h1 h2) (fun h h' => q1 (i_eq h) (i_eq h')) fun h => q2 (i_eq h)
    | look _ _ _ _ _ _ _ _ _ q1 q2 q3 q4 q5 q6 q7 =>
      subst hb q6
      refine c0_hop a0 a1 a2 a3 a4 a5 a6 a7 a8 a9 a10 a11 a12 a13 a14 a15 a16 a17 a18 a19 b0 1 b2 b3 (ofN i) b5 false 0 b8 b9 b10 b11 b12 [] b14 (askH b2 b3 b5) [] rfl hil (by simp) (by omega) rR ?_ fun hok => ?_
      · obtain ⟨y, ey, e0, hj⟩ := failed_look a0 a1 a2 a3 a4 a5 a6 a7 a8 a9 a10 a11 a12 a13 a14 a15 a16 a17 a18 a19 b0 b2 b3 i b5 b8 b9 b10 b11 b12 b14 hv q1 q2 q3 q7
        have := hj.len
        exact ⟨y, ey, by omega, next _ _ _ _ _ _ _ _ _ _ _ _ _ _ _ _ _ _ e0 (hj.own _ q5)⟩
      · obtain ⟨y, ey, e0, hj⟩ := told_look a0 a1 a2 a3 a4 a5 a6 a7 a8 a9 a10 a11 a12 a13 a14 a15 a16 a17 a18 a19 b0 b2 b3 i b5 b8 b9 b10 b11 b12 b14 _ _ _ hv q1 q2 q3 q7 hok
        have := hj.len
        exact ⟨y, ey, by omega, next _ _ _ _ _ _ _ _ _ _ _ _ _ _ _ _ _ _ e0 (hj.own _ q5)⟩
    | state _ _ _ _ _ _ _ _ _ _ _ _ q1 q2 q3 q4 q5 =>
      subst hb q4
      subst q1
      refine c0_state a0 a1 a2 a3 a4 a5 a6 a7 a8 a9 a10 a11 a12 a13 a14 a15 a16 a17 a18 a19 2 2 b2 b3 b4 b5 b6 b7 b8 b9 b10 b11 b12 [] b14 (askS b12) [] rfl hil (by simp) (by omega) rR ?_ fun hok => ?_
      · refine ⟨_, failed_owner a0 a1 a2 a3 a4 a5 a6 a7 a8 a9 a10 a11 a12 a13 a14 a15 a16 a17 a18 a19 2 2 b2 b3 b4 b5 b6 b7 b8 b9 b10 b11 b12 b14 hv (.inl rfl), by simp, next _ _ _ _ _ _ _ _ _ _ _ _ _ _ _ _ _ _ rfl (.over _ _ _ _ _ _ _ _ _ _ _ _ (fun _ h => by cases h) (fun h => by cases h) (by omega))⟩
      · obtain ⟨y, ey, e0, hj⟩ := told_list a0 a1 a2 a3 a4 a5 a6 a7 a8 a9 a10 a11 a12 a13 a14 a15 a16 a17 a18 a19 b2 b3 b4 b5 b6 b7 b8 b9 b10 b11 b12 b14 _ _ i q5 hv q2 hok
        have := hj.len
        exact ⟨y, ey, by omega, next _ _ _ _ _ _ _ _ _ _ _ _ _ _ _ _ _ _ e0 (hj.own _ (fun h => by cases h))⟩
    | put _ _ _ _ _ _ _ _ _ _ _ _ z W q1 q2 q3 q4 q5 =>
      subst hb
      subst q1
      have hz := q3 z (by simp)
      have hzW : ∀ y ∈ W, y ≠ z := fun y hy e => (List.nodup_cons.1 q2).1 (e ▸ hy)
      have hW : W.Nodup := (List.nodup_cons.1 q2).2
      have hP : ∀ x ∈ W, isP x = true ∧ x ≠ a0 := fun x hx => q3 x (by simp [hx])
      have hap : ∀ (r : List MT), r ++ [] = r := fun r => List.append_nil r
      refine c0_put a0 a1 a2 a3 a4 a5 a6 a7 a8 a9 a10 a11 a12 a13 a14 a15 a16 a17 a18 a19 2 3 b2 b3 b4 b5 b6 b7 b8 b9 b10 b11 b12 (z :: W) b14 (askP b8 b9 b10 b11 z) (W.map (askP b8 b9 b10 b11)) rfl hil (by simp; omega) (by omega) rR ?_ (fun _ hok => ?_) (fun _ hok => ?_)
      · refine ⟨_, failed_put a0 a1 a2 a3 a4 a5 a6 a7 a8 a9 a10 a11 a12 a13 a14 a15 a16 a17 a18 a19 2 3 b2 b3 b4 b5 b6 b7 b8 b9 b10 b11 b12 (z :: W) b14 z W hv (by omega) hzW rfl rfl, by simp, ?_⟩
        rw [hap]
        exact next _ _ _ _ _ _ _ _ _ _ _ _ _ _ _ _ _ _ rfl (JS.all rfl hW hP (fun h => by cases h) (by omega))
      · refine ⟨_, told_put a0 a1 a2 a3 a4 a5 a6 a7 a8 a9 a10 a11 a12 a13 a14 a15 a16 a17 a18 a19 2 3 b2 b3 b4 b5 b6 b7 b8 b9 b10 b11 b12 (z :: W) b14 z 200 W hv hi hz.1 hz.2 (.inr rfl) (by omega) hzW rfl rfl, by simp, ?_⟩
        rw [hap]
        exact next _ _ _ _ _ _ _ _ _ _ _ _ _ _ _ _ _ _ rfl (JS.all rfl hW hP (fun h => by cases h) (by omega))
      · refine ⟨_, told_put a0 a1 a2 a3 a4 a5 a6 a7 a8 a9 a10 a11 a12 a13 a14 a15 a16 a17 a18 a19 2 3 b2 b3 b4 b5 b6 b7 b8 b9 b10 b11 b12 (z :: W) b14 z 0 W hv hi hz.1 hz.2 (.inl rfl) (by omega) hzW rfl rfl, by simp, ?_⟩
        rw [hap]
        exact next _ _ _ _ _ _ _ _ _ _ _ _ _ _ _ _ _ _ rfl (JS.all rfl hW hP (fun h => by rw [q4 h]; rfl) (by omega))
    | get _ _ _ _ _ _ _ _ _ _ _ _ q1 q2 q3 q4 =>
      subst hb
      have ov : ∀ {o f : Bool} {c2 c3 c4 c5 c6 c7 c8 c9 c10 c11 c12 c14}, JS a0 b0 o f (i + 1) 5 c2 c3 c4 c5 c6 c7 c8 c9 c10 c11 c12 [] c14 [] := .over _ _ _ _ _ _ _ _ _ _ _ _ (fun h => by omega) (fun h => by omega) (by omega)
      refine c0_get a0 a1 a2 a3 a4 a5 a6 a7 a8 a9 a10 a11 a12 a13 a14 a15 a16 a17 a18 a19 b0 4 b2 b3 b4 b5 b6 b7 b8 b9 b10 b11 b12 [] b14 (askG b8 b12) [] rfl hil (by simp) (by omega) rR ?_ (fun _ hok => ?_) (fun _ hok => ?_)
      · exact ⟨_, failed_owner a0 a1 a2 a3 a4 a5 a6 a7 a8 a9 a10 a11 a12 a13 a14 a15 a16 a17 a18 a19 b0 4 b2 b3 b4 b5 b6 b7 b8 b9 b10 b11 b12 b14 hv (.inr rfl), by simp, next _ _ _ _ _ _ _ _ _ _ _ _ _ _ _ _ _ _ rfl ov⟩
      · obtain ⟨y, ey, e0, y1, y2, y3, y4⟩ := told_got a0 a1 a2 a3 a4 a5 a6 a7 a8 a9 a10 a11 a12 a13 a14 a15 a16 a17 a18 a19 b0 b2 b3 b4 b5 b6 b7 b8 b9 b10 b11 b12 b14 _ _ _ _ hv hok
        refine ⟨y, ey, by rw [y4]; simp, next _ _ _ _ _ _ _ _ _ _ _ _ _ _ _ _ _ _ e0 ?_⟩
        rw [y1, y2, y4]; exact ov
      · obtain ⟨y, ey, e0, y1, y2, y3, y4⟩ := told_got a0 a1 a2 a3 a4 a5 a6 a7 a8 a9 a10 a11 a12 a13 a14 a15 a16 a17 a18 a19 b0 b2 b3 b4 b5 b6 b7 b8 b9 b10 b11 b12 b14 _ _ _ _ hv hok
        refine ⟨y, ey, by rw [y4]; simp, next _ _ _ _ _ _ _ _ _ _ _ _ _ _ _ _ _ _ e0 ?_⟩
        rw [y1, y2, y4]; exact ov
theorem plain_JobEnds (a0 : Int) (a1 a2 : List Int) (a3 a4 a5 a6 a7 a8 a9 a10 a11 a12 a13 a14 a15 a16 a17 a18 a19 : Int) (w p : Int) (k : ByteArray) (v r : Int) (g : Bool) (l : List (Bool × Bool × Int × (List (Int)) × Bool)) (hle : ∀ z ∈ l, z.2.2.2.1.length ≤ 9223372036854775807) : F3 FUEL a0 a1 a2 a3 a4 a5 a6 a7 a8 a9 a10 a11 a12 a13 a14 a15 a16 a17 a18 a19 w p k v r g l = some true := by
  have hf := fuel_big
  unfold F3
  obtain ⟨gr, eg, hg⟩ := great15 FUEL a0 a1 a2 a3 a4 a5 a6 a7 a8 a9 a10 a11 a12 a13 a14 a15 a16 a17 a18 a19
  rw [eg, Option.bind_some, wakes21]
  cases gr
  · obtain ⟨h1, h2⟩ := hg rfl
    rw [cond_false, viewR_r (by omega) a0 a1 a2 a3 a4 a5 a6 a7 a8 a9 a10 a11 a12 a13 a14 a15 a16 a17 a18 a19 (by omega), Option.bind_some]
    cases hv : rightV ⟨a0, a1, a2, a3, a4, a5, a6, a7, a8, a9, a10, a11, a12, a13, a14, a15, a16, a17, a18, a19⟩
    · rfl
    · cases hl : igt (ofN l.length) 100
      · have hl' := igt_len hl
        cases hk : igt (stlen k) 300
        · simp only [Bool.not_true, cond_false]
          obtain ⟨y, ey, e0, hj⟩ := begin_job a0 a1 a2 a3 a4 a5 a6 a7 a8 a9 a10 a11 a12 a13 a14 a15 a16 a17 a18 a19 w p k v r g hv
          have hlen := hj.len
          rw [ey, Option.bind_some]
          refine eqT (room_small (by omega) (by omega)) ?_
          exact ends_c a0 a1 a2 a3 a4 a5 a6 a7 a8 a9 a10 a11 a12 a13 a14 a15 a16 a17 a18 a19 hv h1 h2 w l (by omega) hle l.length 0 FUEL _ _ _ _ _ _ _ _ _ _ _ _ _ _ _ _ _ _ (by omega) (by omega) e0 hj
        · rfl
      · rfl
  · rfl
end Go.Proofs.YtlcbbjcehaahlaaGreat
