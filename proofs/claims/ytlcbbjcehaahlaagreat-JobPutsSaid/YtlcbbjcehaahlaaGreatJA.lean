/-
  Chapter 21, in plain words: a job told, a job failed: they answer at every state, and where they stand still.
-/
import Derived.Test.YtlcbbjcehaahlaaGreatPL
namespace Go.Proofs.YtlcbbjcehaahlaaGreat
open Go Go.RowKit

section
variable {α β : Type}
theorem exC {b : Bool} {x y : Option α} {P : α → Prop} (h1 : b = true → ∃ r, x = some r ∧ P r) (h2 : b = false → ∃ r, y = some r ∧ P r) : ∃ r, (bif b then x else y) = some r ∧ P r := by
  cases b
  · exact h2 rfl
  · exact h1 rfl
theorem exN {x : Option α} {S : Prop} {z : α} (hn : ¬ S) (h : ∃ r, x = some r) : ∃ r, x = some r ∧ (S → r = z) := by
  obtain ⟨r, e⟩ := h
  exact ⟨r, e, fun s => (hn s).elim⟩
theorem exE {x : Option α} {P : α → Prop} (h : ∃ r, x = some r) : (∃ r, x = some r ∧ True) := by
  obtain ⟨r, e⟩ := h
  exact ⟨r, e, trivial⟩
theorem exD {b : Bool} {x y : Option α} (h1 : b = true → ∃ r, x = some r) (h2 : b = false → ∃ r, y = some r) : ∃ r, (bif b then x else y) = some r := by
  cases b
  · exact h2 rfl
  · exact h1 rfl
theorem exT {b : Bool} {x y : Option α} (hb : b = true) (h : ∃ r, x = some r) : ∃ r, (bif b then x else y) = some r := by
  rw [hb]; exact h
theorem exF {b : Bool} {x y : Option α} (hb : b = false) (h : ∃ r, y = some r) : ∃ r, (bif b then x else y) = some r := by
  rw [hb]; exact h
end
theorem room_small {n b : Nat} (h : n < 1000) (hb : b ≤ 1000) : room n b = true := by
  have := Nat.mul_le_mul (show n ≤ 1000 by omega) hb
  simp only [room, Bool.and_eq_true, decide_eq_true_eq]; omega
theorem add_one {i : Nat} (h : i < 1000) : iadd .i64 (ofN i) 1 = ofN (i + 1) := by
  simp only [iadd, ofN]; rw [wrap_mid (by omega) (by omega)]; omega
theorem toN (i : Nat) : (ofN i).toNat = i := rfl
theorem ilt_t {i k : Nat} (h : i < k) : ilt (ofN i) (ofN k) = true := by unfold ilt ofN; exact decide_eq_true (show (i : Int) < (k : Int) by omega)
theorem ilt_f {i k : Nat} (h : k ≤ i) : ilt (ofN i) (ofN k) = false := by unfold ilt ofN; exact decide_eq_false (show ¬ ((i : Int) < (k : Int)) by omega)
theorem inb_t {i k : Nat} (h : i < k) : inb (ofN i) k = true := by
  unfold inb ofN; simp only [Bool.and_eq_true, decide_eq_true_eq]; omega
theorem nlt_t {i k : Nat} (h : i < k) : nlt (ofN i).toNat k = true := by rw [toN]; exact decide_eq_true h
theorem inns_t {i k : Nat} (h : i ≤ k) : (inn (ofN i) && inbs 0 (ofN i).toNat k) = true := by
  rw [toN]; unfold inn inbs ofN; simp only [Bool.and_eq_true, decide_eq_true_eq]; omega
theorem innt_t {i k : Nat} (h : i ≤ k) : ((inn (ofN i) && true) && inbs (ofN i).toNat k k) = true := by
  rw [toN]; unfold inn inbs ofN; simp only [Bool.and_eq_true, decide_eq_true_eq, and_true]; omega
theorem min_three {k : Nat} (hk : 0 < k) : ∃ m : Nat, minI 3 (ofN k) = ofN m ∧ m ≤ 3 ∧ m ≤ k := by
  unfold minI ofN
  split
  · exact ⟨k, rfl, by omega, by omega⟩
  · exact ⟨3, rfl, by omega, by omega⟩
theorem jown {n : Nat} (b0 : Int) (b1 : Int) (b2 : Int) (b3 : Int) (b4 : Int) (b5 : Bool) (b6 : Bool) (b7 : Int) (b8 : ByteArray) (b9 : Int) (b10 : Int) (b11 : Bool) (b12 : Int) (b13 : List Int) (b14 : Int) (h : b13.length ≤ 40) : F24 n b0 b1 b2 b3 b4 b5 b6 b7 b8 b9 b10 b11 b12 b13 b14 = some ⟨b0, b1, b2, b3, b4, b5, b6, b7, b8, b9, b10, b11, b12, b14, b13⟩ := by
  unfold F24
  cases b13 with
  | nil => rfl
  | cons x l =>
    have e1 : ieq (ofN (x :: l).length) 0 = false := by simp [ieq, ofN]; omega
    have e2 : room (0 + (x :: l).length) 8 = true := room_small (by simp at h ⊢; omega) (by omega)
    rw [e1, cond_false]
    unfold F43
    rw [e2]
    rfl
theorem jown_r {n : Nat} (b0 : Int) (b1 : Int) (b2 : Int) (b3 : Int) (b4 : Int) (b5 : Bool) (b6 : Bool) (b7 : Int) (b8 : ByteArray) (b9 : Int) (b10 : Int) (b11 : Bool) (b12 : Int) (b13 : List Int) (b14 : Int) (h : b13.length ≤ 40) : F15 n b0 b1 b2 b3 b4 b5 b6 b7 b8 b9 b10 b11 b12 b13 b14 = some ⟨b0, b1, b2, b3, b4, b5, b6, b7, b8, b9, b10, b11, b12, b14, b13⟩ := by
  unfold F15
  have e2 : room (0 + b13.length) 8 = true := room_small (by omega) (by omega)
  rw [e2]
  rfl


theorem tl_zero {n : Nat} (hn : 0 < n) {x0 x1 x2 x3 x4 x5 x6 x7 x8 x9 x10 x11 x12 x13 x14 x15 x16 x17 x18 x19 x20 x21 x22 x23 x24 x25 x26 x27 x28 x29 x30 x31 x32 x33 x34 x35 x36 x37 x38 x39 x40 x41 x42 x43 x44 x45 x46 x47 x48 x49} : ∃ r, F12_c0 n x0 x1 x2 x3 x4 x5 x6 x7 x8 x9 x10 x11 x12 x13 x14 x15 x16 x17 x18 x19 x20 x21 x22 x23 x24 x25 x26 x27 x28 x29 x30 x31 x32 x33 x34 x35 x36 x37 x38 x39 x40 x41 x42 x43 x44 x45 x46 x47 x48 x49 = some r := by
  obtain ⟨j, rfl⟩ : ∃ j, n = j + 1 := Nat.exists_eq_succ_of_ne_zero (by omega)
  exact ⟨_, rfl⟩
theorem tl_four {n : Nat} (hn : 0 < n) {x0 x1 x2 x3 x4 x5 x6 x7 x8 x9 x10 x11 x12 x13 x14 x15 x16 x17 x18 x19 x20 x21 x22 x23 x24 x25 x26 x27 x28 x29 x30 x31 x32 x33 x34 x35 x36 x37 x38 x39 x40 x41 x42 x43 x44 x45 x46 x47 x48 x49} : ∃ r, F12_c4 n x0 x1 x2 x3 x4 x5 x6 x7 x8 x9 x10 x11 x12 x13 x14 x15 x16 x17 x18 x19 x20 x21 x22 x23 x24 x25 x26 x27 x28 x29 x30 x31 x32 x33 x34 x35 x36 x37 x38 x39 x40 x41 x42 x43 x44 x45 x46 x47 x48 x49 = some r := by
  obtain ⟨j, rfl⟩ : ∃ j, n = j + 1 := Nat.exists_eq_succ_of_ne_zero (by omega)
  exact ⟨_, rfl⟩
theorem tl_del {x2 x4 x5 x6 x7 x8 x9 x10 x11 x12 x13 x14 x15 x16 x17 x18 x19 x20 x21 x22 x23 x24 x25 x26 x27 x28 x29 x30 x31 x32 x33 x34 x35 x36 x37 x38 x39 x40 x41 x42 x43 x44 x45 x46 x47 x48 x49 x50 x51 x52 x53} : ∀ (d i j : Nat) (L : List Int) (n : Nat), L.length = j + d → i < j → L.length ≤ 40 → d < n → ∃ r, F12_c6 n (ofN i) (ofN j) x2 L x4 x5 x6 x7 x8 x9 x10 x11 x12 x13 x14 x15 x16 x17 x18 x19 x20 x21 x22 x23 x24 x25 x26 x27 x28 x29 x30 x31 x32 x33 x34 x35 x36 x37 x38 x39 x40 x41 x42 x43 x44 x45 x46 x47 x48 x49 x50 x51 x52 x53 = some r := by
  intro d
  induction d with
  | zero =>
    intro i j L n hL hij hb hn
    obtain ⟨m, rfl⟩ : ∃ m, n = m + 1 := Nat.exists_eq_succ_of_ne_zero (by omega)
    have hk : L.length = j := by omega
    rw [F12_c6]
    refine exF (ilt_f (by omega)) (exT (innt_t (by omega)) (exT ?_ (exT ?_ (exD (fun _ => exD (fun _ => ⟨_, rfl⟩) fun _ => ⟨_, rfl⟩) fun _ => exD (fun _ => ⟨_, rfl⟩) fun _ => ⟨_, rfl⟩))))
    · rw [toN]; exact decide_eq_true (by omega)
    · refine inns_t ?_
      rw [toN]
      simp only [List.length_append, List.length_take, List.length_replicate, List.length_drop]
      omega
  | succ d ih =>
    intro i j L n hL hij hb hn
    obtain ⟨m, rfl⟩ : ∃ m, n = m + 1 := Nat.exists_eq_succ_of_ne_zero (by omega)
    rw [F12_c6]
    refine exT (ilt_t (by omega)) (exT (inb_t (by omega)) (exT (nlt_t (by omega)) (exD (fun _ => ?_) fun _ => ?_)))
    · refine exT (inb_t (by omega)) (exT (nlt_t (by omega)) ?_)
      rw [add_one (show i < 1000 by omega), add_one (show j < 1000 by omega)]
      exact ih _ _ _ _ (by rw [List.length_set]; omega) (by omega) (by rw [List.length_set]; omega) (by omega)
    · rw [add_one (show j < 1000 by omega)]
      exact ih _ _ _ _ (by omega) (by omega) (by omega) (by omega)
theorem tl_idx {x2 x4 x5 x6 x7 x8 x9 x10 x11 x12 x13 x14 x15 x16 x17 x18 x19 x20 x21 x22 x23 x24 x25 x26 x27 x28 x29 x30 x31 x32 x33 x34 x35 x36 x37 x38 x39 x40 x41 x42 x43 x44 x45 x46 x47 x48 x49 x50 x51 x52 x53} (L : List Int) (hb : L.length ≤ 40) : ∀ (d j : Nat) (n : Nat), L.length = j + d → d + 50 < n → ∃ r, F12_c3 n (ofN L.length) (ofN j) x2 L x4 x5 x6 x7 x8 x9 x10 x11 x12 x13 x14 x15 x16 x17 x18 x19 x20 x21 x22 x23 x24 x25 x26 x27 x28 x29 x30 x31 x32 x33 x34 x35 x36 x37 x38 x39 x40 x41 x42 x43 x44 x45 x46 x47 x48 x49 x50 x51 x52 x53 = some r := by
  intro d
  induction d with
  | zero =>
    intro j n hL hn
    obtain ⟨m, rfl⟩ : ∃ m, n = m + 1 := Nat.exists_eq_succ_of_ne_zero (by omega)
    rw [F12_c3]
    exact exF (ilt_f (by omega)) (exT rfl (exD (fun _ => exD (fun _ => ⟨_, rfl⟩) fun _ => ⟨_, rfl⟩) fun _ => exD (fun _ => ⟨_, rfl⟩) fun _ => ⟨_, rfl⟩))
  | succ d ih =>
    intro j n hL hn
    obtain ⟨m, rfl⟩ : ∃ m, n = m + 1 := Nat.exists_eq_succ_of_ne_zero (by omega)
    rw [F12_c3]
    refine exT (ilt_t (by omega)) (exT (inb_t (by omega)) (exT (nlt_t (by omega)) (exD (fun _ => exF (by simp [ieq, ofN]) ?_) fun _ => ?_)))
    · rw [add_one (show j < 1000 by omega)]
      exact tl_del d j (j + 1) L m (by omega) (by omega) hb (by omega)
    · rw [add_one (show j < 1000 by omega)]
      exact ih _ _ (by omega) (by omega)

theorem tl_putA {x8 x9 x10 x11 x12 x13 x14 x15 x16 x17 x18 x19 x20 x21 x22 x23 x24 x25 x26 x27 x28 x29 x30 x31 x32 x33 x34 x35 x36 x37 x38 x39 x40 x41 x42 x43 x44 x45 x46 x47 x48 x49 x50 x51 x52 x53 x54 x55} (L : List Int) (hb : L.length < 1000) (M : Nat) (hM : M ≤ L.length) (h3 : M ≤ 3) : ∀ (d i : Nat) (n : Nat) (x4 t : Bool) (u : List Int) (v : List (Int × Int × Int × Int × Int × Bool × Bool × Int × Int × (List (Int)) × ByteArray × Int × Int × Bool × Int)), M = i + d → u.length ≤ i → v.length ≤ i → d < n → ∃ r, F12_c2 n 0 M (ofN M) (ofN i) x4 0 M L x8 x9 x10 x11 x12 x13 x14 x15 x16 x17 x18 x19 x20 x21 x22 x23 x24 x25 x26 x27 x28 x29 x30 x31 x32 x33 x34 x35 x36 x37 x38 x39 x40 x41 x42 x43 x44 x45 x46 x47 x48 x49 x50 x51 x52 x53 x54 x55 t u v = some r := by
  intro d
  induction d with
  | zero =>
    intro i n x4 t u v hd hu hv hn
    obtain ⟨m, rfl⟩ : ∃ m, n = m + 1 := Nat.exists_eq_succ_of_ne_zero (by omega)
    rw [F12_c2]
    exact exF (ilt_f (by omega)) (exD (fun _ => ⟨_, rfl⟩) fun _ => ⟨_, rfl⟩)
  | succ d ih =>
    intro i n x4 t u v hd hu hv hn
    obtain ⟨m, rfl⟩ : ∃ m, n = m + 1 := Nat.exists_eq_succ_of_ne_zero (by omega)
    rw [F12_c2]
    refine exT (ilt_t (by omega)) (exT (inb_t (by omega)) (exT (by rw [toN, Nat.zero_add]; exact decide_eq_true (by omega)) (exT (inns_t (by omega)) ?_)))
    rw [mcontains_p _ _ (by simp; omega), Option.bind_some, add_one (show i < 1000 by omega)]
    refine exD (fun _ => exD (fun _ => ?_) fun _ => exT (room_small (by simp; omega) (by omega)) (exT (room_small (by simp; omega) (by omega)) ?_)) fun _ => ?_
    · exact ih _ _ _ _ _ _ (by omega) (by omega) (by omega) (by omega)
    · exact ih _ _ _ _ _ _ (by omega) (by simp; omega) (by simp; omega) (by omega)
    · exact ih _ _ _ _ _ _ (by omega) (by omega) (by omega) (by omega)

theorem tl_putB {x8 x9 x10 x11 x12 x13 x14 x15 x16 x17 x18 x19 x20 x21 x22 x23 x24 x25 x26 x27 x28 x29 x30 x31 x32 x33 x34 x35 x36 x37 x38 x39 x40 x41 x42 x43 x44 x45 x46 x47 x48 x49 x50 x51 x52 x53 x54 x55} (L : List Int) (hb : L.length < 1000) (M : Nat) (hM : M ≤ L.length) (h3 : M ≤ 3) : ∀ (d i : Nat) (n : Nat) (x4 t : Bool) (u : List Int) (v : List (Int × Int × Int × Int × Int × Bool × Bool × Int × Int × (List (Int)) × ByteArray × Int × Int × Bool × Int)), M = i + d → u.length ≤ i → v.length ≤ i → d < n → ∃ r, F12_c5 n 0 M (ofN M) (ofN i) x4 0 M L x8 x9 x10 x11 x12 x13 x14 x15 x16 x17 x18 x19 x20 x21 x22 x23 x24 x25 x26 x27 x28 x29 x30 x31 x32 x33 x34 x35 x36 x37 x38 x39 x40 x41 x42 x43 x44 x45 x46 x47 x48 x49 x50 x51 x52 x53 x54 x55 t u v = some r := by
  intro d
  induction d with
  | zero =>
    intro i n x4 t u v hd hu hv hn
    obtain ⟨m, rfl⟩ : ∃ m, n = m + 1 := Nat.exists_eq_succ_of_ne_zero (by omega)
    rw [F12_c5]
    exact exF (ilt_f (by omega)) (exD (fun _ => ⟨_, rfl⟩) fun _ => ⟨_, rfl⟩)
  | succ d ih =>
    intro i n x4 t u v hd hu hv hn
    obtain ⟨m, rfl⟩ : ∃ m, n = m + 1 := Nat.exists_eq_succ_of_ne_zero (by omega)
    rw [F12_c5]
    refine exT (ilt_t (by omega)) (exT (inb_t (by omega)) (exT (by rw [toN, Nat.zero_add]; exact decide_eq_true (by omega)) (exT (inns_t (by omega)) ?_)))
    rw [mcontains_p _ _ (by simp; omega), Option.bind_some, add_one (show i < 1000 by omega)]
    refine exD (fun _ => exD (fun _ => ?_) fun _ => exT (room_small (by simp; omega) (by omega)) (exT (room_small (by simp; omega) (by omega)) ?_)) fun _ => ?_
    · exact ih _ _ _ _ _ _ (by omega) (by omega) (by omega) (by omega)
    · exact ih _ _ _ _ _ _ (by omega) (by simp; omega) (by simp; omega) (by omega)
    · exact ih _ _ _ _ _ _ (by omega) (by omega) (by omega) (by omega)

theorem tl_one {n : Nat} (hn : 100 < n) {x0 x1 x2 x3 x4 x5 x6 x7 x8 x9 x10 x11 x12 x13 x14 x15 x16 x17 x18 x19 x20 x21 x22 x23 x24 x25 x26 x27 x28 x29 x30 x31 x32 x33 x34 x35 x36 x37 x38 x39 x40 x41 x42 x43 x44 x45 x46 x47 x48 x49} (h2 : x2.length ≤ 20) : ∃ r, F12_c1 n x0 x1 x2 x3 x4 x5 x6 x7 x8 x9 x10 x11 x12 x13 x14 x15 x16 x17 x18 x19 x20 x21 x22 x23 x24 x25 x26 x27 x28 x29 x30 x31 x32 x33 x34 x35 x36 x37 x38 x39 x40 x41 x42 x43 x44 x45 x46 x47 x48 x49 = some r := by
  obtain ⟨j, rfl⟩ : ∃ j, n = j + 1 := Nat.exists_eq_succ_of_ne_zero (by omega)
  rw [F12_c1]
  obtain ⟨M, e, m3, mk⟩ := min_three (k := ([x23] ++ x2).length) (by simp)
  have hl : ([x23] ++ x2).length < 1000 := by simp; omega
  refine exD (fun _ => tl_four (by omega)) fun _ => exD (fun _ => exD (fun _ => exT (room_small (by simp; omega) (by omega)) ?_) fun _ => ?_) fun _ => ?_
  · rw [e]
    refine exT (inns_t mk) ?_
    have e2 : (ofN M).toNat - 0 = M := by simp [ofN]
    rw [e2]
    exact tl_putB _ hl M mk m3 M 0 _ _ _ _ _ (by omega) (Nat.zero_le _) (Nat.zero_le _) (by omega)
  · exact exD (fun _ => exT rfl ⟨_, rfl⟩) fun _ => exD (fun _ => tl_four (by omega)) fun _ => exT rfl ⟨_, rfl⟩
  · exact exD (fun _ => exT rfl ⟨_, rfl⟩) fun _ => exD (fun _ => tl_four (by omega)) fun _ => exT rfl ⟨_, rfl⟩


theorem fl_zero {n : Nat} (hn : 0 < n) {x0 x1 x2 x3 x4 x5 x6 x7 x8 x9 x10 x11 x12 x13 x14 x15 x16 x17 x18 x19 x20 x21 x22 x23 x24 x25 x26 x27 x28 x29 x30 x31 x32 x33 x34 x35 x36 x37 x38 x39 x40 x41 x42 x43 x44 x45 x46 x47 x48 x49} : ∃ r, F11_c0 n x0 x1 x2 x3 x4 x5 x6 x7 x8 x9 x10 x11 x12 x13 x14 x15 x16 x17 x18 x19 x20 x21 x22 x23 x24 x25 x26 x27 x28 x29 x30 x31 x32 x33 x34 x35 x36 x37 x38 x39 x40 x41 x42 x43 x44 x45 x46 x47 x48 x49 = some r := by
  obtain ⟨j, rfl⟩ : ∃ j, n = j + 1 := Nat.exists_eq_succ_of_ne_zero (by omega)
  exact ⟨_, rfl⟩
theorem fl_four {n : Nat} (hn : 0 < n) {x0 x1 x2 x3 x4 x5 x6 x7 x8 x9 x10 x11 x12 x13 x14 x15 x16 x17 x18 x19 x20 x21 x22 x23 x24 x25 x26 x27 x28 x29 x30 x31 x32 x33 x34 x35 x36 x37 x38 x39 x40 x41 x42 x43 x44 x45 x46 x47 x48 x49} : ∃ r, F11_c3 n x0 x1 x2 x3 x4 x5 x6 x7 x8 x9 x10 x11 x12 x13 x14 x15 x16 x17 x18 x19 x20 x21 x22 x23 x24 x25 x26 x27 x28 x29 x30 x31 x32 x33 x34 x35 x36 x37 x38 x39 x40 x41 x42 x43 x44 x45 x46 x47 x48 x49 = some r := by
  obtain ⟨j, rfl⟩ : ∃ j, n = j + 1 := Nat.exists_eq_succ_of_ne_zero (by omega)
  exact ⟨_, rfl⟩
theorem fl_del {x2 x4 x5 x6 x7 x8 x9 x10 x11 x12 x13 x14 x15 x16 x17 x18 x19 x20 x21 x22 x23 x24 x25 x26 x27 x28 x29 x30 x31 x32 x33 x34 x35 x36 x37 x38 x39 x40 x41 x42 x43 x44 x45 x46 x47 x48 x49 x50 x51 x52 x53} : ∀ (d i j : Nat) (L : List Int) (n : Nat), L.length = j + d → i < j → L.length ≤ 40 → d < n → ∃ r, F11_c5 n (ofN i) (ofN j) x2 L x4 x5 x6 x7 x8 x9 x10 x11 x12 x13 x14 x15 x16 x17 x18 x19 x20 x21 x22 x23 x24 x25 x26 x27 x28 x29 x30 x31 x32 x33 x34 x35 x36 x37 x38 x39 x40 x41 x42 x43 x44 x45 x46 x47 x48 x49 x50 x51 x52 x53 = some r := by
  intro d
  induction d with
  | zero =>
    intro i j L n hL hij hb hn
    obtain ⟨m, rfl⟩ : ∃ m, n = m + 1 := Nat.exists_eq_succ_of_ne_zero (by omega)
    have hk : L.length = j := by omega
    rw [F11_c5]
    refine exF (ilt_f (by omega)) (exT (innt_t (by omega)) (exT ?_ (exT ?_ (exD (fun _ => exD (fun _ => ⟨_, rfl⟩) fun _ => ⟨_, rfl⟩) fun _ => exD (fun _ => ⟨_, rfl⟩) fun _ => ⟨_, rfl⟩))))
    · rw [toN]; exact decide_eq_true (by omega)
    · refine inns_t ?_
      rw [toN]
      simp only [List.length_append, List.length_take, List.length_replicate, List.length_drop]
      omega
  | succ d ih =>
    intro i j L n hL hij hb hn
    obtain ⟨m, rfl⟩ : ∃ m, n = m + 1 := Nat.exists_eq_succ_of_ne_zero (by omega)
    rw [F11_c5]
    refine exT (ilt_t (by omega)) (exT (inb_t (by omega)) (exT (nlt_t (by omega)) (exD (fun _ => ?_) fun _ => ?_)))
    · refine exT (inb_t (by omega)) (exT (nlt_t (by omega)) ?_)
      rw [add_one (show i < 1000 by omega), add_one (show j < 1000 by omega)]
      exact ih _ _ _ _ (by rw [List.length_set]; omega) (by omega) (by rw [List.length_set]; omega) (by omega)
    · rw [add_one (show j < 1000 by omega)]
      exact ih _ _ _ _ (by omega) (by omega) (by omega) (by omega)
theorem fl_idx {x2 x4 x5 x6 x7 x8 x9 x10 x11 x12 x13 x14 x15 x16 x17 x18 x19 x20 x21 x22 x23 x24 x25 x26 x27 x28 x29 x30 x31 x32 x33 x34 x35 x36 x37 x38 x39 x40 x41 x42 x43 x44 x45 x46 x47 x48 x49 x50 x51 x52 x53} (L : List Int) (hb : L.length ≤ 40) : ∀ (d j : Nat) (n : Nat), L.length = j + d → d + 50 < n → ∃ r, F11_c2 n (ofN L.length) (ofN j) x2 L x4 x5 x6 x7 x8 x9 x10 x11 x12 x13 x14 x15 x16 x17 x18 x19 x20 x21 x22 x23 x24 x25 x26 x27 x28 x29 x30 x31 x32 x33 x34 x35 x36 x37 x38 x39 x40 x41 x42 x43 x44 x45 x46 x47 x48 x49 x50 x51 x52 x53 = some r := by
  intro d
  induction d with
  | zero =>
    intro j n hL hn
    obtain ⟨m, rfl⟩ : ∃ m, n = m + 1 := Nat.exists_eq_succ_of_ne_zero (by omega)
    rw [F11_c2]
    exact exF (ilt_f (by omega)) (exT rfl (exD (fun _ => exD (fun _ => ⟨_, rfl⟩) fun _ => ⟨_, rfl⟩) fun _ => exD (fun _ => ⟨_, rfl⟩) fun _ => ⟨_, rfl⟩))
  | succ d ih =>
    intro j n hL hn
    obtain ⟨m, rfl⟩ : ∃ m, n = m + 1 := Nat.exists_eq_succ_of_ne_zero (by omega)
    rw [F11_c2]
    refine exT (ilt_t (by omega)) (exT (inb_t (by omega)) (exT (nlt_t (by omega)) (exD (fun _ => exF (by simp [ieq, ofN]) ?_) fun _ => ?_)))
    · rw [add_one (show j < 1000 by omega)]
      exact fl_del d j (j + 1) L m (by omega) (by omega) hb (by omega)
    · rw [add_one (show j < 1000 by omega)]
      exact ih _ _ (by omega) (by omega)

theorem fl_putA {x8 x9 x10 x11 x12 x13 x14 x15 x16 x17 x18 x19 x20 x21 x22 x23 x24 x25 x26 x27 x28 x29 x30 x31 x32 x33 x34 x35 x36 x37 x38 x39 x40 x41 x42 x43 x44 x45 x46 x47 x48 x49 x50 x51 x52 x53 x54 x55} (L : List Int) (hb : L.length < 1000) (M : Nat) (hM : M ≤ L.length) (h3 : M ≤ 3) : ∀ (d i : Nat) (n : Nat) (x4 t : Bool) (u : List Int) (v : List (Int × Int × Int × Int × Int × Bool × Bool × Int × Int × (List (Int)) × ByteArray × Int × Int × Bool × Int)), M = i + d → u.length ≤ i → v.length ≤ i → d < n → ∃ r, F11_c4 n 0 M (ofN M) (ofN i) x4 0 M L x8 x9 x10 x11 x12 x13 x14 x15 x16 x17 x18 x19 x20 x21 x22 x23 x24 x25 x26 x27 x28 x29 x30 x31 x32 x33 x34 x35 x36 x37 x38 x39 x40 x41 x42 x43 x44 x45 x46 x47 x48 x49 x50 x51 x52 x53 x54 x55 t u v = some r := by
  intro d
  induction d with
  | zero =>
    intro i n x4 t u v hd hu hv hn
    obtain ⟨m, rfl⟩ : ∃ m, n = m + 1 := Nat.exists_eq_succ_of_ne_zero (by omega)
    rw [F11_c4]
    exact exF (ilt_f (by omega)) (exD (fun _ => ⟨_, rfl⟩) fun _ => ⟨_, rfl⟩)
  | succ d ih =>
    intro i n x4 t u v hd hu hv hn
    obtain ⟨m, rfl⟩ : ∃ m, n = m + 1 := Nat.exists_eq_succ_of_ne_zero (by omega)
    rw [F11_c4]
    refine exT (ilt_t (by omega)) (exT (inb_t (by omega)) (exT (by rw [toN, Nat.zero_add]; exact decide_eq_true (by omega)) (exT (inns_t (by omega)) ?_)))
    rw [mcontains_p _ _ (by simp; omega), Option.bind_some, add_one (show i < 1000 by omega)]
    refine exD (fun _ => exD (fun _ => ?_) fun _ => exT (room_small (by simp; omega) (by omega)) (exT (room_small (by simp; omega) (by omega)) ?_)) fun _ => ?_
    · exact ih _ _ _ _ _ _ (by omega) (by omega) (by omega) (by omega)
    · exact ih _ _ _ _ _ _ (by omega) (by simp; omega) (by simp; omega) (by omega)
    · exact ih _ _ _ _ _ _ (by omega) (by omega) (by omega) (by omega)

theorem fl_one {n : Nat} (hn : 100 < n) {x0 x1 x2 x3 x4 x5 x6 x7 x8 x9 x10 x11 x12 x13 x14 x15 x16 x17 x18 x19 x20 x21 x22 x23 x24 x25 x26 x27 x28 x29 x30 x31 x32 x33 x34 x35 x36 x37 x38 x39 x40 x41 x42 x43 x44 x45 x46 x47 x48 x49} (h2 : x2.length ≤ 20) : ∃ r, F11_c1 n x0 x1 x2 x3 x4 x5 x6 x7 x8 x9 x10 x11 x12 x13 x14 x15 x16 x17 x18 x19 x20 x21 x22 x23 x24 x25 x26 x27 x28 x29 x30 x31 x32 x33 x34 x35 x36 x37 x38 x39 x40 x41 x42 x43 x44 x45 x46 x47 x48 x49 = some r := by
  obtain ⟨j, rfl⟩ : ∃ j, n = j + 1 := Nat.exists_eq_succ_of_ne_zero (by omega)
  rw [F11_c1]
  obtain ⟨M, e, m3, mk⟩ := min_three (k := ([x23] ++ x2).length) (by simp)
  have hl : ([x23] ++ x2).length < 1000 := by simp; omega
  refine exD (fun _ => fl_four (by omega)) fun _ => exD (fun _ => exD (fun _ => exT (room_small (by simp; omega) (by omega)) ?_) fun _ => ?_) fun _ => ?_
  · rw [e]
    refine exT (inns_t mk) ?_
    have e2 : (ofN M).toNat - 0 = M := by simp [ofN]
    rw [e2]
    exact fl_putA _ hl M mk m3 M 0 _ _ _ _ _ (by omega) (Nat.zero_le _) (Nat.zero_le _) (by omega)
  · exact exD (fun _ => exT rfl ⟨_, rfl⟩) fun _ => exD (fun _ => fl_four (by omega)) fun _ => exT rfl ⟨_, rfl⟩
  · exact exD (fun _ => exT rfl ⟨_, rfl⟩) fun _ => exD (fun _ => fl_four (by omega)) fun _ => exT rfl ⟨_, rfl⟩


theorem jtold (a0 : Int) (a1 a2 : List Int) (a3 a4 a5 a6 a7 a8 a9 a10 a11 a12 a13 a14 a15 a16 a17 a18 a19 : Int) (b0 : Int) (b1 : Int) (b2 : Int) (b3 : Int) (b4 : Int) (b5 : Bool) (b6 : Bool) (b7 : Int) (b8 : ByteArray) (b9 : Int) (b10 : Int) (b11 : Bool) (b12 : Int) (b13 : List Int) (b14 : Int) (m0 : Int) (m1 : Int) (m2 : Int) (m3 : Int) (m4 : Int) (m5 : Bool) (m6 : Bool) (m7 : Int) (m8 : Int) (m9 : List Int) (m10 : ByteArray) (m11 : Int) (m12 : Int) (m13 : Bool) (m14 : Int) (h1 : a1.length ≤ 20) (h2 : a2.length ≤ 20) (hb : b13.length ≤ 40) (hm : m9.length ≤ 40) :
    ∃ r, F12 FUEL a0 a1 a2 a3 a4 a5 a6 a7 a8 a9 a10 a11 a12 a13 a14 a15 a16 a17 a18 a19 b0 b1 b2 b3 b4 b5 b6 b7 b8 b9 b10 b11 b12 b13 b14 m0 m1 m2 m3 m4 m5 m6 m7 m8 m9 m10 m11 m12 m13 m14 = some r ∧ ((b1 < 1 ∨ 4 < b1 ∨ m3 ≠ a0 ∨ m0 ≤ 6 ∨ rightM ⟨m0, m1, m2, m3, m4, m5, m6, m7, m8, m9, m10, m11, m12, m13, m14⟩ = false) → r = ⟨b0, b1, b2, b3, b4, b5, b6, b7, b8, b9, b10, b11, b12, b13, b14, false, []⟩) := by
  have hf := fuel_big
  unfold F12
  rw [jown _ _ _ _ _ _ _ _ _ _ _ _ _ _ _ hb, viewR_p (by omega), mright_p (by omega) m0 m1 m2 m3 m4 m5 m6 m7 m8 m9 m10 m11 m12 m13 m14 (by omega)]
  simp only [Option.bind_some]
  refine exC (fun hv => exC (fun hr => exC (fun ha => ?_) fun _ => ⟨_, rfl, fun _ => rfl⟩) fun _ => ⟨_, rfl, fun _ => rfl⟩) fun _ => ⟨_, rfl, fun _ => rfl⟩
  have ha' : m3 = a0 := by simpa [ieq] using ha
  have no : 1 ≤ b1 → b1 ≤ 4 → 6 < m0 → ¬ (b1 < 1 ∨ 4 < b1 ∨ m3 ≠ a0 ∨ m0 ≤ 6 ∨ rightM ⟨m0, m1, m2, m3, m4, m5, m6, m7, m8, m9, m10, m11, m12, m13, m14⟩ = false) := by
    intro k1 k2 k3 s
    rcases s with s | s | s | s | s
    · omega
    · omega
    · exact s ha'
    · omega
    · rw [hr] at s; cases s
  refine exC (fun hp => exC (fun hk => exC (fun _ => ?_) fun _ => ⟨_, rfl, fun _ => rfl⟩) fun _ => ⟨_, rfl, fun _ => rfl⟩) fun _ => exC (fun hp => exC (fun hk => exC (fun _ => ?_) fun _ => ⟨_, rfl, fun _ => rfl⟩) fun _ => ⟨_, rfl, fun _ => rfl⟩) fun _ => exC (fun hp => exC (fun hk => ?_) fun _ => ⟨_, rfl, fun _ => rfl⟩) fun _ => exC (fun hp => exC (fun hk => exC (fun _ => ?_) fun _ => ⟨_, rfl, fun _ => rfl⟩) fun _ => ⟨_, rfl, fun _ => rfl⟩) fun _ => ⟨_, rfl, fun _ => rfl⟩
  all_goals simp only [ieq, beq_iff_eq, decide_eq_true_eq] at hp hk
  · refine exN (no (by omega) (by omega) (by omega)) ?_
    rw [told_p (by omega) a0 a1 a2 a3 a4 a5 a6 a7 a8 a9 a10 a11 a12 a13 a14 a15 a16 a17 a18 a19 b2 b3 b4 b5 b6 b7 m0 m1 m2 m3 m4 m5 m6 m7 m8 m9 m10 m11 m12 m13 m14 (by omega), Option.bind_some]
    refine exD (fun _ => tl_zero (by omega)) fun _ => exD (fun _ => tl_one (by omega) h2) fun _ => ?_
    rw [lask_p, Option.bind_some]
    exact exD (fun _ => exT rfl ⟨_, rfl⟩) fun _ => ⟨_, rfl⟩
  · refine exN (no (by omega) (by omega) (by omega)) ?_
    obtain ⟨M, e, m3', mk⟩ := min_three (k := ([b12] ++ m9).length) (by simp)
    have hl : ([b12] ++ m9).length < 1000 := by simp; omega
    refine exT (room_small (by simp; omega) (by omega)) ?_
    rw [e]
    refine exT (inns_t mk) ?_
    have e2 : (ofN M).toNat - 0 = M := by simp [ofN]
    rw [e2]
    exact tl_putA _ hl M mk m3' M 0 _ _ _ _ _ (by omega) (Nat.zero_le _) (Nat.zero_le _) (by omega)
  · rw [mcontains_p _ _ (by omega), Option.bind_some]
    refine exC (fun _ => ⟨_, rfl, fun _ => rfl⟩) fun _ => exN (no (by omega) (by omega) (by omega)) ?_
    exact tl_idx _ hb b13.length 0 _ (by omega) (by omega)
  · exact exN (no (by omega) (by omega) (by omega)) (exD (fun _ => ⟨_, rfl⟩) fun _ => ⟨_, rfl⟩)

theorem jfailed (a0 : Int) (a1 a2 : List Int) (a3 a4 a5 a6 a7 a8 a9 a10 a11 a12 a13 a14 a15 a16 a17 a18 a19 : Int) (b0 : Int) (b1 : Int) (b2 : Int) (b3 : Int) (b4 : Int) (b5 : Bool) (b6 : Bool) (b7 : Int) (b8 : ByteArray) (b9 : Int) (b10 : Int) (b11 : Bool) (b12 : Int) (b13 : List Int) (b14 : Int) (p : Int) (h1 : a1.length ≤ 20) (h2 : a2.length ≤ 20) (hb : b13.length ≤ 40) :
    ∃ r, F11 FUEL a0 a1 a2 a3 a4 a5 a6 a7 a8 a9 a10 a11 a12 a13 a14 a15 a16 a17 a18 a19 b0 b1 b2 b3 b4 b5 b6 b7 b8 b9 b10 b11 b12 b13 b14 p = some r ∧ ((b1 < 1 ∨ 4 < b1) → r = ⟨b0, b1, b2, b3, b4, b5, b6, b7, b8, b9, b10, b11, b12, b13, b14, false, []⟩) := by
  have hf := fuel_big
  unfold F11
  rw [jown _ _ _ _ _ _ _ _ _ _ _ _ _ _ _ hb, viewR_p (by omega)]
  simp only [Option.bind_some]
  refine exC (fun hv => ?_) fun _ => ⟨_, rfl, fun _ => rfl⟩
  have no : 1 ≤ b1 → b1 ≤ 4 → ¬ (b1 < 1 ∨ 4 < b1) := by omega
  refine exC (fun hp => exC (fun hk => ?_) fun _ => ⟨_, rfl, fun _ => rfl⟩) fun _ => exC (fun hp => exC (fun hk => ?_) fun _ => ⟨_, rfl, fun _ => rfl⟩) fun _ => exC (fun hp => ?_) fun _ => exC (fun hp => exC (fun hk => ?_) fun _ => ⟨_, rfl, fun _ => rfl⟩) fun _ => ⟨_, rfl, fun _ => rfl⟩
  all_goals simp only [ieq, beq_iff_eq, decide_eq_true_eq] at hp
  · refine exN (no (by omega) (by omega)) ?_
    rw [again_p (by omega) a0 a1 a2 a3 a4 a5 a6 a7 a8 a9 a10 a11 a12 a13 a14 a15 a16 a17 a18 a19 b2 b3 b4 b5 b6 b7, Option.bind_some]
    refine exD (fun _ => fl_zero (by omega)) fun _ => exD (fun _ => fl_one (by omega) h2) fun _ => ?_
    rw [lask_p, Option.bind_some]
    exact exD (fun _ => exT rfl ⟨_, rfl⟩) fun _ => ⟨_, rfl⟩
  · exact exN (no (by omega) (by omega)) ⟨_, rfl⟩
  · rw [mcontains_p _ _ (by omega), Option.bind_some]
    refine exC (fun _ => ⟨_, rfl, fun _ => rfl⟩) fun _ => exN (no (by omega) (by omega)) ?_
    exact fl_idx _ hb b13.length 0 _ (by omega) (by omega)
  · exact exN (no (by omega) (by omega)) ⟨_, rfl⟩

end Go.Proofs.YtlcbbjcehaahlaaGreat
