/-
  What the functions compute, in plain words.
-/
import Derived.Test.YtlcbbjcehaahlaaGreatPlA
namespace Go.Proofs.YtlcbbjcehaahlaaGreat
open Go Go.RowKit
section
variable {α β : Type}
theorem exC {b : Bool} {x y : Option α} {P : α → Prop} (h1 : b = true → ∃ r, x = some r ∧ P r) (h2 : b = false → ∃ r, y = some r ∧ P r) : ∃ r, (bif b then x else y) = some r ∧ P r := by
  cases b
  · exact h2 rfl
  · exact h1 rfl
theorem exN {x : Option α} {S : Prop} {z : α} (hn : ¬ S) (h : ∃ r, x = some r) : ∃ r, x = some r ∧ (S → r = z) := by
  obtain ⟨r, e⟩ := h
  exact ⟨r, e, fun s => (hn s).elim⟩
theorem exD {b : Bool} {x y : Option α} (h1 : b = true → ∃ r, x = some r) (h2 : b = false → ∃ r, y = some r) : ∃ r, (bif b then x else y) = some r := by
  cases b
  · exact h2 rfl
  · exact h1 rfl
theorem exT {b : Bool} {x y : Option α} (hb : b = true) (h : ∃ r, x = some r) : ∃ r, (bif b then x else y) = some r := by
  rw [hb]; exact h
theorem exF {b : Bool} {x y : Option α} (hb : b = false) (h : ∃ r, y = some r) : ∃ r, (bif b then x else y) = some r := by
  rw [hb]; exact h
end
theorem room_small {n b : Nat} (h : n < 1000) (hb : b ≤ 1000) : room n b = true := by
  have := Nat.mul_le_mul (show n ≤ 1000 by omega) hb
  simp only [room, Bool.and_eq_true, decide_eq_true_eq]; omega
theorem add_one {i : Nat} (h : i < 1000) : iadd .i64 (ofN i) 1 = ofN (i + 1) := by
  simp only [iadd, ofN]; rw [wrap_mid (by omega) (by omega)]; omega
theorem toN (i : Nat) : (ofN i).toNat = i := rfl
theorem ilt_t {i k : Nat} (h : i < k) : ilt (ofN i) (ofN k) = true := by unfold ilt ofN; exact decide_eq_true (show (i : Int) < (k : Int) by omega)
theorem ilt_f {i k : Nat} (h : k ≤ i) : ilt (ofN i) (ofN k) = false := by unfold ilt ofN; exact decide_eq_false (show ¬ ((i : Int) < (k : Int)) by omega)
theorem inb_t {i k : Nat} (h : i < k) : inb (ofN i) k = true := by
  unfold inb ofN; simp only [Bool.and_eq_true, decide_eq_true_eq]; omega
theorem nlt_t {i k : Nat} (h : i < k) : nlt (ofN i).toNat k = true := by rw [toN]; exact decide_eq_true h
theorem inns_t {i k : Nat} (h : i ≤ k) : (inn (ofN i) && inbs 0 (ofN i).toNat k) = true := by
  rw [toN]; unfold inn inbs ofN; simp only [Bool.and_eq_true, decide_eq_true_eq]; omega
theorem innt_t {i k : Nat} (h : i ≤ k) : ((inn (ofN i) && true) && inbs (ofN i).toNat k k) = true := by
  rw [toN]; unfold inn inbs ofN; simp only [Bool.and_eq_true, decide_eq_true_eq, and_true]; omega
theorem min_three {k : Nat} (hk : 0 < k) : ∃ m : Nat, minI 3 (ofN k) = ofN m ∧ m ≤ 3 ∧ m ≤ k := by
  unfold minI ofN
  split
  · exact ⟨k, rfl, by omega, by omega⟩
  · exact ⟨3, rfl, by omega, by omega⟩
theorem jown {n : Nat} (b0 : Int) (b1 : Int) (b2 : Int) (b3 : Int) (b4 : Int) (b5 : Bool) (b6 : Bool) (b7 : Int) (b8 : ByteArray) (b9 : Int) (b10 : Int) (b11 : Bool) (b12 : Int) (b13 : List Int) (b14 : Int) (h : b13.length ≤ 40) : F24 n b0 b1 b2 b3 b4 b5 b6 b7 b8 b9 b10 b11 b12 b13 b14 = some ⟨b0, b1, b2, b3, b4, b5, b6, b7, b8, b9, b10, b11, b12, b14, b13⟩ := by
  unfold F24
  cases b13 with
  | nil => rfl
  | cons x l =>
    have e1 : ieq (ofN (x :: l).length) 0 = false := by simp [ieq, ofN]; omega
    have e2 : room (0 + (x :: l).length) 8 = true := room_small (by simp at h ⊢; omega) (by omega)
    rw [e1, cond_false]
    unfold F43
    rw [e2]
    rfl
theorem tl_zero {n : Nat} (hn : 0 < n) {x0 x1 x2 x3 x4 x5 x6 x7 x8 x9 x10 x11 x12 x13 x14 x15 x16 x17 x18 x19 x20 x21 x22 x23 x24 x25 x26 x27 x28 x29 x30 x31 x32 x33 x34 x35 x36 x37 x38 x39 x40 x41 x42 x43 x44 x45 x46 x47 x48 x49} : ∃ r, F12_c0 n x0 x1 x2 x3 x4 x5 x6 x7 x8 x9 x10 x11 x12 x13 x14 x15 x16 x17 x18 x19 x20 x21 x22 x23 x24 x25 x26 x27 x28 x29 x30 x31 x32 x33 x34 x35 x36 x37 x38 x39 x40 x41 x42 x43 x44 x45 x46 x47 x48 x49 = some r := by
  obtain ⟨j, rfl⟩ : ∃ j, n = j + 1 := Nat.exists_eq_succ_of_ne_zero (by omega)
  exact ⟨_, rfl⟩
theorem tl_four {n : Nat} (hn : 0 < n) {x0 x1 x2 x3 x4 x5 x6 x7 x8 x9 x10 x11 x12 x13 x14 x15 x16 x17 x18 x19 x20 x21 x22 x23 x24 x25 x26 x27 x28 x29 x30 x31 x32 x33 x34 x35 x36 x37 x38 x39 x40 x41 x42 x43 x44 x45 x46 x47 x48 x49} : ∃ r, F12_c4 n x0 x1 x2 x3 x4 x5 x6 x7 x8 x9 x10 x11 x12 x13 x14 x15 x16 x17 x18 x19 x20 x21 x22 x23 x24 x25 x26 x27 x28 x29 x30 x31 x32 x33 x34 x35 x36 x37 x38 x39 x40 x41 x42 x43 x44 x45 x46 x47 x48 x49 = some r := by
  obtain ⟨j, rfl⟩ : ∃ j, n = j + 1 := Nat.exists_eq_succ_of_ne_zero (by omega)
  exact ⟨_, rfl⟩
theorem tl_del {x2 x4 x5 x6 x7 x8 x9 x10 x11 x12 x13 x14 x15 x16 x17 x18 x19 x20 x21 x22 x23 x24 x25 x26 x27 x28 x29 x30 x31 x32 x33 x34 x35 x36 x37 x38 x39 x40 x41 x42 x43 x44 x45 x46 x47 x48 x49 x50 x51 x52 x53} : ∀ (d i j : Nat) (L : List Int) (n : Nat), L.length = j + d → i < j → L.length ≤ 40 → d < n → ∃ r, F12_c6 n (ofN i) (ofN j) x2 L x4 x5 x6 x7 x8 x9 x10 x11 x12 x13 x14 x15 x16 x17 x18 x19 x20 x21 x22 x23 x24 x25 x26 x27 x28 x29 x30 x31 x32 x33 x34 x35 x36 x37 x38 x39 x40 x41 x42 x43 x44 x45 x46 x47 x48 x49 x50 x51 x52 x53 = some r := by
  intro d
  induction d with
  | zero =>
    intro i j L n hL hij hb hn
    obtain ⟨m, rfl⟩ : ∃ m, n = m + 1 := Nat.exists_eq_succ_of_ne_zero (by omega)
    have hk : L.length = j := by omega
    rw [F12_c6]
    refine exF (ilt_f (by omega)) (exT (innt_t (by omega)) (exT ?_ (exT ?_ (exD (fun _ => exD (fun _ => ⟨_, rfl⟩) fun _ => ⟨_, rfl⟩) fun _ => exD (fun _ => ⟨_, rfl⟩) fun _ => ⟨_, rfl⟩))))
    · rw [toN]; exact decide_eq_true (by omega)
    · refine inns_t ?_
      rw [toN]
      simp only [List.length_append, List.length_take, List.length_replicate, List.length_drop]
      omega
  | succ d ih =>
    intro i j L n hL hij hb hn
    obtain ⟨m, rfl⟩ : ∃ m, n = m + 1 := Nat.exists_eq_succ_of_ne_zero (by omega)
    rw [F12_c6]
    refine exT (ilt_t (by omega)) (exT (inb_t (by omega)) (exT (nlt_t (by omega)) (exD (fun _ => ?_) fun _ => ?_)))
    · refine exT (inb_t (by omega)) (exT (nlt_t (by omega)) ?_)
      rw [add_one (show i < 1000 by omega), add_one (show j < 1000 by omega)]
      exact ih _ _ _ _ (by rw [List.length_set]; omega) (by omega) (by rw [List.length_set]; omega) (by omega)
    · rw [add_one (show j < 1000 by omega)]
      exact ih _ _ _ _ (by omega) (by omega) (by omega) (by omega)
theorem tl_idx {x2 x4 x5 x6 x7 x8 x9 x10 x11 x12 x13 x14 x15 x16 x17 x18 x19 x20 x21 x22 x23 x24 x25 x26 x27 x28 x29 x30 x31 x32 x33 x34 x35 x36 x37 x38 x39 x40 x41 x42 x43 x44 x45 x46 x47 x48 x49 x50 x51 x52 x53} (L : List Int) (hb : L.length ≤ 40) : ∀ (d j : Nat) (n : Nat), L.length = j + d → d + 50 < n → ∃ r, F12_c3 n (ofN L.length) (ofN j) x2 L x4 x5 x6 x7 x8 x9 x10 x11 x12 x13 x14 x15 x16 x17 x18 x19 x20 x21 x22 x23 x24 x25 x26 x27 x28 x29 x30 x31 x32 x33 x34 x35 x36 x37 x38 x39 x40 x41 x42 x43 x44 x45 x46 x47 x48 x49 x50 x51 x52 x53 = some r := by
  intro d
  induction d with
  | zero =>
    intro j n hL hn
    obtain ⟨m, rfl⟩ : ∃ m, n = m + 1 := Nat.exists_eq_succ_of_ne_zero (by omega)
    rw [F12_c3]
    exact exF (ilt_f (by omega)) (exT rfl (exD (fun _ => exD (fun _ => ⟨_, rfl⟩) fun _ => ⟨_, rfl⟩) fun _ => exD (fun _ => ⟨_, rfl⟩) fun _ => ⟨_, rfl⟩))
  | succ d ih =>
    intro j n hL hn
    obtain ⟨m, rfl⟩ : ∃ m, n = m + 1 := Nat.exists_eq_succ_of_ne_zero (by omega)
    rw [F12_c3]
    refine exT (ilt_t (by omega)) (exT (inb_t (by omega)) (exT (nlt_t (by omega)) (exD (fun _ => exF (by simp [ieq, ofN]) ?_) fun _ => ?_)))
    · rw [add_one (show j < 1000 by omega)]
      exact tl_del d j (j + 1) L m (by omega) (by omega) hb (by omega)
    · rw [add_one (show j < 1000 by omega)]
      exact ih _ _ (by omega) (by omega)
theorem tl_putA {x8 x9 x10 x11 x12 x13 x14 x15 x16 x17 x18 x19 x20 x21 x22 x23 x24 x25 x26 x27 x28 x29 x30 x31 x32 x33 x34 x35 x36 x37 x38 x39 x40 x41 x42 x43 x44 x45 x46 x47 x48 x49 x50 x51 x52 x53 x54 x55} (L : List Int) (hb : L.length < 1000) (M : Nat) (hM : M ≤ L.length) (h3 : M ≤ 3) : ∀ (d i : Nat) (n : Nat) (x4 t : Bool) (u : List Int) (v : List (Int × Int × Int × Int × Int × Bool × Bool × Int × Int × (List (Int)) × ByteArray × Int × Int × Bool × Int)), M = i + d → u.length ≤ i → v.length ≤ i → d < n → ∃ r, F12_c2 n 0 M (ofN M) (ofN i) x4 0 M L x8 x9 x10 x11 x12 x13 x14 x15 x16 x17 x18 x19 x20 x21 x22 x23 x24 x25 x26 x27 x28 x29 x30 x31 x32 x33 x34 x35 x36 x37 x38 x39 x40 x41 x42 x43 x44 x45 x46 x47 x48 x49 x50 x51 x52 x53 x54 x55 t u v = some r := by
  intro d
  induction d with
  | zero =>
    intro i n x4 t u v hd hu hv hn
    obtain ⟨m, rfl⟩ : ∃ m, n = m + 1 := Nat.exists_eq_succ_of_ne_zero (by omega)
    rw [F12_c2]
    exact exF (ilt_f (by omega)) (exD (fun _ => ⟨_, rfl⟩) fun _ => ⟨_, rfl⟩)
  | succ d ih =>
    intro i n x4 t u v hd hu hv hn
    obtain ⟨m, rfl⟩ : ∃ m, n = m + 1 := Nat.exists_eq_succ_of_ne_zero (by omega)
    rw [F12_c2]
    refine exT (ilt_t (by omega)) (exT (inb_t (by omega)) (exT (by rw [toN, Nat.zero_add]; exact decide_eq_true (by omega)) (exT (inns_t (by omega)) ?_)))
    rw [mcontains_p _ _ (by simp; omega), Option.bind_some, add_one (show i < 1000 by omega)]
    refine exD (fun _ => exD (fun _ => ?_) fun _ => exT (room_small (by simp; omega) (by omega)) (exT (room_small (by simp; omega) (by omega)) ?_)) fun _ => ?_
    · exact ih _ _ _ _ _ _ (by omega) (by omega) (by omega) (by omega)
    · exact ih _ _ _ _ _ _ (by omega) (by simp; omega) (by simp; omega) (by omega)
    · exact ih _ _ _ _ _ _ (by omega) (by omega) (by omega) (by omega)
theorem tl_putB {x8 x9 x10 x11 x12 x13 x14 x15 x16 x17 x18 x19 x20 x21 x22 x23 x24 x25 x26 x27 x28 x29 x30 x31 x32 x33 x34 x35 x36 x37 x38 x39 x40 x41 x42 x43 x44 x45 x46 x47 x48 x49 x50 x51 x52 x53 x54 x55} (L : List Int) (hb : L.length < 1000) (M : Nat) (hM : M ≤ L.length) (h3 : M ≤ 3) : ∀ (d i : Nat) (n : Nat) (x4 t : Bool) (u : List Int) (v : List (Int × Int × Int × Int × Int × Bool × Bool × Int × Int × (List (Int)) × ByteArray × Int × Int × Bool × Int)), M = i + d → u.length ≤ i → v.length ≤ i → d < n → ∃ r, F12_c5 n 0 M (ofN M) (ofN i) x4 0 M L x8 x9 x10 x11 x12 x13 x14 x15 x16 x17 x18 x19 x20 x21 x22 x23 x24 x25 x26 x27 x28 x29 x30 x31 x32 x33 x34 x35 x36 x37 x38 x39 x40 x41 x42 x43 x44 x45 x46 x47 x48 x49 x50 x51 x52 x53 x54 x55 t u v = some r := by
  intro d
  induction d with
  | zero =>
    intro i n x4 t u v hd hu hv hn
    obtain ⟨m, rfl⟩ : ∃ m, n = m + 1 := Nat.exists_eq_succ_of_ne_zero (by omega)
    rw [F12_c5]
    exact exF (ilt_f (by omega)) (exD (fun _ => ⟨_, rfl⟩) fun _ => ⟨_, rfl⟩)
  | succ d ih =>
    intro i n x4 t u v hd hu hv hn
    obtain ⟨m, rfl⟩ : ∃ m, n = m + 1 := Nat.exists_eq_succ_of_ne_zero (by omega)
    rw [F12_c5]
    refine exT (ilt_t (by omega)) (exT (inb_t (by omega)) (exT (by rw [toN, Nat.zero_add]; exact decide_eq_true (by omega)) (exT (inns_t (by omega)) ?_)))
    rw [mcontains_p _ _ (by simp; omega), Option.bind_some, add_one (show i < 1000 by omega)]
    refine exD (fun _ => exD (fun _ => ?_) fun _ => exT (room_small (by simp; omega) (by omega)) (exT (room_small (by simp; omega) (by omega)) ?_)) fun _ => ?_
    · exact ih _ _ _ _ _ _ (by omega) (by omega) (by omega) (by omega)
    · exact ih _ _ _ _ _ _ (by omega) (by simp; omega) (by simp; omega) (by omega)
    · exact ih _ _ _ _ _ _ (by omega) (by omega) (by omega) (by omega)
theorem tl_one {n : Nat} (hn : 100 < n) {x0 x1 x2 x3 x4 x5 x6 x7 x8 x9 x10 x11 x12 x13 x14 x15 x16 x17 x18 x19 x20 x21 x22 x23 x24 x25 x26 x27 x28 x29 x30 x31 x32 x33 x34 x35 x36 x37 x38 x39 x40 x41 x42 x43 x44 x45 x46 x47 x48 x49} (h2 : x2.length ≤ 20) : ∃ r, F12_c1 n x0 x1 x2 x3 x4 x5 x6 x7 x8 x9 x10 x11 x12 x13 x14 x15 x16 x17 x18 x19 x20 x21 x22 x23 x24 x25 x26 x27 x28 x29 x30 x31 x32 x33 x34 x35 x36 x37 x38 x39 x40 x41 x42 x43 x44 x45 x46 x47 x48 x49 = some r := by
  obtain ⟨j, rfl⟩ : ∃ j, n = j + 1 := Nat.exists_eq_succ_of_ne_zero (by omega)
  rw [F12_c1]
  obtain ⟨M, e, m3, mk⟩ := min_three (k := ([x23] ++ x2).length) (by simp)
  have hl : ([x23] ++ x2).length < 1000 := by simp; omega
  refine exD (fun _ => tl_four (by omega)) fun _ => exD (fun _ => exD (fun _ => exT (room_small (by simp; omega) (by omega)) ?_) fun _ => ?_) fun _ => ?_
  · rw [e]
    refine exT (inns_t mk) ?_
    have e2 : (ofN M).toNat - 0 = M := by simp [ofN]
    rw [e2]
    exact tl_putB _ hl M mk m3 M 0 _ _ _ _ _ (by omega) (Nat.zero_le _) (Nat.zero_le _) (by omega)
  · exact exD (fun _ => exT rfl ⟨_, rfl⟩) fun _ => exD (fun _ => tl_four (by omega)) fun _ => exT rfl ⟨_, rfl⟩
  · exact exD (fun _ => exT rfl ⟨_, rfl⟩) fun _ => exD (fun _ => tl_four (by omega)) fun _ => exT rfl ⟨_, rfl⟩
theorem jtold (a0 : Int) (a1 a2 : List Int) (a3 a4 a5 a6 a7 a8 a9 a10 a11 a12 a13 a14 a15 a16 a17 a18 a19 : Int) (b0 : Int) (b1 : Int) (b2 : Int) (b3 : Int) (b4 : Int) (b5 : Bool) (b6 : Bool) (b7 : Int) (b8 : ByteArray) (b9 : Int) (b10 : Int) (b11 : Bool) (b12 : Int) (b13 : List Int) (b14 : Int) (m0 : Int) (m1 : Int) (m2 : Int) (m3 : Int) (m4 : Int) (m5 : Bool) (m6 : Bool) (m7 : Int) (m8 : Int) (m9 : List Int) (m10 : ByteArray) (m11 : Int) (m12 : Int) (m13 : Bool) (m14 : Int) (h1 : a1.length ≤ 20) (h2 : a2.length ≤ 20) (hb : b13.length ≤ 40) (hm : m9.length ≤ 40) :
    ∃ r, F12 FUEL a0 a1 a2 a3 a4 a5 a6 a7 a8 a9 a10 a11 a12 a13 a14 a15 a16 a17 a18 a19 b0 b1 b2 b3 b4 b5 b6 b7 b8 b9 b10 b11 b12 b13 b14 m0 m1 m2 m3 m4 m5 m6 m7 m8 m9 m10 m11 m12 m13 m14 = some r ∧ ((b1 < 1 ∨ 4 < b1 ∨ m3 ≠ a0 ∨ m0 ≤ 6 ∨ rightM ⟨m0, m1, m2, m3, m4, m5, m6, m7, m8, m9, m10, m11, m12, m13, m14⟩ = false) → r = ⟨b0, b1, b2, b3, b4, b5, b6, b7, b8, b9, b10, b11, b12, b13, b14, false, []⟩) := by
  have hf := fuel_big
  unfold F12
  rw [jown _ _ _ _ _ _ _ _ _ _ _ _ _ _ _ hb, viewR_p (by omega), mright_p (by omega) m0 m1 m2 m3 m4 m5 m6 m7 m8 m9 m10 m11 m12 m13 m14 (by omega)]
  simp only [Option.bind_some]
  refine exC (fun hv => exC (fun hr => exC (fun ha => ?_) fun _ => ⟨_, rfl, fun _ => rfl⟩) fun _ => ⟨_, rfl, fun _ => rfl⟩) fun _ => ⟨_, rfl, fun _ => rfl⟩
  have ha' : m3 = a0 := by simpa [ieq] using ha
  have no : 1 ≤ b1 → b1 ≤ 4 → 6 < m0 → ¬ (b1 < 1 ∨ 4 < b1 ∨ m3 ≠ a0 ∨ m0 ≤ 6 ∨ rightM ⟨m0, m1, m2, m3, m4, m5, m6, m7, m8, m9, m10, m11, m12, m13, m14⟩ = false) := by
    intro k1 k2 k3 s
    rcases s with s | s | s | s | s
    · omega
    · omega
    · exact s ha'
    · omega
    · rw [hr] at s; cases s
  refine exC (fun hp => exC (fun hk => exC (fun _ => ?_) fun _ => ⟨_, rfl, fun _ => rfl⟩) fun _ => ⟨_, rfl, fun _ => rfl⟩) fun _ => exC (fun hp => exC (fun hk => exC (fun _ => ?_) fun _ => ⟨_, rfl, fun _ => rfl⟩) fun _ => ⟨_, rfl, fun _ => rfl⟩) fun _ => exC (fun hp => exC (fun hk => ?_) fun _ => ⟨_, rfl, fun _ => rfl⟩) fun _ => exC (fun hp => exC (fun hk => exC (fun _ => ?_) fun _ => ⟨_, rfl, fun _ => rfl⟩) fun _ => ⟨_, rfl, fun _ => rfl⟩) fun _ => ⟨_, rfl, fun _ => rfl⟩
  all_goals simp only [ieq, beq_iff_eq, decide_eq_true_eq] at hp hk
  · refine exN (no (by omega) (by omega) (by omega)) ?_
    rw [told_p (by omega) a0 a1 a2 a3 a4 a5 a6 a7 a8 a9 a10 a11 a12 a13 a14 a15 a16 a17 a18 a19 b2 b3 b4 b5 b6 b7 m0 m1 m2 m3 m4 m5 m6 m7 m8 m9 m10 m11 m12 m13 m14 (by omega), Option.bind_some]
    refine exD (fun _ => tl_zero (by omega)) fun _ => exD (fun _ => tl_one (by omega) h2) fun _ => ?_
    rw [lask_p, Option.bind_some]
    exact exD (fun _ => exT rfl ⟨_, rfl⟩) fun _ => ⟨_, rfl⟩
  · refine exN (no (by omega) (by omega) (by omega)) ?_
    obtain ⟨M, e, m3', mk⟩ := min_three (k := ([b12] ++ m9).length) (by simp)
    have hl : ([b12] ++ m9).length < 1000 := by simp; omega
    refine exT (room_small (by simp; omega) (by omega)) ?_
    rw [e]
    refine exT (inns_t mk) ?_
    have e2 : (ofN M).toNat - 0 = M := by simp [ofN]
    rw [e2]
    exact tl_putA _ hl M mk m3' M 0 _ _ _ _ _ (by omega) (Nat.zero_le _) (Nat.zero_le _) (by omega)
  · rw [mcontains_p _ _ (by omega), Option.bind_some]
    refine exC (fun _ => ⟨_, rfl, fun _ => rfl⟩) fun _ => exN (no (by omega) (by omega) (by omega)) ?_
    exact tl_idx _ hb b13.length 0 _ (by omega) (by omega)
  · exact exN (no (by omega) (by omega) (by omega)) (exD (fun _ => ⟨_, rfl⟩) fun _ => ⟨_, rfl⟩)
end Go.Proofs.YtlcbbjcehaahlaaGreat
namespace Go.Proofs.YtlcbbjcehaahlaaGreat
open Go Go.RowKit
theorem wakes21 : F8 FUEL = some true := by kernel_rfl
theorem beqb_me (b : Bool) : beqb b b = true := by cases b <;> rfl
theorem ieq_me (b : Int) : ieq b b = true := by simp [ieq]
theorem ine_me (b : Int) : ine b b = false := by simp [ine]
theorem steq_me (b : ByteArray) : steq b b = true := by simp [steq]
theorem jsame_c (b0 : Int) (b1 : Int) (b2 : Int) (b3 : Int) (b4 : Int) (b5 : Bool) (b6 : Bool) (b7 : Int) (b8 : ByteArray) (b9 : Int) (b10 : Int) (b11 : Bool) (b12 : Int) (b13 : List Int) (b14 : Int) (hb : b13.length ≤ 40) : ∀ (d i n : Nat), b13.length = i + d → d < n → F13_c0 n (ofN i) b0 b1 b2 b3 b4 b5 b6 b7 b8 b9 b10 b11 b12 b13 b14 b0 b1 b2 b3 b4 b5 b6 b7 b8 b9 b10 b11 b12 b13 b14 = some true := by
  intro d
  induction d with
  | zero =>
    intro i n hL hn
    obtain ⟨m, rfl⟩ : ∃ m, n = m + 1 := Nat.exists_eq_succ_of_ne_zero (by omega)
    rw [F13_c0, ilt_f (by omega)]
    simp only [ieq_me, beqb_me, steq_me, Bool.and_self, cond_true, cond_false]
  | succ d ih =>
    intro i n hL hn
    obtain ⟨m, rfl⟩ : ∃ m, n = m + 1 := Nat.exists_eq_succ_of_ne_zero (by omega)
    rw [F13_c0, ilt_t (by omega), inb_t (by omega), ine_me, add_one (by omega)]
    simp only [cond_true, cond_false]
    exact ih _ _ (by omega) (by omega)
theorem jsame {n : Nat} (hn : 100 < n) (b0 : Int) (b1 : Int) (b2 : Int) (b3 : Int) (b4 : Int) (b5 : Bool) (b6 : Bool) (b7 : Int) (b8 : ByteArray) (b9 : Int) (b10 : Int) (b11 : Bool) (b12 : Int) (b13 : List Int) (b14 : Int) (hb : b13.length ≤ 40) : F13 n b0 b1 b2 b3 b4 b5 b6 b7 b8 b9 b10 b11 b12 b13 b14 b0 b1 b2 b3 b4 b5 b6 b7 b8 b9 b10 b11 b12 b13 b14 = some true := by
  unfold F13
  rw [ine_me, cond_false]
  exact jsame_c b0 b1 b2 b3 b4 b5 b6 b7 b8 b9 b10 b11 b12 b13 b14 hb b13.length 0 n (by omega) (by omega)
theorem igt_len {k : Nat} {m : Int} (h : igt (ofN k) m = false) : (k : Int) ≤ m := by
  have h2 : ¬ ((k : Int) > m) := of_decide_eq_false h
  omega
end Go.Proofs.YtlcbbjcehaahlaaGreat
namespace Go.Proofs.YtlcbbjcehaahlaaGreat
open Go Go.RowKit
section
variable {α : Type}
theorem eqT {b : Bool} {x y z : α} (hb : b = true) (h : x = z) : (bif b then x else y) = z := by rw [hb]; exact h
theorem eqF {b : Bool} {x y z : α} (hb : b = false) (h : y = z) : (bif b then x else y) = z := by rw [hb]; exact h
theorem eqD {b : Bool} {x y z : α} (h1 : b = true → x = z) (h2 : b = false → y = z) : (bif b then x else y) = z := by
  cases b
  · exact h2 rfl
  · exact h1 rfl
theorem ieq_t {a b : Int} (h : a = b) : ieq a b = true := by rw [h]; exact ieq_me b
theorem ieq_f {a b : Int} (h : a ≠ b) : ieq a b = false := by rw [ieq_dec]; exact decide_eq_false h
theorem ine_f {a b : Int} (h : a = b) : ine a b = false := by rw [h]; exact ine_me b
theorem ine_t {a b : Int} (h : a ≠ b) : ine a b = true := by rw [ine_dec, decide_eq_false h]; rfl
theorem getD_mid {p q : List α} {x d : α} : ((p ++ x :: q)).getD (ofN p.length).toNat d = x := by rw [toN]; simp
end
theorem lstB_all (f : Int) : ∀ (r p : List Int), lstB f p r = true → (∀ x ∈ r, isP x = true ∧ x ≠ f ∧ x ∉ p) ∧ r.Nodup
  | [], _, _ => ⟨fun x h => by simp at h, List.nodup_nil⟩
  | x :: r, p, h => by
    simp only [lstB, Bool.and_eq_true, decide_eq_true_eq, Bool.not_eq_true', decide_eq_false_iff_not] at h
    obtain ⟨h1, h2, h3, h4⟩ := h
    obtain ⟨k1, k2⟩ := lstB_all f r (p ++ [x]) h4
    refine ⟨fun y hy => ?_, List.nodup_cons.2 ⟨fun hx => (k1 x hx).2.2 (by simp), k2⟩⟩
    rcases List.mem_cons.1 hy with e | hy
    · rw [e]; exact ⟨h1, h2, h3⟩
    · obtain ⟨j1, j2, j3⟩ := k1 y hy
      exact ⟨j1, j2, fun hp => j3 (by simp [hp])⟩
def askP (k : ByteArray) (v r : Int) (g : Bool) (t : Int) : Int × Int × Int × Int × Int × Bool × Bool × Int × Int × (List (Int)) × ByteArray × Int × Int × Bool × Int := (5, 0, 0, t, 0, false, false, 0, 0, [], k, v, r, g, 0)
theorem tl_put {x8 x9 x10 x11 x12 x13 x14 x15 x16 x17 x18 x19 x20 x21 x22 x23 x24 x25 x26 x27 x28 x29 x30 x31 x32 x33 x34 x35 x36 x37 x38 x39 x40 x41 x42 x43 x44 x45 x46 x47 x48 x49 x50 x51 x52 x53 x54 x55} (L q : List Int) (hL : L.length < 1000) (M : Nat) (h3 : M ≤ 3) : ∀ (r p : List Int) (n : Nat) (x4 t : Bool) (u : List Int) (v : List (Int × Int × Int × Int × Int × Bool × Bool × Int × Int × (List (Int)) × ByteArray × Int × Int × Bool × Int)),
    L = p ++ (r ++ q) → M = p.length + r.length → (p ++ r).Nodup → u.length ≤ p.length → v.length ≤ p.length → r.length < n →
    F12_c2 n 0 M (ofN M) (ofN p.length) x4 0 M L x8 x9 x10 x11 x12 x13 x14 x15 x16 x17 x18 x19 x20 x21 x22 x23 x24 x25 x26 x27 x28 x29 x30 x31 x32 x33 x34 x35 x36 x37 x38 x39 x40 x41 x42 x43 x44 x45 x46 x47 x48 x49 x50 x51 x52 x53 x54 x55 t u v =
      some ⟨x42, (bif (u ++ r.filter (· != x22)).isEmpty then 5 else 3), x44, x45, x46, x47, x48, x49, x50, x51, x52, x53, x54, u ++ r.filter (· != x22), x55, t || decide (x22 ∈ r), v ++ (r.filter (· != x22)).map (askP x50 x51 x52 x53)⟩ := by
  intro r
  induction r with
  | nil =>
    intro p n x4 t u v hd hM hN hu hv hn
    obtain ⟨m, rfl⟩ : ∃ m, n = m + 1 := Nat.exists_eq_succ_of_ne_zero (by omega)
    rw [F12_c2]
    refine eqF (ilt_f (by simp at hM; omega)) ?_
    cases u with
    | nil => simp [ieq, ofN]
    | cons a u => exact eqF (ieq_f (by simp [ofN]; omega)) (by simp)
  | cons z r ih =>
    intro p n x4 t u v hd hM hN hu hv hn
    simp only [List.length_cons] at hM hn
    obtain ⟨m, rfl⟩ : ∃ m, n = m + 1 := Nat.exists_eq_succ_of_ne_zero (by omega)
    have hlen : L.length = p.length + (r.length + 1 + q.length) := by rw [hd]; simp; omega
    have hz : L.getD (0 + (ofN p.length).toNat) 0 = z := by rw [Nat.zero_add, hd, List.cons_append]; exact getD_mid
    have ht : List.take ((ofN p.length).toNat - 0) (List.drop (0 + 0) L) = p := by rw [toN, hd]; simp
    have hzp : z ∉ p := fun h => by
      rw [List.nodup_append] at hN
      exact hN.2.2 z h z (by simp) rfl
    rw [F12_c2]
    refine eqT (ilt_t (by omega)) (eqT (inb_t (by omega)) (eqT (by rw [toN, Nat.zero_add]; exact decide_eq_true (by omega)) (eqT (inns_t (by omega)) ?_)))
    rw [ht, hz, mcontains_p _ _ (by omega), Option.bind_some, decide_eq_false hzp, Bool.not_false, cond_true, add_one (by omega)]
    have hstep : ofN (p.length + 1) = ofN (p ++ [z]).length := by simp
    have hN' : ((p ++ [z]) ++ r).Nodup := by rw [List.append_assoc]; exact hN
    have hd' : L = (p ++ [z]) ++ (r ++ q) := by rw [hd]; simp
    rw [hstep]
    by_cases he : z = x22
    · refine eqT (ieq_t he) ?_
      rw [ih (p ++ [z]) m x4 true u v hd' (by simp; omega) hN' (by simp; omega) (by simp; omega) (by omega)]
      simp [he]
    · refine eqF (ieq_f he) (eqT (room_small (by simp; omega) (by omega)) (eqT (room_small (by simp; omega) (by omega)) ?_))
      rw [ih (p ++ [z]) m x4 t _ _ hd' (by simp; omega) hN' (by simp; omega) (by simp; omega) (by omega)]
      have e1 : (z != x22) = true := by simpa using he
      have e2 : decide (x22 ∈ z :: r) = decide (x22 ∈ r) := by
        simp [Ne.symm he]
      simp only [List.filter_cons, e1, if_true, e2, List.map_cons, List.append_assoc, List.cons_append, List.nil_append]
      rfl
theorem tl_cut {x2 x4 x5 x6 x7 x8 x9 x10 x11 x12 x13 x14 x15 x16 x17 x18 x19 x20 x21 x22 x23 x24 x25 x26 x27 x28 x29 x30 x31 x32 x33 x34 x35 x36 x37 x38 x39 x40 x41 x42 x43 x44 x45 x46 x47 x48 x49 x50 x51 x52 x53} : ∀ (r q : List Int) (z : Int) (n : Nat), q.length + r.length < 100 → (∀ y ∈ r, y ≠ x4) → r.length < n →
    F12_c6 n (ofN q.length) (ofN (q.length + 1)) x2 (q ++ z :: r) x4 x5 x6 x7 x8 x9 x10 x11 x12 x13 x14 x15 x16 x17 x18 x19 x20 x21 x22 x23 x24 x25 x26 x27 x28 x29 x30 x31 x32 x33 x34 x35 x36 x37 x38 x39 x40 x41 x42 x43 x44 x45 x46 x47 x48 x49 x50 x51 x52 x53 = some ⟨x25, (bif (q ++ r).isEmpty then 5 else x26), x27, x28, x29, x30, x31, x32, x33, x34, x35, x36, x37, q ++ r, (bif ine x2 0 then x2 else x38), x39, []⟩ := by
  intro r
  induction r with
  | nil =>
    intro q z n hl hr hn
    obtain ⟨m, rfl⟩ : ∃ m, n = m + 1 := Nat.exists_eq_succ_of_ne_zero (by omega)
    rw [F12_c6]
    have hk : (q ++ [z]).length = q.length + 1 := by simp
    have hc : (List.take (ofN q.length).toNat (q ++ [z]) ++ List.replicate ((q ++ [z]).length - (ofN q.length).toNat) (0 : Int) ++ List.drop ((ofN q.length).toNat + ((q ++ [z]).length - (ofN q.length).toNat)) (q ++ [z])) = q ++ [0] := by
      rw [toN, hk]; simp
    have ht : List.take ((ofN q.length).toNat - 0) (List.drop 0 (q ++ [(0 : Int)])) = q := by rw [toN]; simp
    rw [hc, ht]
    refine eqF (ilt_f (by omega)) (eqT (innt_t (by omega)) (eqT (by rw [toN]; exact decide_eq_true (by omega)) (eqT (inns_t (by simp)) ?_)))
    rw [toN, Nat.sub_zero]
    cases q with
    | nil => cases ine x2 0 <;> rfl
    | cons a q =>
      rw [ieq_f (by simp [ofN]; omega)]
      cases ine x2 0 <;> simp
  | cons y r ih =>
    intro q z n hl hr hn
    simp only [List.length_cons] at hl hn
    obtain ⟨m, rfl⟩ : ∃ m, n = m + 1 := Nat.exists_eq_succ_of_ne_zero (by omega)
    rw [F12_c6]
    have hk : (q ++ z :: y :: r).length = q.length + (r.length + 2) := by simp
    have hy : (q ++ z :: y :: r).getD (ofN (q.length + 1)).toNat 0 = y := by
      rw [toN, show q ++ z :: y :: r = (q ++ [z]) ++ y :: r by simp, show q.length + 1 = (q ++ [z]).length by simp]
      exact getD_mid
    have hs : (q ++ z :: y :: r).set (ofN q.length).toNat y = (q ++ [y]) ++ y :: r := by rw [toN]; simp
    rw [hy, hs]
    refine eqT (ilt_t (by omega)) (eqT (inb_t (by omega)) (eqT (nlt_t (by omega)) (eqT (by rw [ieq_f (hr y (by simp))]; rfl) (eqT (inb_t (by omega)) (eqT (nlt_t (by omega)) ?_)))))
    rw [add_one (by omega), add_one (by omega)]
    have := ih (q ++ [y]) y m (by simp; omega) (fun w hw => hr w (by simp [hw])) (by omega)
    simp only [List.length_append, List.length_cons, List.length_nil, List.append_assoc, List.cons_append, List.nil_append] at this ⊢
    exact this
theorem tl_first {x2 x5 x6 x7 x8 x9 x10 x11 x12 x13 x14 x15 x16 x17 x18 x19 x20 x21 x22 x23 x24 x25 x26 x27 x28 x29 x30 x31 x32 x33 x34 x35 x36 x37 x38 x39 x40 x41 x42 x43 x44 x45 x46 x47 x48 x49 x50 x51 x52 x53} (w : Int) (l : List Int) (n : Nat) (hl : l.length < 90) (hw : ∀ y ∈ l, y ≠ w) (hn : 200 < n) :
    F12_c3 n (ofN (w :: l).length) 0 x2 (w :: l) w x5 x6 x7 x8 x9 x10 x11 x12 x13 x14 x15 x16 x17 x18 x19 x20 x21 x22 x23 x24 x25 x26 x27 x28 x29 x30 x31 x32 x33 x34 x35 x36 x37 x38 x39 x40 x41 x42 x43 x44 x45 x46 x47 x48 x49 x50 x51 x52 x53 = some ⟨x25, (bif l.isEmpty then 5 else x26), x27, x28, x29, x30, x31, x32, x33, x34, x35, x36, x37, l, (bif ine x2 0 then x2 else x38), x39, []⟩ := by
  obtain ⟨m, rfl⟩ : ∃ m, n = m + 1 := Nat.exists_eq_succ_of_ne_zero (by omega)
  rw [F12_c3]
  refine eqT (ilt_t (i := 0) (by simp)) (eqT (inb_t (i := 0) (by simp)) (eqT (nlt_t (i := 0) (by simp)) (eqT (ieq_t rfl) (eqF rfl ?_))))
  exact tl_cut l [] w m (by simp; omega) hw (by omega)
theorem fl_cut {x2 x4 x5 x6 x7 x8 x9 x10 x11 x12 x13 x14 x15 x16 x17 x18 x19 x20 x21 x22 x23 x24 x25 x26 x27 x28 x29 x30 x31 x32 x33 x34 x35 x36 x37 x38 x39 x40 x41 x42 x43 x44 x45 x46 x47 x48 x49 x50 x51 x52 x53} : ∀ (r q : List Int) (z : Int) (n : Nat), q.length + r.length < 100 → (∀ y ∈ r, y ≠ x4) → r.length < n →
    F11_c5 n (ofN q.length) (ofN (q.length + 1)) x2 (q ++ z :: r) x4 x5 x6 x7 x8 x9 x10 x11 x12 x13 x14 x15 x16 x17 x18 x19 x20 x21 x22 x23 x24 x25 x26 x27 x28 x29 x30 x31 x32 x33 x34 x35 x36 x37 x38 x39 x40 x41 x42 x43 x44 x45 x46 x47 x48 x49 x50 x51 x52 x53 = some ⟨x25, (bif (q ++ r).isEmpty then 5 else x26), x27, x28, x29, x30, x31, x32, x33, x34, x35, x36, x37, q ++ r, (bif ine x2 0 then x2 else x38), x39, []⟩ := by
  intro r
  induction r with
  | nil =>
    intro q z n hl hr hn
    obtain ⟨m, rfl⟩ : ∃ m, n = m + 1 := Nat.exists_eq_succ_of_ne_zero (by omega)
    rw [F11_c5]
    have hk : (q ++ [z]).length = q.length + 1 := by simp
    have hc : (List.take (ofN q.length).toNat (q ++ [z]) ++ List.replicate ((q ++ [z]).length - (ofN q.length).toNat) (0 : Int) ++ List.drop ((ofN q.length).toNat + ((q ++ [z]).length - (ofN q.length).toNat)) (q ++ [z])) = q ++ [0] := by
      rw [toN, hk]; simp
    have ht : List.take ((ofN q.length).toNat - 0) (List.drop 0 (q ++ [(0 : Int)])) = q := by rw [toN]; simp
    rw [hc, ht]
    refine eqF (ilt_f (by omega)) (eqT (innt_t (by omega)) (eqT (by rw [toN]; exact decide_eq_true (by omega)) (eqT (inns_t (by simp)) ?_)))
    rw [toN, Nat.sub_zero]
    cases q with
    | nil => cases ine x2 0 <;> rfl
    | cons a q =>
      rw [ieq_f (by simp [ofN]; omega)]
      cases ine x2 0 <;> simp
  | cons y r ih =>
    intro q z n hl hr hn
    simp only [List.length_cons] at hl hn
    obtain ⟨m, rfl⟩ : ∃ m, n = m + 1 := Nat.exists_eq_succ_of_ne_zero (by omega)
    rw [F11_c5]
    have hk : (q ++ z :: y :: r).length = q.length + (r.length + 2) := by simp
    have hy : (q ++ z :: y :: r).getD (ofN (q.length + 1)).toNat 0 = y := by
      rw [toN, show q ++ z :: y :: r = (q ++ [z]) ++ y :: r by simp, show q.length + 1 = (q ++ [z]).length by simp]
      exact getD_mid
    have hs : (q ++ z :: y :: r).set (ofN q.length).toNat y = (q ++ [y]) ++ y :: r := by rw [toN]; simp
    rw [hy, hs]
    refine eqT (ilt_t (by omega)) (eqT (inb_t (by omega)) (eqT (nlt_t (by omega)) (eqT (by rw [ieq_f (hr y (by simp))]; rfl) (eqT (inb_t (by omega)) (eqT (nlt_t (by omega)) ?_)))))
    rw [add_one (by omega), add_one (by omega)]
    have := ih (q ++ [y]) y m (by simp; omega) (fun w hw => hr w (by simp [hw])) (by omega)
    simp only [List.length_append, List.length_cons, List.length_nil, List.append_assoc, List.cons_append, List.nil_append] at this ⊢
    exact this
theorem fl_first {x2 x5 x6 x7 x8 x9 x10 x11 x12 x13 x14 x15 x16 x17 x18 x19 x20 x21 x22 x23 x24 x25 x26 x27 x28 x29 x30 x31 x32 x33 x34 x35 x36 x37 x38 x39 x40 x41 x42 x43 x44 x45 x46 x47 x48 x49 x50 x51 x52 x53} (w : Int) (l : List Int) (n : Nat) (hl : l.length < 90) (hw : ∀ y ∈ l, y ≠ w) (hn : 200 < n) :
    F11_c2 n (ofN (w :: l).length) 0 x2 (w :: l) w x5 x6 x7 x8 x9 x10 x11 x12 x13 x14 x15 x16 x17 x18 x19 x20 x21 x22 x23 x24 x25 x26 x27 x28 x29 x30 x31 x32 x33 x34 x35 x36 x37 x38 x39 x40 x41 x42 x43 x44 x45 x46 x47 x48 x49 x50 x51 x52 x53 = some ⟨x25, (bif l.isEmpty then 5 else x26), x27, x28, x29, x30, x31, x32, x33, x34, x35, x36, x37, l, (bif ine x2 0 then x2 else x38), x39, []⟩ := by
  obtain ⟨m, rfl⟩ : ∃ m, n = m + 1 := Nat.exists_eq_succ_of_ne_zero (by omega)
  rw [F11_c2]
  refine eqT (ilt_t (i := 0) (by simp)) (eqT (inb_t (i := 0) (by simp)) (eqT (nlt_t (i := 0) (by simp)) (eqT (ieq_t rfl) (eqF rfl ?_))))
  exact fl_cut l [] w m (by simp; omega) hw (by omega)
theorem right_said {id w cd : Int} (h1 : isP id = true) (h2 : isP w = true) (h3 : w ≠ id) (hc : cd = 0 ∨ cd = 200) : rightM ⟨11, id * 1048576 + 1, w, id, 0, false, false, 0, 0, [], ByteArray.empty, 0, 0, false, cd⟩ = true := by
  unfold rightM
  have e : askB 11 = false := by decide
  have hc' : callB id (id * 1048576 + 1) = true := by unfold callB; simp only [Bool.and_eq_true, decide_eq_true_eq]; omega
  simp only [askerV, e, Bool.false_eq_true, if_false, h1, h2, decide_eq_false h3, restM, hasM, noIt, hc']
  rcases hc with e | e <;> subst e <;> simp
theorem told_put (a0 : Int) (a1 a2 : List Int) (a3 a4 a5 a6 a7 a8 a9 a10 a11 a12 a13 a14 a15 a16 a17 a18 a19 : Int) (b0 : Int) (b1 : Int) (b2 : Int) (b3 : Int) (b4 : Int) (b5 : Bool) (b6 : Bool) (b7 : Int) (b8 : ByteArray) (b9 : Int) (b10 : Int) (b11 : Bool) (b12 : Int) (b13 : List Int) (b14 : Int) (w cd : Int) (l : List Int) (hv : rightV ⟨a0, a1, a2, a3, a4, a5, a6, a7, a8, a9, a10, a11, a12, a13, a14, a15, a16, a17, a18, a19⟩ = true) (hi : isP a0 = true) (hw : isP w = true) (hne : w ≠ a0) (hc : cd = 0 ∨ cd = 200) (hl : l.length < 30) (hn : ∀ y ∈ l, y ≠ w) (h1 : b1 = 3) (h13 : b13 = w :: l) :
    F12 FUEL a0 a1 a2 a3 a4 a5 a6 a7 a8 a9 a10 a11 a12 a13 a14 a15 a16 a17 a18 a19 b0 b1 b2 b3 b4 b5 b6 b7 b8 b9 b10 b11 b12 b13 b14 11 (iadd .i64 (imul .i64 a0 1048576) 1) w a0 0 false false 0 0 [] ByteArray.empty 0 0 false cd = some ⟨b0, (bif l.isEmpty then 5 else 3), b2, b3, b4, b5, b6, b7, b8, b9, b10, b11, b12, l, (bif ine cd 0 then cd else b14), false, []⟩ := by
  have hf := fuel_big
  subst h1 h13
  unfold F12
  rw [jown _ _ _ _ _ _ _ _ _ _ _ _ _ _ _ (by simp; omega), viewR_p (by omega), call_num hi (by omega) (by omega), mright_p (n := FUEL) (by omega) 11 (a0 * 1048576 + 1) w a0 0 false false 0 0 [] ByteArray.empty 0 0 false cd (by simp), right_said hi hw hne hc, hv]
  simp only [Option.bind_some, cond_true]
  refine eqT (ieq_me _) (eqF rfl (eqF rfl (eqT rfl (eqT rfl ?_))))
  rw [mcontains_p _ _ (by simp; omega), Option.bind_some]
  refine eqF (by simp) ?_
  exact tl_first w l FUEL (by omega) hn (by omega)
theorem failed_put (a0 : Int) (a1 a2 : List Int) (a3 a4 a5 a6 a7 a8 a9 a10 a11 a12 a13 a14 a15 a16 a17 a18 a19 : Int) (b0 : Int) (b1 : Int) (b2 : Int) (b3 : Int) (b4 : Int) (b5 : Bool) (b6 : Bool) (b7 : Int) (b8 : ByteArray) (b9 : Int) (b10 : Int) (b11 : Bool) (b12 : Int) (b13 : List Int) (b14 : Int) (w : Int) (l : List Int) (hv : rightV ⟨a0, a1, a2, a3, a4, a5, a6, a7, a8, a9, a10, a11, a12, a13, a14, a15, a16, a17, a18, a19⟩ = true) (hl : l.length < 30) (hn : ∀ y ∈ l, y ≠ w) (h1 : b1 = 3) (h13 : b13 = w :: l) :
    F11 FUEL a0 a1 a2 a3 a4 a5 a6 a7 a8 a9 a10 a11 a12 a13 a14 a15 a16 a17 a18 a19 b0 b1 b2 b3 b4 b5 b6 b7 b8 b9 b10 b11 b12 b13 b14 w = some ⟨b0, (bif l.isEmpty then 5 else 3), b2, b3, b4, b5, b6, b7, b8, b9, b10, b11, b12, l, 210, false, []⟩ := by
  have hf := fuel_big
  subst h1 h13
  unfold F11
  rw [jown _ _ _ _ _ _ _ _ _ _ _ _ _ _ _ (by simp; omega), viewR_p (by omega), hv]
  simp only [Option.bind_some, cond_true]
  refine eqF rfl (eqF rfl (eqT rfl ?_))
  rw [mcontains_p _ _ (by simp; omega), Option.bind_some]
  refine eqF (by simp) ?_
  exact fl_first w l FUEL (by omega) hn (by omega)
end Go.Proofs.YtlcbbjcehaahlaaGreat
namespace Go.Proofs.YtlcbbjcehaahlaaGreat
open Go Go.RowKit
theorem min_l (k : Nat) : minI 3 (ofN k) = ofN (min 3 k) := by
  unfold minI ofN
  split <;> omega
theorem great15 (n : Nat) (a0 : Int) (a1 a2 : List Int) (a3 a4 a5 a6 a7 a8 a9 a10 a11 a12 a13 a14 a15 a16 a17 a18 a19 : Int) : ∃ g, F6 n a0 a1 a2 a3 a4 a5 a6 a7 a8 a9 a10 a11 a12 a13 a14 a15 a16 a17 a18 a19 = some g ∧ (g = false → a1.length ≤ 20 ∧ a2.length ≤ 20) := by
  unfold F6
  cases h1 : igt (ofN a1.length) 20
  · cases h2 : igt (ofN a2.length) 20
    · have k1 := igt_len h1
      have k2 := igt_len h2
      exact ⟨_, rfl, fun _ => by omega⟩
    · exact ⟨_, rfl, fun h => by cases h⟩
  · exact ⟨_, rfl, fun h => by cases h⟩
end Go.Proofs.YtlcbbjcehaahlaaGreat
