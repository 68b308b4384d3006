/-
  In plain words: keys in order, items.
-/
import Derived.Test.YthaomidjgadieaaPC
namespace Go.Proofs.Ythaomidjgadieaa
open Go Go.RowKit

/-! ### The order of keys. -/
theorem bl_irr : ∀ x : List UInt8, Op.bytesLess x x = false
  | [] => rfl
  | a :: x => by simp [Op.bytesLess, bl_irr x]
theorem bl_tri : ∀ x y : List UInt8, Op.bytesLess x y = true ∨ x = y ∨ Op.bytesLess y x = true
  | [], [] => .inr (.inl rfl)
  | [], _ :: _ => .inl rfl
  | _ :: _, [] => .inr (.inr rfl)
  | a :: x, b :: y => by
    rcases bl_tri x y with h | h | h
    · by_cases e : a = b
      · subst e; left; simp [Op.bytesLess, h]
      · rcases UInt8.lt_or_lt_of_ne e with e1 | e1
        · left; simp [Op.bytesLess, e1]
        · right; right; simp [Op.bytesLess, e1]
    · by_cases e : a = b
      · right; left; rw [e, h]
      · rcases UInt8.lt_or_lt_of_ne e with e1 | e1
        · left; simp [Op.bytesLess, e1]
        · right; right; simp [Op.bytesLess, e1]
    · by_cases e : a = b
      · subst e; right; right; simp [Op.bytesLess, h]
      · rcases UInt8.lt_or_lt_of_ne e with e1 | e1
        · left; simp [Op.bytesLess, e1]
        · right; right; simp [Op.bytesLess, e1]
theorem bl_trans : ∀ x y z : List UInt8, Op.bytesLess x y = true → Op.bytesLess y z = true → Op.bytesLess x z = true
  | _, [], _, h, _ => by simp [Op.bytesLess] at h
  | _, _ :: _, [], _, h => by simp [Op.bytesLess] at h
  | [], _ :: _, _ :: _, _, _ => rfl
  | a :: x, b :: y, c :: z, h1, h2 => by
    simp only [Op.bytesLess, Bool.or_eq_true, Bool.and_eq_true, decide_eq_true_eq, beq_iff_eq] at h1 h2 ⊢
    rcases h1 with h1 | ⟨rfl, h1⟩
    · rcases h2 with h2 | ⟨rfl, h2⟩
      · exact .inl (UInt8.lt_trans h1 h2)
      · exact .inl h1
    · rcases h2 with h2 | ⟨rfl, h2⟩
      · exact .inl h2
      · exact .inr ⟨rfl, bl_trans x y z h1 h2⟩
/-- Is a key ahead of another one? -/
def klt (a b : ByteArray) : Bool := Op.bytesLess a.data.toList b.data.toList
theorem klt_irr (a : ByteArray) : klt a a = false := bl_irr _
theorem klt_tri (a b : ByteArray) : klt a b = true ∨ a = b ∨ klt b a = true := by
  rcases bl_tri a.data.toList b.data.toList with h | h | h
  · exact .inl h
  · exact .inr (.inl (WideShapes.bytes_inj h))
  · exact .inr (.inr h)
theorem klt_trans {a b c : ByteArray} (h1 : klt a b = true) (h2 : klt b c = true) : klt a c = true := bl_trans _ _ _ h1 h2
theorem klt_asym {a b : ByteArray} (h : klt a b = true) : klt b a = false := by
  cases h2 : klt b a
  · rfl
  · have := klt_trans h h2
    rw [klt_irr] at this; cases this
theorem klt_ne {a b : ByteArray} (h : klt a b = true) : a ≠ b := fun e => by
  rw [e, klt_irr] at h; cases h
theorem stlt_k (a b : ByteArray) : stlt a b = klt a b := by unfold stlt klt; rw [ByteArray.toList_eq, ByteArray.toList_eq]
theorem steq_toList (a b : ByteArray) : (a.toList == b.toList) = decide (a = b) := steq_dec a b
theorem stle_k (a b : ByteArray) : stle a b = !klt b a := by
  unfold stle
  rw [show Op.bytesLess a.toList b.toList = klt a b from stlt_k a b, steq_toList]
  rcases klt_tri a b with h | h | h
  · rw [h, klt_asym h]; rfl
  · rw [h, klt_irr]; simp
  · rw [klt_asym h, h, decide_eq_false (fun e => klt_ne h e.symm)]; rfl
theorem stgt_k (a b : ByteArray) : stgt a b = klt b a := by
  have := stle_k a b
  unfold stle at this
  unfold stgt
  rw [this, Bool.not_not]
theorem stge_k (a b : ByteArray) : stge a b = !klt a b := by
  unfold stge
  rw [show Op.bytesLess a.toList b.toList = klt a b from stlt_k a b]

/-! ### Items. -/
abbrev IT := ByteArray × Int × Int × Bool
def pairI (x : IT) : Bool := pairB x.1 x.2.1 x.2.2.1
/-- Is an item newer? -/
def newI (a b : IT) : Bool := decide (b.2.2.1 < a.2.2.1) || (decide (a.2.2.1 = b.2.2.1) && (decide (b.2.1 < a.2.1) || (decide (a.2.1 = b.2.1) && (a.2.2.2 && !b.2.2.2))))
theorem newer_r (n : Nat) (k : ByteArray) (v r : Int) (g : Bool) (k' : ByteArray) (v' r' : Int) (g' : Bool) : F48 n k v r g k' v' r' g' = some (newI (k, v, r, g) (k', v', r', g')) := by
  unfold F48 F64 newI
  simp only [igt, ilt, GT.gt]
  by_cases h1 : r' < r
  · simp [h1]
  · by_cases h2 : r < r'
    · have : ¬ r = r' := by omega
      simp [h1, h2, this]
    · have : r = r' := by omega
      by_cases h3 : v' < v
      · simp [this, h3]
      · by_cases h4 : v < v'
        · have h5 : ¬ v = v' := by omega
          simp [this, h3, h4, h5]
        · have h5 : v = v' := by omega
          cases g <;> cases g' <;> simp [this, h5]

/-! ### Keeps: rows of items in order. -/
def Srt (k : List IT) : Prop := k.Pairwise fun a b => klt a.1 b.1 = true
def rk2 : Option ByteArray → List IT → Bool
  | _, [] => true
  | o, x :: r => pairI x && ((match o with | none => true | some q => klt q x.1) && rk2 (some x.1) r)
def keepB (k : List IT) : Bool := decide (k.length ≤ 24) && rk2 none k
theorem rk2_some : ∀ (k : List IT) (q : ByteArray), rk2 (some q) k = true ↔ (∀ x ∈ k, pairI x = true) ∧ Srt k ∧ ∀ x ∈ k, klt q x.1 = true
  | [], q => by simp [rk2, Srt]
  | x :: r, q => by
    simp only [rk2, Bool.and_eq_true, rk2_some r x.1, List.forall_mem_cons, Srt, List.pairwise_cons]
    constructor
    · rintro ⟨h1, h2, h3, h4, h5⟩
      exact ⟨⟨h1, h3⟩, ⟨h5, h4⟩, h2, fun y hy => klt_trans h2 (h5 y hy)⟩
    · rintro ⟨⟨h1, h3⟩, ⟨h5, h4⟩, h2, _⟩
      exact ⟨h1, h2, h3, h4, h5⟩
theorem rk2_none (k : List IT) : rk2 none k = true ↔ (∀ x ∈ k, pairI x = true) ∧ Srt k := by
  cases k with
  | nil => simp [rk2, Srt]
  | cons x r =>
    simp only [rk2, Bool.and_eq_true, rk2_some r x.1, List.forall_mem_cons, Srt, List.pairwise_cons]
    constructor
    · rintro ⟨h1, _, h3, h4, h5⟩; exact ⟨⟨h1, h3⟩, h5, h4⟩
    · rintro ⟨⟨h1, h3⟩, h5, h4⟩; exact ⟨h1, trivial, h3, h4, h5⟩
theorem keepB_iff (k : List IT) : keepB k = true ↔ k.length ≤ 24 ∧ (∀ x ∈ k, pairI x = true) ∧ Srt k := by
  unfold keepB; rw [Bool.and_eq_true, rk2_none, decide_eq_true_eq]

/-- The item of a key. -/
def fnd (k : List IT) (key : ByteArray) : Option IT := k.find? fun x => decide (x.1 = key)
theorem fnd_nil (key : ByteArray) : fnd [] key = none := rfl
theorem fnd_cons (x : IT) (r : List IT) (key : ByteArray) : fnd (x :: r) key = if x.1 = key then some x else fnd r key := by
  unfold fnd; rw [List.find?_cons]; by_cases h : x.1 = key <;> simp [h]
theorem fnd_key {k : List IT} {key : ByteArray} {x : IT} (h : fnd k key = some x) : x.1 = key := by
  have := List.find?_some h; simpa using this
theorem fnd_mem {k : List IT} {key : ByteArray} {x : IT} (h : fnd k key = some x) : x ∈ k := List.mem_of_find?_eq_some h
theorem fnd_none {k : List IT} {key : ByteArray} : fnd k key = none ↔ ∀ x ∈ k, x.1 ≠ key := by
  unfold fnd; simp
theorem srt_tail {x : IT} {r : List IT} (h : Srt (x :: r)) : Srt r := (List.pairwise_cons.1 h).2
theorem srt_head {x : IT} {r : List IT} (h : Srt (x :: r)) : ∀ y ∈ r, klt x.1 y.1 = true := (List.pairwise_cons.1 h).1
theorem fnd_of_mem : ∀ {k : List IT} {x : IT}, Srt k → x ∈ k → fnd k x.1 = some x
  | [], x, _, h => by simp at h
  | y :: r, x, hs, h => by
    rw [fnd_cons]
    rcases List.mem_cons.1 h with rfl | h
    · simp
    · have := srt_head hs x h
      rw [if_neg (klt_ne this)]
      exact fnd_of_mem (srt_tail hs) h
theorem mem_fnd {k : List IT} (hs : Srt k) {x : IT} : x ∈ k ↔ fnd k x.1 = some x := ⟨fnd_of_mem hs, fnd_mem⟩
theorem srt_ext : ∀ {a b : List IT}, Srt a → Srt b → (∀ x, x ∈ a ↔ x ∈ b) → a = b
  | [], [], _, _, _ => rfl
  | [], y :: s, _, _, h => absurd ((h y).2 (by simp)) (by simp)
  | x :: r, [], _, _, h => absurd ((h x).1 (by simp)) (by simp)
  | x :: r, y :: s, ha, hb, h => by
    have e : x = y := by
      rcases List.mem_cons.1 ((h x).1 (by simp)) with e | h1
      · exact e
      · rcases List.mem_cons.1 ((h y).2 (by simp)) with e | h2
        · exact e.symm
        · have k1 := srt_head hb x h1
          have k2 := srt_head ha y h2
          rw [klt_asym k1] at k2; cases k2
    subst e
    congr 1
    refine srt_ext (srt_tail ha) (srt_tail hb) fun z => ?_
    constructor
    · intro hz
      rcases List.mem_cons.1 ((h z).1 (List.mem_cons_of_mem _ hz)) with e | h1
      · have := srt_head ha z hz; rw [e, klt_irr] at this; cases this
      · exact h1
    · intro hz
      rcases List.mem_cons.1 ((h z).2 (List.mem_cons_of_mem _ hz)) with e | h1
      · have := srt_head hb z hz; rw [e, klt_irr] at this; cases this
      · exact h1
theorem fnd_ext {a b : List IT} (ha : Srt a) (hb : Srt b) (h : ∀ key, fnd a key = fnd b key) : a = b :=
  srt_ext ha hb fun x => by rw [mem_fnd ha, mem_fnd hb, h]

/-- The newer one. -/
def mx (o : Option IT) (x : IT) : IT := match o with | none => x | some o => bif newI x o then x else o
theorem newI_irr (a : IT) : newI a a = false := by unfold newI; simp
theorem newI_tri {a b : IT} (h : newI a b = false) (h' : newI b a = false) : a.2 = b.2 := by
  obtain ⟨a1, a2, a3, a4⟩ := a; obtain ⟨b1, b2, b3, b4⟩ := b
  simp only [newI, Bool.or_eq_false_iff, Bool.and_eq_false_iff, decide_eq_false_iff_not] at h h'
  have e : a3 = b3 := by omega
  subst e
  have e : a2 = b2 := by
    rcases h.2 with h | h
    · exact absurd rfl h
    · rcases h'.2 with h' | h'
      · exact absurd rfl h'
      · omega
  subst e
  cases a4 <;> cases b4 <;> simp_all
theorem newI_asym {a b : IT} (h : newI a b = true) : newI b a = false := by
  obtain ⟨a1, a2, a3, a4⟩ := a; obtain ⟨b1, b2, b3, b4⟩ := b
  simp only [newI] at *
  grind
theorem newI_trans {a b c : IT} (h : newI a b = true) (h' : newI b c = true) : newI a c = true := by
  obtain ⟨a1, a2, a3, a4⟩ := a; obtain ⟨b1, b2, b3, b4⟩ := b; obtain ⟨c1, c2, c3, c4⟩ := c
  simp only [newI] at *
  grind
/-- Neither is newer than the one behind: nor the first than the last. -/
theorem newI_ntrans {a b c : IT} (h : newI a b = false) (h' : newI b c = false) : newI a c = false := by
  obtain ⟨a1, a2, a3, a4⟩ := a; obtain ⟨b1, b2, b3, b4⟩ := b; obtain ⟨c1, c2, c3, c4⟩ := c
  simp only [newI] at *
  grind
theorem mx_comm (o : Option IT) {x y : IT} (h : x.1 = y.1) : mx (some (mx o x)) y = mx (some (mx o y)) x := by
  have tri : ∀ {x y : IT}, x.1 = y.1 → newI x y = false → newI y x = false → x = y := fun h1 h2 h3 => Prod.ext h1 (newI_tri h2 h3)
  cases o with
  | none =>
    simp only [mx]
    cases h1 : newI y x <;> cases h2 : newI x y
    · simp only [cond_false]; exact tri h h2 h1
    · simp
    · simp
    · rw [newI_asym h1] at h2; cases h2
  | some o =>
    simp only [mx]
    cases h1 : newI x o <;> cases h2 : newI y o <;> simp only [cond_true, cond_false, h1, h2]
    · cases h3 : newI x y
      · rfl
      · rw [newI_trans h3 h2] at h1; cases h1
    · cases h3 : newI y x
      · rfl
      · rw [newI_trans h3 h1] at h2; cases h2
    · cases h3 : newI y x <;> cases h4 : newI x y
      · simp only [cond_false]; exact tri h h4 h3
      · rfl
      · rfl
      · rw [newI_asym h3] at h4; cases h4
theorem mx_key {o : Option IT} {x : IT} (h : ∀ y, o = some y → y.1 = x.1) : (mx o x).1 = x.1 := by
  cases o with
  | none => rfl
  | some o => simp only [mx]; cases newI x o; exact h o rfl; rfl

/-- An item put in its place. -/
def ins (x : IT) : List IT → List IT
  | [] => [x]
  | y :: r => bif klt y.1 x.1 then y :: ins x r else bif decide (y.1 = x.1) then (bif newI x y then x else y) :: r else x :: y :: r
theorem ins_keys (x : IT) : ∀ (k : List IT) (z : IT), z ∈ ins x k → z.1 = x.1 ∨ z ∈ k
  | [], z, h => by simp [ins] at h; exact .inl (by rw [h])
  | y :: r, z, h => by
    unfold ins at h
    cases h1 : klt y.1 x.1
    · rw [h1, cond_false] at h
      by_cases h2 : y.1 = x.1
      · rw [decide_eq_true h2, cond_true] at h
        rcases List.mem_cons.1 h with e | h
        · left; rw [e]; cases newI x y; exact h2; rfl
        · exact .inr (List.mem_cons_of_mem _ h)
      · rw [decide_eq_false h2, cond_false] at h
        rcases List.mem_cons.1 h with e | h
        · left; rw [e]
        · exact .inr h
    · rw [h1, cond_true] at h
      rcases List.mem_cons.1 h with e | h
      · right; rw [e]; simp
      · rcases ins_keys x r z h with h | h
        · exact .inl h
        · exact .inr (List.mem_cons_of_mem _ h)
theorem ins_pair {x : IT} : ∀ {k : List IT}, pairI x = true → (∀ y ∈ k, pairI y = true) → ∀ y ∈ ins x k, pairI y = true
  | [], hx, _, y, h => by simp [ins] at h; rw [h]; exact hx
  | z :: r, hx, hk, y, h => by
    unfold ins at h
    have hz := hk z (by simp)
    have hr : ∀ y ∈ r, pairI y = true := fun y hy => hk y (List.mem_cons_of_mem _ hy)
    cases h1 : klt z.1 x.1
    · rw [h1, cond_false] at h
      by_cases h2 : z.1 = x.1
      · rw [decide_eq_true h2, cond_true] at h
        rcases List.mem_cons.1 h with e | h
        · rw [e]; cases newI x z; exact hz; exact hx
        · exact hr y h
      · rw [decide_eq_false h2, cond_false] at h
        rcases List.mem_cons.1 h with e | h
        · rw [e]; exact hx
        · exact hk y h
    · rw [h1, cond_true] at h
      rcases List.mem_cons.1 h with e | h
      · rw [e]; exact hz
      · exact ins_pair hx hr y h
theorem ins_srt (x : IT) : ∀ {k : List IT}, Srt k → Srt (ins x k)
  | [], _ => by simp [ins, Srt]
  | y :: r, hs => by
    have h0 := srt_head hs
    have h1 := srt_tail hs
    unfold ins
    cases h2 : klt y.1 x.1
    · rw [cond_false]
      by_cases h3 : y.1 = x.1
      · rw [decide_eq_true h3, cond_true]
        refine List.pairwise_cons.2 ⟨fun z hz => ?_, h1⟩
        cases newI x y
        · exact h0 z hz
        · show klt x.1 z.1 = true; rw [← h3]; exact h0 z hz
      · rw [decide_eq_false h3, cond_false]
        have h4 : klt x.1 y.1 = true := by
          rcases klt_tri y.1 x.1 with h | h | h
          · rw [h2] at h; cases h
          · exact absurd h h3
          · exact h
        exact List.pairwise_cons.2 ⟨fun z hz => by
          rcases List.mem_cons.1 hz with e | hz
          · rw [e]; exact h4
          · exact klt_trans h4 (h0 z hz), hs⟩
    · rw [cond_true]
      exact List.pairwise_cons.2 ⟨fun z hz => by
        rcases ins_keys x r z hz with e | hz
        · rw [e]; exact h2
        · exact h0 z hz, ins_srt x h1⟩
theorem srt_none {x : IT} {r : List IT} {key : ByteArray} (hs : Srt (x :: r)) (h : klt key x.1 = true) : fnd (x :: r) key = none :=
  fnd_none.2 fun y hy e => by
    rcases List.mem_cons.1 hy with e1 | hy
    · rw [e1] at e; exact klt_ne h e.symm
    · exact klt_ne (klt_trans h (srt_head hs y hy)) e.symm
theorem ins_fnd (x : IT) : ∀ {k : List IT}, Srt k → ∀ key, fnd (ins x k) key = if x.1 = key then some (mx (fnd k key) x) else fnd k key
  | [], _, key => by simp only [ins, fnd_cons, fnd_nil, mx]
  | y :: r, hs, key => by
    have h1 := srt_tail hs
    unfold ins
    cases h2 : klt y.1 x.1
    · rw [cond_false]
      by_cases h3 : y.1 = x.1
      · rw [decide_eq_true h3, cond_true, fnd_cons, fnd_cons]
        have e : (bif newI x y then x else y).1 = x.1 := by cases newI x y; exact h3; rfl
        rw [e, h3]
        by_cases h4 : x.1 = key
        · simp only [h4, if_true, mx]
        · simp only [h4, if_false]
      · rw [decide_eq_false h3, cond_false, fnd_cons]
        have h4 : klt x.1 y.1 = true := by
          rcases klt_tri y.1 x.1 with h | h | h
          · rw [h2] at h; cases h
          · exact absurd h h3
          · exact h
        by_cases h5 : x.1 = key
        · rw [if_pos h5, if_pos h5, srt_none hs (by rw [← h5]; exact h4)]; rfl
        · rw [if_neg h5, if_neg h5]
    · rw [cond_true, fnd_cons, fnd_cons, ins_fnd x h1 key]
      by_cases h5 : x.1 = key
      · have : y.1 ≠ key := fun e => klt_ne h2 (by rw [e, h5])
        simp only [h5, if_true, if_neg this]
      · simp only [h5, if_false]
theorem ins_len (x : IT) : ∀ {k : List IT}, Srt k → (ins x k).length = if (fnd k x.1).isSome then k.length else k.length + 1
  | [], _ => rfl
  | y :: r, hs => by
    have h1 := srt_tail hs
    unfold ins
    cases h2 : klt y.1 x.1
    · rw [cond_false, fnd_cons]
      by_cases h3 : y.1 = x.1
      · rw [decide_eq_true h3, if_pos h3]; rfl
      · have h4 : klt x.1 y.1 = true := by
          rcases klt_tri y.1 x.1 with h | h | h
          · rw [h2] at h; cases h
          · exact absurd h h3
          · exact h
        have h5 := srt_none hs h4
        rw [fnd_cons, if_neg h3] at h5
        rw [decide_eq_false h3, if_neg h3, h5]; rfl
    · rw [cond_true, fnd_cons, if_neg (klt_ne h2), List.length_cons, ins_len x h1]
      split <;> rfl

/-- What Put answers. -/
def putV (k : List IT) (x : IT) : List IT × Int :=
  bif keepB k && pairI x then (bif (fnd k x.1).isSome || !decide (24 ≤ k.length) then (ins x k, 0) else (k, 200)) else (k, 2)
theorem putV_keep {k : List IT} (x : IT) (hk : keepB k = true) : keepB (putV k x).1 = true := by
  unfold putV
  rw [hk, Bool.true_and]
  cases hp : pairI x
  · exact hk
  · simp only [cond_true]
    obtain ⟨h1, h2, h3⟩ := (keepB_iff k).1 hk
    cases hc : ((fnd k x.1).isSome || !decide (24 ≤ k.length))
    · exact hk
    · simp only [cond_true]
      refine (keepB_iff _).2 ⟨?_, ins_pair hp h2, ins_srt x h3⟩
      rw [ins_len x h3]
      cases hf : (fnd k x.1).isSome
      · rw [hf] at hc; simp at hc; simp; omega
      · simpa using h1
def stp (s : List IT × Int) (x : IT) : List IT × Int := ((putV s.1 x).1, bif decide (s.2 = 0) then (putV s.1 x).2 else s.2)
def allV (k : List IT) (l : List IT) : List IT × Int := l.foldl stp (k, 0)
def insAll (k l : List IT) : List IT := l.foldl (fun k x => ins x k) k
theorem stp_keep : ∀ (l : List IT) (s : List IT × Int), keepB s.1 = true → keepB (l.foldl stp s).1 = true
  | [], _, h => h
  | x :: r, s, h => stp_keep r (stp s x) (putV_keep x h)
theorem stp_err : ∀ (l : List IT) (s : List IT × Int), s.2 ≠ 0 → (l.foldl stp s).2 = s.2
  | [], _, _ => rfl
  | x :: r, s, h => by
    rw [List.foldl_cons, stp_err r (stp s x)]
    · unfold stp; rw [decide_eq_false h]; rfl
    · unfold stp; rw [decide_eq_false h]; exact h
theorem stp_fst : ∀ (l : List IT) (k : List IT) (e e' : Int), (l.foldl stp (k, e)).1 = (l.foldl stp (k, e')).1
  | [], _, _, _ => rfl
  | x :: r, k, e, e' => by
    rw [List.foldl_cons, List.foldl_cons]
    exact stp_fst r _ _ _
theorem putV_cases {k : List IT} (x : IT) (hk : keepB k = true) :
    (pairI x = false ∧ putV k x = (k, 2)) ∨ (pairI x = true ∧ fnd k x.1 = none ∧ k.length = 24 ∧ putV k x = (k, 200)) ∨ (pairI x = true ∧ ((fnd k x.1).isSome = true ∨ k.length < 24) ∧ putV k x = (ins x k, 0)) := by
  have h1 := ((keepB_iff k).1 hk).1
  unfold putV
  rw [hk, Bool.true_and]
  cases hp : pairI x
  · exact .inl ⟨rfl, rfl⟩
  · right
    cases hf : fnd k x.1 with
    | some y => right; exact ⟨rfl, .inl rfl, by simp⟩
    | none =>
      by_cases hl : 24 ≤ k.length
      · left; exact ⟨rfl, rfl, by omega, by simp [hl]⟩
      · right; exact ⟨rfl, .inr (by omega), by simp [hl]⟩
theorem insAll_srt : ∀ (l : List IT) {k : List IT}, Srt k → Srt (insAll k l)
  | [], _, h => h
  | x :: r, _, h => insAll_srt r (ins_srt x h)
theorem insAll_len : ∀ (l : List IT) {k : List IT}, Srt k → k.length ≤ (insAll k l).length
  | [], _, _ => Nat.le_refl _
  | x :: r, k, h => by
    refine Nat.le_trans ?_ (insAll_len r (k := ins x k) (ins_srt x h))
    rw [ins_len x h]; split <;> omega
/-- All put, none refused. -/
theorem allV_ok : ∀ (l : List IT) (k : List IT), keepB k = true → (l.foldl stp (k, 0)).2 = 0 → (∀ x ∈ l, pairI x = true) ∧ l.foldl stp (k, 0) = (insAll k l, 0)
  | [], k, _, _ => ⟨by simp, rfl⟩
  | x :: r, k, hk, h => by
    rw [List.foldl_cons] at h ⊢
    have e : stp (k, 0) x = putV k x := by unfold stp; simp
    rw [e] at h ⊢
    rcases putV_cases x hk with ⟨h1, h2⟩ | ⟨h1, h2, h3, h4⟩ | ⟨h1, _, h4⟩
    · rw [h2, stp_err r (k, 2) (show (2 : Int) ≠ 0 by decide)] at h; simp at h
    · rw [h4, stp_err r (k, 200) (show (200 : Int) ≠ 0 by decide)] at h; simp at h
    · have hk' := putV_keep x hk
      rw [h4] at h hk' ⊢
      obtain ⟨h5, h6⟩ := allV_ok r (ins x k) hk' h
      exact ⟨fun y hy => by
        rcases List.mem_cons.1 hy with e | hy
        · rw [e]; exact h1
        · exact h5 y hy, h6⟩
/-- Pairs that may be: refused just if they are too many. -/
theorem allV_fine : ∀ (l : List IT) (k : List IT), keepB k = true → (∀ x ∈ l, pairI x = true) → (l.foldl stp (k, 0)).2 = bif decide ((insAll k l).length ≤ 24) then 0 else 200
  | [], k, hk, _ => by
    have h1 := ((keepB_iff k).1 hk).1
    show (0 : Int) = _
    rw [show insAll k [] = k from rfl, decide_eq_true h1]; rfl
  | x :: r, k, hk, hp => by
    have hs := ((keepB_iff k).1 hk).2.2
    rw [List.foldl_cons]
    have e : stp (k, 0) x = putV k x := by unfold stp; simp
    rw [e]
    rcases putV_cases x hk with ⟨h1, h2⟩ | ⟨h1, h2, h3, h4⟩ | ⟨h1, _, h4⟩
    · rw [hp x (by simp)] at h1; cases h1
    · rw [h4, stp_err r (k, 200) (show (200 : Int) ≠ 0 by decide)]
      have h5 := insAll_len r (ins_srt x hs)
      rw [ins_len x hs, h2] at h5
      simp only [Option.isSome_none, Bool.false_eq_true, if_false] at h5
      have e2 : insAll k (x :: r) = insAll (ins x k) r := rfl
      rw [e2, decide_eq_false (by omega)]; rfl
    · have hk' := putV_keep x hk
      rw [h4] at hk' ⊢
      exact allV_fine r (ins x k) hk' fun y hy => hp y (List.mem_cons_of_mem _ hy)
/-- Too many: so many may be. -/
theorem allV_full : ∀ (l : List IT) (k : List IT), keepB k = true → (l.foldl stp (k, 0)).2 = 200 → ∀ i, i < 25 - k.length → ∃ x, l[i]? = some x ∧ pairI x = true
  | [], k, _, h => by simp at h
  | x :: r, k, hk, h => by
    have hs := ((keepB_iff k).1 hk).2.2
    have hl := ((keepB_iff k).1 hk).1
    rw [List.foldl_cons] at h
    have e : stp (k, 0) x = putV k x := by unfold stp; simp
    rw [e] at h
    intro i hi
    rcases putV_cases x hk with ⟨h1, h2⟩ | ⟨h1, h2, h3, h4⟩ | ⟨h1, _, h4⟩
    · rw [h2, stp_err r (k, 2) (show (2 : Int) ≠ 0 by decide)] at h; simp at h
    · have : i = 0 := by omega
      subst this
      exact ⟨x, rfl, h1⟩
    · cases i with
      | zero => exact ⟨x, rfl, h1⟩
      | succ i =>
        have hk' := putV_keep x hk
        rw [h4] at hk' h
        have := allV_full r (ins x k) hk' h i (by
          have := ins_len x hs
          split at this <;> omega)
        simpa using this
/-- What lies behind all, by its key. -/
def mxo (o : Option IT) (x : IT) : Option IT := some (mx o x)
theorem insAll_fnd : ∀ (l : List IT) {k : List IT}, Srt k → ∀ key, fnd (insAll k l) key = (l.filter fun x => decide (x.1 = key)).foldl mxo (fnd k key)
  | [], _, _, _ => rfl
  | x :: r, k, h, key => by
    show fnd (insAll (ins x k) r) key = _
    rw [insAll_fnd r (ins_srt x h) key, ins_fnd x h key, List.filter_cons]
    by_cases e : x.1 = key
    · rw [if_pos e, decide_eq_true e, if_pos rfl]; rfl
    · rw [if_neg e, decide_eq_false e, if_neg (by decide)]
theorem mxo_front (key : ByteArray) : ∀ (l : List IT) (o : Option IT) (x : IT), x.1 = key → (∀ y ∈ l, y.1 = key) → l.foldl mxo (mxo o x) = mxo (l.foldl mxo o) x
  | [], _, _, _, _ => rfl
  | y :: r, o, x, hx, h => by
    have hy := h y (by simp)
    rw [List.foldl_cons, List.foldl_cons, ← mxo_front key r (mxo o y) x hx fun z hz => h z (List.mem_cons_of_mem _ hz)]
    congr 1
    unfold mxo
    rw [mx_comm o (hx.trans hy.symm)]
theorem mxo_rev (key : ByteArray) : ∀ (l : List IT) (o : Option IT), (∀ y ∈ l, y.1 = key) → l.reverse.foldl mxo o = l.foldl mxo o
  | [], _, _ => rfl
  | x :: r, o, h => by
    rw [List.reverse_cons, List.foldl_append, mxo_rev key r o fun y hy => h y (List.mem_cons_of_mem _ hy), List.foldl_cons, List.foldl_nil, List.foldl_cons, mxo_front key r o x (h x (by simp)) fun y hy => h y (List.mem_cons_of_mem _ hy)]
theorem insAll_rev (l : List IT) : insAll [] l.reverse = insAll [] l := by
  have h0 : Srt [] := by simp [Srt]
  refine fnd_ext (insAll_srt _ h0) (insAll_srt _ h0) fun key => ?_
  rw [insAll_fnd _ h0, insAll_fnd _ h0, List.filter_reverse, mxo_rev key _ _ fun y hy => by simpa using (List.mem_filter.1 hy).2]
/-- The keys, in order. -/
def insKey (s : ByteArray) : List ByteArray → List ByteArray
  | [] => [s]
  | t :: r => bif klt t s then t :: insKey s r else bif decide (t = s) then t :: r else s :: t :: r
theorem ins_map (x : IT) : ∀ k : List IT, (ins x k).map Prod.fst = insKey x.1 (k.map Prod.fst)
  | [] => rfl
  | y :: r => by
    unfold ins
    rw [List.map_cons, insKey]
    cases klt y.1 x.1
    · simp only [cond_false]
      by_cases h : y.1 = x.1
      · rw [decide_eq_true h]; simp only [cond_true, List.map_cons]
        congr 1; cases newI x y; rfl; exact h.symm
      · rw [decide_eq_false h]; simp
    · simp only [cond_true, List.map_cons, ins_map x r]
def keysV (l : List IT) : List ByteArray := l.foldl (fun o x => insKey x.1 o) []
theorem keys_ins : ∀ (l k : List IT), (insAll k l).map Prod.fst = l.foldl (fun o x => insKey x.1 o) (k.map Prod.fst)
  | [], _ => rfl
  | x :: r, k => by
    show (insAll (ins x k) r).map Prod.fst = _
    rw [keys_ins r (ins x k), ins_map]; rfl
/-- The newest one of those that may be. -/
def nwV (s : IT × Bool) (x : IT) : IT × Bool := bif pairI x && (!s.2 || newI x s.1) then (x, true) else s
theorem nw_mxo : ∀ (l : List IT) (b : IT), (∀ x ∈ l, pairI x = true) → ∃ z, l.foldl nwV (b, true) = (z, true) ∧ l.foldl mxo (some b) = some z
  | [], b, _ => ⟨b, rfl, rfl⟩
  | x :: r, b, h => by
    rw [List.foldl_cons, List.foldl_cons]
    have e : nwV (b, true) x = (mx (some b) x, true) := by
      unfold nwV mx; rw [h x (by simp)]
      show (bif true && (!true || newI x b) then (x, true) else (b, true)) = (bif newI x b then x else b, true)
      cases newI x b <;> rfl
    rw [e]
    exact nw_mxo r _ fun y hy => h y (List.mem_cons_of_mem _ hy)
theorem nw_first {l : List IT} (h : ∀ x ∈ l, pairI x = true) (hl : l ≠ []) (d : IT) : ∃ z, l.foldl nwV (d, false) = (z, true) ∧ l.foldl mxo none = some z := by
  cases l with
  | nil => exact absurd rfl hl
  | cons x r =>
    rw [List.foldl_cons, List.foldl_cons]
    have e : nwV (d, false) x = (x, true) := by unfold nwV; rw [h x (by simp)]; rfl
    rw [e]
    exact nw_mxo r x fun y hy => h y (List.mem_cons_of_mem _ hy)
/-- What grows is never older. -/
theorem mxo_grows : ∀ (l : List IT) (a : IT), ∃ z, l.foldl mxo (some a) = some z ∧ newI a z = false
  | [], a => ⟨a, rfl, newI_irr a⟩
  | x :: r, a => by
    obtain ⟨z, h1, h2⟩ := mxo_grows r (mx (some a) x)
    refine ⟨z, h1, newI_ntrans ?_ h2⟩
    show newI a (bif newI x a then x else a) = false
    cases h : newI x a
    · exact newI_irr a
    · exact newI_asym h

end Go.Proofs.Ythaomidjgadieaa
