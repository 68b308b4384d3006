/-
  The operations of the layer VS are sound: facts on values, cells, loads and stores.
-/
import Derived.Test.YtcbhmedknbiffaaVsC
namespace Go.Proofs.Ytcbhmedknbiffaa
open Go Go.RowKit
theorem RL.length {g w} : ∀ {xs : List PV} {cs : List Value}, RL g w xs cs → xs.length = cs.length
  | [], cs, h => by simp only [RL] at h; subst h; rfl
  | x :: xs, cs, h => by
    simp only [RL] at h; obtain ⟨c, r, rfl, _, h2⟩ := h; simp [RL.length h2]
theorem RL.get {g w} : ∀ {xs : List PV} {cs : List Value}, RL g w xs cs → ∀ (j : Nat) (x : PV), xs[j]? = some x → ∃ c, cs[j]? = some c ∧ RV g w x c
  | [], cs, _, j, x, hx => by simp at hx
  | y :: xs, cs, h, j, x, hx => by
    simp only [RL] at h
    obtain ⟨c, r, rfl, h1, h2⟩ := h
    cases j with
    | zero => simp at hx; subst hx; exact ⟨c, rfl, h1⟩
    | succ j => simp at hx; obtain ⟨c', hc, hr⟩ := RL.get h2 j x hx; exact ⟨c', by simpa using hc, hr⟩
theorem RL.of_get {g w} : ∀ {xs : List PV} {cs : List Value}, xs.length = cs.length → (∀ (j : Nat) (x : PV) (c : Value), xs[j]? = some x → cs[j]? = some c → RV g w x c) → RL g w xs cs
  | [], cs, hl, _ => by simp only [RL]; exact List.length_eq_zero_iff.1 (by simpa using hl.symm)
  | x :: xs, cs, hl, h => by
    cases cs with
    | nil => simp at hl
    | cons c r =>
      simp only [RL]
      exact ⟨c, r, rfl, h 0 x c rfl rfl, RL.of_get (by simpa using hl) (fun j y d hy hd => h (j + 1) y d (by simpa using hy) (by simpa using hd))⟩
theorem RL.append {g w} : ∀ {xs ys : List PV} {cs ds : List Value}, RL g w xs cs → RL g w ys ds → RL g w (xs ++ ys) (cs ++ ds)
  | [], ys, cs, ds, h, k => by simp only [RL] at h; subst h; simpa using k
  | x :: xs, ys, cs, ds, h, k => by
    simp only [RL] at h
    obtain ⟨c, r, rfl, h1, h2⟩ := h
    simp only [List.cons_append, RL]
    exact ⟨c, r ++ ds, rfl, h1, RL.append h2 k⟩
theorem RL.take {g w} : ∀ {xs : List PV} {cs : List Value} (n : Nat), RL g w xs cs → RL g w (xs.take n) (cs.take n)
  | [], cs, n, h => by simp only [RL] at h; subst h; simp [RL]
  | x :: xs, cs, n, h => by
    simp only [RL] at h
    obtain ⟨c, r, rfl, h1, h2⟩ := h
    cases n with
    | zero => simp [RL]
    | succ n => simp only [List.take_succ_cons, RL]; exact ⟨c, r.take n, rfl, h1, RL.take n h2⟩
theorem RL.drop {g w} : ∀ {xs : List PV} {cs : List Value} (n : Nat), RL g w xs cs → RL g w (xs.drop n) (cs.drop n)
  | [], cs, n, h => by simp only [RL] at h; subst h; simp [RL]
  | x :: xs, cs, n, h => by
    simp only [RL] at h
    obtain ⟨c, r, rfl, h1, h2⟩ := h
    cases n with
    | zero => simp only [List.drop_zero, RL]; exact ⟨c, r, rfl, h1, h2⟩
    | succ n => simpa using RL.drop n h2
theorem RL.map_v {g w} : ∀ (cs : List Value), RL g w (cs.map PV.v) cs
  | [] => by simp [RL]
  | c :: cs => by simp only [List.map_cons, RL]; exact ⟨c, cs, rfl, by simp only [RV], RL.map_v cs⟩
theorem RL.split {g w} {xs ys : List PV} {cs : List Value} (h : RL g w (xs ++ ys) cs) : ∃ c d, cs = c ++ d ∧ RL g w xs c ∧ RL g w ys d := by
  refine ⟨cs.take xs.length, cs.drop xs.length, (List.take_append_drop _ _).symm, ?_, ?_⟩
  · have := RL.take xs.length h; simpa using this
  · have := RL.drop xs.length h; simpa using this
theorem RV.one {g w x u} (h : RV g w x u) (h1 : x.one = true) : u.oneCell' = true := by
  cases x with
  | any => simp [PV.one] at h1
  | agg xs => simp [PV.one] at h1
  | tup xs => simp [PV.one] at h1
  | v y => simp only [RV] at h; subst h; simpa [PV.one] using h1
  | sl fr es => simp only [RV] at h; obtain ⟨a, cap, sz, b, off, e, _⟩ := h; subst e; rfl
  | row k sz i n => simp only [RV] at h; obtain ⟨_, a, cap, e, _⟩ := h; subst e; rfl
  | rp k sz i off => simp only [RV] at h; obtain ⟨_, e⟩ := h; subst e; rfl
  | ref k off => simp only [RV] at h; obtain ⟨_, e⟩ := h; subst e; rfl
  | asl k off sz n => simp only [RV] at h; obtain ⟨_, a, cap, e, _⟩ := h; subst e; rfl
  | ep fr cs => simp only [RV] at h; obtain ⟨b, off, e, _⟩ := h; subst e; rfl
  | clos f caps => simp only [RV] at h; obtain ⟨cs, e, _⟩ := h; subst e; rfl
  | yield L => simp only [RV] at h; subst h; rfl
  | mp k => simp only [RV] at h; obtain ⟨_, e⟩ := h; subst e; rfl
theorem cells_of_one {u : Value} (h : u.oneCell' = true) : u.cells = #[u] := by
  cases u <;> first | rfl | simp [Value.oneCell'] at h
theorem RV.cells {g w x u xs} (h : RV g w x u) (hc : cellsOf x = some xs) : RL g w xs u.cells.toList ∧ ∀ c ∈ u.cells.toList, c.oneCell' = true := by
  by_cases ha : ∃ ys, x = .agg ys
  · obtain ⟨ys, rfl⟩ := ha
    simp only [cellsOf] at hc
    split at hc
    · cases hc
      rename_i hall
      simp only [RV] at h
      obtain ⟨cs, rfl, hl⟩ := h
      refine ⟨by simpa [Value.cells] using hl, fun c hcm => ?_⟩
      simp [Value.cells] at hcm
      obtain ⟨j, hj⟩ := List.getElem?_of_mem hcm
      have hlen := RL.length hl
      have hjl : j < xs.length := by rw [hlen]; exact (List.getElem?_eq_some_iff.1 hj).1
      obtain ⟨c', hc', hr⟩ := RL.get hl j xs[j] (List.getElem?_eq_getElem hjl)
      rw [hj] at hc'; cases hc'
      exact hr.one (List.all_eq_true.1 hall _ (List.getElem_mem hjl))
    · cases hc
  · have hx : cellsOf x = if x.one then some [x] else none := by
      cases x <;> first | rfl | exact absurd ⟨_, rfl⟩ ha
    rw [hx] at hc
    split at hc
    · cases hc
      rename_i h1
      have h2 := h.one h1
      rw [cells_of_one h2]
      exact ⟨by simp only [RL]; exact ⟨u, [], rfl, h, rfl⟩, by simpa using h2⟩
    · cases hc
theorem RV.cv (g : Gh) (w : World) (x : Value) : RV g w (cv x) x := by
  cases x with
  | agg cs => simp only [Go.Proofs.Ytcbhmedknbiffaa.cv, RV]; exact ⟨cs.toList, by simp, RL.map_v _⟩
  | tuple cs => simp only [Go.Proofs.Ytcbhmedknbiffaa.cv, RV]; exact ⟨cs.toList, by simp, RL.map_v _⟩
  | _ => simp only [Go.Proofs.Ytcbhmedknbiffaa.cv, RV]
def RD (g : Gh) (w : World) (b off : Nat) (xs : List PV) : Prop := ∀ (j : Nat) (x : PV), xs[j]? = some x → ∃ u, w.cell? ⟨b, off + j, none⟩ = some u ∧ RV g w x u
theorem RD.drop {g w b off xs} (h : RD g w b off xs) (n : Nat) : RD g w b (off + n) (xs.drop n) := fun j x hx => by
  rw [List.getElem?_drop] at hx
  obtain ⟨u, hu, hr⟩ := h (n + j) x hx
  exact ⟨u, by rw [Nat.add_assoc]; exact hu, hr⟩
theorem RD.take {g w b off xs} (h : RD g w b off xs) (n : Nat) : RD g w b off (xs.take n) := fun j x hx => by
  rw [List.getElem?_take] at hx
  split at hx
  · exact h j x hx
  · cases hx
theorem RM.rd {g w b} : ∀ {xs : List PV} {off : Nat}, RM g w b off xs → RD g w b off xs
  | [], _, _, j, x, hx => by simp at hx
  | y :: xs, off, h, j, x, hx => by
    simp only [RM] at h
    obtain ⟨_, ⟨u, hu, hr⟩, hm⟩ := h
    cases j with
    | zero => simp at hx; subst hx; exact ⟨u, hu, hr⟩
    | succ j =>
      simp at hx
      obtain ⟨u', hu', hr'⟩ := RM.rd hm j x hx
      exact ⟨u', by rw [← hu']; congr 2; omega, hr'⟩
theorem RM.drop {g w b} : ∀ {xs : List PV} {off : Nat} (n : Nat), RM g w b off xs → RM g w b (off + n) (xs.drop n)
  | [], _, n, _ => by simp [RM]
  | y :: xs, off, n, h => by
    cases n with
    | zero => simpa using h
    | succ n =>
      simp only [RM] at h
      have := RM.drop n h.2.2
      simp only [List.drop_succ_cons]
      rw [show off + (n + 1) = off + 1 + n by omega]
      exact this
theorem cell_of_heap {w : World} {b : Nat} {cs : Array Value} {ty : Nat} {fr : Nat × Nat} (h : w.heap[b]? = some (.cells cs ty fr)) (o : Nat) : w.cell? ⟨b, o, none⟩ = cs[o]? := by
  simp [World.cell?, h]
theorem RD.of_block {g w b cs ty xs} (h : w.heap[b]? = some (.cells cs ty (0, 0))) {off : Nat} {ds : List Value} (hd : ∀ j c, ds[j]? = some c → cs[off + j]? = some c) (hl : RL g w xs ds) : RD g w b off xs := fun j x hx => by
  obtain ⟨c, hc, hr⟩ := RL.get hl j x hx
  exact ⟨c, by rw [cell_of_heap h]; exact hd j c hc, hr⟩
theorem RD.list {g w b off} : ∀ {xs : List PV}, RD g w b off xs → ∃ cs : List Value, RL g w xs cs ∧ ∀ j c, cs[j]? = some c → w.cell? ⟨b, off + j, none⟩ = some c
  | [], _ => ⟨[], by simp [RL], by simp⟩
  | x :: xs, h => by
    obtain ⟨u, hu, hr⟩ := h 0 x rfl
    have h' : RD g w b (off + 1) xs := by simpa using h.drop 1
    obtain ⟨cs, hl, hc⟩ := RD.list h'
    refine ⟨u :: cs, by simp only [RL]; exact ⟨u, cs, rfl, hr, hl⟩, fun j c hj => ?_⟩
    cases j with
    | zero => simp at hj; subst hj; exact hu
    | succ j => simp at hj; rw [← hc j c hj]; congr 2; omega
theorem RE.get {g w b sz} : ∀ {es : List (List PV)} {off : Nat}, RE g w sz b off es → ∀ (i : Nat) (e : List PV), es[i]? = some e → e.length = sz ∧ RM g w b (off + i * sz) e
  | [], _, _, i, e, he => by simp at he
  | x :: es, off, h, i, e, he => by
    simp only [RE] at h
    cases i with
    | zero => simp at he; subst he; exact ⟨h.1, by simpa using h.2.1⟩
    | succ i =>
      simp at he
      obtain ⟨h1, h2⟩ := RE.get h.2.2 i e he
      exact ⟨h1, by rw [Nat.succ_mul, show off + (i * sz + sz) = off + sz + i * sz by omega]; exact h2⟩
theorem RE.of_get {g w b sz} : ∀ {es : List (List PV)} {off : Nat}, (∀ (i : Nat) (e : List PV), es[i]? = some e → e.length = sz ∧ RM g w b (off + i * sz) e) → RE g w sz b off es
  | [], _, _ => by simp [RE]
  | x :: es, off, h => by
    simp only [RE]
    obtain ⟨h1, h2⟩ := h 0 x rfl
    refine ⟨h1, by simpa using h2, RE.of_get fun i e he => ?_⟩
    obtain ⟨h3, h4⟩ := h (i + 1) e (by simpa using he)
    exact ⟨h3, by rw [Nat.succ_mul, show off + (i * sz + sz) = off + sz + i * sz by omega] at h4; exact h4⟩
theorem RC.get {g w sz} : ∀ {es : List (List PV)} {cs : List Value}, RC g w sz es cs → ∀ (i : Nat) (e : List PV), es[i]? = some e → e.length = sz ∧ ∃ c, RL g w e c ∧ ∀ j u, c[j]? = some u → cs[i * sz + j]? = some u
  | [], _, _, i, e, he => by simp at he
  | x :: es, cs, h, i, e, he => by
    simp only [RC] at h
    obtain ⟨h1, c, r, rfl, h2, h3⟩ := h
    cases i with
    | zero =>
      simp at he; subst he
      refine ⟨h1, c, h2, fun j u hj => ?_⟩
      have := (List.getElem?_eq_some_iff.1 hj).1
      simp [List.getElem?_append_left this, hj]
    | succ i =>
      simp at he
      obtain ⟨h4, d, h5, h6⟩ := RC.get h3 i e he
      refine ⟨h4, d, h5, fun j u hj => ?_⟩
      have hc : c.length = sz := by rw [← RL.length h2, h1]
      rw [Nat.succ_mul, show i * sz + sz + j = c.length + (i * sz + j) by omega, List.getElem?_append_right (by omega), Nat.add_sub_cancel_left]
      exact h6 j u hj
theorem RC.length {g w sz} : ∀ {es : List (List PV)} {cs : List Value}, RC g w sz es cs → es.length * sz ≤ cs.length
  | [], _, _ => by simp
  | x :: es, cs, h => by
    simp only [RC] at h
    obtain ⟨h1, c, r, rfl, h2, h3⟩ := h
    have := RC.length h3
    have hc : c.length = sz := by rw [← RL.length h2, h1]
    simp only [List.length_cons, List.length_append, Nat.succ_mul]; omega
theorem RC.more {g w sz} : ∀ {es : List (List PV)} {cs : List Value} (ds : List Value), RC g w sz es cs → RC g w sz es (cs ++ ds)
  | [], _, _, _ => by simp [RC]
  | x :: es, cs, ds, h => by
    simp only [RC] at h ⊢
    obtain ⟨h1, c, r, rfl, h2, h3⟩ := h
    exact ⟨h1, c, r ++ ds, by simp, h2, RC.more ds h3⟩
theorem RC.append {g w sz} : ∀ {es fs : List (List PV)} {cs ds : List Value}, RC g w sz es cs → cs.length = es.length * sz → RC g w sz fs ds → RC g w sz (es ++ fs) (cs ++ ds)
  | [], fs, cs, ds, _, hl, k => by
    have : cs = [] := List.length_eq_zero_iff.1 (by simpa using hl)
    subst this; simpa using k
  | x :: es, fs, cs, ds, h, hl, k => by
    simp only [RC, List.cons_append] at h ⊢
    obtain ⟨h1, c, r, rfl, h2, h3⟩ := h
    have hc : c.length = sz := by rw [← RL.length h2, h1]
    refine ⟨h1, c, r ++ ds, by simp, h2, RC.append h3 ?_ k⟩
    simp only [List.length_append, List.length_cons, Nat.succ_mul] at hl; omega
theorem RC.take {g w sz} : ∀ {es : List (List PV)} {cs : List Value}, RC g w sz es cs → RC g w sz es (cs.take (es.length * sz))
  | [], _, _ => by simp [RC]
  | x :: es, cs, h => by
    simp only [RC] at h ⊢
    obtain ⟨h1, c, r, rfl, h2, h3⟩ := h
    have hc : c.length = sz := by rw [← RL.length h2, h1]
    refine ⟨h1, c, r.take (es.length * sz), ?_, h2, RC.take h3⟩
    rw [List.length_cons, Nat.succ_mul, List.take_append, hc, show es.length * sz + sz - sz = es.length * sz by omega]
    rw [List.take_of_length_le (by omega)]
theorem RC.drop {g w sz} : ∀ {es : List (List PV)} {cs : List Value} (n : Nat), RC g w sz es cs → RC g w sz (es.drop n) (cs.drop (n * sz))
  | [], _, n, _ => by simp [RC]
  | x :: es, cs, n, h => by
    cases n with
    | zero => simpa using h
    | succ n =>
      simp only [RC] at h
      obtain ⟨h1, c, r, rfl, h2, h3⟩ := h
      have hc : c.length = sz := by rw [← RL.length h2, h1]
      rw [List.drop_succ_cons, Nat.succ_mul, Nat.add_comm, ← List.drop_drop]
      have : List.drop sz (c ++ r) = r := by rw [← hc]; simp
      rw [this]
      exact RC.drop n h3
theorem RC.of_get {g w sz} : ∀ {es : List (List PV)} {cs : List Value}, (∀ (i : Nat) (e : List PV), es[i]? = some e → e.length = sz ∧ RL g w e ((cs.drop (i * sz)).take sz)) → RC g w sz es cs
  | [], _, _ => by simp [RC]
  | x :: es, cs, h => by
    simp only [RC]
    obtain ⟨h1, h2⟩ := h 0 x rfl
    refine ⟨h1, cs.take sz, cs.drop sz, (List.take_append_drop _ _).symm, by simpa using h2, RC.of_get fun i e he => ?_⟩
    obtain ⟨h3, h4⟩ := h (i + 1) e (by simpa using he)
    refine ⟨h3, ?_⟩
    rw [List.drop_drop, show sz + i * sz = (i + 1) * sz by rw [Nat.succ_mul]; omega]
    exact h4
end Go.Proofs.Ytcbhmedknbiffaa
