/-
  The operations of the layer VS are sound: appends and rows made.
-/
import Derived.Test.YtcbhmedknbiffaaVsF
namespace Go.Proofs.Ytcbhmedknbiffaa
open Go Go.RowKit
theorem RL.one {g w} : ∀ {xs : List PV} {cs : List Value}, RL g w xs cs → (∀ x ∈ xs, x.one = true) → ∀ c ∈ cs, c.oneCell' = true
  | [], cs, h, _, c, hc => by simp only [RL] at h; subst h; cases hc
  | x :: xs, cs, h, h1, c, hc => by
    simp only [RL] at h
    obtain ⟨d, r, rfl, h2, h3⟩ := h
    rcases List.mem_cons.1 hc with rfl | hc
    · exact h2.one (h1 x (by simp))
    · exact RL.one h3 (fun y hy => h1 y (by simp [hy])) c hc
theorem RD.append {g w b} : ∀ {off : Nat} {xs ys : List PV}, RD g w b off xs → RD g w b (off + xs.length) ys → RD g w b off (xs ++ ys) := fun {off xs ys} h k j x hx => by
  by_cases hj : j < xs.length
  · rw [List.getElem?_append_left hj] at hx; exact h j x hx
  · rw [List.getElem?_append_right (by omega)] at hx
    obtain ⟨u, hu, hr⟩ := k (j - xs.length) x hx
    exact ⟨u, by rw [← hu]; congr 2; omega, hr⟩
theorem RE.flat {g w sz b} : ∀ {es : List (List PV)} {off : Nat}, RE g w sz b off es → RD g w b off es.flatten
  | [], _, _ => fun j x hx => by simp at hx
  | e :: es, off, h => by
    simp only [RE] at h
    rw [List.flatten_cons]
    exact (h.2.1.rd).append (by rw [h.1]; exact RE.flat h.2.2)
theorem RE.sizes {g w sz b} : ∀ {es : List (List PV)} {off : Nat}, RE g w sz b off es → ∀ e ∈ es, e.length = sz
  | [], _, _, e, he => by cases he
  | x :: es, off, h, e, he => by
    simp only [RE] at h
    rcases List.mem_cons.1 he with rfl | he
    · exact h.1
    · exact RE.sizes h.2.2 e he
theorem flat_length {sz : Nat} : ∀ {es : List (List PV)}, (∀ e ∈ es, e.length = sz) → es.flatten.length = es.length * sz
  | [], _ => by simp
  | e :: es, h => by
    rw [List.flatten_cons, List.length_append, h e (by simp), flat_length (fun x hx => h x (by simp [hx])), List.length_cons, Nat.succ_mul]; omega
theorem flat_take {sz : Nat} : ∀ (n : Nat) {es : List (List PV)}, (∀ e ∈ es, e.length = sz) → (es.take n).flatten = es.flatten.take (n * sz)
  | 0, es, _ => by simp
  | n + 1, [], _ => by simp
  | n + 1, e :: es, h => by
    rw [List.take_succ_cons, List.flatten_cons, List.flatten_cons, flat_take n (fun x hx => h x (by simp [hx])), Nat.succ_mul, List.take_append, h e (by simp), show n * sz + sz - sz = n * sz by omega]
    have : e.take (n * sz + sz) = e := List.take_of_length_le (by rw [h e (by simp)]; omega)
    rw [this]
theorem RC.of_flat {g w sz} : ∀ {es : List (List PV)} {cs : List Value}, (∀ e ∈ es, e.length = sz) → RL g w es.flatten cs → RC g w sz es cs
  | [], _, _, _ => by simp [RC]
  | e :: es, cs, h, hl => by
    rw [List.flatten_cons] at hl
    obtain ⟨c, d, rfl, h1, h2⟩ := RL.split hl
    simp only [RC]
    exact ⟨h e (by simp), c, d, rfl, h1, RC.of_flat (fun x hx => h x (by simp [hx])) h2⟩
theorem RC.flat {g w sz} : ∀ {es : List (List PV)} {cs : List Value}, RC g w sz es cs → RL g w es.flatten (cs.take (es.length * sz))
  | [], _, _ => by simp [RL]
  | e :: es, cs, h => by
    simp only [RC] at h
    obtain ⟨h1, c, r, rfl, h2, h3⟩ := h
    have hc : c.length = sz := by rw [← RL.length h2, h1]
    rw [List.flatten_cons, List.length_cons, Nat.succ_mul, List.take_append, hc, List.take_of_length_le (by omega), show es.length * sz + sz - sz = es.length * sz by omega]
    exact h2.append (RC.flat h3)
theorem RC.sizes {g w sz} : ∀ {es : List (List PV)} {cs : List Value}, RC g w sz es cs → ∀ e ∈ es, e.length = sz
  | [], _, _, e, he => by cases he
  | x :: es, cs, h, e, he => by
    simp only [RC] at h
    obtain ⟨h1, c, r, rfl, h2, h3⟩ := h
    rcases List.mem_cons.1 he with rfl | he
    · exact h1
    · exact RC.sizes h3 e he
theorem chunk_sizes {sz : Nat} : ∀ (n : Nat) (xs : List PV), n * sz ≤ xs.length → ∀ e ∈ chunk sz n xs, e.length = sz
  | 0, xs, _, e, he => by simp [chunk] at he
  | n + 1, xs, h, e, he => by
    rw [Nat.succ_mul] at h
    simp only [chunk, List.mem_cons] at he
    rcases he with rfl | he
    · simp; omega
    · exact chunk_sizes n _ (by simp; omega) e he
theorem chunk_flat {sz : Nat} : ∀ (n : Nat) (xs : List PV), (chunk sz n xs).flatten = xs.take (n * sz)
  | 0, xs => by simp [chunk]
  | n + 1, xs => by
    rw [chunk, List.flatten_cons, chunk_flat n, Nat.succ_mul, Nat.add_comm, List.take_add]
theorem chunk_length {sz : Nat} : ∀ (n : Nat) (xs : List PV), (chunk sz n xs).length = n
  | 0, xs => by simp [chunk]
  | n + 1, xs => by simp [chunk, chunk_length n]
theorem elems_ok {T cx g m w} (h : MR T cx g m w) {x : PV} {u : Value} {es : List (List PV)} (hx : RV g w x u) (he : elems m.bx x = some es) :
    ∃ a cap, u = .slice a es.length cap ∧ es.length ≤ cap ∧ cap ≤ maxLen ∧ (es ≠ [] → ∃ b off, a = some ⟨b, off, none⟩ ∧ RD g w b off es.flatten) := by
  cases x with
  | sl fr es' =>
    cases he
    simp only [RV] at hx
    obtain ⟨a, cap, sz, b, off, rfl, h1, h2, h3, h4, h5⟩ := hx
    exact ⟨a, cap, rfl, h1, h2, fun hne => ⟨b, off, h3 (by cases es with | nil => exact absurd rfl hne | cons _ _ => rfl), h5.flat⟩⟩
  | v y =>
    simp only [RV] at hx
    subst hx
    unfold elems at he
    split at he
    · rename_i heq; cases heq
    · rename_i heq; cases heq; cases he; exact ⟨none, 0, rfl, Nat.le_refl _, by simp [maxLen], fun h => absurd rfl h⟩
    · rename_i heq; cases heq
    · cases he
  | row k sz i n =>
    simp only [RV] at hx
    obtain ⟨hd, a, cap, rfl, h1, h2, h3⟩ := hx
    have hb := h.box k hd
    simp only [elems] at he
    cases hbx : m.bx k with
    | dead => simp [hbx] at he
    | mp _ _ => simp [hbx] at he
    | cells xs => simp [hbx] at he
    | row sz' fs =>
      rw [hbx] at hb he
      simp only at he
      split at he
      · rename_i hc
        obtain ⟨rfl, hle⟩ := hc
        cases he
        have hlen : ((fs.drop i).take n).length = n := by simp; omega
        refine ⟨a, cap, by rw [hlen], by omega, h2, fun hne => ?_⟩
        have hn : n ≠ 0 := fun e => hne (List.length_eq_zero_iff.1 (by rw [hlen]; exact e))
        obtain ⟨e1, e2⟩ := h3 (by omega)
        obtain ⟨_, _, h4⟩ := hb
        obtain ⟨cs, ty, h5, h6, h7⟩ := h4 (by omega)
        refine ⟨_, _, e1, ?_⟩
        have h8 := (RC.drop i h7).flat
        have h9 : RD g w (g.gb k).b ((g.gb k).off + i * sz') (fs.drop i).flatten := RD.of_block h5 (fun j c hj => by
          rw [List.getElem?_take] at hj
          split at hj
          · rw [List.getElem?_drop, List.getElem?_drop] at hj
            rw [← hj, Array.getElem?_toList]; congr 1; omega
          · cases hj) h8
        have hsz : ∀ e ∈ fs.drop i, e.length = sz' := fun e hm => RC.sizes h7 e (List.mem_of_mem_drop hm)
        have hflat : ((fs.drop i).take n).flatten = (fs.drop i).flatten.take (n * sz') := flat_take n hsz
        rw [hflat]
        exact h9.take _
      · cases he
  | _ => cases he
theorem src_ok {T cx g m w} (h : MR T cx g m w) {e : Nat} {x : PV} {u : Value} {es : List (List PV)} (hx : RV g w x u) (he : srcOf T e m.bx x = some es) (hs : (T.at e).sz ≠ 0) :
    ∃ a cap, u = .slice a es.length cap ∧ (es ≠ [] → ∃ b off, a = some ⟨b, off, none⟩ ∧ RD g w b off es.flatten) := by
  by_cases ha : ∃ k off sz n, x = .asl k off sz n
  · obtain ⟨k, off, sz, n, rfl⟩ := ha
    simp only [RV] at hx
    obtain ⟨hd, a, cap, rfl, h1, h2, h3⟩ := hx
    have hb := h.box k hd
    simp only [srcOf] at he
    cases hbx : m.bx k with
    | dead => simp [hbx] at he
    | mp _ _ => simp [hbx] at he
    | row sz' fs => simp [hbx] at he
    | cells xs =>
      rw [hbx] at hb he
      simp only at he
      split at he
      · rename_i hc
        obtain ⟨rfl, hle⟩ := hc
        cases he
        refine ⟨a, cap, by rw [chunk_length], fun hne => ?_⟩
        have hn : n ≠ 0 := fun e => hne (List.length_eq_zero_iff.1 (by rw [chunk_length]; exact e))
        obtain ⟨_, cs, ty, h5, h6⟩ := hb
        refine ⟨_, _, h3 (Nat.mul_ne_zero hn hs), ?_⟩
        rw [chunk_flat]
        exact (RD.of_block h5 (ds := cs.toList.drop off) (fun j c hj => by simpa using hj) (RL.drop off h6)).take _
      · cases he
  · have he' : elems m.bx x = some es := by
      cases x <;> first | exact he | exact absurd ⟨_, _, _, _, rfl⟩ ha
    obtain ⟨a, cap, h1, _, _, h2⟩ := elems_ok h hx he'
    exact ⟨a, cap, h1, h2⟩
theorem MR.kill {T cx g m w} (h : MR T cx g m w) (k : Nat) : MR T cx g ⟨m.nb, setB m.bx k .dead, m.ys⟩ w := by
  have hown : ∀ j, Owns g ⟨m.nb, setB m.bx k .dead, m.ys⟩ j → j ≠ k ∧ Owns g m j := by
    rintro j ⟨hd, hj⟩
    replace hj : (setB m.bx k .dead j).owns _ = true := hj
    by_cases e : j = k
    · subst e; rw [setB_new] at hj; simp [Box.owns] at hj
    · rw [setB_old _ _ e] at hj; exact ⟨e, hd, hj⟩
  exact {
    pin := h.pin
    base := h.base
    box := fun j hd => by
      show BoxOK _ _ _ (setB _ _ _ _)
      by_cases e : j = k
      · subst e; rw [setB_new]; trivial
      · rw [setB_old _ _ e]; exact h.box j hd
    np := fun j hj => h.np j (hown j hj).2
    inj := fun j j' hj hj' => h.inj j j' (hown j hj).2 (hown j' hj').2
    fresh := fun j hj => h.fresh j (hown j hj).2
    fix := h.fix
    ys := h.ys
    glob := h.glob }
theorem sz_zeroCells (z : Array Value) (n : Nat) : (Builtin.zeroCells z n).size = n * z.size := by simp [Builtin.zeroCells]
theorem run_append_more {T P} (hT : TOK T P) {t ty e : Nat} (ht : P.underlying t = some (.slice e)) (hs : (T.at e).sz ≠ 0) (w : World) {a ya : Option Addr} {n cap m yc : Nat} {olds news : List Value}
    (hol : olds.length = n * (T.at e).sz) (hnl : news.length = m * (T.at e).sz) (hgrow : cap < n + m) (hcap : n ≤ cap)
    (ha : a = none → cap = 0) (hold : ∀ ad, a = some ad → ∀ j v, olds[j]? = some v → w.cell? (ad.add j) = some v)
    (hy : ∃ ad, ya = some ad ∧ ∀ j v, news[j]? = some v → w.cell? (ad.add j) = some v)
    (h63 : n + m ≤ 9223372036854775807) (hby : (n + m) * (T.at e).bytes ≤ 140737488355328) :
    ∃ (nc : Nat) (zs : Array Value), n + m ≤ nc ∧ nc ≤ maxLen ∧ zs.size = (nc - (n + m)) * (T.at e).sz ∧
      (Builtin.append_ #[t, t] ty #[.slice a n cap, .slice ya m yc]).run P w = .ok (.slice (some ⟨w.heap.size, 0, none⟩) (n + m) nc) (w.drew.alloc (.cells (olds.toArray ++ news.toArray ++ zs) e)) := by
  obtain ⟨inf, z, h1, h2, h3, h4, h5, h6⟩ := hT.info hs
  obtain ⟨ad, rfl, hn⟩ := hy
  refine ⟨grownCap w (n + m) cap e, Builtin.zeroCells z.cells (grownCap w (n + m) cap e - (n + m)), grownCap_ge w _ _ _, grownCap_le_maxLen w _ _ _ (by simp [maxLen]; omega), by rw [sz_zeroCells, h6], ?_⟩
  cases a with
  | none =>
    obtain rfl := ha rfl
    obtain rfl : n = 0 := by omega
    have : olds = [] := List.length_eq_zero_iff.1 (by simpa using hol)
    subst this
    have := run_append_nil (P := P) w t ty e inf z ht h1 h4 ad m yc news (by rw [h2]; exact hnl) hn (by omega) (by omega) (by rw [h3]; simp only [Nat.zero_add] at hby; omega)
    simpa using this
  | some b =>
    have := run_append_grow (P := P) w t ty e inf z ht h1 h4 b n cap olds (by rw [h2]; exact hol) (hold b rfl) ad m yc news (by rw [h2]; exact hnl) hn (by omega) (by omega) (by rw [h3]; exact growslice_fits (by omega) hby)
    exact this
theorem run_append_here {T P} (hT : TOK T P) {t ty e : Nat} (ht : P.underlying t = some (.slice e)) (hs : (T.at e).sz ≠ 0) (w : World) {b off : Nat} {ya : Option Addr} {n cap m yc : Nat} {news : List Value}
    (hnl : news.length = m * (T.at e).sz) (hroom : n + m ≤ cap)
    (hy : news ≠ [] → ∃ ad, ya = some ad ∧ ∀ j v, news[j]? = some v → w.cell? (ad.add j) = some v) (hone : ∀ c ∈ news, c.oneCell' = true)
    {cs : Array Value} {te : Nat} (hb : w.heap[b]? = some (.cells cs te (0, 0))) (hfit : off + n * (T.at e).sz + news.length ≤ cs.size) :
    (Builtin.append_ #[t, t] ty #[.slice (some ⟨b, off, none⟩) n cap, .slice ya m yc]).run P w =
      .ok (.slice (some ⟨b, off, none⟩) (n + m) cap) (w.setRow b (cs.toList.take (off + n * (T.at e).sz) ++ news ++ cs.toList.drop (off + n * (T.at e).sz + news.length)).toArray) := by
  obtain ⟨inf, z, h1, h2, h3, h4, h5, h6⟩ := hT.info hs
  have hst := run_storeCells_at P b (off + n * (T.at e).sz) te news 0 cs w hb (by simpa using hfit) hone
  simp only [Nat.add_zero] at hst
  have hf : (Builtin.firstCells (T.at e).sz m (.slice ya m yc)).run P w = .ok news.toArray w := by
    by_cases hne : news = []
    · subst hne
      have hm : m * (T.at e).sz = 0 := by simpa using hnl.symm
      cases ya with
      | none => simp [Builtin.firstCells]
      | some ad => simp [Builtin.firstCells, hm, loadCells, loadCellsFrom]
    · obtain ⟨ad, rfl, hn⟩ := hy hne
      exact run_firstCells_some (P := P) w _ m ad m yc news hnl hn
  simp [Builtin.append_, run_underlying ht, sizeOf, typeInfo, h1, h2, Builtin.lenOf, hroom, hf, Addr.add_lit, hst]
theorem run_append_nothing {T P} (hT : TOK T P) {t ty e : Nat} (ht : P.underlying t = some (.slice e)) (hs : (T.at e).sz ≠ 0) (w : World) {a ya : Option Addr} {yc : Nat} :
    (Builtin.append_ #[t, t] ty #[.slice a 0 0, .slice ya 0 yc]).run P w = .ok (.slice a 0 0) w := by
  obtain ⟨inf, z, h1, h2, h3, h4, h5, h6⟩ := hT.info hs
  have hf : (Builtin.firstCells (T.at e).sz 0 (.slice ya 0 yc)).run P w = .ok #[] w := by
    cases ya with
    | none => simp [Builtin.firstCells]
    | some ad => simp [Builtin.firstCells, loadCells, loadCellsFrom]
  cases a with
  | none => simp [Builtin.append_, run_underlying ht, sizeOf, typeInfo, h1, h2, Builtin.lenOf, hf]
  | some ad => simp [Builtin.append_, run_underlying ht, sizeOf, typeInfo, h1, h2, Builtin.lenOf, hf, storeCells]
end Go.Proofs.Ytcbhmedknbiffaa
