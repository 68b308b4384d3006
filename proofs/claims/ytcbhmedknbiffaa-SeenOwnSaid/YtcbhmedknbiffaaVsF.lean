/-
  The operations of the layer VS are sound: parts laid into cells, stores, appends, slices.
-/
import Derived.Test.YtcbhmedknbiffaaVsE
namespace Go.Proofs.Ytcbhmedknbiffaa
open Go Go.RowKit
def StepOK (T : Tab) (P : Program) (cx : Cx) (g : Gh) (m : Mem) (w : World) (nm : Nat) (s : Sem Next) (v : PV) (ws : List (Nat × Box)) : Prop :=
  ∃ u w' g', (s.run P w = .ok (.value u) w' ∨ (s.run P w = .ok .skip w' ∧ u = undef)) ∧ RV g' w' v u ∧ MR T cx g' ⟨m.nb, setBs m.bx ws, m.ys⟩ w' ∧
    EX cx g m w g' ⟨m.nb, setBs m.bx ws, m.ys⟩ w' ∧ ∀ k, g'.dom k → g.dom k ∨ k = nm
theorem StepOK.plain {T P cx g m w nm s v u} (h : MR T cx g m w) (hr : s.run P w = .ok (.value u) w) (hv : RV g w v u) : StepOK T P cx g m w nm s v [] :=
  ⟨u, w, g, .inl hr, hv, h, EX.refl cx g m w, fun _ h => .inl h⟩
theorem foldl_set (off : Nat) : ∀ (xs : List Value) (k : Nat) (cells : Array Value), off + k + xs.length ≤ cells.size →
    ((xs.zipIdx k).foldl (fun cs (c, j) => cs.setIfInBounds (off + j) c) cells).toList = cells.toList.take (off + k) ++ xs ++ cells.toList.drop (off + k + xs.length)
  | [], k, cells, _ => by simp
  | x :: xs, k, cells, h => by
    simp only [List.length_cons] at h
    simp only [List.zipIdx_cons, List.foldl_cons]
    rw [foldl_set off xs (k + 1) _ (by simp; omega)]
    have hlt : off + k < cells.toList.length := by simp; omega
    rw [Array.toList_setIfInBounds, List.length_cons]
    have e1 : (cells.toList.set (off + k) x).take (off + (k + 1)) = cells.toList.take (off + k) ++ [x] := by
      rw [show off + (k + 1) = off + k + 1 by omega, List.take_add_one, List.take_set_of_le (by omega)]
      simp [List.getElem?_set]; omega
    have e2 : (cells.toList.set (off + k) x).drop (off + (k + 1) + xs.length) = cells.toList.drop (off + k + (xs.length + 1)) := by
      rw [List.drop_set_of_lt (by omega)]; congr 1; omega
    rw [e1, e2]; simp
theorem RL.splice {g w} {xs ys : List PV} {cs ds : List Value} (h : RL g w xs cs) (k : RL g w ys ds) (off : Nat) : RL g w (splice xs off ys) (cs.take off ++ ds ++ cs.drop (off + ds.length)) := by
  unfold Go.Proofs.Ytcbhmedknbiffaa.splice
  rw [RL.length k]
  exact ((h.take off).append k).append (h.drop _)
theorem fill_ok {g w} {place : Nat → Option (Nat × Nat)} : ∀ {ps : List (Nat × PV)} {us : List (Nat × Value)} {cells : List PV} {cs : Array Value} {out : List PV},
    fillV place cells ps = some out → RL g w cells cs.toList → ps.length = us.length → (∀ (j : Nat) (p : Nat × PV) (u : Nat × Value), ps[j]? = some p → us[j]? = some u → p.1 = u.1 ∧ RV g w p.2 u.2) →
    ∃ ds, Instr.fill place cs us = some ds ∧ RL g w out ds.toList
  | [], us, cells, cs, out, h, hl, hlen, _ => by
    have : us = [] := List.length_eq_zero_iff.1 (by simpa using hlen.symm)
    subst this
    simp only [fillV] at h; cases h
    exact ⟨cs, rfl, hl⟩
  | (i, x) :: ps, us, cells, cs, out, h, hl, hlen, hp => by
    cases us with
    | nil => simp at hlen
    | cons u us =>
      obtain ⟨i', u⟩ := u
      obtain ⟨e, hx⟩ := hp 0 _ _ rfl rfl
      simp only at e hx
      subst e
      simp only [fillV] at h
      split at h
      · rename_i off sz ys hpl hc
        split at h
        · rename_i hcond
          obtain ⟨hys, _⟩ := RV.cells hx hc
          have hcl := RL.length hl
          have hyl := RL.length hys
          have hfold := foldl_set off u.cells.toList 0 cs (by simp at hcl hyl ⊢; omega)
          obtain ⟨ds, h1, h2⟩ := fill_ok (ps := ps) (us := us) (cs := (u.cells.zipIdx.foldl (fun cs (c, j) => cs.setIfInBounds (off + j) c) cs)) h
            (by
              rw [← Array.foldl_toList, Array.toList_zipIdx, hfold]
              simpa using hl.splice hys off)
            (by simpa using hlen) (fun j p u hj hu => hp (j + 1) p u (by simpa using hj) (by simpa using hu))
          refine ⟨ds, ?_, h2⟩
          simp only [Instr.fill, hpl]
          rw [if_neg (by simp at hcl hyl ⊢; omega)]
          exact h1
        · cases h
      · cases h
theorem run_storeVar_at {T P} (hT : TOK T P) {g w} {t b off : Nat} {x : PV} {u : Value} {ys : List PV} (hx : RV g w x u) (hc : cellsOf x = some ys) (hs : ys.length = (T.at t).sz) (h0 : (T.at t).sz ≠ 0)
    {cs : Array Value} {ty : Nat} (hb : w.heap[b]? = some (.cells cs ty (0, 0))) (hle : off + ys.length ≤ cs.size) :
    ∃ ds : List Value, RL g w ys ds ∧ ds.length = ys.length ∧ (storeVar t ⟨b, off, none⟩ u).run P w = .ok () (w.setRow b (cs.toList.take off ++ ds ++ cs.toList.drop (off + ds.length)).toArray) := by
  obtain ⟨hl, h1⟩ := RV.cells hx hc
  have hlen := RL.length hl
  refine ⟨u.cells.toList, hl, hlen.symm, ?_⟩
  have hst := run_storeCells_at P b off ty u.cells.toList 0 cs w hb (by simp at hlen ⊢; omega) h1
  simp only [Nat.add_zero] at hst
  have hsz : u.cells.size = (T.at t).sz := by simp at hlen; omega
  simp only [storeVar, Sem.run_bind, hT.run_sizeOf h0, Result.andThen_ok, hsz, ne_eq, not_true_eq_false, if_false, hst]
theorem setRow_at (w : World) (b : Nat) (cs0 cs : Array Value) (ty : Nat) (h : w.heap[b]? = some (.cells cs0 ty (0, 0))) : (w.setRow b cs).heap[b]? = some (.cells cs ty (0, 0)) := setRow_heap w b cs0 cs ty _ h
theorem store_ok {T P cx g m w nm} (hT : TOK T P) (h : MR T cx g m w) {t : Nat} {xa x : PV} {ua u : Value} {ys : List PV} {r : Nat × Box} (ha : RV g w xa ua) (hx : RV g w x u) (hc : cellsOf x = some ys)
    (hs : ys.length = (T.at t).sz) (h0 : (T.at t).sz ≠ 0) (hst : storeTo m.bx xa ys = some r) :
    StepOK T P cx g m w nm (do Instr.storeAt t ua u; pure .skip) .any [r] := by
  have hys : 0 < ys.length := by omega
  cases xa with
  | ref k off =>
    simp only [RV] at ha
    obtain ⟨hd, rfl⟩ := ha
    have hb := h.box k hd
    simp only [storeTo] at hst
    cases hbx : m.bx k with
    | dead => simp [hbx] at hst
    | mp _ _ => simp [hbx] at hst
    | row sz es => simp [hbx] at hst
    | cells xs =>
      rw [hbx] at hb hst
      simp only at hst
      split at hst
      · rename_i hle
        cases hst
        obtain ⟨hoff, cs, ty, h1, h2⟩ := hb
        have hcl := RL.length h2
        obtain ⟨ds, hl, hdl, hrun⟩ := run_storeVar_at hT hx hc hs h0 h1 (off := off) (by simp at hcl; omega)
        have hown : Owns g m k := ⟨hd, by rw [hbx]; rfl⟩
        obtain ⟨hm, he⟩ := h.upd (w' := w.setRow (g.gb k).b (cs.toList.take off ++ ds ++ cs.toList.drop (off + ds.length)).toArray) (bx := .cells (splice xs off ys)) hown (by simp) rfl rfl rfl
          (fun j hj => setRow_other w _ j _ hj) rfl
          (fun hx' => ⟨hoff, _, ty, setRow_at w _ cs _ ty h1, by
            simpa using (RL.splice (h2.mono hx') (hl.mono hx') off)⟩)
        exact ⟨undef, _, g, .inr ⟨by simp only [Instr.storeAt, Instr.sureAddr, Sem.run_bind, Sem.run_pure, Result.andThen_ok, hrun], rfl⟩, by simp only [RV], hm, he, fun _ hk => .inl hk⟩
      · cases hst
  | rp k sz i off =>
    simp only [RV] at ha
    obtain ⟨hd, rfl⟩ := ha
    have hb := h.box k hd
    simp only [storeTo] at hst
    cases hbx : m.bx k with
    | dead => simp [hbx] at hst
    | mp _ _ => simp [hbx] at hst
    | cells xs => simp [hbx] at hst
    | row sz' es =>
      rw [hbx] at hb hst
      simp only at hst
      cases hei : es[i]? with
      | none => simp [hei] at hst
      | some e =>
        rw [hei] at hst
        simp only at hst
        split at hst
        · rename_i hcond
          obtain ⟨rfl, hle⟩ := hcond
          cases hst
          obtain ⟨hcap, hmx, h1⟩ := hb
          have hil := (List.getElem?_eq_some_iff.1 hei).1
          obtain ⟨cs, ty, h2, h3, h4⟩ := h1 (by omega)
          obtain ⟨h5, _⟩ := RC.get h4 i e hei
          have hmul : (i + 1) * sz' ≤ (g.gb k).cap * sz' := Nat.mul_le_mul_right _ (by omega)
          rw [Nat.succ_mul] at hmul
          obtain ⟨ds, hl, hdl, hrun⟩ := run_storeVar_at hT hx hc hs h0 h2 (off := (g.gb k).off + i * sz' + off) (by omega)
          have hown : Owns g m k := ⟨hd, by rw [hbx]; simp [Box.owns]; omega⟩
          obtain ⟨hm, he⟩ := h.upd (w' := w.setRow (g.gb k).b (cs.toList.take ((g.gb k).off + i * sz' + off) ++ ds ++ cs.toList.drop ((g.gb k).off + i * sz' + off + ds.length)).toArray)
            (bx := .row sz' (es.set i (splice e off ys))) hown (by simp) rfl rfl rfl
            (fun j hj => setRow_other w _ j _ hj) (by simp [Box.owns]; omega)
            (fun hx' => by
              refine ⟨by simpa using hcap, hmx, fun _ => ⟨_, ty, setRow_at w _ cs _ ty h2, by simp; omega, ?_⟩⟩
              refine RC.of_get fun j f hf => ?_
              have h4' := RC.mono hx' es sz' _ h4
              rw [List.getElem?_set] at hf
              have hcs : cs.toList.length = cs.size := by simp
              -- the cells behind the row's head
              have hdrop : ∀ j n : Nat, (∀ q, q < n → (j * sz' + q < i * sz' + off ∨ i * sz' + off + ds.length ≤ j * sz' + q)) →
                  (((cs.toList.take ((g.gb k).off + i * sz' + off) ++ ds ++ cs.toList.drop ((g.gb k).off + i * sz' + off + ds.length)).drop (g.gb k).off).drop (j * sz')).take n = ((cs.toList.drop (g.gb k).off).drop (j * sz')).take n := by
                intro j n hq
                apply List.ext_getElem?
                intro q
                rw [List.getElem?_take, List.getElem?_take]
                split
                · rename_i hqn
                  rw [List.getElem?_drop, List.getElem?_drop, List.getElem?_drop, List.getElem?_drop]
                  rcases hq q hqn with hlt | hge
                  · rw [List.append_assoc, List.getElem?_append_left (by simp; omega), List.getElem?_take, if_pos (by omega)]
                  · rw [List.getElem?_append_right (by simp; omega), List.getElem?_drop]
                    congr 1
                    simp; omega
                · rfl
              by_cases hij : i = j
              · subst hij
                simp [hil] at hf
                subst hf
                obtain ⟨_, c, h6, h7⟩ := RC.get h4' i e hei
                have hel : c.length = sz' := by rw [← RL.length h6, h5]
                refine ⟨by simp [splice]; omega, ?_⟩
                have hsp := RL.splice h6 (hl.mono hx') off
                have : ((List.drop (i * sz') (List.drop (g.gb k).off (List.take ((g.gb k).off + i * sz' + off) cs.toList ++ ds ++ List.drop ((g.gb k).off + i * sz' + off + ds.length) cs.toList)))).take sz' = c.take off ++ ds ++ c.drop (off + ds.length) := by
                  apply List.ext_getElem?
                  intro q
                  rw [List.getElem?_take]
                  split
                  · rename_i hq
                    rw [List.getElem?_drop, List.getElem?_drop]
                    have hcq : ∀ q, q < sz' → cs.toList[(g.gb k).off + (i * sz' + q)]? = c[q]? := fun q hq => by
                      have := h7 q c[q] (List.getElem?_eq_getElem (by omega))
                      rw [List.getElem?_drop] at this
                      rw [this, List.getElem?_eq_getElem (by omega)]
                    by_cases h8 : q < off
                    · rw [List.append_assoc, List.append_assoc, List.getElem?_append_left (by simp; omega), List.getElem?_append_left (by simp; omega), List.getElem?_take, if_pos (by omega), List.getElem?_take, if_pos h8, hcq q hq]
                    · by_cases h9 : q < off + ds.length
                      · rw [List.append_assoc, List.append_assoc, List.getElem?_append_right (by simp; omega), List.getElem?_append_left (by simp; omega), List.getElem?_append_right (by simp; omega), List.getElem?_append_left (by simp; omega)]
                        congr 1; simp; omega
                      · rw [List.getElem?_append_right (by simp; omega), List.getElem?_append_right (by simp; omega), List.getElem?_drop, List.getElem?_drop, ← hcq _ (by simp; omega)]
                        congr 1; simp; omega
                  · rename_i hq
                    rw [List.getElem?_eq_none (by simp; omega)]
                rw [this]; exact hsp
              · rw [if_neg hij] at hf
                obtain ⟨h6, c, h7, h8⟩ := RC.get h4' j f hf
                refine ⟨h6, ?_⟩
                rw [hdrop j sz' (fun q hq => ?_)]
                · have hcl : c.length = sz' := by rw [← RL.length h7, h6]
                  have : ((cs.toList.drop (g.gb k).off).drop (j * sz')).take sz' = c := by
                    apply List.ext_getElem?
                    intro q
                    rw [List.getElem?_take]
                    split
                    · rename_i hq
                      rw [List.getElem?_drop]
                      rw [List.getElem?_eq_getElem (by omega : q < c.length)]
                      exact h8 q _ (List.getElem?_eq_getElem (by omega))
                    · rw [List.getElem?_eq_none (by omega)]
                  rw [this]; exact h7
                · rcases Nat.lt_or_gt_of_ne hij with hlt | hgt
                  · right
                    have : (i + 1) * sz' ≤ j * sz' := Nat.mul_le_mul_right _ hlt
                    rw [Nat.succ_mul] at this; omega
                  · left
                    have : (j + 1) * sz' ≤ i * sz' := Nat.mul_le_mul_right _ hgt
                    rw [Nat.succ_mul] at this; omega)
          exact ⟨undef, _, g, .inr ⟨by simp only [Instr.storeAt, Instr.sureAddr, Sem.run_bind, Sem.run_pure, Result.andThen_ok, hrun], rfl⟩, by simp only [RV], hm, he, fun _ hk => .inl hk⟩
        · cases hst
  | _ => cases hst
end Go.Proofs.Ytcbhmedknbiffaa
