/-
  The layer Ev: what a call by value hands in, and hands back.
-/
import Derived.Test.YtcbhmedknbiffaaEvJ
namespace Go.Proofs.Ytcbhmedknbiffaa
open Go Go.RowKit
mutual
def pvC (fr : Bool) : (c : CT) → Den c → PV
  | .int k, n => .v (.int k n)
  | .bool, t => .v (.bool t)
  | .str, x => .v (.string x)
  | .sl cs, l => .sl fr (List.map (fun x => pvL fr cs x) l)
def pvL (fr : Bool) : (cs : List CT) → DenL cs → List PV
  | [], _ => []
  | [c], x => [pvC fr c x]
  | c :: d :: cs, x => pvC fr c x.1 :: pvL fr (d :: cs) x.2
end
theorem map_get {α β : Type} (f : α → β) (l : List α) (i : Nat) (y : β) (h : (l.map f)[i]? = some y) : ∃ x, LGet l i x ∧ f x = y := by
  rw [List.getElem?_map] at h
  obtain ⟨x, hx, e⟩ := Option.map_eq_some_iff.1 h
  exact ⟨x, hx, e⟩
theorem LGet.inj {α : Type} {l : List α} {i : Nat} {x y : α} (h : LGet l i x) (k : LGet l i y) : x = y := by
  unfold LGet at h k; rw [h] at k; exact Option.some.inj k
theorem LGet.lt {α : Type} {l : List α} {i : Nat} {x : α} (h : LGet l i x) : i < l.length := (List.getElem?_eq_some_iff.1 h).1
mutual
theorem rd_pv {H m f fr} (hf : f = true → fr = true) : ∀ (c : CT) (x : Den c), Rd H m f c x (pvC fr c x)
  | .int _, _ => by simp only [Rd, pvC]
  | .bool, _ => by simp only [Rd, pvC]
  | .str, _ => by simp only [Rd, pvC]
  | .sl cs, l => by
    simp only [Rd, pvC]
    refine ⟨_, .inl ⟨fr, rfl, fun h => .inl (hf h)⟩, (List.length_map _).symm, fun i x e hx he => ?_⟩
    obtain ⟨y, hy, e1⟩ := map_get (α := DenL cs) _ _ _ _ he
    have := LGet.inj hx hy
    subst this
    subst e1
    exact rd_pvL hf cs x
theorem rd_pvL {H m f fr} (hf : f = true → fr = true) : ∀ (cs : List CT) (x : DenL cs), RdL H m f cs x (pvL fr cs x)
  | [], _ => by simp only [RdL, pvL]
  | [c], x => by simp only [RdL, pvL]; exact ⟨_, rfl, rd_pv hf c x⟩
  | c :: d :: cs, x => by simp only [RdL, pvL]; exact ⟨_, _, rfl, rd_pv hf c _, rd_pvL hf (d :: cs) _⟩
end
theorem re_pv {H m f fr cs} (hf : f = true → fr = true) (l : List (DenL cs)) : RdE H m f cs l (l.map (pvL fr cs)) :=
  ⟨by simp, fun i x e hx he => by
    rw [List.getElem?_map] at he
    obtain ⟨y, hy, rfl⟩ := Option.map_eq_some_iff.1 he
    unfold LGet at hx
    rw [hx] at hy; cases hy
    exact rd_pvL hf cs x⟩
structure RR (H : Nat → Prop) (m : Mem) (g : Gh) (w : World) (g' : Gh) (fr : Bool) : Prop where
  hp : ∀ b o, (fr = true → g.base ≤ b) → g.p b o → g'.p b o
  hbase : fr = true → g'.base ≤ g.base
  hown : ∀ k, H k → Owns g m k → (∀ o, g'.p (g.gb k).b o) ∧ (fr = true → g'.base ≤ (g.gb k).b)
  box : ∀ k, g.dom k → BoxOK g w (g.gb k) (m.bx k)
theorem RM.of_RL {g : Gh} {w : World} {b : Nat} (hp : ∀ o, g.p b o) : ∀ {ys : List PV} {cs : List Value} {off : Nat}, RL g w ys cs → (∀ j v, cs[j]? = some v → w.cell? ⟨b, off + j, none⟩ = some v) → RM g w b off ys
  | [], cs, off, _, _ => by simp only [RM]
  | y :: ys, cs, off, h, hc => by
    simp only [RL] at h
    obtain ⟨c, r, rfl, h1, h2⟩ := h
    simp only [RM]
    refine ⟨hp _, ⟨c, by have := hc 0 c rfl; simpa using this, h1⟩, RM.of_RL hp h2 fun j v hv => ?_⟩
    have := hc (j + 1) v (by simpa using hv)
    rw [show off + 1 + j = off + (j + 1) by omega]; exact this
theorem pvL_length {fr} : ∀ (cs : List CT) (x : DenL cs), (pvL fr cs x).length = cs.length := fun cs x => RdL.length (H := fun _ => True) (m := ⟨0, fun _ => .dead, none⟩) (fr := false) (rd_pvL (fun h => by cases h) cs x)
theorem RV.sl_nil {g : Gh} {w : World} {a cap fr} (h : cap ≤ maxLen) : RV g w (.sl fr []) (.slice a 0 cap) := by
  simp only [RV]
  exact ⟨a, cap, 0, g.base, 0, rfl, Nat.zero_le _, h, fun h => by simp at h, fun _ => Nat.le_refl _, by simp only [RE]⟩
mutual
theorem reC {H m g w g' fr fx} (R : RR H m g w g' fr) (hf : fr = true → fx = true) : ∀ (c : CT) (x : Den c) (p : PV) (u : Value), Rd H m fx c x p → RV g w p u → RV g' w (pvC fr c x) u
  | .int _, _, _, _, h, hr => by simp only [Rd] at h; subst h; simp only [pvC, RV] at hr ⊢; exact hr
  | .bool, _, _, _, h, hr => by simp only [Rd] at h; subst h; simp only [pvC, RV] at hr ⊢; exact hr
  | .str, _, _, _, h, hr => by simp only [Rd] at h; subst h; simp only [pvC, RV] at hr ⊢; exact hr
  | .sl cs, l, p, u, h, hr => by
    simp only [Rd] at h
    obtain ⟨es, hs, hlen, hget⟩ := h
    simp only [pvC]
    have hml : (List.map (fun x => pvL fr cs x) l).length = es.length := (List.length_map _).trans hlen
    have hgt : ∀ (i : Nat) (e' : List PV), (List.map (fun x => pvL fr cs x) l)[i]? = some e' → ∃ x e, e' = pvL fr cs x ∧ es[i]? = some e ∧ RdL H m fx cs x e := by
      intro i e' he'
      obtain ⟨x, hx, e1⟩ := map_get (α := DenL cs) _ _ _ _ he'
      have hi : i < es.length := by
        rw [← hlen]; exact LGet.lt hx
      exact ⟨x, es[i], e1.symm, List.getElem?_eq_getElem hi, hget i x _ hx (List.getElem?_eq_getElem hi)⟩
    have empty : es = [] → ∀ a cap, cap ≤ maxLen → u = .slice a 0 cap → RV g' w (.sl fr (List.map (fun x => pvL fr cs x) l)) u := by
      intro he a cap hc hu
      subst he
      have : List.map (fun x => pvL fr cs x) l = [] := List.eq_nil_of_length_eq_zero hml
      rw [this, hu]; exact RV.sl_nil hc
    rcases hs with ⟨f, e, hff⟩ | ⟨e, e2⟩ | ⟨k, i, n, es0, e, hH, hb, hle, e2⟩
    · subst e
      simp only [RV] at hr
      obtain ⟨a, cap, sz, b, off, hu, h1, h2, h3, h4, h5⟩ := hr
      by_cases hne : es = []
      · exact empty hne a cap h2 (by rw [hu, hne]; rfl)
      · have hbase : fr = true → g.base ≤ b := fun h => h4 ((hff (hf h)).resolve_right hne)
        simp only [RV]
        refine ⟨a, cap, sz, b, off, by rw [hml]; exact hu, by rw [hml]; exact h1, h2, fun _ => h3 (by simpa using hne), fun h => Nat.le_trans (R.hbase h) (hbase h), ?_⟩
        refine RE.of_get fun i e' he' => ?_
        obtain ⟨x, e, rfl, he, hrd⟩ := hgt i e' he'
        obtain ⟨k1, k2⟩ := RE.get h5 i e he
        exact ⟨by rw [pvL_length, ← RdL.length hrd]; exact k1, reM R hf cs x e b _ hbase hrd k2⟩
    · subst e
      simp only [RV] at hr
      exact empty e2 none 0 (Nat.zero_le _) hr
    · subst e
      simp only [RV] at hr
      obtain ⟨hd, a, cap, hu, h1, h2, h3⟩ := hr
      have hn : es.length = n := by rw [e2, List.length_take, List.length_drop]; omega
      by_cases hc : cap = 0
      · subst hc
        exact empty (List.eq_nil_of_length_eq_zero (by omega)) a 0 h2 (by rw [hu]; congr 1; omega)
      · obtain ⟨ha, hcap⟩ := h3 hc
        have hbk := R.box k hd
        rw [hb] at hbk
        obtain ⟨b1, b2, b3⟩ := hbk
        have hG : (g.gb k).cap ≠ 0 := by omega
        obtain ⟨cells, ty, hh, hsz, hrc⟩ := b3 hG
        obtain ⟨hpin, hbase⟩ := R.hown k hH ⟨hd, by rw [hb]; simpa [Box.owns] using hG⟩
        simp only [RV]
        refine ⟨a, cap, cs.length, (g.gb k).b, (g.gb k).off + i * cs.length, by rw [hml, hn]; exact hu, by rw [hml, hn]; exact h1, h2, fun _ => ha, hbase, ?_⟩
        refine RE.of_get fun j e' he' => ?_
        obtain ⟨x, e, rfl, he, hrd⟩ := hgt j e' he'
        have he0 : es0[i + j]? = some e := by
          rw [e2, List.getElem?_take] at he
          split at he
          · rwa [List.getElem?_drop] at he
          · cases he
        obtain ⟨l1, c, l2, l3⟩ := RC.get hrc (i + j) e he0
        refine ⟨pvL_length cs x, RM.of_RL hpin (reL R hf cs x e c hrd l2) fun q v hv => ?_⟩
        have := l3 q v hv
        rw [cell_of_heap hh]
        rw [List.getElem?_drop, Array.getElem?_toList] at this
        rw [← this]; congr 1
        rw [Nat.add_mul]; omega
theorem reL {H m g w g' fr fx} (R : RR H m g w g' fr) (hf : fr = true → fx = true) : ∀ (cs : List CT) (x : DenL cs) (ps : List PV) (us : List Value), RdL H m fx cs x ps → RL g w ps us → RL g' w (pvL fr cs x) us
  | [], _, _, _, h, hr => by simp only [RdL] at h; subst h; simp only [pvL, RL] at hr ⊢; exact hr
  | [c], x, _, _, h, hr => by
    simp only [RdL] at h; obtain ⟨p, rfl, h1⟩ := h
    simp only [RL] at hr; obtain ⟨u, r, rfl, k1, k2⟩ := hr
    simp only [pvL, RL]; exact ⟨u, r, rfl, reC R hf c x p u h1 k1, k2⟩
  | c :: d :: cs, x, _, _, h, hr => by
    simp only [RdL] at h; obtain ⟨p, r, rfl, h1, h2⟩ := h
    simp only [RL] at hr; obtain ⟨u, us, rfl, k1, k2⟩ := hr
    simp only [pvL, RL]; exact ⟨u, us, rfl, reC R hf c _ p u h1 k1, reL R hf (d :: cs) _ r us h2 k2⟩
theorem reM {H m g w g' fr fx} (R : RR H m g w g' fr) (hf : fr = true → fx = true) : ∀ (cs : List CT) (x : DenL cs) (ps : List PV) (b off : Nat), (fr = true → g.base ≤ b) → RdL H m fx cs x ps → RM g w b off ps → RM g' w b off (pvL fr cs x)
  | [], _, _, _, _, _, h, hr => by simp only [RdL] at h; subst h; simp only [pvL, RM]
  | [c], x, _, b, off, hb, h, hr => by
    simp only [RdL] at h; obtain ⟨p, rfl, h1⟩ := h
    simp only [RM] at hr; obtain ⟨k0, ⟨u, k1, k2⟩, _⟩ := hr
    simp only [pvL, RM]; exact ⟨R.hp _ _ hb k0, ⟨u, k1, reC R hf c x p u h1 k2⟩, trivial⟩
  | c :: d :: cs, x, _, b, off, hb, h, hr => by
    simp only [RdL] at h; obtain ⟨p, r, rfl, h1, h2⟩ := h
    simp only [RM] at hr; obtain ⟨k0, ⟨u, k1, k2⟩, k3⟩ := hr
    simp only [pvL, RM]; exact ⟨R.hp _ _ hb k0, ⟨u, k1, reC R hf c _ p u h1 k2⟩, reM R hf (d :: cs) _ r b (off + 1) hb h2 k3⟩
end
theorem reE {H m g w g' fr fx cs} (R : RR H m g w g' fr) (hf : fr = true → fx = true) {l : List (DenL cs)} {es : List (List PV)} {p : PV} {u : Value} (hs : SlR H m fx cs.length p es) (hre : RdE H m fx cs l es) (hr : RV g w p u) : RV g' w (.sl fr (l.map (pvL fr cs))) u := by
  have := reC R hf (.sl cs) l p u (by simp only [Rd]; exact ⟨es, hs, hre.1, hre.2⟩) hr
  simpa only [pvC] using this
def mem0 : Mem := ⟨0, fun _ => .dead, none⟩
def gn0 (O : Nat → PV) : Gn := ⟨fun _ => 0, fun _ => False, fun _ => True, fun _ => ⟨0, O⟩, fun _ => none⟩
def sh0 : Sh := fun _ => none
def flatPV : XV → PV
  | .i k n => .v (.int k n)
  | .b t => .v (.bool t)
  | .s x => .v (.string x)
  | _ => .any
theorem flat_rl {G : Gn} {sh : Sh} {nx : Nat} {m : Mem} : ∀ {xs : List XV} {ps : List PV}, flatXs xs = true → RlX G sh nx m xs ps → ps = xs.map flatPV
  | [], ps, _, h => by simp only [RlX] at h; subst h; rfl
  | x :: xs, ps, hf, h => by
    simp only [RlX] at h; obtain ⟨p, r, rfl, h1, h2⟩ := h
    cases x <;> simp only [flatXs] at hf <;> first | (cases hf; done) | (simp only [RvX] at h1; subst h1; rw [flat_rl hf h2]; rfl)
theorem rl_flat {G : Gn} {sh : Sh} {nx : Nat} {m : Mem} : ∀ {xs : List XV}, flatXs xs = true → RlX G sh nx m xs (xs.map flatPV)
  | [], _ => by simp only [List.map_nil, RlX]
  | x :: xs, hf => by
    simp only [List.map_cons, RlX]
    cases x <;> simp only [flatXs] at hf <;> first | (cases hf; done) | exact ⟨_, _, rfl, by simp only [RvX, flatPV], rl_flat hf⟩
theorem flat_RL {g g2 : Gh} {w w2 : World} : ∀ {xs : List XV} {us : List Value}, flatXs xs = true → RL g w (xs.map flatPV) us → RL g2 w2 (xs.map flatPV) us
  | [], us, _, h => by simp only [List.map_nil, RL] at h ⊢; exact h
  | x :: xs, us, hf, h => by
    simp only [List.map_cons, RL] at h ⊢
    obtain ⟨c, r, e, h1, h2⟩ := h
    cases x <;> simp only [flatXs] at hf <;> first | (cases hf; done) | exact ⟨c, r, e, by simp only [flatPV, RV] at h1 ⊢; exact h1, flat_RL hf h2⟩
theorem flat_RM {g g2 : Gh} {w : World} {b : Nat} (hp : ∀ o, g.p b o → g2.p b o) : ∀ {xs : List XV} {off : Nat}, flatXs xs = true → RM g w b off (xs.map flatPV) → RM g2 w b off (xs.map flatPV)
  | [], off, _, _ => by simp only [List.map_nil, RM]
  | x :: xs, off, hf, h => by
    simp only [List.map_cons, RM] at h ⊢
    obtain ⟨h0, ⟨u, h1, h2⟩, h3⟩ := h
    cases x <;> simp only [flatXs] at hf <;> first | (cases hf; done) | exact ⟨hp _ h0, ⟨u, h1, by simp only [flatPV, RV] at h2 ⊢; exact h2⟩, flat_RM hp hf h3⟩
theorem viewFs_ok : ∀ {ps : List VP} {xs : List XV} {l : List Leaf}, viewFs ps xs = some l → flatXs xs = true ∧ ∀ rest, encVs ps (l ++ rest) = some (xs, rest)
  | [], xs, l, h => by
    simp only [viewFs] at h
    split at h
    · cases h; exact ⟨rfl, fun _ => rfl⟩
    · cases h
  | p :: ps, xs, l, h => by
    simp only [viewFs] at h
    split at h
    · cases h
    · split at h
      · split at h
        · rename_i e _
          split at h
          · rename_i l' hl
            cases h; subst e
            obtain ⟨h1, h2⟩ := viewFs_ok hl
            exact ⟨by simp only [flatXs]; exact h1, fun rest => by simp only [List.cons_append, encVs, encV, h2]⟩
          · cases h
        · cases h
      · split at h
        · rename_i l' hl
          cases h
          obtain ⟨h1, h2⟩ := viewFs_ok hl
          exact ⟨by simp only [flatXs]; exact h1, fun rest => by simp only [List.cons_append, encVs, encV, h2]⟩
        · cases h
      · split at h
        · rename_i l' hl
          cases h
          obtain ⟨h1, h2⟩ := viewFs_ok hl
          exact ⟨by simp only [flatXs]; exact h1, fun rest => by simp only [List.cons_append, encVs, encV, h2]⟩
        · cases h
      · cases h
section
variable {G : Gn} {A : Nat → Prop} {xm : XM} {m : Mem} {g g1 : Gh} {w : World}
theorem re_ep (R : RR (fun _ => True) m g w g1 false) {sh : Sh} {nx : Nat} {xs : List XV} {ps : List PV} {p : PV} {u : Value} (hf : flatXs xs = true) (he : EpR G.H m p ps) (hl : RlX G sh nx m xs ps) (hr : RV g w p u) : RV g1 w (.ep false (xs.map flatPV)) u := by
  have hps := flat_rl hf hl
  subst hps
  rcases he with ⟨f, rfl⟩ | ⟨k, sz, i, off, es0, e, rfl, _, hb, hi, hq⟩
  · simp only [RV] at hr ⊢
    obtain ⟨b, off, e, _, hm⟩ := hr
    exact ⟨b, off, e, (fun h => by cases h), flat_RM (fun o ho => R.hp _ _ (fun h => by cases h) ho) hf hm⟩
  · simp only [RV] at hr ⊢
    obtain ⟨hd, rfl⟩ := hr
    have hbk := R.box k hd
    rw [hb] at hbk
    obtain ⟨b1, b2, b3⟩ := hbk
    have hlt := (List.getElem?_eq_some_iff.1 hi).1
    have hG : (g.gb k).cap ≠ 0 := by omega
    obtain ⟨cells, ty, hh, hsz, hrc⟩ := b3 hG
    obtain ⟨hpin, _⟩ := R.hown k trivial ⟨hd, by rw [hb]; simpa [Box.owns] using hG⟩
    obtain ⟨l1, c, l2, l3⟩ := RC.get hrc i e hi
    refine ⟨_, _, rfl, (fun h => by cases h), RM.of_RL (cs := c.drop off) hpin ?_ fun q v hv => ?_⟩
    · have h3 := l2.drop off
      rw [← hq] at h3
      exact flat_RL hf h3
    · rw [List.getElem?_drop] at hv
      have := l3 _ v hv
      rw [cell_of_heap hh]
      rw [List.getElem?_drop, Array.getElem?_toList] at this
      rw [← this]; congr 1
      omega
theorem castL_self {cs : List CT} (l : List (DenL cs)) : castL cs l = some l := by
  unfold castL
  split
  · rfl
  · rename_i hne _; exact absurd rfl hne
mutual
def opqP : VP → PV → List PV
  | .opq _, p => [p]
  | .agg ps, p => match p with
    | .agg qs => opqPs ps qs
    | _ => []
  | .clos _ ps, p => match p with
    | .clos _ qs => opqPs ps qs
    | _ => []
  | _, _ => []
def opqPs : List VP → List PV → List PV
  | [], _ => []
  | p :: ps, qs => match qs with
    | [] => []
    | q :: qs => opqP p q ++ opqPs ps qs
end
mutual
theorem view_opq {sh : Sh} {nx : Nat} {bx : List (Nat × XBox)} : ∀ (vp : VP) {n : Nat} {x : XV} {ls : List Leaf} {os : List XV} {p : PV}, viewV bx n vp x = some (ls, os) → RvX G sh nx m x p → RlX G sh nx m os (opqP vp p)
  | .i k, n, x, ls, os, p, hv, hx => by
    simp only [viewV] at hv
    split at hv
    · split at hv
      · cases hv; simp only [opqP, RlX]
      · cases hv
    · cases hv
  | .b, n, x, ls, os, p, hv, hx => by
    simp only [viewV] at hv
    split at hv
    · cases hv; simp only [opqP, RlX]
    · cases hv
  | .s, n, x, ls, os, p, hv, hx => by
    simp only [viewV] at hv
    split at hv
    · cases hv; simp only [opqP, RlX]
    · cases hv
  | .sl fr cs, n, x, ls, os, p, hv, hx => by
    simp only [viewV] at hv
    cases fr with
    | true => cases hv
    | false =>
    rw [cond_false] at hv
    split at hv
    · cases hv; simp only [opqP, RlX]
    · cases hv
  | .opq j, n, x, ls, os, p, hv, hx => by
    simp only [viewV] at hv
    cases hc : (Nat.beq j n && x.one) with
    | false => rw [hc] at hv; cases hv
    | true =>
      rw [hc] at hv
      cases hv
      simp only [opqP, RlX]
      exact ⟨p, [], rfl, hx, rfl⟩
  | .agg ps, n, x, ls, os, p, hv, hx => by
    simp only [viewV] at hv
    split at hv
    · rename_i xs
      simp only [RvX] at hx; obtain ⟨qs, rfl, hl⟩ := hx
      simp only [opqP]
      exact views_opq ps hv hl
    · cases hv
  | .any, _, _, _, _, _, hv, _ => by simp [viewV] at hv
  | .skip, _, _, _, _, _, hv, _ => by simp [viewV] at hv
  | .nil, _, _, _, _, _, hv, _ => by simp [viewV] at hv
  | .row _, _, _, _, _, _, hv, _ => by simp [viewV] at hv
  | .rsub _, _, _, _, _, _, hv, _ => by simp [viewV] at hv
  | .ref _ _, _, _, _, _, _, hv, _ => by simp [viewV] at hv
  | .ci _ _, _, _, _, _, _, hv, _ => by simp [viewV] at hv
  | .asl _ _ _ _, _, _, _, _, _, hv, _ => by simp [viewV] at hv
  | .ep ps, n, x, ls, os, p, hv, hx => by
    simp only [viewV] at hv
    split at hv
    · split at hv
      · cases hv; simp only [opqP, RlX]
      · cases hv
    · cases hv
  | .tup _, _, _, _, _, _, hv, _ => by simp [viewV] at hv
  | .clos f ps, n, x, ls, os, p, hv, hx => by
    simp only [viewV] at hv
    split at hv
    · rename_i f' xs
      cases hc : Nat.beq f f' with
      | false => rw [hc] at hv; cases hv
      | true =>
        rw [hc, cond_true] at hv
        simp only [RvX] at hx; obtain ⟨qs, rfl, hl⟩ := hx
        simp only [opqP]
        exact views_opq ps hv hl
    · cases hv
  | .yield _, _, _, _, _, _, hv, _ => by simp [viewV] at hv
theorem views_opq {sh : Sh} {nx : Nat} {bx : List (Nat × XBox)} : ∀ (ps : List VP) {n : Nat} {xs : List XV} {ls : List Leaf} {os : List XV} {qs : List PV}, viewVs bx n ps xs = some (ls, os) → RlX G sh nx m xs qs → RlX G sh nx m os (opqPs ps qs)
  | [], n, xs, ls, os, qs, hv, hx => by
    simp only [viewVs] at hv
    split at hv
    · cases hv; simp only [opqPs, RlX]
    · cases hv
  | p :: ps, n, xs, ls, os, qs, hv, hx => by
    simp only [viewVs] at hv
    split at hv
    · cases hv
    · rename_i x xs
      split at hv
      · rename_i l1 o1 e1
        split at hv
        · rename_i l2 o2 e2
          cases hv
          simp only [RlX] at hx; obtain ⟨q, r, rfl, h1, h2⟩ := hx
          simp only [opqPs]
          exact (view_opq p e1 h1).append (views_opq ps e2 h2)
        · cases hv
      · cases hv
end
mutual
theorem viewV_ok (h : XRM G A xm m) (R : RR (fun _ => True) m g w g1 false) : ∀ (vp : VP) {n : Nat} {x : XV} {ls : List Leaf} {os : List XV} {p : PV} {u : Value}, viewV xm.bx n vp x = some (ls, os) → RvX G (shB xm.bx) xm.nx m x p → RV g w p u →
    ∃ uo, RL g w (opqP vp p) uo ∧ uo.length = os.length ∧ ∀ O : Nat → PV, (∀ j v, uo[j]? = some v → O (n + j) = .v v) → ∃ x' p', (∀ rest, encV vp (ls ++ rest) = some (x', rest)) ∧ RvX (gn0 O) sh0 0 mem0 x' p' ∧ RV g1 w p' u
  | .i k, n, x, ls, os, p, u, hv, hx, hr => by
    simp only [viewV] at hv
    split at hv
    · rename_i k' n
      split at hv
      · rename_i e _; cases hv; subst e
        simp only [RvX] at hx; subst hx
        exact ⟨[], by simp only [opqP, RL], rfl, fun O _ => ⟨.i k' n, .v (.int k' n), fun _ => rfl, by simp only [RvX], by simp only [RV] at hr ⊢; exact hr⟩⟩
      · cases hv
    · cases hv
  | .b, n, x, ls, os, p, u, hv, hx, hr => by
    simp only [viewV] at hv
    split at hv
    · rename_i t
      cases hv
      simp only [RvX] at hx; subst hx
      exact ⟨[], by simp only [opqP, RL], rfl, fun O _ => ⟨.b t, .v (.bool t), fun _ => rfl, by simp only [RvX], by simp only [RV] at hr ⊢; exact hr⟩⟩
    · cases hv
  | .s, n, x, ls, os, p, u, hv, hx, hr => by
    simp only [viewV] at hv
    split at hv
    · rename_i y
      cases hv
      simp only [RvX] at hx; subst hx
      exact ⟨[], by simp only [opqP, RL], rfl, fun O _ => ⟨.s y, .v (.string y), fun _ => rfl, by simp only [RvX], by simp only [RV] at hr ⊢; exact hr⟩⟩
    · cases hv
  | .sl fr cs, n, x, ls, os, p, u, hv, hx, hr => by
    simp only [viewV] at hv
    cases fr with
    | true => cases hv
    | false =>
    rw [cond_false] at hv
    split at hv
    · rename_i l ho hh
      cases hv
      obtain ⟨es, h1, h2⟩ := hideX_ok h hh hx (fun _ => True) (fun _ _ => trivial) (fun _ _ _ => trivial)
      refine ⟨[], by simp only [opqP, RL], rfl, fun O _ => ⟨.sl false cs l, .sl false (l.map (pvL false cs)), fun rest => by simp only [List.cons_append, List.nil_append, encV, castL_self], ?_, reE R (fun h => by cases h) h1 h2 hr⟩⟩
      simp only [RvX]
      exact ⟨_, .inl ⟨false, rfl, fun h => by cases h⟩, re_pv id l⟩
    · cases hv
  | .opq j, n, x, ls, os, p, u, hv, hx, hr => by
    simp only [viewV] at hv
    cases hc : (Nat.beq j n && x.one) with
    | false => rw [hc] at hv; cases hv
    | true =>
      rw [hc] at hv
      cases hv
      have e := Nat.eq_of_beq_eq_true (and_l hc)
      subst e
      have h1 := hr.one (one_ok hx (and_r hc))
      refine ⟨[u], by simp only [opqP, RL]; exact ⟨u, [], rfl, hr, rfl⟩, rfl, fun O hO => ⟨.opq j, .v u, fun _ => rfl, ?_, by simp only [RV]⟩⟩
      simp only [RvX, gn0]
      exact ⟨(hO 0 u rfl).symm, by simpa [PV.one] using h1⟩
  | .agg ps, n, x, ls, os, p, u, hv, hx, hr => by
    simp only [viewV] at hv
    split at hv
    · rename_i xs
      simp only [RvX] at hx; obtain ⟨qs, rfl, hl⟩ := hx
      simp only [RV] at hr; obtain ⟨us, rfl, hrl⟩ := hr
      obtain ⟨uo, k1, k2, k3⟩ := viewVs_ok h R ps hv hl hrl
      refine ⟨uo, by simp only [opqP]; exact k1, k2, fun O hO => ?_⟩
      obtain ⟨xs', ps', h1, h2, h3⟩ := k3 O hO
      exact ⟨.agg xs', .agg ps', fun rest => by simp only [encV, h1], by simp only [RvX]; exact ⟨ps', rfl, h2⟩, by simp only [RV]; exact ⟨us, rfl, h3⟩⟩
    · cases hv
  | .any, _, _, _, _, _, _, hv, _, _ => by simp [viewV] at hv
  | .skip, _, _, _, _, _, _, hv, _, _ => by simp [viewV] at hv
  | .nil, _, _, _, _, _, _, hv, _, _ => by simp [viewV] at hv
  | .row _, _, _, _, _, _, _, hv, _, _ => by simp [viewV] at hv
  | .rsub _, _, _, _, _, _, _, hv, _, _ => by simp [viewV] at hv
  | .ref _ _, _, _, _, _, _, _, hv, _, _ => by simp [viewV] at hv
  | .ci _ _, _, _, _, _, _, _, hv, _, _ => by simp [viewV] at hv
  | .asl _ _ _ _, _, _, _, _, _, _, hv, _, _ => by simp [viewV] at hv
  | .ep ps, n, x, ls, os, p, u, hv, hx, hr => by
    simp only [viewV] at hv
    split at hv
    · rename_i xs
      split at hv
      · rename_i l hl
        cases hv
        obtain ⟨hf, he⟩ := viewFs_ok hl
        simp only [RvX] at hx; obtain ⟨qs, hep, hrl⟩ := hx
        refine ⟨[], by simp only [opqP, RL], rfl, fun O _ => ⟨.ep xs, .ep false (xs.map flatPV), fun rest => by simp only [encV, he], ?_, re_ep R hf hep hrl hr⟩⟩
        simp only [RvX]
        exact ⟨_, .inl ⟨false, rfl⟩, rl_flat hf⟩
      · cases hv
    · cases hv
  | .tup _, _, _, _, _, _, _, hv, _, _ => by simp [viewV] at hv
  | .clos f ps, n, x, ls, os, p, u, hv, hx, hr => by
    simp only [viewV] at hv
    split at hv
    · rename_i f' xs
      cases hc : Nat.beq f f' with
      | false => rw [hc] at hv; cases hv
      | true =>
        rw [hc, cond_true] at hv
        have e := Nat.eq_of_beq_eq_true hc
        subst e
        simp only [RvX] at hx; obtain ⟨qs, rfl, hl⟩ := hx
        simp only [RV] at hr; obtain ⟨us, rfl, hrl⟩ := hr
        obtain ⟨uo, k1, k2, k3⟩ := viewVs_ok h R ps hv hl hrl
        refine ⟨uo, by simp only [opqP]; exact k1, k2, fun O hO => ?_⟩
        obtain ⟨xs', ps', h1, h2, h3⟩ := k3 O hO
        exact ⟨.clos f xs', .clos f ps', fun rest => by simp only [encV, h1], by simp only [RvX]; exact ⟨ps', rfl, h2⟩, by simp only [RV]; exact ⟨us, rfl, h3⟩⟩
    · cases hv
  | .yield _, _, _, _, _, _, _, hv, _, _ => by simp [viewV] at hv
theorem viewVs_ok (h : XRM G A xm m) (R : RR (fun _ => True) m g w g1 false) : ∀ (ps : List VP) {n : Nat} {xs : List XV} {ls : List Leaf} {os : List XV} {qs : List PV} {us : List Value}, viewVs xm.bx n ps xs = some (ls, os) → RlX G (shB xm.bx) xm.nx m xs qs → RL g w qs us →
    ∃ uo, RL g w (opqPs ps qs) uo ∧ uo.length = os.length ∧ ∀ O : Nat → PV, (∀ j v, uo[j]? = some v → O (n + j) = .v v) → ∃ xs' qs', (∀ rest, encVs ps (ls ++ rest) = some (xs', rest)) ∧ RlX (gn0 O) sh0 0 mem0 xs' qs' ∧ RL g1 w qs' us
  | [], n, xs, ls, os, qs, us, hv, hx, hr => by
    simp only [viewVs] at hv
    split at hv
    · cases hv
      simp only [RlX] at hx; subst hx
      exact ⟨[], by simp only [opqPs, RL], rfl, fun O _ => ⟨[], [], fun _ => rfl, by simp only [RlX], by simp only [RL] at hr ⊢; exact hr⟩⟩
    · cases hv
  | p :: ps, n, xs, ls, os, qs, us, hv, hx, hr => by
    simp only [viewVs] at hv
    split at hv
    · cases hv
    · rename_i x xs
      split at hv
      · rename_i l1 o1 e1
        split at hv
        · rename_i l2 o2 e2
          cases hv
          simp only [RlX] at hx; obtain ⟨q, r, rfl, h1, h2⟩ := hx
          simp only [RL] at hr; obtain ⟨u, us, rfl, k1, k2⟩ := hr
          obtain ⟨ua, a1, a2, a3⟩ := viewV_ok h R p e1 h1 k1
          obtain ⟨ub, b1, b2, b3⟩ := viewVs_ok h R ps e2 h2 k2
          refine ⟨ua ++ ub, by simp only [opqPs]; exact RL.append a1 b1, by simp [a2, b2], fun O hO => ?_⟩
          obtain ⟨x', p', j1, j2, j3⟩ := a3 O fun j v hj => hO j v (by rw [List.getElem?_append_left (List.getElem?_eq_some_iff.1 hj).1]; exact hj)
          obtain ⟨xs', qs', i1, i2, i3⟩ := b3 O fun j v hj => by
            rw [Nat.add_assoc]
            refine hO (o1.length + j) v ?_
            rw [List.getElem?_append_right (by omega), a2, Nat.add_sub_cancel_left]; exact hj
          exact ⟨x' :: xs', p' :: qs', fun rest => by rw [List.append_assoc]; simp only [encVs, j1, i1], by simp only [RlX]; exact ⟨p', qs', rfl, j2, i2⟩, by simp only [RL]; exact ⟨u, us, rfl, j3, i3⟩⟩
        · cases hv
      · cases hv
end
end
end Go.Proofs.Ytcbhmedknbiffaa
