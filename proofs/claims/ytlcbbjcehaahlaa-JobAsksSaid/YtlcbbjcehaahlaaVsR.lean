/-
  The layer VS: a call whose memory is its own: what it hands back is frozen, its boxes are let go.
-/
import Derived.Test.YtlcbbjcehaahlaaVsQ
namespace Go.Proofs.Ytlcbbjcehaahlaa
open Go Go.RowKit

/-! ### Which boxes a value speaks of -/

mutual
def refsB (nb : Nat) : PV → Bool
  | .any => true
  | .v _ => true
  | .agg xs => refsBs nb xs
  | .tup xs => refsBs nb xs
  | .sl _ es => refsBss nb es
  | .row k _ _ _ => decide (k < nb)
  | .rp k _ _ _ => decide (k < nb)
  | .ref k _ => decide (k < nb)
  | .asl k _ _ _ => decide (k < nb)
  | .ep _ cs => refsBs nb cs
  | .clos _ caps => refsBs nb caps
  | .yield _ => true
  | .mp k => decide (k < nb)
def refsBs (nb : Nat) : List PV → Bool
  | [] => true
  | x :: xs => refsB nb x && refsBs nb xs
def refsBss (nb : Nat) : List (List PV) → Bool
  | [] => true
  | e :: es => refsBs nb e && refsBss nb es
end

mutual
theorem RV.refs {g w nb} (h : ∀ k, g.dom k → k < nb) : ∀ (x : PV) (u : Value), RV g w x u → refsB nb x = true
  | .any, _, _ => by simp only [refsB]
  | .v _, _, _ => by simp only [refsB]
  | .agg xs, _, hr => by simp only [RV] at hr; obtain ⟨cs, _, hl⟩ := hr; simp only [refsB]; exact RL.refs h xs cs hl
  | .tup xs, _, hr => by simp only [RV] at hr; obtain ⟨cs, _, hl⟩ := hr; simp only [refsB]; exact RL.refs h xs cs hl
  | .sl _ es, _, hr => by simp only [RV] at hr; obtain ⟨a, cap, sz, b, off, _, _, _, _, _, h5⟩ := hr; simp only [refsB]; exact RE.refs h es sz b off h5
  | .row k _ _ _, _, hr => by simp only [RV] at hr; simp only [refsB, decide_eq_true_eq]; exact h k hr.1
  | .rp k _ _ _, _, hr => by simp only [RV] at hr; simp only [refsB, decide_eq_true_eq]; exact h k hr.1
  | .ref k _, _, hr => by simp only [RV] at hr; simp only [refsB, decide_eq_true_eq]; exact h k hr.1
  | .asl k _ _ _, _, hr => by simp only [RV] at hr; simp only [refsB, decide_eq_true_eq]; exact h k hr.1
  | .ep _ cs, _, hr => by simp only [RV] at hr; obtain ⟨b, off, _, _, hm⟩ := hr; simp only [refsB]; exact RM.refs h cs b off hm
  | .clos _ caps, _, hr => by simp only [RV] at hr; obtain ⟨cs, _, hl⟩ := hr; simp only [refsB]; exact RL.refs h caps cs hl
  | .yield _, _, _ => by simp only [refsB]
  | .mp k, _, hr => by simp only [RV] at hr; simp only [refsB, decide_eq_true_eq]; exact h k hr.1
theorem RL.refs {g w nb} (h : ∀ k, g.dom k → k < nb) : ∀ (xs : List PV) (cs : List Value), RL g w xs cs → refsBs nb xs = true
  | [], _, _ => by simp only [refsBs]
  | x :: xs, _, hr => by simp only [RL] at hr; obtain ⟨c, r, _, h1, h2⟩ := hr; simp only [refsBs, Bool.and_eq_true]; exact ⟨RV.refs h x c h1, RL.refs h xs r h2⟩
theorem RM.refs {g w nb} (h : ∀ k, g.dom k → k < nb) : ∀ (xs : List PV) (b off : Nat), RM g w b off xs → refsBs nb xs = true
  | [], _, _, _ => by simp only [refsBs]
  | x :: xs, b, off, hr => by simp only [RM] at hr; obtain ⟨_, ⟨u, _, hx⟩, hm⟩ := hr; simp only [refsBs, Bool.and_eq_true]; exact ⟨RV.refs h x u hx, RM.refs h xs b (off + 1) hm⟩
theorem RE.refs {g w nb} (h : ∀ k, g.dom k → k < nb) : ∀ (es : List (List PV)) (sz b off : Nat), RE g w sz b off es → refsBss nb es = true
  | [], _, _, _, _ => by simp only [refsBss]
  | e :: es, sz, b, off, hr => by simp only [RE] at hr; simp only [refsBss, Bool.and_eq_true]; exact ⟨RM.refs h e b off hr.2.1, RE.refs h es sz b (off + sz) hr.2.2⟩
end

theorem RC.refs {g w nb} (h : ∀ k, g.dom k → k < nb) : ∀ (es : List (List PV)) (sz : Nat) (cs : List Value), RC g w sz es cs → refsBss nb es = true
  | [], _, _, _ => by simp only [refsBss]
  | e :: es, sz, cs, hr => by
    simp only [RC] at hr
    obtain ⟨_, c, r, _, h1, h2⟩ := hr
    simp only [refsBss, Bool.and_eq_true]; exact ⟨RL.refs h e c h1, RC.refs h es sz r h2⟩

/-- Ghosts that have lost the boxes from nb on. -/
structure Sub (nb : Nat) (g g' : Gh) : Prop where
  p : ∀ b o, g.p b o → g'.p b o
  base : g'.base = g.base
  dom : ∀ k, k < nb → g.dom k → g'.dom k
  gb : g'.gb = g.gb
  ls : g'.ls = g.ls

mutual
theorem RV.sub {nb g g' w} (h : Sub nb g g') : ∀ (x : PV) (u : Value), refsB nb x = true → RV g w x u → RV g' w x u
  | .any, _, _, _ => by simp only [RV]
  | .v _, _, _, hr => by simp only [RV] at hr ⊢; exact hr
  | .agg xs, _, hb, hr => by simp only [RV] at hr ⊢; simp only [refsB] at hb; obtain ⟨cs, e, hl⟩ := hr; exact ⟨cs, e, RL.sub h xs cs hb hl⟩
  | .tup xs, _, hb, hr => by simp only [RV] at hr ⊢; simp only [refsB] at hb; obtain ⟨cs, e, hl⟩ := hr; exact ⟨cs, e, RL.sub h xs cs hb hl⟩
  | .sl _ es, _, hb, hr => by
    simp only [RV] at hr ⊢; simp only [refsB] at hb
    obtain ⟨a, cap, sz, b, off, e, h1, h2, h3, h4, h5⟩ := hr
    exact ⟨a, cap, sz, b, off, e, h1, h2, h3, fun hf => by rw [h.base]; exact h4 hf, RE.sub h es sz b off hb h5⟩
  | .row k _ _ _, _, hb, hr => by simp only [RV] at hr ⊢; simp only [refsB, decide_eq_true_eq] at hb; rw [h.gb]; exact ⟨h.dom k hb hr.1, hr.2⟩
  | .rp k _ _ _, _, hb, hr => by simp only [RV] at hr ⊢; simp only [refsB, decide_eq_true_eq] at hb; rw [h.gb]; exact ⟨h.dom k hb hr.1, hr.2⟩
  | .ref k _, _, hb, hr => by simp only [RV] at hr ⊢; simp only [refsB, decide_eq_true_eq] at hb; rw [h.gb]; exact ⟨h.dom k hb hr.1, hr.2⟩
  | .asl k _ _ _, _, hb, hr => by simp only [RV] at hr ⊢; simp only [refsB, decide_eq_true_eq] at hb; rw [h.gb]; exact ⟨h.dom k hb hr.1, hr.2⟩
  | .mp k, _, hb, hr => by simp only [RV] at hr ⊢; simp only [refsB, decide_eq_true_eq] at hb; rw [h.gb]; exact ⟨h.dom k hb hr.1, hr.2⟩
  | .ep _ cs, _, hb, hr => by
    simp only [RV] at hr ⊢; simp only [refsB] at hb
    obtain ⟨b, off, e, hf, hm⟩ := hr
    exact ⟨b, off, e, fun x => by rw [h.base]; exact hf x, RM.sub h cs b off hb hm⟩
  | .clos _ caps, _, hb, hr => by simp only [RV] at hr ⊢; simp only [refsB] at hb; obtain ⟨cs, e, hl⟩ := hr; exact ⟨cs, e, RL.sub h caps cs hb hl⟩
  | .yield _, _, _, hr => by simp only [RV] at hr ⊢; exact hr
theorem RL.sub {nb g g' w} (h : Sub nb g g') : ∀ (xs : List PV) (cs : List Value), refsBs nb xs = true → RL g w xs cs → RL g' w xs cs
  | [], _, _, hr => by simp only [RL] at hr ⊢; exact hr
  | x :: xs, _, hb, hr => by
    simp only [RL] at hr ⊢; simp only [refsBs, Bool.and_eq_true] at hb
    obtain ⟨c, r, e, h1, h2⟩ := hr; exact ⟨c, r, e, RV.sub h x c hb.1 h1, RL.sub h xs r hb.2 h2⟩
theorem RM.sub {nb g g' w} (h : Sub nb g g') : ∀ (xs : List PV) (b off : Nat), refsBs nb xs = true → RM g w b off xs → RM g' w b off xs
  | [], _, _, _, _ => by simp only [RM]
  | x :: xs, b, off, hb, hr => by
    simp only [RM] at hr ⊢; simp only [refsBs, Bool.and_eq_true] at hb
    obtain ⟨hp, ⟨u, hu, hx⟩, hm⟩ := hr
    exact ⟨h.p _ _ hp, ⟨u, hu, RV.sub h x u hb.1 hx⟩, RM.sub h xs b (off + 1) hb.2 hm⟩
theorem RE.sub {nb g g' w} (h : Sub nb g g') : ∀ (es : List (List PV)) (sz b off : Nat), refsBss nb es = true → RE g w sz b off es → RE g' w sz b off es
  | [], _, _, _, _, _ => by simp only [RE]
  | e :: es, sz, b, off, hb, hr => by
    simp only [RE] at hr ⊢; simp only [refsBss, Bool.and_eq_true] at hb
    exact ⟨hr.1, RM.sub h e b off hb.1 hr.2.1, RE.sub h es sz b (off + sz) hb.2 hr.2.2⟩
end

theorem RC.sub {nb g g' w} (h : Sub nb g g') : ∀ (es : List (List PV)) (sz : Nat) (cs : List Value), refsBss nb es = true → RC g w sz es cs → RC g' w sz es cs
  | [], _, _, _, _ => by simp only [RC]
  | e :: es, sz, cs, hb, hr => by
    simp only [RC] at hr ⊢; simp only [refsBss, Bool.and_eq_true] at hb
    obtain ⟨h1, c, r, h2, h3, h4⟩ := hr
    exact ⟨h1, c, r, h2, RL.sub h e c hb.1 h3, RC.sub h es sz r hb.2 h4⟩

/-! ### Freezing -/

def mapO (f : PV → Option PV) : List PV → Option (List PV)
  | [] => some []
  | x :: xs => match f x, mapO f xs with
    | some y, some ys => some (y :: ys)
    | _, _ => none
def mapOO (f : PV → Option PV) : List (List PV) → Option (List (List PV))
  | [] => some []
  | e :: es => match mapO f e, mapOO f es with
    | some y, some ys => some (y :: ys)
    | _, _ => none

def frz (nb : Nat) (bx : Nat → Box) : Nat → PV → Option PV
  | 0, x => if refsB nb x = true then some x else none
  | d + 1, .agg xs => (mapO (frz nb bx d) xs).map .agg
  | d + 1, .tup xs => (mapO (frz nb bx d) xs).map .tup
  | d + 1, .clos f caps => (mapO (frz nb bx d) caps).map (.clos f)
  | d + 1, .sl fr es => (mapOO (frz nb bx d) es).map (.sl fr)
  | d + 1, .ep fr cs => (mapO (frz nb bx d) cs).map (.ep fr)
  | d + 1, .row k sz i n => if k < nb then some (.row k sz i n) else match bx k with
    | .row sz' es => if sz' = sz ∧ i + n ≤ es.length then (mapOO (frz nb bx d) ((es.drop i).take n)).map (.sl true) else none
    | _ => none
  | d + 1, .ref k off => if k < nb then some (.ref k off) else match bx k with
    | .cells xs => (mapO (frz nb bx d) (xs.drop off)).map (.ep true)
    | _ => none
  | _ + 1, .v x => some (.v x)
  | _ + 1, .any => some .any
  | _ + 1, .rp k a b c => if refsB nb (.rp k a b c) = true then some (.rp k a b c) else none
  | _ + 1, .asl k a b c => if refsB nb (.asl k a b c) = true then some (.asl k a b c) else none
  | _ + 1, .yield L => some (.yield L)
  | _ + 1, .mp k => if refsB nb (.mp k) = true then some (.mp k) else none

theorem mapO_get {f : PV → Option PV} : ∀ {xs ys : List PV}, mapO f xs = some ys → ys.length = xs.length ∧ ∀ (i : Nat) (y : PV), ys[i]? = some y → ∃ x, xs[i]? = some x ∧ f x = some y
  | [], ys, h => by simp only [mapO, Option.some.injEq] at h; subst h; exact ⟨rfl, fun i y hy => by simp at hy⟩
  | x :: xs, ys, h => by
    simp only [mapO] at h
    split at h
    · rename_i y ys' h1 h2
      cases h
      obtain ⟨k1, k2⟩ := mapO_get h2
      refine ⟨by simp [k1], fun i z hz => ?_⟩
      cases i with
      | zero => simp only [List.getElem?_cons_zero, Option.some.injEq] at hz; subst hz; exact ⟨x, rfl, h1⟩
      | succ i => simp only [List.getElem?_cons_succ] at hz ⊢; exact k2 i z hz
    · cases h

theorem mapOO_get {f : PV → Option PV} : ∀ {xs ys : List (List PV)}, mapOO f xs = some ys → ys.length = xs.length ∧ ∀ (i : Nat) (y : List PV), ys[i]? = some y → ∃ x, xs[i]? = some x ∧ mapO f x = some y
  | [], ys, h => by simp only [mapOO, Option.some.injEq] at h; subst h; exact ⟨rfl, fun i y hy => by simp at hy⟩
  | x :: xs, ys, h => by
    simp only [mapOO] at h
    split at h
    · rename_i y ys' h1 h2
      cases h
      obtain ⟨k1, k2⟩ := mapOO_get h2
      refine ⟨by simp [k1], fun i z hz => ?_⟩
      cases i with
      | zero => simp only [List.getElem?_cons_zero, Option.some.injEq] at hz; subst hz; exact ⟨x, rfl, h1⟩
      | succ i => simp only [List.getElem?_cons_succ] at hz ⊢; exact k2 i z hz
    · cases h

section
variable {g g' : Gh} {w : World} {f : PV → Option PV}

theorem RL.mapO (hf : ∀ x u r, RV g w x u → f x = some r → RV g' w r u) {xs ys : List PV} {cs : List Value} (h : RL g w xs cs) (hm : mapO f xs = some ys) : RL g' w ys cs := by
  obtain ⟨h1, h2⟩ := mapO_get hm
  refine RL.of_get (h1.trans (RL.length h)) fun j y c hy hc => ?_
  obtain ⟨x, hx, hfx⟩ := h2 j y hy
  obtain ⟨c', hc', hr⟩ := RL.get h j x hx
  rw [hc] at hc'; cases hc'
  exact hf x c y hr hfx

theorem RM.of_cells {b : Nat} (hf : ∀ x u r, RV g w x u → f x = some r → RV g' w r u) (hp : ∀ o, g'.p b o) : ∀ {xs ys : List PV} {cs : List Value} {off : Nat}, RL g w xs cs → mapO f xs = some ys → (∀ j c, cs[j]? = some c → w.cell? ⟨b, off + j, none⟩ = some c) → RM g' w b off ys
  | [], ys, cs, off, _, hm, _ => by simp only [Proofs.Ytlcbbjcehaahlaa.mapO, Option.some.injEq] at hm; subst hm; simp only [RM]
  | x :: xs, ys, cs, off, hl, hm, hc => by
    simp only [Proofs.Ytlcbbjcehaahlaa.mapO] at hm
    split at hm
    · rename_i y ys' h1 h2
      cases hm
      simp only [RL] at hl
      obtain ⟨c, r, rfl, k1, k2⟩ := hl
      simp only [RM]
      refine ⟨hp _, ⟨c, by have := hc 0 c rfl; simpa using this, hf x c y k1 h1⟩, RM.of_cells hf hp k2 h2 fun j d hd => ?_⟩
      have := hc (j + 1) d (by simpa using hd)
      rw [show off + 1 + j = off + (j + 1) by omega]; exact this
    · cases hm

theorem RM.mapO {b : Nat} (hf : ∀ x u r, RV g w x u → f x = some r → RV g' w r u) (hp : ∀ b o, g.p b o → g'.p b o) : ∀ {xs ys : List PV} {off : Nat}, RM g w b off xs → mapO f xs = some ys → RM g' w b off ys
  | [], ys, off, _, hm => by simp only [Proofs.Ytlcbbjcehaahlaa.mapO, Option.some.injEq] at hm; subst hm; simp only [RM]
  | x :: xs, ys, off, hl, hm => by
    simp only [Proofs.Ytlcbbjcehaahlaa.mapO] at hm
    split at hm
    · rename_i y ys' h1 h2
      cases hm
      simp only [RM] at hl ⊢
      obtain ⟨k1, ⟨u, hu, hx⟩, k2⟩ := hl
      exact ⟨hp _ _ k1, ⟨u, hu, hf x u y hx h1⟩, RM.mapO hf hp k2 h2⟩
    · cases hm

theorem mapO_length {xs ys : List PV} (h : Proofs.Ytlcbbjcehaahlaa.mapO f xs = some ys) : ys.length = xs.length := (mapO_get h).1

theorem RE.mapOO {b sz : Nat} (hf : ∀ x u r, RV g w x u → f x = some r → RV g' w r u) (hp : ∀ b o, g.p b o → g'.p b o) {es rs : List (List PV)} {off : Nat} (h : RE g w sz b off es) (hm : mapOO f es = some rs) : RE g' w sz b off rs := by
  obtain ⟨_, h2⟩ := mapOO_get hm
  refine RE.of_get fun i r hr => ?_
  obtain ⟨e, he, hme⟩ := h2 i r hr
  obtain ⟨k1, k2⟩ := RE.get h i e he
  exact ⟨(mapO_length hme).trans k1, RM.mapO hf hp k2 hme⟩

theorem frz_ok {bx : Nat → Box} {nb : Nat} (hS : Sub nb g g') (hbox : ∀ k, g.dom k → BoxOK g w (g.gb k) (bx k)) (hp : ∀ k, nb ≤ k → g.dom k → (bx k).owns (g.gb k).cap = true → (∀ o, g'.p (g.gb k).b o) ∧ g.base ≤ (g.gb k).b) :
    ∀ (d : Nat) (x : PV) (u : Value) (r : PV), RV g w x u → frz nb bx d x = some r → RV g' w r u
  | 0, x, u, r, hr, hf => by
    simp only [frz] at hf
    split at hf
    · cases hf; exact RV.sub hS _ _ (by assumption) hr
    · cases hf
  | d + 1, x, u, r, hr, hf => by
    have ih := frz_ok hS hbox hp d
    cases x with
    | agg xs =>
      simp only [frz] at hf
      obtain ⟨ys, hy, e⟩ := Option.map_eq_some_iff.1 hf
      subst e
      simp only [RV] at hr ⊢
      obtain ⟨cs, e, hl⟩ := hr
      exact ⟨cs, e, RL.mapO ih hl hy⟩
    | tup xs =>
      simp only [frz] at hf
      obtain ⟨ys, hy, e⟩ := Option.map_eq_some_iff.1 hf
      subst e
      simp only [RV] at hr ⊢
      obtain ⟨cs, e, hl⟩ := hr
      exact ⟨cs, e, RL.mapO ih hl hy⟩
    | clos f xs =>
      simp only [frz] at hf
      obtain ⟨ys, hy, e⟩ := Option.map_eq_some_iff.1 hf
      subst e
      simp only [RV] at hr ⊢
      obtain ⟨cs, e, hl⟩ := hr
      exact ⟨cs, e, RL.mapO ih hl hy⟩
    | sl fr es =>
      simp only [frz] at hf
      obtain ⟨ys, hy, e⟩ := Option.map_eq_some_iff.1 hf
      subst e
      simp only [RV] at hr ⊢
      obtain ⟨a, cap, sz, b, off, e, h1, h2, h3, h4, h5⟩ := hr
      have hlen := (mapOO_get hy).1
      refine ⟨a, cap, sz, b, off, by rw [hlen]; exact e, by rw [hlen]; exact h1, h2, fun hne => h3 ?_, fun hh => by rw [hS.base]; exact h4 hh, RE.mapOO ih hS.p h5 hy⟩
      cases es with
      | nil => simp only [List.length_nil, List.length_eq_zero_iff] at hlen; subst hlen; simp at hne
      | cons => rfl
    | ep fr cs =>
      simp only [frz] at hf
      obtain ⟨ys, hy, e⟩ := Option.map_eq_some_iff.1 hf
      subst e
      simp only [RV] at hr ⊢
      obtain ⟨b, off, e, hh, hm⟩ := hr
      exact ⟨b, off, e, fun h => by rw [hS.base]; exact hh h, RM.mapO ih hS.p hm hy⟩
    | row k sz i n =>
      simp only [frz] at hf
      split at hf
      · rename_i hk; cases hf; exact RV.sub hS _ _ (by simpa [refsB] using hk) hr
      · rename_i hk
        split at hf
        · rename_i sz' es hb
          split at hf
          · rename_i hc
            obtain ⟨rs, hrs, e⟩ := Option.map_eq_some_iff.1 hf
            subst e
            obtain ⟨rfl, hle⟩ := hc
            simp only [RV] at hr ⊢
            obtain ⟨hd, a, cap, e, h1, h2, h3⟩ := hr
            have hbk := hbox k hd
            rw [hb] at hbk
            obtain ⟨b1, b2, b3⟩ := hbk
            have hlen : rs.length = n := by rw [(mapOO_get hrs).1, List.length_take, List.length_drop]; omega
            by_cases hc0 : cap = 0
            · have : rs = [] := by rw [← List.length_eq_zero_iff]; omega
              subst this
              refine ⟨a, cap, sz', g.base, 0, by rw [hlen]; exact e, by rw [hlen]; exact h1, h2, fun h => by simp at h, fun _ => by rw [hS.base]; exact Nat.le_refl _, by simp only [RE]⟩
            · obtain ⟨ha, hcap⟩ := h3 hc0
              have hG : (g.gb k).cap ≠ 0 := by omega
              obtain ⟨cs, ty, hh, hsz, hrc⟩ := b3 hG
              obtain ⟨hpin, hbase⟩ := hp k (by omega) hd (by rw [hb]; simpa [Box.owns] using hG)
              refine ⟨a, cap, sz', (g.gb k).b, (g.gb k).off + i * sz', by rw [hlen]; exact e, by rw [hlen]; exact h1, h2, fun _ => ha, fun _ => by rw [hS.base]; exact hbase, ?_⟩
              refine RE.of_get fun j r hr => ?_
              obtain ⟨e1, he1, hme⟩ := (mapOO_get hrs).2 j r hr
              have he2 : es[i + j]? = some e1 := by
                rw [List.getElem?_take] at he1
                split at he1
                · rwa [List.getElem?_drop] at he1
                · cases he1
              obtain ⟨l1, c, l2, l3⟩ := RC.get hrc (i + j) e1 he2
              refine ⟨(mapO_length hme).trans l1, RM.of_cells ih hpin l2 hme fun q v hv => ?_⟩
              have := l3 q v hv
              rw [cell_of_heap hh]
              rw [List.getElem?_drop, Array.getElem?_toList] at this
              rw [← this]; congr 1
              rw [Nat.add_mul]; omega
          · cases hf
        · cases hf
    | ref k off =>
      simp only [frz] at hf
      split at hf
      · rename_i hk; cases hf; exact RV.sub hS _ _ (by simpa [refsB] using hk) hr
      · rename_i hk
        split at hf
        · rename_i xs hb
          obtain ⟨rs, hrs, e⟩ := Option.map_eq_some_iff.1 hf
          subst e
          simp only [RV] at hr ⊢
          obtain ⟨hd, e⟩ := hr
          have hbk := hbox k hd
          rw [hb] at hbk
          obtain ⟨h0, cs, ty, hh, hl⟩ := hbk
          obtain ⟨hpin, hbase⟩ := hp k (by omega) hd (by rw [hb]; rfl)
          refine ⟨(g.gb k).b, off, e, fun _ => by rw [hS.base]; exact hbase, RM.of_cells ih hpin (hl.drop off) hrs fun j c hc => ?_⟩
          rw [cell_of_heap hh]
          rw [List.getElem?_drop, Array.getElem?_toList] at hc
          exact hc
        · cases hf
    | v x => simp only [frz] at hf; cases hf; simp only [RV] at hr ⊢; exact hr
    | any => simp only [frz] at hf; cases hf; simp only [RV]
    | rp k a b c =>
      simp only [frz] at hf
      split at hf
      · cases hf; exact RV.sub hS _ _ (by assumption) hr
      · cases hf
    | asl k a b c =>
      simp only [frz] at hf
      split at hf
      · cases hf; exact RV.sub hS _ _ (by assumption) hr
      · cases hf
    | yield L => simp only [frz] at hf; cases hf; simp only [RV] at hr ⊢; exact hr
    | mp k =>
      simp only [frz] at hf
      split at hf
      · cases hf; exact RV.sub hS _ _ (by assumption) hr
      · cases hf
end

/-- What a sealed call hands back. -/
def sealQ (m : Mem) (Q : PV → Prop) (r' : PV) (m' : Mem) : Prop :=
  ∃ r, frz m.nb m'.bx 6 r' = some r ∧ (∀ k, k < m.nb → m'.bx k = m.bx k) ∧ m'.ys = m.ys ∧ Q r

/-- **A call whose memory is its own.** -/
theorem SpecM.sealed {T P Y f args m} {Q : PV → Prop} (h : SpecM T P Y f args m (sealQ m Q)) : SpecM T P Y f args m (fun r m' => m' = m ∧ Q r) := by
  refine ⟨h.1, fun cx g w us hy hm hd hl => (h.2 cx g w us hy hm hd hl).mono ?_⟩
  rintro e w' ⟨u, r', g', m', rfl, hr', ⟨h1, h2, h3, h4, h5⟩, r, hf, hbx, hys, hQ⟩
  have hS : Sub m.nb g' { g' with dom := fun k => g'.dom k ∧ k < m.nb, p := fun b o => g'.p b o ∨ ∃ k, m.nb ≤ k ∧ Owns g' m' k ∧ (g'.gb k).b = b } :=
    ⟨fun _ _ h => .inl h, rfl, fun k hk hd => ⟨hd, hk⟩, rfl, rfl⟩
  have hgd : ∀ k, g'.dom k → k < m.nb → g.dom k := fun k hk hlt => (h4 k hk).elim id (fun h => absurd hlt (by omega))
  refine ⟨u, r, _, m, rfl, frz_ok hS h1.box (fun k hk hdk ho => ⟨fun o => .inr ⟨k, hk, ⟨hdk, ho⟩, rfl⟩, h1.fresh k ⟨hdk, ho⟩⟩) 6 r' u r hr' hf, ⟨?_, fun k hk => hk.2, Nat.le_refl _, fun k hk => .inl (hgd k hk.1 hk.2), ?_⟩, rfl, hQ⟩
  · have own : ∀ k, Owns { g' with dom := fun k => g'.dom k ∧ k < m.nb, p := fun b o => g'.p b o ∨ ∃ k, m.nb ≤ k ∧ Owns g' m' k ∧ (g'.gb k).b = b } m k → Owns g' m' k ∧ k < m.nb := fun k ho => by
      obtain ⟨⟨a1, a2⟩, a3⟩ := ho
      exact ⟨⟨a1, by rw [hbx k a2]; exact a3⟩, a2⟩
    refine ⟨?_, h1.base, ?_, ?_, ?_, ?_, h1.fix, ?_, ?_⟩
    · rintro b o (hp | ⟨k, _, ho, rfl⟩)
      · exact h1.pin b o hp
      · exact h1.owns_block ho
    · rintro k ⟨hk, hlt⟩
      have hb := h1.box k hk
      have hb0 := hm.box k (hgd k hk hlt)
      rw [hbx k hlt] at hb
      show BoxOK _ w' (g'.gb k) (m.bx k)
      generalize m.bx k = bx at hb hb0
      cases bx with
      | dead => trivial
      | mp kd es =>
        obtain ⟨j0, ms, ck, j1, j2, j3⟩ := hb
        obtain ⟨_, _, _, _, _, i3⟩ := hb0
        exact ⟨j0, ms, ck, j1, j2, RL.sub hS _ _ (RL.refs hd _ _ i3) j3⟩
      | cells xs =>
        obtain ⟨j0, cs, ty, j1, j2⟩ := hb
        obtain ⟨_, cs0, _, _, i2⟩ := hb0
        exact ⟨j0, cs, ty, j1, RL.sub hS _ _ (RL.refs hd _ _ i2) j2⟩
      | row sz es =>
        obtain ⟨j0, jm, j1⟩ := hb
        obtain ⟨_, _, i1⟩ := hb0
        refine ⟨j0, jm, fun hc => ?_⟩
        obtain ⟨cs, ty, j2, j3, j4⟩ := j1 hc
        rw [h5.gx.gb k (hgd k hk hlt)] at hc
        obtain ⟨cs0, _, _, _, i4⟩ := i1 hc
        exact ⟨cs, ty, j2, j3, RC.sub hS _ _ _ (RC.refs hd _ _ _ i4) j4⟩
    · rintro k ho o (hp | ⟨k', hk', ho', e⟩)
      · exact h1.np k (own k ho).1 o hp
      · have := h1.inj k' k ho' (own k ho).1 e
        have := (own k ho).2
        omega
    · intro k k' ho ho' e
      exact h1.inj k k' (own k ho).1 (own k' ho').1 e
    · intro k ho; exact h1.fresh k (own k ho).1
    · rw [← hys]; exact h1.ys
    · intro x hx
      have := h1.glob x hx
      refine RM.sub hS _ _ _ ?_ this
      generalize x.2 = l
      induction l with
      | nil => rfl
      | cons a l ih => simp only [List.map_cons, refsBs, refsB, Bool.true_and]; exact ih
  · refine ⟨⟨fun b o hp => .inl (h5.gx.p b o hp), h5.gx.base, fun k hk => ⟨h5.gx.dom k hk, hd k hk⟩, h5.gx.gb, h5.gx.ls, h5.gx.cell⟩, h5.size, h5.os, h5.tape, h5.output, h5.same, ?_, ?_⟩
    · rintro b o (hp | ⟨k, _, ho, rfl⟩)
      · exact h5.pn b o hp
      · rcases h5.bn k ho with hb | ⟨j0, h0, e0⟩
        · exact .inr (.inl hb)
        · exact .inr (.inr ⟨j0, h0, e0⟩)
    · rintro j ⟨⟨a1, a2⟩, a3⟩
      exact h5.bn j ⟨a1, by rw [hbx j a2]; exact a3⟩

end Go.Proofs.Ytlcbbjcehaahlaa
