/-
  The layer Ev: what typed values say of the pure values of the layer below.
-/
import Derived.Test.YtcbhmedknbiffaaEvA
namespace Go.Proofs.Ytcbhmedknbiffaa
open Go Go.RowKit
structure LO where
  l : Nat
  o : Nat → PV
def NilR (p : PV) : Prop := p = .v (.slice none 0 0)
theorem NilR.elems {p : PV} {bx : Nat → Box} (h : NilR p) : elems bx p = some [] := by
  have e : p = .v (.slice none 0 0) := h; subst e; rfl
theorem NilR.slen {p : PV} (h : NilR p) : slen p = some 0 := by
  have e : p = .v (.slice none 0 0) := h; subst e; rfl
theorem NilR.pnm {p : PV} (h : NilR p) : pnm p = [] := by
  have e : p = .v (.slice none 0 0) := h; subst e; rfl
structure Gn where
  ι : Nat → Nat
  H : Nat → Prop
  U : Nat → Prop
  L : Nat → LO
  P : Nat → Option Nat
def SlR (H : Nat → Prop) (m : Mem) (fr : Bool) (sz : Nat) (p : PV) (es : List (List PV)) : Prop :=
  (∃ f, p = .sl f es ∧ (fr = true → f = true ∨ es = [])) ∨ (p = .v (.slice none 0 0) ∧ es = []) ∨
  (∃ k i n es0, p = .row k sz i n ∧ H k ∧ m.bx k = .row sz es0 ∧ i + n ≤ es0.length ∧ es = (es0.drop i).take n)
def LGet {α : Type} (l : List α) (i : Nat) (x : α) : Prop := l[i]? = some x
mutual
def Rd (H : Nat → Prop) (m : Mem) (fr : Bool) : (c : CT) → Den c → PV → Prop
  | .int k, n, p => p = .v (.int k n)
  | .bool, t, p => p = .v (.bool t)
  | .str, x, p => p = .v (.string x)
  | .sl cs, l, p => ∃ es, SlR H m fr cs.length p es ∧ List.length (α := DenL cs) l = es.length ∧ ∀ (i : Nat) (x : DenL cs) (e : List PV), LGet (α := DenL cs) l i x → es[i]? = some e → RdL H m fr cs x e
def RdL (H : Nat → Prop) (m : Mem) (fr : Bool) : (cs : List CT) → DenL cs → List PV → Prop
  | [], _, ps => ps = []
  | [c], x, ps => ∃ p, ps = [p] ∧ Rd H m fr c x p
  | c :: d :: cs, x, ps => ∃ p r, ps = p :: r ∧ Rd H m fr c x.1 p ∧ RdL H m fr (d :: cs) x.2 r
end
def RdE (H : Nat → Prop) (m : Mem) (fr : Bool) (cs : List CT) (l : List (DenL cs)) (es : List (List PV)) : Prop :=
  l.length = es.length ∧ ∀ (i : Nat) (x : DenL cs) (e : List PV), LGet l i x → es[i]? = some e → RdL H m fr cs x e
structure HX (H : Nat → Prop) (m : Mem) (H' : Nat → Prop) (m' : Mem) : Prop where
  h : ∀ k, H k → H' k
  bx : ∀ k, H k → m'.bx k = m.bx k
theorem HX.refl (H m) : HX H m H m := ⟨fun _ h => h, fun _ _ => rfl⟩
theorem HX.trans {H m H1 m1 H2 m2} (a : HX H m H1 m1) (b : HX H1 m1 H2 m2) : HX H m H2 m2 :=
  ⟨fun k h => b.h k (a.h k h), fun k h => (b.bx k (a.h k h)).trans (a.bx k h)⟩
theorem SlR.mono {H m H' m' fr fr' sz p es} (h : HX H m H' m') (hf : fr' = true → fr = true) (hs : SlR H m fr sz p es) : SlR H' m' fr' sz p es := by
  rcases hs with ⟨f, e, h1⟩ | h1 | ⟨k, i, n, es0, e, h1, h2, h3, h4⟩
  · exact .inl ⟨f, e, fun x => h1 (hf x)⟩
  · exact .inr (.inl h1)
  · exact .inr (.inr ⟨k, i, n, es0, e, h.h k h1, (h.bx k h1).trans h2, h3, h4⟩)
mutual
theorem Rd.mono {H m H' m' fr fr'} (h : HX H m H' m') (hf : fr' = true → fr = true) : ∀ (c : CT) (x : Den c) (p : PV), Rd H m fr c x p → Rd H' m' fr' c x p
  | .int _, _, _, hr => by simp only [Rd] at hr ⊢; exact hr
  | .bool, _, _, hr => by simp only [Rd] at hr ⊢; exact hr
  | .str, _, _, hr => by simp only [Rd] at hr ⊢; exact hr
  | .sl cs, l, p, hr => by
    simp only [Rd] at hr ⊢
    obtain ⟨es, h1, h2, h3⟩ := hr
    exact ⟨es, h1.mono h hf, h2, fun i x e hx he => RdL.mono h hf cs x e (h3 i x e hx he)⟩
theorem RdL.mono {H m H' m' fr fr'} (h : HX H m H' m') (hf : fr' = true → fr = true) : ∀ (cs : List CT) (x : DenL cs) (ps : List PV), RdL H m fr cs x ps → RdL H' m' fr' cs x ps
  | [], _, _, hr => by simp only [RdL] at hr ⊢; exact hr
  | [c], x, ps, hr => by
    simp only [RdL] at hr ⊢; obtain ⟨p, e, h1⟩ := hr; exact ⟨p, e, Rd.mono h hf c x p h1⟩
  | c :: d :: cs, x, ps, hr => by
    simp only [RdL] at hr ⊢
    obtain ⟨p, r, e, h1, h2⟩ := hr
    exact ⟨p, r, e, Rd.mono h hf c _ p h1, RdL.mono h hf (d :: cs) _ r h2⟩
end
theorem RdE.mono {H m H' m' fr fr' cs l es} (h : HX H m H' m') (hf : fr' = true → fr = true) (hr : RdE H m fr cs l es) : RdE H' m' fr' cs l es :=
  ⟨hr.1, fun i x e hx he => RdL.mono h hf cs x e (hr.2 i x e hx he)⟩
theorem NilR.slr {H m fr sz p} (h : NilR p) : SlR H m fr sz p [] := .inr (.inl ⟨h, rfl⟩)
def EpR (H : Nat → Prop) (m : Mem) (p : PV) (ps : List PV) : Prop :=
  (∃ f, p = .ep f ps) ∨ (∃ k sz i off es0 e, p = .rp k sz i off ∧ H k ∧ m.bx k = .row sz es0 ∧ es0[i]? = some e ∧ ps = e.drop off)
theorem EpR.mono {H m H' m' p ps} (h : HX H m H' m') (hs : EpR H m p ps) : EpR H' m' p ps := by
  rcases hs with h1 | ⟨k, sz, i, off, es0, e, h0, h1, h2, h3⟩
  · exact .inl h1
  · exact .inr ⟨k, sz, i, off, es0, e, h0, h.h k h1, (h.bx k h1).trans h2, h3⟩
abbrev Sh := Nat → Option (Option (Nat × Nat))
def shp : XBox → Option (Option (Nat × Nat))
  | .gone => none
  | .cells _ => some none
  | .row _ cs l => some (some (cs.length, l.length))
  | .mp _ _ => some none
  | .pv cs ns => some (some (cs.length, ns.length))
def shB (bx : List (Nat × XBox)) : Sh := fun k => shp (lkB bx k)
def PvS (P : Nat → Option Nat) (n : Int) (p : PV) : Prop := (n = 0 ∧ p = .v (.slice none 0 0)) ∨ ∃ b, P b = some n.toNat ∧ 0 ≤ n ∧ p = .row b 1 0 n.toNat
mutual
def RvX (G : Gn) (sh : Sh) (nx : Nat) (m : Mem) : XV → PV → Prop
  | .any, _ => True
  | .skip, p => p = .v (.tuple #[])
  | .nil, p => p = .v (.slice none 0 0)
  | .i k n, p => p = .v (.int k n)
  | .b t, p => p = .v (.bool t)
  | .s x, p => p = .v (.string x)
  | .agg xs, p => ∃ ps, p = .agg ps ∧ RlX G sh nx m xs ps
  | .tup xs, p => ∃ ps, p = .tup ps ∧ RlX G sh nx m xs ps
  | .sl fr cs l, p => ∃ es, SlR G.H m fr cs.length p es ∧ RdE G.H m fr cs l es
  | .row k, p => k < nx ∧ p.one = true ∧ match sh k with
    | some (some (w, n)) => (¬ G.U k ∧ p = .row (G.ι k) w 0 n) ∨ (G.U k ∧ n = 0 ∧ p = .v (.slice none 0 0))
    | _ => True
  | .rsub k i n, p => k < nx ∧ p.one = true ∧ match sh k with
    | some (some (w, len)) => (¬ G.U k ∧ p = .row (G.ι k) w i n ∧ i + n ≤ len) ∨ (G.U k ∧ n = 0 ∧ NilR p)
    | _ => True
  | .ref k off, p => k < nx ∧ p = .ref (G.ι k) off
  | .aref k off _ i, p => k < nx ∧ p = .ref (G.ι k) (off + i)
  | .rp k i off, p => k < nx ∧ ∃ w, p = .rp (G.ι k) w i off ∧ match sh k with
    | some (some (w', _)) => w = w'
    | _ => True
  | .asl k off sz n, p => k < nx ∧ p = .asl (G.ι k) off sz n
  | .ep xs, p => ∃ ps, EpR G.H m p ps ∧ RlX G sh nx m xs ps
  | .aep xs i w off, p => ∃ ps, EpR G.H m p (ps.drop (i * w + off)) ∧ RlX G sh nx m xs ps
  | .clos f caps, p => ∃ ps, p = .clos f ps ∧ RlX G sh nx m caps ps
  | .yield d, p => p = .yield (G.L d).l
  | .opq j, p => p = (G.L 0).o j ∧ p.one = true
  | .mp k, p => k < nx ∧ p = .mp (G.ι k)
  | .ui k, p => ∃ n, p = .v (.int k n)
  | .nr n, p => PvS G.P n p
  | .np n i, p => ∃ b, G.P b = some n.toNat ∧ i.toNat < n.toNat ∧ p = .rp b 1 i.toNat 0
def RlX (G : Gn) (sh : Sh) (nx : Nat) (m : Mem) : List XV → List PV → Prop
  | [], ps => ps = []
  | x :: xs, ps => ∃ p r, ps = p :: r ∧ RvX G sh nx m x p ∧ RlX G sh nx m xs r
end
structure GXt (G : Gn) (sh : Sh) (nx : Nat) (m : Mem) (G' : Gn) (sh' : Sh) (nx' : Nat) (m' : Mem) : Prop where
  hn : nx ≤ nx'
  hi : ∀ k, k < nx → G'.ι k = G.ι k
  hu : ∀ k, k < nx → (G'.U k ↔ G.U k)
  hs : ∀ k, k < nx → sh' k = none ∨ sh' k = sh k
  hh : HX G.H m G'.H m'
  hl : G'.L = G.L
  hp : G'.P = G.P
theorem GXt.refl (G sh nx m) : GXt G sh nx m G sh nx m := ⟨Nat.le_refl _, fun _ _ => rfl, fun _ _ => Iff.rfl, fun _ _ => .inr rfl, HX.refl _ _, rfl, rfl⟩
theorem GXt.trans {G sh nx m G1 sh1 nx1 m1 G2 sh2 nx2 m2} (a : GXt G sh nx m G1 sh1 nx1 m1) (b : GXt G1 sh1 nx1 m1 G2 sh2 nx2 m2) : GXt G sh nx m G2 sh2 nx2 m2 where
  hn := Nat.le_trans a.hn b.hn
  hi k hk := (b.hi k (Nat.lt_of_lt_of_le hk a.hn)).trans (a.hi k hk)
  hu k hk := (b.hu k (Nat.lt_of_lt_of_le hk a.hn)).trans (a.hu k hk)
  hs k hk := by
    rcases b.hs k (Nat.lt_of_lt_of_le hk a.hn) with h | h
    · exact .inl h
    · rw [h]; exact a.hs k hk
  hh := a.hh.trans b.hh
  hl := b.hl.trans a.hl
  hp := b.hp.trans a.hp
theorem PvS.mono {P P' : Nat → Option Nat} {n : Int} {p : PV} (h : ∀ b n, P b = some n → P' b = some n) (hp : PvS P n p) : PvS P' n p := by
  rcases hp with h1 | ⟨b, h1, h2⟩
  · exact .inl h1
  · exact .inr ⟨b, h b _ h1, h2⟩
mutual
theorem RvX.mono {G sh nx m G' sh' nx' m'} (h : GXt G sh nx m G' sh' nx' m') : ∀ (x : XV) (p : PV), RvX G sh nx m x p → RvX G' sh' nx' m' x p
  | .any, _, _ => by simp only [RvX]
  | .skip, _, hr => by simp only [RvX] at hr ⊢; exact hr
  | .nil, _, hr => by simp only [RvX] at hr ⊢; exact hr
  | .i _ _, _, hr => by simp only [RvX] at hr ⊢; exact hr
  | .b _, _, hr => by simp only [RvX] at hr ⊢; exact hr
  | .s _, _, hr => by simp only [RvX] at hr ⊢; exact hr
  | .agg xs, _, hr => by simp only [RvX] at hr ⊢; obtain ⟨ps, e, hl⟩ := hr; exact ⟨ps, e, RlX.mono h xs ps hl⟩
  | .tup xs, _, hr => by simp only [RvX] at hr ⊢; obtain ⟨ps, e, hl⟩ := hr; exact ⟨ps, e, RlX.mono h xs ps hl⟩
  | .sl fr cs l, _, hr => by simp only [RvX] at hr ⊢; obtain ⟨es, h1, h2⟩ := hr; exact ⟨es, h1.mono h.hh id, h2.mono h.hh id⟩
  | .row k, p, hr => by
    simp only [RvX] at hr ⊢
    refine ⟨Nat.lt_of_lt_of_le hr.1 h.hn, hr.2.1, ?_⟩
    rcases h.hs k hr.1 with e | e
    · rw [e]; trivial
    · rw [e, h.hi k hr.1]; have := hr.2.2; have hu := h.hu k hr.1
      split at this <;> simp_all
  | .rsub k i n, p, hr => by
    simp only [RvX] at hr ⊢
    refine ⟨Nat.lt_of_lt_of_le hr.1 h.hn, hr.2.1, ?_⟩
    rcases h.hs k hr.1 with e | e
    · rw [e]; trivial
    · rw [e, h.hi k hr.1]; have := hr.2.2; have hu := h.hu k hr.1
      split at this <;> simp_all
  | .ref k off, p, hr => by simp only [RvX] at hr ⊢; exact ⟨Nat.lt_of_lt_of_le hr.1 h.hn, by rw [h.hi k hr.1]; exact hr.2⟩
  | .aref k off _ i, p, hr => by simp only [RvX] at hr ⊢; exact ⟨Nat.lt_of_lt_of_le hr.1 h.hn, by rw [h.hi k hr.1]; exact hr.2⟩
  | .asl k off _ _, p, hr => by simp only [RvX] at hr ⊢; exact ⟨Nat.lt_of_lt_of_le hr.1 h.hn, by rw [h.hi k hr.1]; exact hr.2⟩
  | .rp k i off, p, hr => by
    simp only [RvX] at hr ⊢
    obtain ⟨h1, w, h2, h3⟩ := hr
    refine ⟨Nat.lt_of_lt_of_le h1 h.hn, w, by rw [h.hi k h1]; exact h2, ?_⟩
    rcases h.hs k h1 with e | e
    · rw [e]; trivial
    · rw [e]; exact h3
  | .ep xs, p, hr => by simp only [RvX] at hr ⊢; obtain ⟨ps, e, hl⟩ := hr; exact ⟨ps, e.mono h.hh, RlX.mono h xs ps hl⟩
  | .aep xs i w off, p, hr => by simp only [RvX] at hr ⊢; obtain ⟨ps, e, hl⟩ := hr; exact ⟨ps, e.mono h.hh, RlX.mono h xs ps hl⟩
  | .clos f caps, p, hr => by simp only [RvX] at hr ⊢; obtain ⟨ps, e, hl⟩ := hr; exact ⟨ps, e, RlX.mono h caps ps hl⟩
  | .yield d, p, hr => by simp only [RvX] at hr ⊢; rw [h.hl]; exact hr
  | .opq j, p, hr => by simp only [RvX] at hr ⊢; rw [h.hl]; exact hr
  | .mp k, p, hr => by simp only [RvX] at hr ⊢; exact ⟨Nat.lt_of_lt_of_le hr.1 h.hn, by rw [h.hi k hr.1]; exact hr.2⟩
  | .ui _, p, hr => by simp only [RvX] at hr ⊢; exact hr
  | .nr _, p, hr => by simp only [RvX] at hr ⊢; rw [h.hp]; exact hr
  | .np _ _, p, hr => by simp only [RvX] at hr ⊢; rw [h.hp]; exact hr
theorem RlX.mono {G sh nx m G' sh' nx' m'} (h : GXt G sh nx m G' sh' nx' m') : ∀ (xs : List XV) (ps : List PV), RlX G sh nx m xs ps → RlX G' sh' nx' m' xs ps
  | [], _, hr => by simp only [RlX] at hr ⊢; exact hr
  | x :: xs, _, hr => by
    simp only [RlX] at hr ⊢
    obtain ⟨p, r, e, h1, h2⟩ := hr
    exact ⟨p, r, e, RvX.mono h x p h1, RlX.mono h xs r h2⟩
end
theorem nbeq (a b : Nat) : Nat.beq a b = (a == b) := Bool.eq_iff_iff.2 (by rw [Nat.beq_eq, beq_iff_eq])
section
variable {G : Gn} {sh : Sh} {nx : Nat} {m : Mem}
theorem RlX.length : ∀ {xs : List XV} {ps : List PV}, RlX G sh nx m xs ps → xs.length = ps.length
  | [], ps, h => by simp only [RlX] at h; subst h; rfl
  | x :: xs, ps, h => by simp only [RlX] at h; obtain ⟨p, r, e, _, h2⟩ := h; rw [e, List.length_cons, List.length_cons, RlX.length h2]
theorem RlX.get : ∀ {xs : List XV} {ps : List PV} {i : Nat} {x : XV}, RlX G sh nx m xs ps → xs[i]? = some x → ∃ p, ps[i]? = some p ∧ RvX G sh nx m x p
  | [], ps, i, x, _, hi => by simp at hi
  | y :: xs, ps, 0, x, h, hi => by
    simp only [RlX] at h; obtain ⟨p, r, e, h1, _⟩ := h
    simp only [List.getElem?_cons_zero, Option.some.injEq] at hi; subst hi
    exact ⟨p, by rw [e]; rfl, h1⟩
  | y :: xs, ps, i + 1, x, h, hi => by
    simp only [RlX] at h; obtain ⟨p, r, e, _, h2⟩ := h
    simp only [List.getElem?_cons_succ] at hi
    obtain ⟨q, hq, hr⟩ := RlX.get h2 hi
    exact ⟨q, by rw [e]; simpa using hq, hr⟩
theorem RlX.of_get : ∀ {xs : List XV} {ps : List PV}, xs.length = ps.length → (∀ (i : Nat) (x : XV) (p : PV), xs[i]? = some x → ps[i]? = some p → RvX G sh nx m x p) → RlX G sh nx m xs ps
  | [], [], _, _ => by simp only [RlX]
  | [], _ :: _, h, _ => by simp at h
  | _ :: _, [], h, _ => by simp at h
  | x :: xs, p :: ps, h, hg => by
    simp only [RlX]
    exact ⟨p, ps, rfl, hg 0 x p rfl rfl, RlX.of_get (by simpa using h) fun i y q hy hq => hg (i + 1) y q (by simpa using hy) (by simpa using hq)⟩
theorem RlX.get' {xs : List XV} {ps : List PV} (h : RlX G sh nx m xs ps) {i : Nat} {x : XV} {p : PV} (hx : xs[i]? = some x) (hp : ps[i]? = some p) : RvX G sh nx m x p := by
  obtain ⟨q, hq, hr⟩ := RlX.get h hx
  rw [hp] at hq; cases hq; exact hr
theorem RlX.append {xs ys : List XV} {ps qs : List PV} (h : RlX G sh nx m xs ps) (k : RlX G sh nx m ys qs) : RlX G sh nx m (xs ++ ys) (ps ++ qs) := by
  induction xs generalizing ps with
  | nil => simp only [RlX] at h; subst h; simpa using k
  | cons x xs ih =>
    simp only [RlX] at h; obtain ⟨p, r, e, h1, h2⟩ := h; subst e
    simp only [List.cons_append, RlX]; exact ⟨p, r ++ qs, rfl, h1, ih h2⟩
theorem RlX.drop {xs : List XV} {ps : List PV} (h : RlX G sh nx m xs ps) (n : Nat) : RlX G sh nx m (xs.drop n) (ps.drop n) :=
  RlX.of_get (by simp [h.length]) fun i x p hx hp => by rw [List.getElem?_drop] at hx hp; exact h.get' hx hp
theorem RlX.take {xs : List XV} {ps : List PV} (h : RlX G sh nx m xs ps) (n : Nat) : RlX G sh nx m (xs.take n) (ps.take n) :=
  RlX.of_get (by simp [h.length]) fun i x p hx hp => by
    rw [List.getElem?_take] at hx hp
    split at hx
    · rename_i hi; rw [if_pos hi] at hp; exact h.get' hx hp
    · cases hx
theorem RlX.splice {xs ys : List XV} {ps qs : List PV} (h : RlX G sh nx m xs ps) (k : RlX G sh nx m ys qs) (off : Nat) : RlX G sh nx m (spliceX xs off ys) (splice ps off qs) := by
  unfold spliceX Proofs.Ytcbhmedknbiffaa.splice
  rw [k.length]
  exact ((h.take off).append k).append (h.drop _)
theorem RlX.map {xs : List Value} (hx : ∀ v, RvX G sh nx m (cX1 v) (.v v)) : RlX G sh nx m (xs.map cX1) (xs.map .v) := by
  induction xs with
  | nil => simp only [List.map_nil, RlX]
  | cons v xs ih => simp only [List.map_cons, RlX]; exact ⟨_, _, rfl, hx v, ih⟩
theorem cX1_ok (v : Value) : RvX G sh nx m (cX1 v) (.v v) := by
  unfold cX1
  split <;> simp only [RvX]
theorem cX_ok (v : Value) : RvX G sh nx m (cX v) (cv v) := by
  have h := cX1_ok (G := G) (sh := sh) (nx := nx) (m := m) v
  cases v with
  | agg cs => simp only [cX, cv, RvX]; exact ⟨_, rfl, RlX.map cX1_ok⟩
  | tuple cs => simp only [cX, cv, RvX]; exact ⟨_, rfl, RlX.map cX1_ok⟩
  | _ => exact h
theorem globX_ok : ∀ (l : List (Nat × List Value)) (k : Nat), RvX G sh nx m (globX l k) (globOf l k)
  | [], k => by simp only [globX, RvX]
  | (g, cs) :: r, k => by
    simp only [globX, globOf]
    rw [nbeq]
    cases (g == k) with
    | true => simp only [cond_true, RvX]; exact ⟨_, .inl ⟨_, rfl⟩, RlX.map cX1_ok⟩
    | false => exact globX_ok r k
def ReX (G : Gn) (sh : Sh) (nx : Nat) (m : Mem) (xe : List (Nat × XV)) (e : List (Nat × PV)) : Prop := ∀ k, RvX G sh nx m (lkX xe k) (lk e k)
theorem ReX.mono {G' sh' nx' m' xe e} (h : GXt G sh nx m G' sh' nx' m') (hr : ReX G sh nx m xe e) : ReX G' sh' nx' m' xe e := fun k => RvX.mono h _ _ (hr k)
theorem xev_ok {T : Tab} {xe e} (h : ReX G sh nx m xe e) (o : Operand) : RvX G sh nx m (xev T xe o) (peval T e o) := by
  cases o with
  | tmp t => exact h t
  | const v => exact cX_ok v
  | func f => simp only [xev, peval, RvX]; exact ⟨[], rfl, by simp only [RlX]⟩
  | global g => exact globX_ok _ _
theorem ReX.cons {xe e x p} (h : ReX G sh nx m xe e) (hr : RvX G sh nx m x p) (d : Nat) : ReX G sh nx m ((d, x) :: xe) ((d, p) :: e) := by
  intro k
  simp only [lkX, lk]
  rw [nbeq]
  cases (d == k) with
  | true => exact hr
  | false => exact h k
end
end Go.Proofs.Ytcbhmedknbiffaa
