/-
  The layer Ev: boxes under names; cells read as typed values.
-/
import Derived.Test.YtcbhmedknbiffaaEvB
namespace Go.Proofs.Ytcbhmedknbiffaa
open Go Go.RowKit
theorem lkB_upd : ∀ (bx : List (Nat × XBox)) (k : Nat) (b : XBox) (j : Nat), lkB (updB bx k b) j = if k = j then b else lkB bx j
  | [], k, b, j => by
    simp only [updB, lkB, nbeq]
    by_cases e : k = j
    · subst e; simp
    · have : (k == j) = false := by simpa using e
      simp [this, e]
  | (k', v) :: r, k, b, j => by
    simp only [updB, nbeq]
    by_cases e : k' = k
    · subst e
      simp only [beq_self_eq_true, cond_true, lkB, nbeq]
      by_cases e2 : k' = j
      · subst e2; simp
      · have : (k' == j) = false := by simpa using e2
        simp [this, e2]
    · have h1 : (k' == k) = false := by simpa using e
      simp only [h1, cond_false, lkB, nbeq]
      by_cases e2 : k' = j
      · subst e2
        have : ¬ k = k' := fun h => e h.symm
        simp [this]
      · have h2 : (k' == j) = false := by simpa using e2
        simp only [h2, cond_false]
        exact lkB_upd r k b j
def OwnX (G : Gn) (bx : List (Nat × XBox)) (k : Nat) : Prop :=
  match lkB bx k with
  | .gone => False
  | .cells _ => True
  | .mp _ _ => True
  | .row _ _ _ => ¬ G.U k
  | .pv _ _ => ¬ G.U k
def PvC (P : Nat → Option Nat) (n : Int) (p : PV) : CT → Prop
  | .int k => ∃ z, p = .v (.int k z)
  | .bool => ∃ t, p = .v (.bool t)
  | .str => ∃ x, p = .v (.string x)
  | .sl cs => cs = [.int .i64] ∧ PvS P n p
def PvE (P : Nat → Option Nat) (cs : List CT) (ns : List Int) (es : List (List PV)) : Prop :=
  es.length = ns.length ∧ ∀ (i : Nat) (n : Int) (e : List PV), ns[i]? = some n → es[i]? = some e → e.length = cs.length ∧ ∀ (j : Nat) (c : CT) (p : PV), cs[j]? = some c → e[j]? = some p → PvC P n p c
theorem PvC.mono {P P' : Nat → Option Nat} {n : Int} {p : PV} {c : CT} (h : ∀ b n, P b = some n → P' b = some n) (hp : PvC P n p c) : PvC P' n p c := by
  cases c <;> try exact hp
  exact ⟨hp.1, hp.2.mono h⟩
theorem PvE.mono {P P' : Nat → Option Nat} {cs : List CT} {ns : List Int} {es : List (List PV)} (h : ∀ b n, P b = some n → P' b = some n) (hp : PvE P cs ns es) : PvE P' cs ns es :=
  ⟨hp.1, fun i n e h1 h2 => ⟨(hp.2 i n e h1 h2).1, fun j c p h3 h4 => ((hp.2 i n e h1 h2).2 j c p h3 h4).mono h⟩⟩
def PvB (x : Box) (n : Nat) : Prop := ∃ es, x = .row 1 es ∧ es.length = n ∧ ∀ e ∈ es, ∃ z, e = [.v (.int .i64 z)]
def Cont (G : Gn) (sh : Sh) (nx : Nat) (m : Mem) (pb : Box) : XBox → Prop
  | .gone => True
  | .cells xs => ∃ ps, pb = .cells ps ∧ RlX G sh nx m xs ps
  | .row fr cs l => ∃ es, pb = .row cs.length es ∧ RdE G.H m fr cs l es
  | .mp kd es => ∃ ps, pb = .mp kd ps ∧ ps.map (·.1) = es.map (·.1) ∧ RlX G sh nx m (es.map (·.2)) (ps.map (·.2))
  | .pv cs ns => ∃ es, pb = .row cs.length es ∧ PvE G.P cs ns es
def BoxX (G : Gn) (sh : Sh) (nx : Nat) (m : Mem) (k : Nat) : XBox → Prop
  | .gone => True
  | .cells xs => Cont G sh nx m (m.bx (G.ι k)) (.cells xs)
  | .mp kd es => Cont G sh nx m (m.bx (G.ι k)) (.mp kd es)
  | .row fr cs l => (G.U k ∧ l = []) ∨ (¬ G.U k ∧ Cont G sh nx m (m.bx (G.ι k)) (.row fr cs l))
  | .pv cs ns => (G.U k ∧ ns = []) ∨ (¬ G.U k ∧ Cont G sh nx m (m.bx (G.ι k)) (.pv cs ns))
structure XRM (G : Gn) (A : Nat → Prop) (xm : XM) (m : Mem) : Prop where
  box : ∀ k, BoxX G (shB xm.bx) xm.nx m k (lkB xm.bx k)
  al : ∀ k, OwnX G xm.bx k → A (G.ι k)
  nh : ∀ k, OwnX G xm.bx k → ¬ G.H (G.ι k)
  inj : ∀ k k', OwnX G xm.bx k → OwnX G xm.bx k' → G.ι k = G.ι k' → k = k'
  ha : ∀ k, G.H k → A k
  ys : m.ys = xm.ys
  lt : ∀ k, xm.nx ≤ k → lkB xm.bx k = .gone
  pv : ∀ b n, G.P b = some n → A b ∧ ¬ G.H b ∧ (∀ k, OwnX G xm.bx k → G.ι k ≠ b) ∧ PvB (m.bx b) n
theorem Cont.mono {G sh nx m G' sh' nx' m' pb b} (h : GXt G sh nx m G' sh' nx' m') (hc : Cont G sh nx m pb b) : Cont G' sh' nx' m' pb b := by
  cases b with
  | gone => trivial
  | cells xs => obtain ⟨ps, e, hl⟩ := hc; exact ⟨ps, e, RlX.mono h _ _ hl⟩
  | row fr cs l => obtain ⟨es, e, hl⟩ := hc; exact ⟨es, e, hl.mono h.hh id⟩
  | mp kd es => obtain ⟨ps, e, hk, hl⟩ := hc; exact ⟨ps, e, hk, RlX.mono h _ _ hl⟩
  | pv cs ns => obtain ⟨es, e, hl⟩ := hc; exact ⟨es, e, by rw [h.hp]; exact hl⟩
theorem BoxX.mono {G sh nx m G' sh' nx' m' k b} (h : GXt G sh nx m G' sh' nx' m') (hk : k < nx) (hs : (match b with | .gone => False | .cells _ => True | .mp _ _ => True | .row _ _ _ => ¬ G.U k | .pv _ _ => ¬ G.U k) → m'.bx (G.ι k) = m.bx (G.ι k)) (hc : BoxX G sh nx m k b) : BoxX G' sh' nx' m' k b := by
  cases b with
  | gone => trivial
  | cells xs =>
    simp only [BoxX] at hc ⊢
    rw [h.hi k hk, hs trivial]
    exact Cont.mono h hc
  | mp kd es =>
    simp only [BoxX] at hc ⊢
    rw [h.hi k hk, hs trivial]
    exact Cont.mono h hc
  | row fr cs l =>
    rcases hc with ⟨hu, e⟩ | ⟨hu, hc⟩
    · exact .inl ⟨(h.hu k hk).2 hu, e⟩
    · refine .inr ⟨fun x => hu ((h.hu k hk).1 x), ?_⟩
      rw [h.hi k hk, hs hu]
      exact Cont.mono h hc
  | pv cs ns =>
    rcases hc with ⟨hu, e⟩ | ⟨hu, hc⟩
    · exact .inl ⟨(h.hu k hk).2 hu, e⟩
    · refine .inr ⟨fun x => hu ((h.hu k hk).1 x), ?_⟩
      rw [h.hi k hk, hs hu]
      exact Cont.mono h hc
theorem OwnX.lt {G A xm m k} (h : XRM G A xm m) (ho : OwnX G xm.bx k) : k < xm.nx := by
  rcases Nat.lt_or_ge k xm.nx with h1 | h1
  · exact h1
  · unfold OwnX at ho; rw [h.lt k h1] at ho; exact ho.elim
theorem OwnX.upd_ne {G bx k b j} (h : k ≠ j) : OwnX G (updB bx k b) j = OwnX G bx j := by
  unfold OwnX; rw [lkB_upd, if_neg h]
theorem shB_upd (bx : List (Nat × XBox)) (k : Nat) (b : XBox) (j : Nat) : shB (updB bx k b) j = if k = j then shp b else shB bx j := by
  unfold shB; rw [lkB_upd]; split <;> rfl
theorem XRM.forget {G A xm m} (h : XRM G A xm m) (k : Nat) (_hk : k < xm.nx) :
    XRM { G with H := fun j => G.H j ∨ (OwnX G xm.bx k ∧ j = G.ι k) } A ⟨updB xm.bx k .gone, xm.nx, xm.ys⟩ m ∧
    GXt G (shB xm.bx) xm.nx m { G with H := fun j => G.H j ∨ (OwnX G xm.bx k ∧ j = G.ι k) } (shB (updB xm.bx k .gone)) xm.nx m := by
  have hx : GXt G (shB xm.bx) xm.nx m { G with H := fun j => G.H j ∨ (OwnX G xm.bx k ∧ j = G.ι k) } (shB (updB xm.bx k .gone)) xm.nx m :=
    ⟨Nat.le_refl _, fun _ _ => rfl, fun _ _ => Iff.rfl, fun j _ => by
      rw [shB_upd]; split
      · exact .inl rfl
      · exact .inr rfl, ⟨fun _ h => .inl h, fun _ _ => rfl⟩, rfl, rfl⟩
  have own : ∀ j, OwnX { G with H := fun j => G.H j ∨ (OwnX G xm.bx k ∧ j = G.ι k) } (updB xm.bx k .gone) j → OwnX G xm.bx j ∧ j ≠ k := by
    intro j ho
    by_cases e : k = j
    · subst e; unfold OwnX at ho; rw [lkB_upd, if_pos rfl] at ho; exact ho.elim
    · rw [OwnX.upd_ne e] at ho; exact ⟨ho, fun e' => e e'.symm⟩
  refine ⟨⟨fun j => ?_, fun j ho => h.al j (own j ho).1, fun j ho hh => ?_, fun j j' ho ho' e => h.inj j j' (own j ho).1 (own j' ho').1 e, fun j hh => ?_, h.ys, fun j hj => ?_, fun b n hP => ?_⟩, hx⟩
  · simp only
    rw [lkB_upd]
    split
    · trivial
    · rename_i e
      by_cases hg : lkB xm.bx j = .gone
      · rw [hg]; trivial
      · have hj : j < xm.nx := by
          rcases Nat.lt_or_ge j xm.nx with h1 | h1
          · exact h1
          · exact absurd (h.lt j h1) hg
        exact BoxX.mono hx hj (fun _ => rfl) (h.box j)
  · rcases hh with hh | ⟨hk, e⟩
    · exact h.nh j (own j ho).1 hh
    · exact (own j ho).2 (h.inj j k (own j ho).1 hk e)
  · rcases hh with hh | ⟨hk, e⟩
    · exact h.ha j hh
    · rw [e]; exact h.al k hk
  · simp only; rw [lkB_upd]; split
    · rfl
    · exact h.lt j hj
  · obtain ⟨p1, p2, p3, p4⟩ := h.pv b n hP
    exact ⟨p1, fun hh => hh.elim p2 fun hh => p3 k hh.1 hh.2.symm, fun j ho => p3 j (own j ho).1, p4⟩
theorem XRM.set {G A xm m} (h : XRM G A xm m) {k : Nat} {b : XBox} {pb : Box} {nb : Nat} (ho : OwnX G xm.bx k) (hs : shp b = none ∨ shp b = shp (lkB xm.bx k)) (hc : Cont G (shB xm.bx) xm.nx m pb b) :
    XRM G A ⟨updB xm.bx k b, xm.nx, xm.ys⟩ ⟨nb, setB m.bx (G.ι k) pb, m.ys⟩ ∧
    GXt G (shB xm.bx) xm.nx m G (shB (updB xm.bx k b)) xm.nx ⟨nb, setB m.bx (G.ι k) pb, m.ys⟩ := by
  have hk := OwnX.lt h ho
  have hx : GXt G (shB xm.bx) xm.nx m G (shB (updB xm.bx k b)) xm.nx ⟨nb, setB m.bx (G.ι k) pb, m.ys⟩ :=
    ⟨Nat.le_refl _, fun _ _ => rfl, fun _ _ => Iff.rfl, fun j _ => by
      rw [shB_upd]
      by_cases e : k = j
      · subst e
        rw [if_pos rfl]
        rcases hs with e | e
        · exact .inl e
        · exact .inr e
      · rw [if_neg e]; exact .inr rfl, ⟨fun _ h => h, fun j hj => by
        have : (j == G.ι k) = false := by
          rw [beq_eq_false_iff_ne]; intro e; subst e; exact h.nh k ho hj
        simp only [setB, this, cond_false]⟩, rfl, rfl⟩
  have own : ∀ j, OwnX G (updB xm.bx k b) j → OwnX G xm.bx j := by
    intro j hj
    by_cases e : k = j
    · subst e; exact ho
    · rw [OwnX.upd_ne e] at hj; exact hj
  refine ⟨⟨fun j => ?_, fun j hj => h.al j (own j hj), fun j hj => h.nh j (own j hj), fun j j' hj hj' e => h.inj j j' (own j hj) (own j' hj') e, h.ha, h.ys, fun j hj => ?_, fun b n hP => ?_⟩, hx⟩
  · simp only
    rw [lkB_upd]
    by_cases e : k = j
    · subst e
      rw [if_pos rfl]
      have hc' := hc.mono hx
      have hbx : setB m.bx (G.ι k) pb (G.ι k) = pb := by simp only [setB, beq_self_eq_true, cond_true]
      cases b with
      | gone => trivial
      | cells xs => simp only [BoxX]; rw [hbx]; exact hc'
      | mp kd es => simp only [BoxX]; rw [hbx]; exact hc'
      | row fr cs l =>
        right
        refine ⟨?_, ?_⟩
        · intro hu
          unfold OwnX at ho
          rcases hs with e | e
          · cases e
          · cases hl : lkB xm.bx k with
            | gone => rw [hl] at e; cases e
            | cells xs => rw [hl] at e; cases e
            | mp _ _ => rw [hl] at e; cases e
            | row _ _ _ => rw [hl] at ho; exact ho hu
            | pv _ _ => rw [hl] at ho; exact ho hu
        · show Cont _ _ _ _ (setB m.bx (G.ι k) pb (G.ι k)) _; rw [hbx]; exact hc'
      | pv cs ns =>
        right
        refine ⟨?_, ?_⟩
        · intro hu
          unfold OwnX at ho
          rcases hs with e | e
          · cases e
          · cases hl : lkB xm.bx k with
            | gone => rw [hl] at e; cases e
            | cells xs => rw [hl] at e; cases e
            | mp _ _ => rw [hl] at e; cases e
            | row _ _ _ => rw [hl] at ho; exact ho hu
            | pv _ _ => rw [hl] at ho; exact ho hu
        · show Cont _ _ _ _ (setB m.bx (G.ι k) pb (G.ι k)) _; rw [hbx]; exact hc'
    · rw [if_neg e]
      by_cases hg : lkB xm.bx j = .gone
      · rw [hg]; trivial
      · have hj : j < xm.nx := by
          rcases Nat.lt_or_ge j xm.nx with h1 | h1
          · exact h1
          · exact absurd (h.lt j h1) hg
        refine BoxX.mono hx hj (fun hoj => ?_) (h.box j)
        have hoj' : OwnX G xm.bx j := hoj
        have : (G.ι j == G.ι k) = false := by
          rw [beq_eq_false_iff_ne]; intro e'; exact e (h.inj j k hoj' ho e').symm
        simp only [setB, this, cond_false]
  · simp only; rw [lkB_upd]
    have hj' : xm.nx ≤ j := hj
    have : k ≠ j := by omega
    rw [if_neg this]; exact h.lt j hj'
  · obtain ⟨p1, p2, p3, p4⟩ := h.pv b n hP
    refine ⟨p1, p2, fun j hj => p3 j (own j hj), ?_⟩
    have : (b == G.ι k) = false := by
      rw [beq_eq_false_iff_ne]; exact fun e => p3 k ho e.symm
    simp only [setB, this, cond_false]; exact p4
theorem XRM.new {G A xm m} (h : XRM G A xm m) {nm nb : Nat} {b : XBox} {pb : Box} (hn : ¬ A nm) (hc : Cont G (shB xm.bx) xm.nx m pb b) :
    XRM { G with ι := fun j => if j = xm.nx then nm else G.ι j, U := fun j => j ≠ xm.nx ∧ G.U j } (fun k => A k ∨ k = nm) (xm.new b) ⟨nb, setB m.bx nm pb, m.ys⟩ ∧
    GXt G (shB xm.bx) xm.nx m { G with ι := fun j => if j = xm.nx then nm else G.ι j, U := fun j => j ≠ xm.nx ∧ G.U j } (shB (xm.new b).bx) (xm.new b).nx ⟨nb, setB m.bx nm pb, m.ys⟩ := by
  have hx : GXt G (shB xm.bx) xm.nx m { G with ι := fun j => if j = xm.nx then nm else G.ι j, U := fun j => j ≠ xm.nx ∧ G.U j } (shB (xm.new b).bx) (xm.new b).nx ⟨nb, setB m.bx nm pb, m.ys⟩ :=
    ⟨Nat.le_succ _, fun k hk => if_neg (by omega), fun k hk => ⟨fun h => h.2, fun h => ⟨by omega, h⟩⟩, fun j hj => by
      simp only [XM.new]; rw [shB_upd, if_neg (by omega)]; exact .inr rfl, ⟨fun _ h => h, fun j hj => by
        have : (j == nm) = false := by
          rw [beq_eq_false_iff_ne]; intro e; subst e; exact hn (h.ha j hj)
        simp only [setB, this, cond_false]⟩, rfl, rfl⟩
  have own : ∀ j, j ≠ xm.nx → OwnX { G with ι := fun j => if j = xm.nx then nm else G.ι j, U := fun j => j ≠ xm.nx ∧ G.U j } (xm.new b).bx j → OwnX G xm.bx j := by
    intro j hj ho
    simp only [XM.new] at ho
    rw [OwnX.upd_ne (fun e => hj e.symm)] at ho
    unfold OwnX at ho ⊢
    split at ho <;> simp_all
  refine ⟨⟨fun j => ?_, fun j ho => ?_, fun j ho hh => ?_, fun j j' ho ho' e => ?_, fun j hj => .inl (h.ha j hj), h.ys, fun j hj => ?_, fun b n hP => ?_⟩, hx⟩
  · simp only [XM.new]
    rw [lkB_upd]
    by_cases e : xm.nx = j
    · subst e
      rw [if_pos rfl]
      have hc' := hc.mono hx
      have hbx : setB m.bx nm pb nm = pb := by simp only [setB, beq_self_eq_true, cond_true]
      cases b with
      | gone => trivial
      | cells xs => simp only [BoxX, if_true]; rw [hbx]; exact hc'
      | mp kd es => simp only [BoxX, if_true]; rw [hbx]; exact hc'
      | row fr cs l =>
        right
        refine ⟨fun h => h.1 rfl, ?_⟩
        show Cont _ _ _ _ (setB m.bx nm pb (if xm.nx = xm.nx then nm else G.ι xm.nx)) _; rw [if_pos rfl, hbx]; exact hc'
      | pv cs ns =>
        right
        refine ⟨fun h => h.1 rfl, ?_⟩
        show Cont _ _ _ _ (setB m.bx nm pb (if xm.nx = xm.nx then nm else G.ι xm.nx)) _; rw [if_pos rfl, hbx]; exact hc'
    · rw [if_neg e]
      by_cases hg : lkB xm.bx j = .gone
      · rw [hg]; trivial
      · have hj : j < xm.nx := by
          rcases Nat.lt_or_ge j xm.nx with h1 | h1
          · exact h1
          · exact absurd (h.lt j h1) hg
        refine BoxX.mono hx hj (fun hoj => ?_) (h.box j)
        have hoj' : OwnX G xm.bx j := hoj
        have : (G.ι j == nm) = false := by
          rw [beq_eq_false_iff_ne]; intro e'; exact hn (e' ▸ h.al j hoj')
        simp only [setB, this, cond_false]
  · by_cases e : j = xm.nx
    · simp only [if_pos e]; exact .inr trivial
    · simp only [if_neg e]; exact .inl (h.al j (own j e ho))
  · by_cases e : j = xm.nx
    · simp only [if_pos e] at hh; exact hn (h.ha _ hh)
    · simp only [if_neg e] at hh; exact h.nh j (own j e ho) hh
  · by_cases e1 : j = xm.nx <;> by_cases e2 : j' = xm.nx
    · rw [e1, e2]
    · simp only [if_pos e1, if_neg e2] at e; exact absurd (e ▸ h.al j' (own j' e2 ho')) hn
    · simp only [if_neg e1, if_pos e2] at e; exact absurd (e ▸ h.al j (own j e1 ho)) hn
    · simp only [if_neg e1, if_neg e2] at e; exact h.inj j j' (own j e1 ho) (own j' e2 ho') e
  · simp only [XM.new] at hj ⊢
    rw [lkB_upd, if_neg (by omega)]; exact h.lt j (by omega)
  · obtain ⟨p1, p2, p3, p4⟩ := h.pv b n hP
    have hbn : b ≠ nm := fun e => hn (e ▸ p1)
    refine ⟨.inl p1, p2, fun j ho => ?_, ?_⟩
    · by_cases e : j = xm.nx
      · subst e; simp only [if_true]; exact fun e => hbn e.symm
      · simp only [if_neg e]; exact p3 j (own j e ho)
    · have : (b == nm) = false := by rw [beq_eq_false_iff_ne]; exact hbn
      simp only [setB, this, cond_false]; exact p4
section
variable {G : Gn} {sh : Sh} {nx : Nat} {m : Mem}
theorem SlR.one {H m fr sz p es} (h : SlR H m fr sz p es) : p.one = true := by
  rcases h with ⟨f, e, _⟩ | ⟨e, _⟩ | ⟨k, i, n, es0, e, _⟩ <;> subst e <;> rfl
theorem EpR.one {H m p ps} (h : EpR H m p ps) : p.one = true := by
  rcases h with ⟨f, e⟩ | ⟨k, sz, i, off, es0, e, h0, _⟩
  · subst e; rfl
  · subst h0; rfl
theorem one_ok {x : XV} {p : PV} (h : RvX G sh nx m x p) (hx : x.one = true) : p.one = true := by
  cases x <;> simp only [XV.one, Bool.false_eq_true] at hx <;> simp only [RvX] at h
  case nil => subst h; rfl
  case i => subst h; rfl
  case b => subst h; rfl
  case s => subst h; rfl
  case sl => obtain ⟨es, h1, _⟩ := h; exact h1.one
  case row => exact h.2.1
  case rsub => exact h.2.1
  case ref => rw [h.2]; rfl
  case aref => rw [h.2]; rfl
  case asl => rw [h.2]; rfl
  case rp => obtain ⟨_, w, e, _⟩ := h; subst e; rfl
  case ep => obtain ⟨ps, h1, _⟩ := h; exact h1.one
  case aep => obtain ⟨ps, h1, _⟩ := h; exact h1.one
  case clos => obtain ⟨ps, e, _⟩ := h; subst e; rfl
  case ui => obtain ⟨n, e⟩ := h; subst e; rfl
  case nr => rcases h with ⟨_, e⟩ | ⟨b, _, _, e⟩ <;> subst e <;> rfl
  case np => obtain ⟨b, _, _, e⟩ := h; subst e; rfl
  case yield => subst h; rfl
  case opq => exact h.2
  case mp => rw [h.2]; rfl
theorem all_one {xs : List XV} {ps : List PV} (h : RlX G sh nx m xs ps) (hx : xs.all XV.one = true) : ps.all PV.one = true := by
  rw [List.all_eq_true] at hx ⊢
  intro p hp
  obtain ⟨i, hi, e⟩ := List.mem_iff_getElem.1 hp
  have hi' : i < xs.length := by rw [h.length]; exact hi
  exact one_ok (h.get' (List.getElem?_eq_getElem hi') (by rw [List.getElem?_eq_getElem hi, e])) (hx _ (List.getElem_mem hi'))
theorem cellsX_ok {x : XV} {p : PV} {xs : List XV} (h : RvX G sh nx m x p) (hx : cellsX x = some xs) : ∃ ps, cellsOf p = some ps ∧ RlX G sh nx m xs ps := by
  unfold cellsX at hx
  split at hx
  · rename_i ys
    simp only [RvX] at h
    obtain ⟨ps, rfl, hl⟩ := h
    cases ha : ys.all XV.one with
    | false => rw [ha] at hx; cases hx
    | true => rw [ha] at hx; cases hx; exact ⟨ps, by simp only [cellsOf, all_one hl ha, if_true], hl⟩
  · rename_i hne
    cases ha : x.one with
    | false => rw [ha] at hx; cases hx
    | true =>
      rw [ha] at hx; cases hx
      have ho := one_ok h ha
      refine ⟨[p], ?_, by simp only [RlX]; exact ⟨p, [], rfl, h, rfl⟩⟩
      cases p <;> simp only [PV.one, Bool.false_eq_true] at ho <;> simp only [cellsOf, PV.one, ho, if_true]
theorem ofCellsX_ok {i : TI} {xs : List XV} {ps : List PV} {v : XV} (h : RlX G sh nx m xs ps) (hx : ofCellsX i xs = some v) : ∃ pv, ofCells i ps = some pv ∧ RvX G sh nx m v pv := by
  unfold ofCellsX at hx
  unfold ofCells
  rw [nbeq] at hx
  by_cases hz : i.sz = 0
  · have : (i.sz == 0) = true := by simpa using hz
    rw [this] at hx; cases hx
  · have h0 : (i.sz == 0) = false := by simpa using hz
    rw [h0, cond_false] at hx
    rw [if_neg hz]
    cases ha : i.kind.isAgg with
    | true =>
      rw [ha, cond_true] at hx
      cases hb : Nat.ble i.sz xs.length with
      | false => rw [hb] at hx; cases hx
      | true =>
        rw [hb] at hx; cases hx
        have hle : i.sz ≤ ps.length := by rw [← h.length]; exact Nat.le_of_ble_eq_true hb
        simp only [if_true, hle]
        exact ⟨_, rfl, by simp only [RvX]; exact ⟨_, rfl, h.take _⟩⟩
    | false =>
      rw [ha, cond_false] at hx
      cases xs with
      | nil => cases hx
      | cons x xs =>
        cases hx
        simp only [RlX] at h
        obtain ⟨p, r, rfl, h1, _⟩ := h
        exact ⟨p, by simp, h1⟩
mutual
theorem encX_ok {fr : Bool} : ∀ (c : CT) (x : Den c) (p : PV), Rd G.H m fr c x p → RvX G sh nx m (encX fr c x) p
  | .int _, _, _, h => by simp only [Rd] at h; simp only [encX, RvX]; exact h
  | .bool, _, _, h => by simp only [Rd] at h; simp only [encX, RvX]; exact h
  | .str, _, _, h => by simp only [Rd] at h; simp only [encX, RvX]; exact h
  | .sl cs, l, p, h => by
    simp only [Rd] at h; simp only [encX, RvX]
    obtain ⟨es, h1, h2, h3⟩ := h
    exact ⟨es, h1, h2, h3⟩
theorem encXL_ok {fr : Bool} : ∀ (cs : List CT) (x : DenL cs) (ps : List PV), RdL G.H m fr cs x ps → RlX G sh nx m (encXL fr cs x) ps
  | [], _, _, h => by simp only [RdL] at h; simp only [encXL, RlX]; exact h
  | [c], x, ps, h => by
    simp only [RdL] at h; obtain ⟨p, e, h1⟩ := h
    simp only [encXL, RlX]; exact ⟨p, [], e, encX_ok c x p h1, rfl⟩
  | c :: d :: cs, x, ps, h => by
    simp only [RdL] at h; obtain ⟨p, r, e, h1, h2⟩ := h
    simp only [encXL]; simp only [RlX]; exact ⟨p, r, e, encX_ok c _ p h1, encXL_ok (d :: cs) _ r h2⟩
end
theorem RdL.length {H fr} : ∀ {cs : List CT} {x : DenL cs} {ps : List PV}, RdL H m fr cs x ps → ps.length = cs.length
  | [], _, _, h => by simp only [RdL] at h; subst h; rfl
  | [c], x, ps, h => by simp only [RdL] at h; obtain ⟨p, e, _⟩ := h; subst e; rfl
  | c :: d :: cs, x, ps, h => by
    simp only [RdL] at h; obtain ⟨p, r, e, _, h2⟩ := h; subst e
    rw [List.length_cons, List.length_cons, RdL.length h2]
theorem Rd.one {H fr} : ∀ {c : CT} {x : Den c} {p : PV}, Rd H m fr c x p → p.one = true
  | .int _, _, _, h => by simp only [Rd] at h; subst h; rfl
  | .bool, _, _, h => by simp only [Rd] at h; subst h; rfl
  | .str, _, _, h => by simp only [Rd] at h; subst h; rfl
  | .sl cs, l, p, h => by simp only [Rd] at h; obtain ⟨es, h1, _⟩ := h; exact h1.one
theorem RdL.one {H fr} : ∀ {cs : List CT} {x : DenL cs} {ps : List PV}, RdL H m fr cs x ps → ps.all PV.one = true
  | [], _, _, h => by simp only [RdL] at h; subst h; rfl
  | [c], x, ps, h => by simp only [RdL] at h; obtain ⟨p, e, h1⟩ := h; subst e; simp [h1.one]
  | c :: d :: cs, x, ps, h => by
    simp only [RdL] at h; obtain ⟨p, r, e, h1, h2⟩ := h; subst e
    rw [List.all_cons, h1.one, RdL.one h2]; rfl
theorem castL_ok {xs ys : List CT} {l : List (DenL xs)} {l' : List (DenL ys)} (h : castL ys l = some l') : ∃ e : xs = ys, (e ▸ l : List (DenL ys)) = l' := by
  unfold castL at h
  split at h
  · rename_i e _; cases h; exact ⟨e, rfl⟩
  · cases h
end
theorem and_l {a b : Bool} (h : (a && b) = true) : a = true := (Bool.and_eq_true_iff.1 h).1
theorem and_r {a b : Bool} (h : (a && b) = true) : b = true := (Bool.and_eq_true_iff.1 h).2
theorem XRM.prow {G A xm m k cs ns p} (h : XRM G A xm m) (hl : lkB xm.bx k = .pv cs ns) (hr : RvX G (shB xm.bx) xm.nx m (.row k) p) :
    k < xm.nx ∧ ((¬ G.U k ∧ p = .row (G.ι k) cs.length 0 ns.length ∧ ∃ es, m.bx (G.ι k) = .row cs.length es ∧ PvE G.P cs ns es) ∨ (G.U k ∧ ns = [] ∧ p = .v (.slice none 0 0))) := by
  simp only [RvX] at hr
  obtain ⟨h1, _, h2⟩ := hr
  have hs : shB xm.bx k = some (some (cs.length, ns.length)) := by unfold shB; rw [hl]; rfl
  rw [hs] at h2
  have hb := h.box k
  rw [hl] at hb
  refine ⟨h1, ?_⟩
  rcases h2 with ⟨hu, e⟩ | ⟨hu, e0, e⟩
  · rcases hb with ⟨hu', _⟩ | ⟨_, hc⟩
    · exact absurd hu' hu
    · exact .inl ⟨hu, e, hc⟩
  · exact .inr ⟨hu, List.eq_nil_of_length_eq_zero e0, e⟩
theorem XRM.preal {G A xm m k cs ns} {i : Nat} (h : XRM G A xm m) (hl : lkB xm.bx k = .pv cs ns) (hi : i < ns.length) : ¬ G.U k ∧ ∃ es, m.bx (G.ι k) = .row cs.length es ∧ PvE G.P cs ns es := by
  have := h.box k
  rw [hl] at this
  rcases this with ⟨_, e⟩ | ⟨hu, hc⟩
  · subst e; simp at hi
  · exact ⟨hu, hc⟩
theorem XRM.row {G A xm m k fr cs l p} (h : XRM G A xm m) (hl : lkB xm.bx k = .row fr cs l) (hr : RvX G (shB xm.bx) xm.nx m (.row k) p) :
    k < xm.nx ∧ ((¬ G.U k ∧ p = .row (G.ι k) cs.length 0 l.length ∧ ∃ es, m.bx (G.ι k) = .row cs.length es ∧ RdE G.H m fr cs l es) ∨ (G.U k ∧ l = [] ∧ p = .v (.slice none 0 0))) := by
  simp only [RvX] at hr
  obtain ⟨h1, _, h2⟩ := hr
  have hs : shB xm.bx k = some (some (cs.length, l.length)) := by unfold shB; rw [hl]; rfl
  rw [hs] at h2
  have hb := h.box k
  rw [hl] at hb
  refine ⟨h1, ?_⟩
  rcases h2 with ⟨hu, e⟩ | ⟨hu, e0, e⟩
  · rcases hb with ⟨hu', _⟩ | ⟨_, hc⟩
    · exact absurd hu' hu
    · exact .inl ⟨hu, e, hc⟩
  · exact .inr ⟨hu, List.eq_nil_of_length_eq_zero e0, e⟩
theorem XRM.rsub {G A xm m k i n fr cs l p} (h : XRM G A xm m) (hl : lkB xm.bx k = .row fr cs l) (hr : RvX G (shB xm.bx) xm.nx m (.rsub k i n) p) :
    k < xm.nx ∧ ((¬ G.U k ∧ p = .row (G.ι k) cs.length i n ∧ i + n ≤ l.length ∧ ∃ es, m.bx (G.ι k) = .row cs.length es ∧ RdE G.H m fr cs l es) ∨ (G.U k ∧ l = [] ∧ n = 0 ∧ NilR p)) := by
  simp only [RvX] at hr
  obtain ⟨h1, _, h2⟩ := hr
  have hs : shB xm.bx k = some (some (cs.length, l.length)) := by unfold shB; rw [hl]; rfl
  rw [hs] at h2
  have hb := h.box k
  rw [hl] at hb
  refine ⟨h1, ?_⟩
  rcases h2 with ⟨hu, e⟩ | ⟨hu, e0, e⟩
  · rcases hb with ⟨hu', _⟩ | ⟨_, hc⟩
    · exact absurd hu' hu
    · exact .inl ⟨hu, e.1, e.2, hc⟩
  · rcases hb with ⟨_, e1⟩ | ⟨hu', _⟩
    · exact .inr ⟨hu, e1, e0, e⟩
    · exact absurd hu hu'
theorem own_row {G : Gn} {bx k fr cs l} (hl : lkB bx k = .row fr cs l) (hu : ¬ G.U k) : OwnX G bx k := by unfold OwnX; rw [hl]; exact hu
theorem own_pv {G : Gn} {bx k cs ns} (hl : lkB bx k = .pv cs ns) (hu : ¬ G.U k) : OwnX G bx k := by unfold OwnX; rw [hl]; exact hu
theorem own_mp {G : Gn} {bx k kd es} (hl : lkB bx k = .mp kd es) : OwnX G bx k := by unfold OwnX; rw [hl]; trivial
theorem own_cells {G : Gn} {bx k xs} (hl : lkB bx k = .cells xs) : OwnX G bx k := by unfold OwnX; rw [hl]; trivial
theorem PvC.one {P : Nat → Option Nat} {n : Int} {p : PV} {c : CT} (h : PvC P n p c) : p.one = true := by
  cases c with
  | int k => obtain ⟨z, e⟩ := h; subst e; rfl
  | bool => obtain ⟨z, e⟩ := h; subst e; rfl
  | str => obtain ⟨z, e⟩ := h; subst e; rfl
  | sl cs => rcases h.2 with ⟨_, e⟩ | ⟨b, _, _, e⟩ <;> subst e <;> rfl
theorem PvE.all {P : Nat → Option Nat} {cs : List CT} {ns : List Int} {es : List (List PV)} (h : PvE P cs ns es) : ∀ z ∈ es, z.length = cs.length ∧ z.all PV.one = true := by
  intro z hz
  obtain ⟨i, hi, e⟩ := List.mem_iff_getElem.1 hz
  have hi' : i < ns.length := by rw [← h.1]; exact hi
  obtain ⟨h1, h2⟩ := h.2 i ns[i] z (List.getElem?_eq_getElem hi') (by rw [List.getElem?_eq_getElem hi, e])
  refine ⟨h1, List.all_eq_true.2 fun p hp => ?_⟩
  obtain ⟨j, hj, e2⟩ := List.mem_iff_getElem.1 hp
  have hj' : j < cs.length := by rw [← h1]; exact hj
  exact (h2 j cs[j] p (List.getElem?_eq_getElem hj') (by rw [List.getElem?_eq_getElem hj, e2])).one
theorem PvE.append {P : Nat → Option Nat} {cs : List CT} {ns ns' : List Int} {es es' : List (List PV)} (h : PvE P cs ns es) (h' : PvE P cs ns' es') : PvE P cs (ns ++ ns') (es ++ es') :=
  ⟨by simp [h.1, h'.1], fun i n e hx he => by
    by_cases hi : i < ns.length
    · rw [List.getElem?_append_left hi] at hx
      rw [List.getElem?_append_left (by rw [h.1]; exact hi)] at he
      exact h.2 i n e hx he
    · rw [List.getElem?_append_right (by omega)] at hx
      rw [List.getElem?_append_right (by rw [h.1]; omega), h.1] at he
      exact h'.2 _ n e hx he⟩
theorem PvE.get {P : Nat → Option Nat} {cs : List CT} {ns : List Int} {es : List (List PV)} (h : PvE P cs ns es) {i : Nat} (hi : i < ns.length) : ∃ e, es[i]? = some e ∧ e.length = cs.length ∧ ∀ (j : Nat) (c : CT) (p : PV), cs[j]? = some c → e[j]? = some p → PvC P (ns.getD i 0) p c := by
  have hi' : i < es.length := by rw [h.1]; exact hi
  have := h.2 i ns[i] es[i] (List.getElem?_eq_getElem hi) (List.getElem?_eq_getElem hi')
  have e0 : ns.getD i 0 = ns[i] := by simp [List.getD, hi]
  rw [e0]
  exact ⟨es[i], List.getElem?_eq_getElem hi', this⟩
theorem PvE.set {P : Nat → Option Nat} {cs : List CT} {ns : List Int} {es : List (List PV)} (h : PvE P cs ns es) {i : Nat} {e : List PV} (he : ∀ n, ns[i]? = some n → e.length = cs.length ∧ ∀ (j : Nat) (c : CT) (p : PV), cs[j]? = some c → e[j]? = some p → PvC P n p c) : PvE P cs ns (es.set i e) :=
  ⟨by rw [List.length_set]; exact h.1, fun j n e' hx he' => by
    by_cases e1 : i = j
    · subst e1
      by_cases hi : i < es.length
      · rw [List.getElem?_set_self hi] at he'
        cases he'; exact he n hx
      · rw [List.getElem?_eq_none (by rw [List.length_set]; omega)] at he'; cases he'
    · rw [List.getElem?_set_ne e1] at he'; exact h.2 j n e' hx he'⟩
theorem PvB.set {es : List (List PV)} {n : Nat} (h : PvB (.row 1 es) n) (i : Nat) (z : Int) : PvB (.row 1 (es.set i [.v (.int .i64 z)])) n := by
  obtain ⟨es', e, h1, h2⟩ := h
  cases e
  refine ⟨_, rfl, by rw [List.length_set]; exact h1, fun e he => ?_⟩
  rcases List.mem_or_eq_of_mem_set he with h3 | h3
  · exact h2 e h3
  · exact ⟨z, h3⟩
theorem XRM.setP {G A xm m} (h : XRM G A xm m) {b n : Nat} {pb : Box} {nb : Nat} (hP : G.P b = some n) (hb : PvB pb n) :
    XRM G A xm ⟨nb, setB m.bx b pb, m.ys⟩ ∧ GXt G (shB xm.bx) xm.nx m G (shB xm.bx) xm.nx ⟨nb, setB m.bx b pb, m.ys⟩ := by
  obtain ⟨q1, q2, q3, q4⟩ := h.pv b n hP
  have hx : GXt G (shB xm.bx) xm.nx m G (shB xm.bx) xm.nx ⟨nb, setB m.bx b pb, m.ys⟩ :=
    ⟨Nat.le_refl _, fun _ _ => rfl, fun _ _ => Iff.rfl, fun _ _ => .inr rfl, ⟨fun _ h => h, fun j hj => by
      have : (j == b) = false := by
        rw [beq_eq_false_iff_ne]; intro e; subst e; exact q2 hj
      simp only [setB, this, cond_false]⟩, rfl, rfl⟩
  refine ⟨⟨fun j => ?_, h.al, h.nh, h.inj, h.ha, h.ys, h.lt, fun b' n' hP' => ?_⟩, hx⟩
  · by_cases hg : lkB xm.bx j = .gone
    · rw [hg]; trivial
    · have hj : j < xm.nx := by
        rcases Nat.lt_or_ge j xm.nx with h1 | h1
        · exact h1
        · exact absurd (h.lt j h1) hg
      refine BoxX.mono hx hj (fun hoj => ?_) (h.box j)
      have hoj' : OwnX G xm.bx j := hoj
      have : (G.ι j == b) = false := by
        rw [beq_eq_false_iff_ne]; exact q3 j hoj'
      simp only [setB, this, cond_false]
  · obtain ⟨p1, p2, p3, p4⟩ := h.pv b' n' hP'
    refine ⟨p1, p2, p3, ?_⟩
    by_cases e : b' = b
    · subst e
      rw [hP] at hP'; cases hP'
      simp only [setB, beq_self_eq_true, cond_true]; exact hb
    · have : (b' == b) = false := by rw [beq_eq_false_iff_ne]; exact e
      simp only [setB, this, cond_false]; exact p4
theorem LGet.drop {α : Type} {l : List α} {n i : Nat} {x : α} : LGet (l.drop n) i x ↔ LGet l (n + i) x := by unfold LGet; rw [List.getElem?_drop]
theorem LGet.take {α : Type} {l : List α} {n i : Nat} {x : α} : LGet (l.take n) i x ↔ i < n ∧ LGet l i x := by
  unfold LGet; rw [List.getElem?_take]
  split
  · rename_i h; exact ⟨fun e => ⟨h, e⟩, fun e => e.2⟩
  · rename_i h; exact ⟨(fun e => by cases e), fun e => absurd e.1 h⟩
theorem RdE.drop {H m fr cs} {l : List (DenL cs)} {es} (h : RdE H m fr cs l es) (n : Nat) : RdE H m fr cs (l.drop n) (es.drop n) :=
  ⟨by simp [h.1], fun i x e hx he => by rw [LGet.drop] at hx; rw [List.getElem?_drop] at he; exact h.2 _ x e hx he⟩
theorem RdE.take {H m fr cs} {l : List (DenL cs)} {es} (h : RdE H m fr cs l es) (n : Nat) : RdE H m fr cs (l.take n) (es.take n) :=
  ⟨by simp [h.1], fun i x e hx he => by
    rw [LGet.take] at hx
    rw [List.getElem?_take, if_pos hx.1] at he; exact h.2 _ x e hx.2 he⟩
theorem RdE.nil {H m fr cs} : RdE H m fr cs [] [] := ⟨rfl, fun i x e hx => by simp [LGet] at hx⟩
theorem RdE.append {H m fr cs} {l l' : List (DenL cs)} {es es'} (h : RdE H m fr cs l es) (h' : RdE H m fr cs l' es') : RdE H m fr cs (l ++ l') (es ++ es') :=
  ⟨by simp [h.1, h'.1], fun i x e hx he => by
    unfold LGet at hx
    by_cases hi : i < l.length
    · rw [List.getElem?_append_left hi] at hx
      rw [List.getElem?_append_left (by rw [← h.1]; exact hi)] at he
      exact h.2 i x e hx he
    · rw [List.getElem?_append_right (by omega)] at hx
      rw [List.getElem?_append_right (by rw [← h.1]; omega), ← h.1] at he
      exact h'.2 _ x e hx he⟩
theorem RdE.cons {H m fr cs} {x : DenL cs} {l : List (DenL cs)} {e es} (h : RdL H m fr cs x e) (h' : RdE H m fr cs l es) : RdE H m fr cs (x :: l) (e :: es) :=
  ⟨by simp [h'.1], fun i y e' hy he => by
    unfold LGet at hy
    cases i with
    | zero => simp only [List.getElem?_cons_zero, Option.some.injEq] at hy he; subst hy; subst he; exact h
    | succ i => simp only [List.getElem?_cons_succ] at hy he; exact h'.2 i y e' hy he⟩
theorem RdE.set {H m fr cs} {l : List (DenL cs)} {es} (h : RdE H m fr cs l es) {i : Nat} {x : DenL cs} {e : List PV} (hx : RdL H m fr cs x e) : RdE H m fr cs (l.set i x) (es.set i e) :=
  ⟨by simp [h.1], fun j y e' hy he => by
    unfold LGet at hy
    by_cases e1 : i = j
    · subst e1
      by_cases hi : i < l.length
      · rw [List.getElem?_set_self hi] at hy
        rw [List.getElem?_set_self (by rw [← h.1]; exact hi)] at he
        cases hy; cases he; exact hx
      · rw [List.getElem?_eq_none (by simp; omega)] at hy; cases hy
    · rw [List.getElem?_set_ne e1] at hy he; exact h.2 j y e' hy he⟩
theorem RdE.get {H m fr cs} {l : List (DenL cs)} {es} (h : RdE H m fr cs l es) {i : Nat} (hi : i < l.length) : ∃ e, es[i]? = some e ∧ RdL H m fr cs (l.getD i (dflL cs)) e := by
  have hi' : i < es.length := by rw [← h.1]; exact hi
  refine ⟨es[i], List.getElem?_eq_getElem hi', h.2 i _ _ ?_ (List.getElem?_eq_getElem hi')⟩
  unfold LGet
  rw [List.getElem?_eq_getElem hi]
  simp [List.getD, hi]
theorem Rd.flat {H m fr fr'} : ∀ {c : CT} {x : Den c} {p : PV}, flatCT c = true → Rd H m fr c x p → Rd H m fr' c x p
  | .int _, _, _, _, h => by simp only [Rd] at h ⊢; exact h
  | .bool, _, _, _, h => by simp only [Rd] at h ⊢; exact h
  | .str, _, _, _, h => by simp only [Rd] at h ⊢; exact h
  | .sl _, _, _, hf, _ => by cases hf
theorem RdL.flat {H m fr fr'} : ∀ {cs : List CT} {x : DenL cs} {ps : List PV}, cs.all flatCT = true → RdL H m fr cs x ps → RdL H m fr' cs x ps
  | [], _, _, _, h => by simp only [RdL] at h ⊢; exact h
  | [c], x, ps, hf, h => by
    simp only [List.all_cons, List.all_nil, Bool.and_true] at hf
    simp only [RdL] at h ⊢; obtain ⟨p, e, h1⟩ := h; exact ⟨p, e, Rd.flat hf h1⟩
  | c :: d :: cs, x, ps, hf, h => by
    rw [List.all_cons, Bool.and_eq_true] at hf
    simp only [RdL] at h ⊢; obtain ⟨p, r, e, h1, h2⟩ := h; exact ⟨p, r, e, Rd.flat hf.1 h1, RdL.flat hf.2 h2⟩
theorem RdE.flat {H m fr cs} {l : List (DenL cs)} {es} (h : RdE H m fr cs l es) : RdE H m (fr || cs.all flatCT) cs l es := by
  cases fr with
  | true => rw [Bool.true_or]; exact h
  | false =>
    rw [Bool.false_or]
    cases hf : cs.all flatCT with
    | false => exact h
    | true => exact ⟨h.1, fun i x e hx he => RdL.flat hf (h.2 i x e hx he)⟩
theorem RdE.same {H m fr cs} {l : List (DenL cs)} {es es'} (h : RdE H m fr cs l es) (e : es = es') : RdE H m fr cs l es' := e ▸ h
end Go.Proofs.Ytcbhmedknbiffaa
