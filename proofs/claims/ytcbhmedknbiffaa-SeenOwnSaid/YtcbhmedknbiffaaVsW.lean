/-
  The layer VS: a region that draws its order and walks through one call.
-/
import Derived.Test.YtcbhmedknbiffaaVsV
namespace Go.Proofs.Ytcbhmedknbiffaa
open Go Go.RowKit
section
variable {T : Tab} {P : Program} {Y : Nat → YS} {cx : Cx}
theorem MR.revive {g g' : Gh} {m m' : Mem} {w w' : World} {k : Nat} (hm : MR T cx g m w) (hk : k < m.nb) (h : MR T cx g' m' w') (hx : EX cx g ⟨m.nb, setB m.bx k .dead, m.ys⟩ w g' m' w') (hd : ∀ j, g'.dom j → g.dom j ∨ m.nb ≤ j) :
    MR T cx g' ⟨m'.nb, setB m'.bx k (m.bx k), m'.ys⟩ w' ∧ EX cx g m w g' ⟨m'.nb, setB m'.bx k (m.bx k), m'.ys⟩ w' := by
  have hgd : g'.dom k → g.dom k := fun h => (hd k h).elim id (fun h => absurd hk (by omega))
  have own1 : ∀ j, Owns g ⟨m.nb, setB m.bx k .dead, m.ys⟩ j → j ≠ k ∧ Owns g m j := by
    rintro j ⟨hd, hj⟩
    replace hj : (setB m.bx k .dead j).owns _ = true := hj
    by_cases e : j = k
    · subst e; rw [setB_new] at hj; simp [Box.owns] at hj
    · rw [setB_old _ _ e] at hj; exact ⟨e, hd, hj⟩
  have own2 : ∀ j, Owns g' ⟨m'.nb, setB m'.bx k (m.bx k), m'.ys⟩ j → (j = k ∧ Owns g m k) ∨ (j ≠ k ∧ Owns g' m' j) := by
    rintro j ⟨hd, ho⟩
    replace ho : (setB m'.bx k (m.bx k) j).owns _ = true := ho
    by_cases e : j = k
    · subst e; rw [setB_new, hx.gx.gb j (hgd hd)] at ho; exact .inl ⟨rfl, hgd hd, ho⟩
    · rw [setB_old _ _ e] at ho; exact .inr ⟨e, hd, ho⟩
  have away : Owns g m k → ∀ j, Owns g ⟨m.nb, setB m.bx k .dead, m.ys⟩ j → (g.gb j).b ≠ (g.gb k).b := fun ho j hj e => (own1 j hj).1 (hm.inj j k (own1 j hj).2 ho e)
  have same : Owns g m k → w'.heap[(g.gb k).b]? = w.heap[(g.gb k).b]? := fun ho => hx.same _ (hm.owns_block ho) (away ho) (fun l r hy e => hm.loop_ne hy k ho e)
  have apart : Owns g m k → ∀ j, Owns g' m' j → (g'.gb j).b ≠ (g.gb k).b := fun ho j hj e => by
    rcases hx.bn j hj with h1 | ⟨j0, h0, e0⟩
    · have := hm.owns_block ho; omega
    · exact away ho j0 h0 (e0.trans e)
  refine ⟨{
    pin := h.pin
    base := h.base
    box := fun j hdj => by
      show BoxOK _ _ _ (setB _ _ _ _)
      by_cases e : j = k
      · subst e
        rw [setB_new, hx.gx.gb j (hgd hdj)]
        exact (hm.box j (hgd hdj)).mono hx.gx fun ho => same ⟨hgd hdj, ho⟩
      · rw [setB_old _ _ e]; exact h.box j hdj
    np := fun j hj o hp => by
      rcases own2 j hj with ⟨rfl, ho⟩ | ⟨_, ho⟩
      · rw [hx.gx.gb _ ho.1] at hp
        rcases hx.pn _ _ hp with h1 | h1 | ⟨j0, h0, e0⟩
        · exact hm.np _ ho _ h1
        · have := hm.owns_block ho; omega
        · exact away ho j0 h0 e0
      · exact h.np j ho o hp
    inj := fun j j' hj hj' e => by
      rcases own2 j hj with ⟨e1, ho⟩ | ⟨e1, ho⟩ <;> rcases own2 j' hj' with ⟨e2, ho'⟩ | ⟨e2, ho'⟩
      · rw [e1, e2]
      · rw [e1, hx.gx.gb _ ho.1] at e; exact absurd e.symm (apart ho j' ho')
      · rw [e2, hx.gx.gb _ ho'.1] at e; exact absurd e (apart ho' j ho)
      · exact h.inj j j' ho ho' e
    fresh := fun j hj => by
      rcases own2 j hj with ⟨e1, ho⟩ | ⟨_, ho⟩
      · rw [e1, hx.gx.gb _ ho.1, hx.gx.base]; exact hm.fresh k ho
      · exact h.fresh j ho
    fix := h.fix
    ys := h.ys
    glob := h.glob }, {
    gx := hx.gx
    size := hx.size
    os := hx.os
    tape := hx.tape
    output := hx.output
    same := fun j hj hn hl => hx.same j hj (fun j0 h0 => hn j0 (own1 j0 h0).2) hl
    pn := fun b o hp => by
      rcases hx.pn b o hp with h1 | h1 | ⟨j0, h0, e0⟩
      · exact .inl h1
      · exact .inr (.inl h1)
      · exact .inr (.inr ⟨j0, (own1 j0 h0).2, e0⟩)
    bn := fun j hj => by
      rcases own2 j hj with ⟨e1, ho⟩ | ⟨_, ho⟩
      · exact .inr ⟨k, ho, by rw [e1, hx.gx.gb _ ho.1]⟩
      · rcases hx.bn j ho with h1 | ⟨j0, h0, e0⟩
        · exact .inl h1
        · exact .inr ⟨j0, (own1 j0 h0).2, e0⟩ }⟩
theorem SpecM.frame {f : Nat} {args : List PV} {m : Mem} {k : Nat} {Q : PV → Mem → Prop} (hk : k < m.nb) (h : SpecM T P Y f args ⟨m.nb, setB m.bx k .dead, m.ys⟩ Q) :
    SpecM T P Y f args m (fun r m2 => ∃ m', m2 = ⟨m'.nb, setB m'.bx k (m.bx k), m'.ys⟩ ∧ Q r m') := by
  refine ⟨h.1, fun cx g w us hy hm hd hl => (h.2 cx g w us hy (hm.kill k) hd hl).mono ?_⟩
  rintro e w' ⟨u, r, g', m', he, hr, ⟨h1, h2, h3, h4, h5⟩, hQ⟩
  obtain ⟨j1, j2⟩ := hm.revive hk h1 h5 h4
  exact ⟨u, r, g', _, he, hr, ⟨j1, h2, h3, h4, j2⟩, m', rfl, hQ⟩
def Fit (ops : List Oper) (vs : List PV) (env0 E : List (Nat × PV)) (i : Nat) (o : Oper) : Prop :=
  ∀ k, k ∈ opTmps o.op ++ glook ops o → (∀ j oj v, j < i → ops[j]? = some oj → oj.dst = some k → vs[j]? = some v → lk E k = v) ∧ ((∀ j oj, j < i → ops[j]? = some oj → oj.dst ≠ some k) → lk E k = lk env0 k)
def Fin (ops : List Oper) (vs : List PV) (env0 E : List (Nat × PV)) : Prop :=
  ∀ k, (∀ (j : Nat) (oj : Oper) (v : PV), ops[j]? = some oj → oj.dst = some k → vs[j]? = some v → lk E k = v) ∧ ((∀ (j : Nat) (oj : Oper), ops[j]? = some oj → oj.dst ≠ some k) → lk E k = lk env0 k)
def efact (T : Tab) (ops : List Oper) (n : Nat) (bx : Nat → Box) (nb0 i : Nat) (o : Oper) (E : List (Nat × PV)) (v : PV) : Prop :=
  dstOK n o.dst = true ∧ o.guard = none ∧ ∃ side : Prop, popv T (peval T (qenv ops E o)) bx (nb0 + i) o.op = some (side, v, []) ∧ side
structure QInv (T : Tab) (P : Program) (Y : Nat → YS) (cx : Cx) (ops : Array Oper) (vs : List PV) (env0 : List (Nat × PV)) (n nb0 : Nat) (g0 : Gh) (m0 : Mem) (a0 : Act) (w0 : World) (m : Mem) (listed : Array Bool) (g : Gh) (a : Act) (w : World) : Prop where
  yok : YOK T P Y cx g w
  sz : listed.size = ops.size
  cl : ∀ j o, listed.getD j false = true → ops[j]? = some o → ∀ e ∈ o.after, Region.binds .any e = true → listed.getD e.on false = true
  mr : MR T cx g m w
  dl : DL g m
  tz : a.tmps.size = n
  dom : ∀ k, g.dom k → k < nb0 ∨ (∃ i, i < ops.size ∧ listed.getD i false = true ∧ k = nb0 + i) ∨ nb0 + ops.size ≤ k
  v1 : ∀ i o v d, listed.getD i false = true → ops[i]? = some o → vs[i]? = some v → o.dst = some d → RV g w v (a.tmps.getD d undef)
  v2 : ∀ k, (∀ i o, listed.getD i false = true → ops[i]? = some o → o.dst ≠ some k) → RV g w (lk env0 k) (a.tmps.getD k undef)
  ex : EX cx g0 m0 w0 g m w
  dn : ∀ k, g.dom k → g0.dom k ∨ nb0 ≤ k
  df : a.defers = a0.defers
theorem QInv.vals {ops : Array Oper} {vs vs' : List PV} {env0 n nb0 g0 m0 a0 w0 m listed g a w} (h : QInv T P Y cx ops vs env0 n nb0 g0 m0 a0 w0 m listed g a w) (hv : ∀ i, listed.getD i false = true → vs'[i]? = vs[i]?) : QInv T P Y cx ops vs' env0 n nb0 g0 m0 a0 w0 m listed g a w :=
  { h with v1 := fun i o v d hl ho hvi hd => h.v1 i o v d hl ho (by rw [← hv i hl]; exact hvi) hd }
theorem QInv.look {ops : Array Oper} {vs : List PV} {env0 n nb0 g0 m0 a0 w0 m listed g a w} (h : QInv T P Y cx ops vs env0 n nb0 g0 m0 a0 w0 m listed g a w) (hlen : vs.length = ops.toList.length) (hchk : qchk ops.toList = true)
    {i : Nat} {o : Oper} {E : List (Nat × PV)} (ho : ops[i]? = some o) (hun : listed.getD i false = false) (hed : ∀ e ∈ o.after, Region.binds .any e = true → listed.getD e.on false = true) (hfit : Fit ops.toList vs env0 E i o) :
    EnvOK g w (qenv ops.toList E o) a := by
  have hget : ∀ i, ops.toList[i]? = ops[i]? := fun i => by rw [Array.getElem?_toList]
  intro k
  rcases mem_keep (env := E) (l := opTmps o.op ++ glook ops.toList o) (k := k) with e | ⟨hk, e⟩
  · unfold qenv; rw [e]; simp only [RV]
  · unfold qenv; rw [e]
    by_cases hex : ∃ (j : Nat) (oj : Oper), ops[j]? = some oj ∧ oj.dst = some k ∧ j < i
    · obtain ⟨j, oj, hoj, hdj, hji⟩ := hex
      have hjl : j < vs.length := by rw [hlen]; simpa using (Array.getElem?_eq_some_iff.1 hoj).1
      obtain ⟨e1, he1, hon, hb1⟩ := edgeTo_spec ((qchk_pair hchk ((hget i).trans ho) ((hget j).trans hoj) hdj hk).1 hji)
      have hl := hed e1 he1 hb1
      rw [hon] at hl
      rw [(hfit k hk).1 j oj vs[j] hji ((hget j).trans hoj) hdj (List.getElem?_eq_getElem hjl)]
      exact h.v1 j oj vs[j] k hl hoj (List.getElem?_eq_getElem hjl) hdj
    · rw [(hfit k hk).2 fun j oj hji hoj hd => hex ⟨j, oj, (hget j).symm.trans hoj, hd, hji⟩]
      refine h.v2 k fun j oj hlj hoj hd => ?_
      rcases Nat.lt_trichotomy j i with hlt | heq | hgt
      · exact hex ⟨j, oj, hoj, hd, hlt⟩
      · subst heq; rw [hun] at hlj; cases hlj
      · obtain ⟨e1, he1, hon, hb1⟩ := edgeTo_spec ((qchk_pair hchk ((hget i).trans ho) ((hget j).trans hoj) hd hk).2 hgt)
        have := h.cl j oj hlj hoj e1 he1 hb1
        rw [hon, hun] at this; cases this
theorem QInv.next {ops : Array Oper} {vs : List PV} {env0 n nb0 g0 m0 a0 w0 m listed g a w} (h : QInv T P Y cx ops vs env0 n nb0 g0 m0 a0 w0 m listed g a w) (hchk : qchk ops.toList = true)
    {i : Nat} {o : Oper} {u : Value} {g' : Gh} {m' : Mem} {w' : World} (ho : ops[i]? = some o) (hun : listed.getD i false = false) (hed : ∀ e ∈ o.after, Region.binds .any e = true → listed.getD e.on false = true)
    (hu : ∀ v d, vs[i]? = some v → o.dst = some d → RV g' w' v u) (hdst : dstOK n o.dst = true) (hm : MR T cx g' m' w') (hd : DL g' m') (hx : EX cx g m w g' m' w') (hdom : ∀ k, g'.dom k → g.dom k ∨ k = nb0 + i ∨ nb0 + ops.size ≤ k) :
    QInv T P Y cx ops vs env0 n nb0 g0 m0 a0 w0 m' (listed.setIfInBounds i true) g' (a.put o.dst u) w' := by
  have hget : ∀ i, ops.toList[i]? = ops[i]? := fun i => by rw [Array.getElem?_toList]
  have hlt := (Array.getElem?_eq_some_iff.1 ho).1
  have hsz := h.sz
  have set_i : (listed.setIfInBounds i true).getD i false = true := by simp [Array.getD, hsz, hlt]
  have set_o : ∀ j, j ≠ i → (listed.setIfInBounds i true).getD j false = listed.getD j false := fun j hj => getD_set_ne false (Ne.symm hj)
  have set_cases : ∀ j, (listed.setIfInBounds i true).getD j false = true → j = i ∨ listed.getD j false = true := fun j hj => by
    by_cases e : j = i
    · exact .inl e
    · rw [set_o j e] at hj; exact .inr hj
  exact {
    yok := h.yok.gx hx.gx
    sz := by simpa using hsz
    cl := fun j oj hj hoj e he hb => by
      by_cases ej : e.on = i
      · rw [ej]; exact set_i
      · rw [set_o _ ej]
        rcases set_cases j hj with rfl | hj'
        · rw [ho] at hoj; cases hoj; exact hed e he hb
        · exact h.cl j oj hj' hoj e he hb
    mr := hm
    dl := hd
    tz := by rw [put_size]; exact h.tz
    dom := fun k hk => by
      rcases hdom k hk with h1 | h1 | h1
      · rcases h.dom k h1 with h2 | ⟨j, hj, hlj, e⟩ | h2
        · exact .inl h2
        · exact .inr (.inl ⟨j, hj, getD_set_true hlj, e⟩)
        · exact .inr (.inr h2)
      · exact .inr (.inl ⟨i, hlt, set_i, h1⟩)
      · exact .inr (.inr h1)
    v1 := fun j oj vj d hj hoj hvj hdj => by
      rcases set_cases j hj with rfl | hj'
      · rw [ho] at hoj; cases hoj
        rw [hdj, put_getD_same h.tz (by rw [← hdj]; exact hdst)]; exact hu vj d hvj hdj
      · by_cases e : j = i
        · subst e; rw [hun] at hj'; cases hj'
        · rw [put_getD (qchk_uniq hchk ((hget i).trans ho) ((hget j).trans hoj) (Ne.symm e) hdj)]
          exact (h.v1 j oj vj d hj' hoj hvj hdj).mono hx.gx
    v2 := fun k hk => by
      rw [put_getD (hk i o set_i ho)]
      exact (h.v2 k fun j oj hj hoj => hk j oj (getD_set_true hj) hoj).mono hx.gx
    ex := h.ex.trans hx
    dn := fun k hk => by
      rcases hdom k hk with h1 | h1 | h1
      · exact h.dn k h1
      · exact .inr (by omega)
      · exact .inr (by omega)
    df := (put_defers _ _ _).trans h.df }
theorem QInv.fin {ops : Array Oper} {vs : List PV} {env0 EF n nb0 g0 m0 a0 w0 m listed g a w} (h : QInv T P Y cx ops vs env0 n nb0 g0 m0 a0 w0 m listed g a w) (hlen : vs.length = ops.toList.length)
    (hall : ∀ i, i < ops.size → listed.getD i false = true) (hf : Fin ops.toList vs env0 EF) : EnvOK g w EF a := by
  have hget : ∀ i, ops.toList[i]? = ops[i]? := fun i => by rw [Array.getElem?_toList]
  intro k
  by_cases hex : ∃ (j : Nat) (oj : Oper), ops[j]? = some oj ∧ oj.dst = some k
  · obtain ⟨j, oj, hoj, hdj⟩ := hex
    have hj := (Array.getElem?_eq_some_iff.1 hoj).1
    have hjl : j < vs.length := by rw [hlen]; simpa using hj
    rw [(hf k).1 j oj vs[j] ((hget j).trans hoj) hdj (List.getElem?_eq_getElem hjl)]
    exact h.v1 j oj vs[j] k (hall j hj) hoj (List.getElem?_eq_getElem hjl) hdj
  · rw [(hf k).2 fun j oj hoj hd => hex ⟨j, oj, (hget j).symm.trans hoj, hd⟩]
    exact h.v2 k fun j oj _ hoj hd => hex ⟨j, oj, hoj, hd⟩
theorem quiet2_go (hT : TOK T P) {ops : Array Oper} {vs : List PV} {env0 EF : List (Nat × PV)} {n nb0 : Nat} {g0 : Gh} {m0 : Mem} {a0 : Act} {w0 : World} {m : Mem} {skip D B : Nat → Bool} (hlen : vs.length = ops.toList.length) (hchk : qchk ops.toList = true) (hnb : nb0 + ops.size ≤ m.nb)
    (hf : ∀ i o v, skip i = false → D i = false → B i = false → ops.toList[i]? = some o → vs[i]? = some v → ∃ E, Fit ops.toList vs env0 E i o ∧ efact T ops.toList n m.bx nb0 i o E v)
    (hD : ∀ i o, D i = true → B i = false → ops.toList[i]? = some o → ∃ e ∈ o.after, Region.binds .any e = true ∧ D e.on = true)
    (hfin : (∀ i, i < ops.size → D i = false) → Fin ops.toList vs env0 EF) {r : Option Nat} {nn : Nat} {Q : Exit → Act → World → Prop}
    (hB : ∀ i o, B i = true → ops[i]? = some o → ∀ fuel listed g a w, QInv T P Y cx ops vs env0 n nb0 g0 m0 a0 w0 m listed g a w → (∀ i, skip i = true → listed.getD i false = true) → (∀ i, D i = true → listed.getD i false = false) → listed.getD i false = false →
      (∀ e ∈ o.after, Region.binds .any e = true → listed.getD e.on false = true) → (List.range ops.size).countP (fun j => !(listed.setIfInBounds i true).getD j true) ≤ fuel → wpOpIn (FW r) nn P ops Q i (wpAnyIn (FW r) nn P .any ops Q fuel (listed.setIfInBounds i true)) a w)
    (hq : (∀ i, i < ops.size → D i = false) → ∀ g' a' w', MR T cx g' m w' → DL g' m → EnvOK g' w' EF a' → a'.tmps.size = n → EX cx g0 m0 w0 g' m w' → (∀ k, g'.dom k → g0.dom k ∨ nb0 ≤ k) → a'.defers = a0.defers → Q .normal a' w') :
    ∀ (fuel : Nat) (listed : Array Bool) (g : Gh) (a : Act) (w : World), QInv T P Y cx ops vs env0 n nb0 g0 m0 a0 w0 m listed g a w → (∀ i, skip i = true → listed.getD i false = true) → (∀ i, D i = true → listed.getD i false = false) →
      (List.range ops.size).countP (fun j => !listed.getD j true) ≤ fuel → wpAnyIn (FW r) nn P .any ops Q fuel listed a w := by
  have hget : ∀ i, ops.toList[i]? = ops[i]? := fun i => by rw [Array.getElem?_toList]
  have hval : ∀ i, i < ops.size → ∃ v, vs[i]? = some v := fun i hi => by
    have : i < vs.length := by rw [hlen]; simpa using hi
    exact ⟨vs[i], List.getElem?_eq_getElem this⟩
  have allL : ∀ listed : Array Bool, listed.size = ops.size → Region.ready .any ops listed = [] → ∀ i, i < ops.size → listed.getD i false = true := by
    intro listed hsz hr i
    induction i using Nat.strongRecOn with
    | _ i ih =>
      intro hi
      cases hl : listed.getD i true with
      | true => simpa [Array.getD, hsz, hi] using hl
      | false =>
        exfalso
        have ho : ops[i]? = some ops[i] := Array.getElem?_eq_getElem hi
        have : i ∈ Region.ready .any ops listed := mem_ready.2 ⟨hl, ops[i], ho, fun e he hb => by
          have hlt := (qchk_spec hchk ((hget i).trans ho)).1 e he hb
          exact ih e.on hlt (by omega)⟩
        rw [hr] at this; simp at this
  have done : ∀ (listed : Array Bool) (g : Gh) (a : Act) (w : World), QInv T P Y cx ops vs env0 n nb0 g0 m0 a0 w0 m listed g a w → (∀ i, D i = true → listed.getD i false = false) → (∀ i, i < ops.size → listed.getD i false = true) → Q .normal a w := by
    intro listed g a w h hDl hall
    have hD0 : ∀ i, i < ops.size → D i = false := fun i hi => by
      cases hd : D i with
      | false => rfl
      | true => have h1 := hDl i hd; rw [hall i hi] at h1; cases h1
    exact hq hD0 g a w h.mr h.dl (h.fin hlen hall (hfin hD0)) h.tz h.ex h.dn h.df
  intro fuel
  induction fuel with
  | zero =>
    intro listed g a w h hsk hDl hcnt
    have hall : ∀ i, i < ops.size → listed.getD i false = true := fun i hi => by
      have h0 : (List.range ops.size).countP (fun j => !listed.getD j true) = 0 := by omega
      have := List.countP_eq_zero.1 h0 i (List.mem_range.2 hi)
      simpa [Array.getD, h.sz, hi] using this
    refine ⟨?_, done listed g a w h hDl hall⟩
    cases hr : Region.ready .any ops listed with
    | nil => rfl
    | cons i l =>
      have : i ∈ Region.ready .any ops listed := by rw [hr]; simp
      obtain ⟨k1, o, ho, _⟩ := mem_ready.1 this
      have hi := (Array.getElem?_eq_some_iff.1 ho).1
      have h2 := hall i hi
      simp only [Array.getD, h.sz, hi, dif_pos] at k1 h2
      rw [k1] at h2; cases h2
  | succ fuel ih =>
    intro listed g a w h hsk hDl hcnt
    refine ⟨fun hr => done listed g a w h hDl (allL listed h.sz hr), fun i hi => ?_⟩
    obtain ⟨hun, o, ho, hed⟩ := mem_ready.1 hi
    have hlt := (Array.getElem?_eq_some_iff.1 ho).1
    have hunf : listed.getD i false = false := by simpa [Array.getD, h.sz, hlt] using hun
    have hcnt' : (List.range ops.size).countP (fun j => !(listed.setIfInBounds i true).getD j true) ≤ fuel := by
      have := countP_less (p := fun j => !listed.getD j true) (q := fun j => !(listed.setIfInBounds i true).getD j true) (i := i) (l := List.range ops.size)
        (fun x hx => by
          by_cases e : x = i
          · subst e; simp [hun]
          · rw [getD_set_ne true (Ne.symm e)] at hx; exact hx) (List.mem_range.2 hlt) (by simp [hun]) (by simp [Array.getD, h.sz, hlt])
      omega
    cases hBi : B i with
    | true => exact hB i o hBi ho fuel listed g a w h hsk hDl hunf hed hcnt'
    | false =>
    cases hDi : D i with
    | true =>
      obtain ⟨e, he, hb, hde⟩ := hD i o hDi hBi ((hget i).trans ho)
      have h1 := hed e he hb
      rw [hDl _ hde] at h1; cases h1
    | false =>
    have hski : skip i = false := by
      cases hs : skip i with
      | false => rfl
      | true => have h1 := hsk i hs; rw [hunf] at h1; cases h1
    obtain ⟨v, hv⟩ := hval i hlt
    obtain ⟨E, hfit, hdst, hgd, side, hpv, hside⟩ := hf i o v hski hDi hBi ((hget i).trans ho) hv
    have henv := h.look hlen hchk ho hunf hed hfit
    have hnm : ¬ g.dom (nb0 + i) := fun hk => by
      rcases h.dom _ hk with h1 | ⟨j, hj, hlj, e⟩ | h1
      · omega
      · have : j = i := by omega
        subst this; rw [hunf] at hlj; cases hlj
      · omega
    have hs : RS T cx g ⟨n, qenv ops.toList E o, m⟩ a w := ⟨h.mr, h.dl, henv, h.tz⟩
    have hw : Region.wanted o (yielded ops a.tmps) = true := by simp [Region.wanted, hgd]
    unfold wpOpIn
    simp only [ho]
    rw [if_pos hw]
    refine pop1_ok (F := fun s' => s' = St.put ⟨n, qenv ops.toList E o, m⟩ o.dst v m) hT h.yok hs hnm (by show nb0 + i < m.nb; omega) ?_ ?_
    · unfold pop1
      have : popE T (fun s' => s' = St.put ⟨n, qenv ops.toList E o, m⟩ o.dst v m) (nb0 + i) o ⟨n, qenv ops.toList E o, m⟩ := by
        unfold popE
        simp only [hpv]
        exact ⟨hside, hdst, rfl⟩
      split
      · rename_i f args ats hop
        rw [hop] at hpv
        simp [popv] at hpv
      · exact this
    · rintro s' g' a' w' hs' hx' hnb' hdom' hdf' hn' rfl ⟨u, v2, m2, rfl, hu, hs2⟩
      have hv2 : ∀ d, o.dst = some d → v2 = v := by
        intro d hd
        rw [hd] at hs2; simp only [St.put, St.mk.injEq, List.cons.injEq, Prod.mk.injEq] at hs2; exact hs2.2.1.1.2.symm
      have hmr := hs'.mr
      have hdl := hs'.dl
      rw [st_put_m] at hmr hdl hx' hnb'
      have hdm : ∀ k, g'.dom k → g.dom k ∨ k = nb0 + i ∨ nb0 + ops.size ≤ k := fun k hk => by
        rcases hdom' k hk with h1 | h1 | h1
        · exact .inl h1
        · exact .inr (.inl h1)
        · have := hdl k hk
          simp only at h1
          omega
      refine ih _ _ _ _ (h.next hchk ho hunf hed (fun v' d hv' hd => by rw [hv] at hv'; cases hv'; rw [← hv2 d hd]; exact hu) hdst hmr hdl hx' hdm) (fun j hj => getD_set_true (hsk j hj)) (fun j hj => ?_) hcnt'
      have hne : j ≠ i := fun e => by subst e; rw [hDi] at hj; cases hj
      rw [getD_set_ne false (Ne.symm hne)]; exact hDl j hj
theorem pw_big (hT : TOK T P) (hmix : P.follows .mixedOrders = true) {id : Nat} {ops : Array Oper} {Q : Exit → St → Prop} {s : St} {b : Nat} {ob : Oper} {f : Operand} {args : Array Operand} {ats : Array Nat} {gf : Nat} {caps : List PV} {EB : List (Nat × PV)} {A : Nat → Bool} {vs : List PV} {kV : Option Nat}
    (hchk : qchk ops.toList = true) (hob : ops.toList[b]? = some ob) (hop : ob.op = .call ⟨.value f, args, ats⟩) (hgd : ob.guard = none) (hfc : peval T (qenv ops.toList EB ob) f = .clos gf caps) (hdst : dstOK s.n ob.dst = true)
    (hlen : vs.length = ops.toList.length) (hAb : A b = false)
    (hTc : ∀ i o, A i = false → i ≠ b → ops.toList[i]? = some o → ∃ e ∈ o.after, Region.binds .any e = true ∧ A e.on = false)
    (hfb : Fit ops.toList vs s.env EB b ob)
    (hA : ∀ i o v, A i = true → ops.toList[i]? = some o → vs[i]? = some v → ∃ E, Fit ops.toList vs s.env E i o ∧ efact T ops.toList s.n s.m.bx s.m.nb i o E v ∧ (Behind ops.toList ob i ∨ ((∀ k ∈ fpV (peval T (qenv ops.toList E o)) o.op, kV = some k) ∧ ∀ e ∈ o.after, Region.binds .any e = true → A e.on = true)))
    (hb : SpecM T P Y gf (args.toList.map (peval T (qenv ops.toList EB ob)) ++ caps) ⟨s.m.nb + ops.toList.length, s.m.bx, s.m.ys⟩ (fun r m2 => (∀ k, kV = some k → m2.bx k = s.m.bx k) ∧ ∃ vs2 EF, vs2.length = ops.toList.length ∧ vs2[b]? = some r ∧ (∀ i, A i = true → vs2[i]? = vs[i]?) ∧
      (∀ i o v, A i = false → i ≠ b → ops.toList[i]? = some o → vs2[i]? = some v → ∃ E, Fit ops.toList vs2 s.env E i o ∧ efact T ops.toList s.n m2.bx s.m.nb i o E v) ∧ Fin ops.toList vs2 s.env EF ∧ Q .normal ⟨s.n, EF, m2⟩)) : PW T P Y (.region id ops true) Q s := by
  intro r n cx lo ds g a w hr hy hf0
  have hget : ∀ i, ops.toList[i]? = ops[i]? := fun i => by rw [Array.getElem?_toList]
  have hobA : ops[b]? = some ob := by rw [← hget]; exact hob
  have hbl := (Array.getElem?_eq_some_iff.1 hobA).1
  refine wpIn_region_any hmix ?_
  have hw : (({ w with drawn := w.drawn + 1 } : World)).heap = w.heap := rfl
  have hex : EX cx g s.m w g ⟨s.m.nb + ops.toList.length, s.m.bx, s.m.ys⟩ { w with drawn := w.drawn + 1 } := (EX.of_heap (m := s.m) hw rfl rfl rfl).nb
  have hm0 : MR T cx g ⟨s.m.nb + ops.toList.length, s.m.bx, s.m.ys⟩ { w with drawn := w.drawn + 1 } := ((hf0.rs.reserve ops.toList.length).mr).of_heap hw
  have rep : ∀ i, (Array.replicate ops.size false).getD i false = false := fun i => by
    simp only [Array.getD, Array.size_replicate]
    split <;> simp
  have inv0 : QInv T P Y cx ops vs s.env s.n s.m.nb g s.m a w ⟨s.m.nb + ops.toList.length, s.m.bx, s.m.ys⟩ (Array.replicate ops.size false) g a { w with drawn := w.drawn + 1 } := {
    yok := hy.gx hex.gx
    sz := by simp
    cl := fun j o hj => by rw [rep] at hj; cases hj
    mr := hm0
    dl := fun k hk => Nat.lt_of_lt_of_le (hf0.rs.dl k hk) (Nat.le_add_right _ _)
    tz := hf0.rs.sz
    dom := fun k hk => .inl (hf0.rs.dl k hk)
    v1 := fun i o v d hj => by rw [rep] at hj; cases hj
    v2 := fun k _ => (hf0.rs.env k).mono hex.gx
    ex := hex
    dn := fun k hk => .inl hk
    df := rfl }
  have nsz : ops.toList.length = ops.size := by simp
  refine quiet2_go hT (m := ⟨s.m.nb + ops.toList.length, s.m.bx, s.m.ys⟩) (EF := []) (skip := fun _ => false) (D := fun i => decide (i < ops.size) && !A i) (B := fun i => decide (i = b)) hlen hchk (by simp) ?_ ?_ ?_ ?_ ?_ ops.size _ g a _ inv0 (fun i hi => by cases hi) (fun i _ => rep i) ?_
  · intro i o v _ hDi _ ho hv
    have hi : i < ops.size := by rw [← nsz]; exact (List.getElem?_eq_some_iff.1 ho).1
    have hAi : A i = true := by
      have h1 : decide (i < ops.size) = true := by simpa using hi
      rw [h1] at hDi
      simpa using hDi
    obtain ⟨E, h1, h2, _⟩ := hA i o v hAi ho hv
    exact ⟨E, h1, h2⟩
  · intro i o hDi hBi ho
    have hne : i ≠ b := by simpa using hBi
    rw [Bool.and_eq_true, Bool.not_eq_true'] at hDi
    obtain ⟨e, he, hbe, hae⟩ := hTc i o hDi.2 hne ho
    refine ⟨e, he, hbe, ?_⟩
    have := (qchk_spec hchk ho).1 e he hbe
    have hi : i < ops.size := by simpa using hDi.1
    rw [hae, Bool.not_false, Bool.and_true]
    simp only [decide_eq_true_eq]; omega
  · intro h0
    have := h0 b hbl
    rw [hAb] at this
    have h1 : decide (b < ops.size) = true := by simpa using hbl
    rw [h1] at this; cases this
  · -- the call
    intro i o hBi ho fuel listed g1 a1 w1 inv _ hDl hunf hed hcnt
    have hib : i = b := by simpa using hBi
    subst hib
    rw [hobA] at ho; cases ho
    have henv := inv.look hlen hchk hobA hunf hed hfb
    have hnm : ¬ g1.dom (s.m.nb + i) := fun hk => by
      rcases inv.dom _ hk with h1 | ⟨j, hj, hlj, e⟩ | h1
      · omega
      · have : j = i := by omega
        subst this; rw [hunf] at hlj; cases hlj
      · omega
    have hs : RS T cx g1 ⟨s.n, qenv ops.toList EB ob, ⟨s.m.nb + ops.toList.length, s.m.bx, s.m.ys⟩⟩ a1 w1 := ⟨inv.mr, inv.dl, henv, inv.tz⟩
    have hwant : Region.wanted ob (yielded ops a1.tmps) = true := by simp [Region.wanted, hgd]
    unfold wpOpIn
    simp only [hobA]
    rw [if_pos hwant]
    refine pop1_ok (F := fun s' => ∃ rr m2, s' = St.put ⟨s.n, qenv ops.toList EB ob, ⟨s.m.nb + ops.toList.length, s.m.bx, s.m.ys⟩⟩ ob.dst rr m2 ∧ (∀ k, kV = some k → m2.bx k = s.m.bx k) ∧ ∃ vs2 EF, vs2.length = ops.toList.length ∧ vs2[i]? = some rr ∧ (∀ i, A i = true → vs2[i]? = vs[i]?) ∧
      (∀ i' o v, A i' = false → i' ≠ i → ops.toList[i']? = some o → vs2[i']? = some v → ∃ E, Fit ops.toList vs2 s.env E i' o ∧ efact T ops.toList s.n m2.bx s.m.nb i' o E v) ∧ Fin ops.toList vs2 s.env EF ∧ Q .normal ⟨s.n, EF, m2⟩) hT inv.yok hs hnm (by show s.m.nb + i < s.m.nb + ops.toList.length; omega) ?_ ?_
    · unfold pop1
      rw [hop]
      simp only [popC, hfc]
      exact ⟨hdst, hb.mono fun rr m2 hq => ⟨rr, m2, rfl, hq⟩⟩
    · rintro s' g' a' w' hs' hx' hnb' hdom' hdf' hn' ⟨rr, m2, rfl, hkV, vs2, EF, hl2, hvb, hsame, hT2, hfin, hQ⟩ ⟨u, v2, m3, rfl, hu, hs2⟩
      have hv2 : ∀ d, ob.dst = some d → v2 = rr := by
        intro d hd
        rw [hd] at hs2; simp only [St.put, St.mk.injEq, List.cons.injEq, Prod.mk.injEq] at hs2; exact hs2.2.1.1.2.symm
      have hmr := hs'.mr
      have hdl := hs'.dl
      rw [st_put_m] at hmr hdl hx' hnb'
      have hAl : ∀ j, listed.getD j false = true → A j = true := by
        intro j hj
        cases hAj : A j with
        | true => rfl
        | false =>
          exfalso
          have hjl : j < ops.size := by
            rw [← inv.sz]
            simp only [Array.getD] at hj
            split at hj
            · assumption
            · cases hj
          have h1 : decide (j < ops.size) = true := by simpa using hjl
          have h2 := hDl j (by rw [h1, hAj]; rfl)
          rw [hj] at h2; cases h2
      have inv2 := (inv.vals (vs' := vs2) fun j hj => hsame j (hAl j hj)).next hchk hobA hunf hed (u := u) (g' := g') (m' := m2) (w' := w') (fun v d hv hd => by rw [hvb] at hv; cases hv; rw [← hv2 d hd]; exact hu) hdst hmr hdl hx' (fun k hk => by
        rcases hdom' k hk with h1 | h1 | h1
        · exact .inl h1
        · exact .inr (.inl h1)
        · exact .inr (.inr (by rw [← nsz]; exact h1)))
      have set_i : (listed.setIfInBounds i true).getD i false = true := by simp [Array.getD, inv.sz, hbl]
      refine quiet2_go hT (EF := EF) (skip := fun j => (listed.setIfInBounds i true).getD j false) (D := fun _ => false) (B := fun _ => false) hl2 hchk (by rw [← nsz]; exact hnb') ?_ (fun j o hj => by cases hj) (fun _ => hfin) (fun j o hj => by cases hj) ?_ fuel _ g' _ w' inv2 (fun j hj => hj) (fun j hj => by cases hj) hcnt
      · intro j o v hsk _ _ ho hv
        have hji : j ≠ i := fun e => by subst e; rw [set_i] at hsk; cases hsk
        cases hAj : A j with
        | false => exact hT2 j o v hAj hji ho hv
        | true =>
          obtain ⟨E, hfit, ⟨f1, f2, side, f3, f4⟩, hor⟩ := hA j o v hAj ho (by rw [← hsame j hAj]; exact hv)
          rcases hor with hbeh | ⟨hfp, hcl⟩
          · have := hbeh.listed inv.cl hed
            rw [getD_set_true this] at hsk; cases hsk
          · refine ⟨E, fun k hk => ⟨fun j2 oj v' hji2 hoj hdj hvj => ?_, (hfit k hk).2⟩, f1, f2, side, ?_, f4⟩
            · obtain ⟨e1, he1, hon, hb1⟩ := edgeTo_spec ((qchk_pair hchk ho hoj hdj hk).1 hji2)
              have hAj2 := hcl e1 he1 hb1
              rw [hon] at hAj2
              exact (hfit k hk).1 j2 oj v' hji2 hoj hdj (by rw [← hsame j2 hAj2]; exact hvj)
            · rw [popv_agree (bx := s.m.bx) fun k hk => hkV k (hfp k hk)]; exact f3
      · intro _ g2 a2 w2 j1 j2 j3 j4 j5 j6 j7
        exact ⟨⟨s.n, EF, m2⟩, cx.fx, ds, g2, fun _ h => h, hf0.fx_keep ⟨j1, j2, j3, j4⟩ j5 j7, j5, Nat.le_trans (Nat.le_add_right _ _) hnb', j6, rfl, hQ⟩
  · intro h0
    have := h0 b hbl
    rw [hAb] at this
    have h1 : decide (b < ops.size) = true := by simpa using hbl
    rw [h1] at this; cases this
  · have := List.countP_le_length (p := fun j => !(Array.replicate ops.size false).getD j true) (l := List.range ops.size)
    simpa using this
end
end Go.Proofs.Ytcbhmedknbiffaa
