/-
  The layer Ev: a call by value, in use.
-/
import Derived.Test.YtcbhmedknbiffaaEvK
namespace Go.Proofs.Ytcbhmedknbiffaa
open Go Go.RowKit
def ResOK (O : Nat → PV) (sr : RShape) (rs : List Leaf) (v : PV) (m' : Mem) : Prop :=
  ∃ x bx G, encR sr rs = some (x, bx) ∧ XRM G (fun k => k < m'.nb) ⟨bx, sr.bx.length, m'.ys⟩ m' ∧ RvX G (shB bx) sr.bx.length m' x v ∧ (G.L 0).o = O
def SpecF (T : Tab) (P : Program) (f : Nat) (pa : List VP) (ls : List Leaf) (sr : RShape) (rs : List Leaf) : Prop :=
  Enters P f ∧ ∀ (O : Nat → PV) (xs : List XV) (ps : List PV), encVs pa ls = some (xs, []) → RlX (gn0 O) sh0 0 mem0 xs ps → SpecM T P noY f ps mem0 (ResOK O sr rs)
mutual
def pvX (own : Bool) (nb : Nat) (bx : List (Nat × XBox)) (po : List PV) : XV → PV
  | .i k n => .v (.int k n)
  | .b t => .v (.bool t)
  | .s x => .v (.string x)
  | .nil => .v (.slice none 0 0)
  | .sl _ cs l => .sl true (l.map (pvL true cs))
  | .row j => match lkB bx j with
    | .row _ cs l => bif own then .row (nb + j) cs.length 0 l.length else .sl true (l.map (pvL true cs))
    | _ => .any
  | .agg xs => .agg (pvXs own nb bx po xs)
  | .tup xs => .tup (pvXs own nb bx po xs)
  | .opq j => po.getD j .any
  | .ref j off => match lkB bx j with
    | .cells xs => .ep true ((xs.drop off).map flatPV)
    | _ => .any
  | .clos f xs => .clos f (pvXs own nb bx po xs)
  | _ => .any
def pvXs (own : Bool) (nb : Nat) (bx : List (Nat × XBox)) (po : List PV) : List XV → List PV
  | [] => []
  | x :: xs => pvX own nb bx po x :: pvXs own nb bx po xs
end
def boxOf : XBox → Box
  | .row _ cs l => .row cs.length (l.map (pvL true cs))
  | _ => .dead
def memN (own : Bool) (m : Mem) (nm nb N : Nat) (bx : List (Nat × XBox)) : Mem :=
  bif own then ⟨nb, fun k => if nm ≤ k ∧ k < nm + N then boxOf (lkB bx (k - nm)) else m.bx k, m.ys⟩ else m
def memAdd (own : Bool) (m : Mem) (N : Nat) (bx : List (Nat × XBox)) : Mem := memN own m m.nb (m.nb + N) N bx
theorem frBx_ok : ∀ {bx : List (Nat × XBox)} {j fr cs l}, frBx bx = true → lkB bx j = .row fr cs l → fr = true
  | [], j, fr, cs, l, _, h => by simp [lkB] at h
  | (k, b) :: r, j, fr, cs, l, hf, h => by
    cases b with
    | gone => simp [frBx] at hf
    | mp _ _ => simp [frBx] at hf
    | pv _ _ => simp [frBx] at hf
    | cells xs =>
      simp only [frBx] at hf
      rw [lkB_cons] at h
      split at h
      · cases h
      · exact frBx_ok hf h
    | row fr' cs' l' =>
      simp only [frBx, Bool.and_eq_true] at hf
      rw [lkB_cons] at h
      split at h
      · cases h; exact hf.1
      · exact frBx_ok hf.2 h
def OwnR (G : Gn) (bx : List (Nat × XBox)) (j : Nat) : Prop := OwnX G bx j ∧ ∃ fr cs l, lkB bx j = .row fr cs l
section
variable {T : Tab} {P : Program} {Y : Nat → YS}
mutual
theorem backV {own : Bool} {G : Gn} {A : Nat → Prop} {bx : List (Nat × XBox)} {N : Nat} {ys : Option Code} {m' : Mem} {g' g2 : Gh} {w' : World} {nb : Nat} {po : List PV} {uo : List Value} (hpo : RL g2 w' po uo) (hO : (G.L 0).o = fun j => .v (uo.getD j (.bool false))) (hm : XRM G A ⟨bx, N, ys⟩ m') (hfb : frBx bx = true)
    (R : RR (fun k => own = false ∨ ¬ ∃ j, OwnR G bx j ∧ G.ι j = k) m' g' w' g2 true)
    (hrow : own = true → ∀ j fr cs l u, j < N → lkB bx j = .row fr cs l → ((¬ G.U j ∧ RV g' w' (.row (G.ι j) cs.length 0 l.length) u) ∨ (G.U j ∧ l = [] ∧ u = .slice none 0 0)) → RV g2 w' (.row (nb + j) cs.length 0 l.length) u) :
    ∀ (x : XV) (p : PV) (u : Value), frX bx x = true → RvX G (shB bx) N m' x p → RV g' w' p u → RV g2 w' (pvX own nb bx po x) u
  | .i k n, p, u, _, h, hr => by simp only [RvX] at h; subst h; simp only [pvX, RV] at hr ⊢; exact hr
  | .b t, p, u, _, h, hr => by simp only [RvX] at h; subst h; simp only [pvX, RV] at hr ⊢; exact hr
  | .s x, p, u, _, h, hr => by simp only [RvX] at h; subst h; simp only [pvX, RV] at hr ⊢; exact hr
  | .nil, p, u, _, h, hr => by simp only [RvX] at h; subst h; simp only [pvX, RV] at hr ⊢; exact hr
  | .sl fr cs l, p, u, hf, h, hr => by
    simp only [frX] at hf
    simp only [RvX] at h; obtain ⟨es, h1, h2⟩ := h
    simp only [pvX]
    have h1' : SlR (fun k => own = false ∨ ¬ ∃ j, OwnR G bx j ∧ G.ι j = k) m' fr cs.length p es := by
      refine h1.mono ⟨fun k hk => .inr ?_, fun _ _ => rfl⟩ id
      rintro ⟨j, ho, e⟩
      exact hm.nh j ho.1 (e ▸ hk)
    have h2' : RdE (fun k => own = false ∨ ¬ ∃ j, OwnR G bx j ∧ G.ι j = k) m' fr cs l es := by
      refine h2.mono ⟨fun k hk => .inr ?_, fun _ _ => rfl⟩ id
      rintro ⟨j, ho, e⟩
      exact hm.nh j ho.1 (e ▸ hk)
    exact reE R (fun _ => hf) h1' h2' hr
  | .row j, p, u, _, h, hr => by
    have h0 := h
    simp only [RvX] at h0
    simp only [pvX]
    cases hl : lkB bx j with
    | gone => simp only [RV]
    | mp _ _ => simp only [RV]
    | pv _ _ => simp only [RV]
    | cells xs => simp only [RV]
    | row fr cs l =>
      simp only
      obtain ⟨hj, hor⟩ := hm.row hl h
      cases own with
      | true =>
        rw [cond_true]
        refine hrow rfl j fr cs l u hj hl ?_
        rcases hor with ⟨hu, e, _⟩ | ⟨hu, e1, e2⟩
        · subst e; exact .inl ⟨hu, hr⟩
        · subst e2; simp only [RV] at hr; exact .inr ⟨hu, e1, hr⟩
      | false =>
        rw [cond_false]
        have hfr := frBx_ok hfb hl
        have hH : HX G.H m' (fun k => false = false ∨ ¬ ∃ j, OwnR G bx j ∧ G.ι j = k) m' := ⟨fun _ _ => .inl rfl, fun _ _ => rfl⟩
        rcases hor with ⟨hu, e, es, hb, hre⟩ | ⟨hu, e1, e2⟩
        · refine reE (fx := fr) R (fun _ => hfr) (es := es) (.inr (.inr ⟨_, 0, _, es, e, .inl rfl, hb, by rw [hre.1]; omega, ?_⟩)) (hre.mono hH id) hr
          rw [List.drop_zero, hre.1, List.take_length]
        · subst e1; subst e2
          simp only [RV] at hr
          subst hr
          exact RV.sl_nil (Nat.zero_le _)
  | .agg xs, p, u, hf, h, hr => by
    simp only [frX] at hf
    simp only [RvX] at h; obtain ⟨ps, rfl, h1⟩ := h
    simp only [pvX, RV] at hr ⊢
    obtain ⟨us, rfl, h2⟩ := hr
    exact ⟨us, rfl, backVs hpo hO hm hfb R hrow xs ps us hf h1 h2⟩
  | .tup xs, p, u, hf, h, hr => by
    simp only [frX] at hf
    simp only [RvX] at h; obtain ⟨ps, rfl, h1⟩ := h
    simp only [pvX, RV] at hr ⊢
    obtain ⟨us, rfl, h2⟩ := hr
    exact ⟨us, rfl, backVs hpo hO hm hfb R hrow xs ps us hf h1 h2⟩
  | .any, _, _, hf, _, _ => by simp [frX] at hf
  | .skip, _, _, hf, _, _ => by simp [frX] at hf
  | .rsub _ _ _, _, _, hf, _, _ => by simp [frX] at hf
  | .ref j off, p, u, hf, h, hr => by
    simp only [frX] at hf
    split at hf
    · rename_i xs hl
      simp only [RvX] at h; obtain ⟨hj, rfl⟩ := h
      simp only [pvX, hl]
      have hb := hm.box j
      simp only at hb
      rw [hl] at hb
      obtain ⟨ps, e, hrl⟩ := hb
      simp only [RV] at hr ⊢
      obtain ⟨hd, rfl⟩ := hr
      have hbk := R.box _ hd
      rw [e] at hbk
      obtain ⟨h0, cs, ty, hh, hlr⟩ := hbk
      have hoj : OwnX G bx j := by unfold OwnX; rw [hl]; trivial
      obtain ⟨hpin, hbase⟩ := R.hown (G.ι j) (.inr (by
        rintro ⟨j', ⟨ho, fr, cs', l, hrow⟩, e'⟩
        have := hm.inj j' j ho hoj e'
        subst this
        rw [hl] at hrow; cases hrow)) ⟨hd, by rw [e]; rfl⟩
      refine ⟨_, off, rfl, fun _ => hbase rfl, RM.of_RL (cs := cs.toList.drop off) hpin ?_ fun q v hv => ?_⟩
      · have h3 := hlr.drop off
        rw [flat_rl hf (hrl.drop off)] at h3
        exact flat_RL hf h3
      · rw [cell_of_heap hh]
        rw [List.getElem?_drop, Array.getElem?_toList] at hv
        exact hv
    · cases hf
  | .aref _ _ _ _, _, _, hf, _, _ => by simp [frX] at hf
  | .asl _ _ _ _, _, _, hf, _, _ => by simp [frX] at hf
  | .rp _ _ _, _, _, hf, _, _ => by simp [frX] at hf
  | .ep _, _, _, hf, _, _ => by simp [frX] at hf
  | .aep _ _ _ _, _, _, hf, _, _ => by simp [frX] at hf
  | .clos f xs, p, u, hf, h, hr => by
    simp only [frX] at hf
    simp only [RvX] at h; obtain ⟨ps, rfl, h1⟩ := h
    simp only [pvX, RV] at hr ⊢
    obtain ⟨us, rfl, h2⟩ := hr
    exact ⟨us, rfl, backVs hpo hO hm hfb R hrow xs ps us hf h1 h2⟩
  | .yield _, _, _, hf, _, _ => by simp [frX] at hf
  | .opq j, p, u, _, h, hr => by
    simp only [RvX] at h
    obtain ⟨e, _⟩ := h
    rw [hO] at e
    subst e
    simp only [RV] at hr
    subst hr
    simp only [pvX]
    by_cases hj : j < po.length
    · have h1 := RL.get hpo j _ (List.getElem?_eq_getElem hj)
      obtain ⟨c, h2, h3⟩ := h1
      have e1 : po.getD j .any = po[j] := by simp [List.getD, hj]
      have e2 : uo.getD j (.bool false) = c := by simp [List.getD, h2]
      rw [e1, e2]; exact h3
    · have e1 : po.getD j .any = .any := by simp [List.getD, Nat.le_of_not_lt hj]
      rw [e1]; simp only [RV]
theorem backVs {own : Bool} {G : Gn} {A : Nat → Prop} {bx : List (Nat × XBox)} {N : Nat} {ys : Option Code} {m' : Mem} {g' g2 : Gh} {w' : World} {nb : Nat} {po : List PV} {uo : List Value} (hpo : RL g2 w' po uo) (hO : (G.L 0).o = fun j => .v (uo.getD j (.bool false))) (hm : XRM G A ⟨bx, N, ys⟩ m') (hfb : frBx bx = true)
    (R : RR (fun k => own = false ∨ ¬ ∃ j, OwnR G bx j ∧ G.ι j = k) m' g' w' g2 true)
    (hrow : own = true → ∀ j fr cs l u, j < N → lkB bx j = .row fr cs l → ((¬ G.U j ∧ RV g' w' (.row (G.ι j) cs.length 0 l.length) u) ∨ (G.U j ∧ l = [] ∧ u = .slice none 0 0)) → RV g2 w' (.row (nb + j) cs.length 0 l.length) u) :
    ∀ (xs : List XV) (ps : List PV) (us : List Value), frXs bx xs = true → RlX G (shB bx) N m' xs ps → RL g' w' ps us → RL g2 w' (pvXs own nb bx po xs) us
  | [], ps, us, _, h, hr => by simp only [RlX] at h; subst h; simp only [pvXs, RL] at hr ⊢; exact hr
  | x :: xs, ps, us, hf, h, hr => by
    simp only [frXs, Bool.and_eq_true] at hf
    simp only [RlX] at h; obtain ⟨p, r, rfl, h1, h2⟩ := h
    simp only [RL] at hr; obtain ⟨u, us, rfl, k1, k2⟩ := hr
    simp only [pvXs, RL]
    exact ⟨u, us, rfl, backV hpo hO hm hfb R hrow x p u hf.1 h1 k1, backVs hpo hO hm hfb R hrow xs r us hf.2 h2 k2⟩
end
theorem call_core (own : Bool) (nm nb : Nat) {f : Nat} {pa : List VP} {ls rs : List Leaf} {sr : RShape} {G : Gn} {A : Nat → Prop} {xm : XM} {m : Mem} {axs : List XV} {aps : List PV} {x : XV} {bx : List (Nat × XBox)}
    (hsp : SpecF T P f pa ls sr rs) (h : XRM G A xm m) (hx : RlX G (shB xm.bx) xm.nx m axs aps) {os : List XV} (hv : viewVs xm.bx 0 pa axs = some (ls, os)) (he : encR sr rs = some (x, bx)) (hfr : (frX bx x && frBx bx) = true) :
    Enters P f ∧ ∀ (cx : Cx) (g : Gh) (w : World) (us : List Value), YOK T P Y cx g w → MR T cx g m w → RL g w aps us → (own = true → ∀ k, g.dom k → ¬ (nm ≤ k ∧ k < nm + sr.bx.length)) →
      Calls P f us.toArray w fun e w' => ∃ u g2, e = .returned u ∧ RV g2 w' (pvX own nm bx (opqPs pa aps) x) u ∧ MR T cx g2 (memN own m nm nb sr.bx.length bx) w' ∧ (∀ k, g2.dom k → g.dom k ∨ (own = true ∧ nm ≤ k ∧ k < nm + sr.bx.length)) ∧ EX cx g m w g2 (memN own m nm nb sr.bx.length bx) w' := by
  refine ⟨hsp.1, fun cx g w us hy hm hl hfree => ?_⟩
  -- what is handed in
  have R1 : RR (fun _ => True) m g w { p := fun b o => (g.p b o ∨ ∃ k, Owns g m k ∧ (g.gb k).b = b), base := w.heap.size, dom := fun _ => False, gb := g.gb, ls := g.ls } false :=
    ⟨fun b o _ hp => .inl hp, fun h => by (cases h), fun k _ ho => ⟨fun o => .inr ⟨k, ho, rfl⟩, fun h => by (cases h)⟩, hm.box⟩
  obtain ⟨uo, hpo, _, hO⟩ := viewVs_ok h R1 pa hv hx hl
  obtain ⟨xs, ps, h1, h2, h3⟩ := hO (fun j => .v (uo.getD j (.bool false))) (fun j v hj => by rw [Nat.zero_add]; simp [List.getD, hj])
  have h1' := h1 []
  rw [List.append_nil] at h1'
  have hspec := hsp.2 _ xs ps h1' h2
  -- the callee's context
  obtain ⟨yo, hyo⟩ : ∃ yo : List (Nat × Obj), yo = (match cx.yc with | none => [] | some (l0, r0) => [(l0, Obj.loop (r0 (if m.ys.isNone then .ready else .done) m.ys))]) := ⟨_, rfl⟩
  have hyo1 : ∀ k o, (k, o) ∈ yo → w.heap[k]? = some o ∧ boxy o = false := by
    intro k o hk
    rw [hyo] at hk
    split at hk
    · simp at hk
    · rename_i l0 r0 hc
      simp only [List.mem_singleton, Prod.mk.injEq] at hk
      obtain ⟨rfl, rfl⟩ := hk
      exact ⟨hm.ys _ _ hc, rfl⟩
  have hyo2 : ∀ l0 r0, cx.yc = some (l0, r0) → (l0, Obj.loop (r0 (if m.ys.isNone then .ready else .done) m.ys)) ∈ yo := by
    intro l0 r0 hc; rw [hyo, hc]; simp
  have hm0 : MR T ⟨yo ++ cx.fx, none⟩ { p := fun b o => (g.p b o ∨ ∃ k, Owns g m k ∧ (g.gb k).b = b), base := w.heap.size, dom := fun _ => False, gb := g.gb, ls := g.ls } mem0 w := by
    refine ⟨?_, Nat.le_refl _, fun k hk => hk.elim, fun k ho => ho.1.elim, fun k _ ho => ho.1.elim, fun k ho => ho.1.elim, fun k o hk => ?_, (fun l r e => by cases e), ?_⟩
    · rintro b o (hp | ⟨k, ho, rfl⟩)
      · exact hm.pin b o hp
      · exact hm.owns_block ho
    · rcases List.mem_append.1 hk with hk | hk
      · obtain ⟨k1, k2⟩ := hyo1 k o hk
        exact ⟨k1, k2, fun _ _ e => by cases e⟩
      · obtain ⟨k1, k2, _⟩ := hm.fix k o hk
        exact ⟨k1, k2, fun _ _ e => by cases e⟩
    · intro z hz
      have := hm.glob z hz
      have key : ∀ (l : List Value) (off : Nat), RM g w z.1 off (l.map PV.v) → RM { p := fun b o => (g.p b o ∨ ∃ k, Owns g m k ∧ (g.gb k).b = b), base := w.heap.size, dom := fun _ => False, gb := g.gb, ls := g.ls } w z.1 off (l.map PV.v) := by
        intro l
        induction l with
        | nil => intro off _; simp only [List.map_nil, RM]
        | cons v l ih =>
          intro off hr
          simp only [List.map_cons, RM, RV] at hr ⊢
          exact ⟨.inl hr.1, hr.2.1, ih _ hr.2.2⟩
      exact key _ _ this
  refine (hspec.2 ⟨yo ++ cx.fx, none⟩ _ w us noY_ok hm0 (fun k hk => hk.elim) h3).mono ?_
  rintro e w' ⟨u, r, g', m', rfl, hr, ⟨hm', hd', _, hdom', hex⟩, x', bx', G', he', hxm', hrx, hGO⟩
  rw [he] at he'
  cases he'
  have hfx := and_l hfr
  have hfb := and_r hfr
  have hbase' : g'.base = w.heap.size := hex.gx.base
  have hsame : ∀ k, k < w.heap.size → w'.heap[k]? = w.heap[k]? := fun k hk => hex.same k hk (fun j hj => hj.1.elim) (fun _ _ e => by cases e)
  have hfresh : ∀ k, Owns g' m' k → w.heap.size ≤ (g'.gb k).b := fun k ho => hbase' ▸ hm'.fresh k ho
  -- which boxes keep their names
  obtain ⟨gbf, gbf1, gbf2⟩ : ∃ gbf : Nat → GB, (∀ j, G'.U j → gbf j = ⟨0, 0, 0⟩) ∧ (∀ j, ¬ G'.U j → gbf j = g'.gb (G'.ι j)) :=
    ⟨fun j => @ite _ (G'.U j) (Classical.propDecidable _) ⟨0, 0, 0⟩ (g'.gb (G'.ι j)), fun j hj => if_pos hj, fun j hj => if_neg hj⟩
  obtain ⟨Nm, hNm⟩ : ∃ Nm : Nat → Prop, Nm = fun k => own = true ∧ ∃ j, OwnR G' bx j ∧ G'.ι j = k := ⟨_, rfl⟩
  obtain ⟨ND, hND⟩ : ∃ ND : Nat → Prop, ND = fun j => own = true ∧ j < sr.bx.length ∧ (∃ fr cs l, lkB bx j = .row fr cs l) ∧ (G'.U j ∨ g'.dom (G'.ι j)) := ⟨_, rfl⟩
  obtain ⟨g2, hg2⟩ : ∃ g2 : Gh, g2 = { p := fun b o => g.p b o ∨ (g'.p b o ∧ w.heap.size ≤ b) ∨ ∃ k, Owns g' m' k ∧ ¬ Nm k ∧ (g'.gb k).b = b, base := g.base, dom := fun k => g.dom k ∨ ∃ j, k = nm + j ∧ ND j, gb := fun k => if own = true ∧ nm ≤ k ∧ k < nm + sr.bx.length then gbf (k - nm) else g.gb k, ls := g.ls } := ⟨_, rfl⟩
  have g2p : ∀ b o, g2.p b o ↔ (g.p b o ∨ (g'.p b o ∧ w.heap.size ≤ b) ∨ ∃ k, Owns g' m' k ∧ ¬ Nm k ∧ (g'.gb k).b = b) := fun b o => by rw [hg2]
  have g2base : g2.base = g.base := by rw [hg2]
  have g2dom : ∀ k, g2.dom k ↔ (g.dom k ∨ ∃ j, k = nm + j ∧ ND j) := fun k => by rw [hg2]
  have g2old : ∀ k, g.dom k → g2.gb k = g.gb k := fun k hk => by rw [hg2]; exact if_neg fun h => hfree h.1 k hk h.2
  have g2new : ∀ j, own = true → j < sr.bx.length → g2.gb (nm + j) = gbf j := fun j ho hj => by
    rw [hg2]
    simp only
    rw [if_pos ⟨ho, Nat.le_add_right _ _, by omega⟩, Nat.add_sub_cancel_left]
  have g2ls : g2.ls = g.ls := by rw [hg2]
  clear hg2
  obtain ⟨m2, hm2⟩ : ∃ m2, m2 = memN own m nm nb sr.bx.length bx := ⟨_, rfl⟩
  rw [← hm2]
  have mold : ∀ k, g.dom k → m2.bx k = m.bx k := fun k hk => by
    rw [hm2]; unfold memN
    cases own with
    | true => simp only [cond_true]; exact if_neg (hfree rfl k hk)
    | false => rfl
  have mnew : own = true → ∀ j, j < sr.bx.length → m2.bx (nm + j) = boxOf (lkB bx j) := fun ho j hj => by
    rw [hm2]; subst ho; unfold memN
    simp only [cond_true]
    rw [if_pos ⟨Nat.le_add_right _ _, by omega⟩, Nat.add_sub_cancel_left]
  have mys : m2.ys = m.ys := by rw [hm2]; unfold memN; cases own <;> rfl
  have hnd : ∀ j, ND j → own = true ∧ j < sr.bx.length ∧ (∃ fr cs l, lkB bx j = .row fr cs l) ∧ (G'.U j ∨ g'.dom (G'.ι j)) := fun j hj => by rw [hND] at hj; exact hj
  -- what is owned
  have split : ∀ k, Owns g2 m2 k → (Owns g m k ∧ g2.gb k = g.gb k) ∨ (∃ j, k = nm + j ∧ OwnR G' bx j ∧ Owns g' m' (G'.ι j) ∧ g2.gb k = g'.gb (G'.ι j) ∧ own = true) := by
    rintro k ⟨h1, h2⟩
    rcases (g2dom k).1 h1 with hk | ⟨j, rfl, hj⟩
    · rw [mold k hk, g2old k hk] at h2
      exact .inl ⟨⟨hk, h2⟩, g2old k hk⟩
    · obtain ⟨n1, n2, ⟨fr, cs, l, hl⟩, n4⟩ := hnd j hj
      rw [mnew n1 j n2, g2new j n1 n2, hl] at h2
      have hu : ¬ G'.U j := fun hu => by rw [gbf1 j hu] at h2; simp [boxOf, Box.owns] at h2
      have hown := own_row hl hu
      refine .inr ⟨j, rfl, ⟨hown, fr, cs, l, hl⟩, ⟨n4.resolve_left hu, ?_⟩, by rw [g2new j n1 n2, gbf2 j hu], n1⟩
      rw [gbf2 j hu] at h2
      have hbx := hxm'.box j
      simp only at hbx
      rw [hl] at hbx
      rcases hbx with ⟨hu', _⟩ | ⟨_, es, hb, _⟩
      · exact absurd hu' hu
      · rw [hb]; simpa [boxOf, Box.owns] using h2
  have oldBlock : ∀ k, Owns g m k → (g.gb k).b < w.heap.size := fun k hk => hm.owns_block hk
  -- the world's growth
  have hgx : GX g w g2 w' := by
    refine ⟨fun b o hp => (g2p b o).2 (.inl hp), g2base, fun k hk => (g2dom k).2 (.inl hk), fun k hk => g2old k hk, fun i l => by rw [g2ls]; exact id, fun b o v hp hc => ?_⟩
    have hlt := hm.pin b o hp
    simp only [World.cell?] at hc ⊢
    rw [hsame b hlt]; exact hc
  have R : RR (fun k => own = false ∨ ¬ ∃ j, OwnR G' bx j ∧ G'.ι j = k) m' g' w' g2 true := by
    refine ⟨fun b o hb hp => (g2p b o).2 (.inr (.inl ⟨hp, hbase' ▸ hb rfl⟩)), fun _ => by rw [g2base, hbase']; exact hm.base, fun k hk ho => ⟨fun o => (g2p _ o).2 (.inr (.inr ⟨k, ho, ?_, rfl⟩)), fun _ => by rw [g2base]; exact Nat.le_trans hm.base (hfresh k ho)⟩, hm'.box⟩
    rw [hNm]
    rintro ⟨n1, n2⟩
    rcases hk with hk | hk
    · rw [hk] at n1; cases n1
    · exact hk n2
  have HXn : HX G'.H m' (fun k => own = false ∨ ¬ ∃ j, OwnR G' bx j ∧ G'.ι j = k) m' := ⟨fun k hk => .inr (by rintro ⟨j, ho, e⟩; exact hxm'.nh j ho.1 (e ▸ hk)), fun _ _ => rfl⟩
  have reRC : ∀ (cs : List CT) (fr : Bool), fr = true → ∀ (es : List (List PV)) (l : List (DenL cs)) (cells : List Value), RdE (fun k => own = false ∨ ¬ ∃ j, OwnR G' bx j ∧ G'.ι j = k) m' fr cs l es → RC g' w' cs.length es cells → RC g2 w' cs.length (l.map (pvL true cs)) cells := by
    intro cs fr hfr1 es
    induction es with
    | nil =>
      intro l cells hre _
      have : l = [] := List.eq_nil_of_length_eq_zero (by simpa using hre.1)
      subst this
      simp only [List.map_nil, RC]
    | cons e es ih =>
      intro l cells hre hrc
      cases l with
      | nil => have := hre.1; simp at this
      | cons y l =>
        simp only [RC] at hrc
        obtain ⟨c1, c, r', rfl, c2, c3⟩ := hrc
        have hy := hre.2 0 y e rfl rfl
        simp only [List.map_cons, RC]
        exact ⟨pvL_length cs y, c, r', rfl, reL R (fun _ => hfr1) cs y e c hy c2, ih l r' (by have := hre.drop 1; simpa using this) c3⟩
  have hmr : MR T cx g2 m2 w' := by
    refine ⟨fun b o hp => ?_, by rw [g2base]; exact Nat.le_trans hm.base hex.size, fun k hk => ?_, fun k ho o hp => ?_, fun k k' ho ho' e => ?_, fun k ho => ?_, fun k o hk => ?_, fun l r0 hc => ?_, hm.glob.mono hgx⟩
    · rcases (g2p b o).1 hp with hp | ⟨hp, _⟩ | ⟨k, ho, _, rfl⟩
      · exact Nat.lt_of_lt_of_le (hm.pin b o hp) hex.size
      · exact hm'.pin b o hp
      · exact hm'.owns_block ho
    · rcases (g2dom k).1 hk with hk | ⟨j, rfl, hj⟩
      · rw [g2old k hk, mold k hk]
        exact (hm.box k hk).mono hgx fun ho => hsame _ (oldBlock k ⟨hk, ho⟩)
      · obtain ⟨n1, n2, ⟨fr, cs, l, hl⟩, n4⟩ := hnd j hj
        rw [g2new j n1 n2, mnew n1 j n2, hl]
        have hbx := hxm'.box j
        simp only at hbx
        rw [hl] at hbx
        rcases hbx with ⟨hu, e⟩ | ⟨hu, es, hb, hre⟩
        · rw [gbf1 j hu]
          subst e
          exact ⟨Nat.le_refl _, Nat.zero_le _, fun h => absurd rfl h⟩
        · rw [gbf2 j hu]
          have hbk := hm'.box _ (n4.resolve_left hu)
          rw [hb] at hbk
          obtain ⟨b1, b2, b3⟩ := hbk
          refine ⟨by rw [List.length_map, hre.1]; exact b1, b2, fun hc => ?_⟩
          obtain ⟨cells, ty, c1, c2, c3⟩ := b3 hc
          exact ⟨cells, ty, c1, c2, reRC cs fr (frBx_ok hfb hl) es l _ (hre.mono HXn id) c3⟩
    · rcases split k ho with ⟨ho1, e1⟩ | ⟨j, rfl, hj, ho1, e1, hown⟩
      · rw [e1] at hp
        rcases (g2p _ o).1 hp with hp | ⟨_, hp⟩ | ⟨k', ho', _, e⟩
        · exact hm.np k ho1 o hp
        · have := oldBlock k ho1; omega
        · have := oldBlock k ho1; have := hfresh k' ho'; omega
      · rw [e1] at hp
        rcases (g2p _ o).1 hp with hp | ⟨hp, _⟩ | ⟨k', ho', hn, e⟩
        · have := hm.pin _ o hp; have := hfresh _ ho1; omega
        · exact hm'.np _ ho1 o hp
        · have := hm'.inj k' _ ho' ho1 e
          exact hn (by rw [hNm]; exact ⟨hown, j, hj, this.symm⟩)
    · rcases split k ho with ⟨ho1, e1⟩ | ⟨j, rfl, hj, ho1, e1, _⟩
      · rcases split k' ho' with ⟨ho1', e1'⟩ | ⟨j', rfl, hj', ho1', e1', _⟩
        · rw [e1, e1'] at e; exact hm.inj k k' ho1 ho1' e
        · rw [e1, e1'] at e; have := oldBlock k ho1; have := hfresh _ ho1'; omega
      · rcases split k' ho' with ⟨ho1', e1'⟩ | ⟨j', rfl, hj', ho1', e1', _⟩
        · rw [e1, e1'] at e; have := oldBlock k' ho1'; have := hfresh _ ho1; omega
        · rw [e1, e1'] at e
          have := hm'.inj _ _ ho1 ho1' e
          rw [hxm'.inj j j' hj.1 hj'.1 this]
    · rw [g2base]
      rcases split k ho with ⟨ho1, e1⟩ | ⟨j, rfl, hj, ho1, e1, _⟩
      · rw [e1]; exact hm.fresh k ho1
      · rw [e1]; exact Nat.le_trans hm.base (hfresh _ ho1)
    · have h0 := hm.fix k o hk
      exact ⟨(hm'.fix k o (List.mem_append_right _ hk)).1, h0.2.1, h0.2.2⟩
    · rw [mys]
      exact (hm'.fix _ _ (List.mem_append_left _ (hyo2 l r0 hc))).1
  have hex2 : EX cx g m w g2 m2 w' := by
    refine ⟨hgx, hex.size, hex.os, hex.tape, hex.output, fun k hk _ _ => hsame k hk, fun b o hp => ?_, fun k ho => ?_⟩
    · rcases (g2p b o).1 hp with hp | ⟨_, hp⟩ | ⟨k, ho, _, rfl⟩
      · exact .inl hp
      · exact .inr (.inl hp)
      · exact .inr (.inl (hfresh k ho))
    · rcases split k ho with ⟨ho1, e1⟩ | ⟨j, rfl, hj, ho1, e1, _⟩
      · exact .inr ⟨k, ho1, by rw [e1]⟩
      · exact .inl (by rw [e1]; exact hfresh _ ho1)
  refine ⟨u, g2, rfl, backV (RL.mono hgx _ _ hpo) hGO hxm' hfb R ?_ x r u hfx hrx hr, hmr, fun k hk => ?_, hex2⟩
  · intro hown j fr cs l u1 hj hl hor
    have gD : (G'.U j ∨ g'.dom (G'.ι j)) → g2.dom (nm + j) := fun hh => (g2dom _).2 (.inr ⟨j, rfl, by rw [hND]; exact ⟨hown, hj, ⟨fr, cs, l, hl⟩, hh⟩⟩)
    rcases hor with ⟨hu, hr1⟩ | ⟨hu, e1, e2⟩
    · simp only [RV] at hr1 ⊢
      obtain ⟨d1, a, cap, d2, d3, d4, d5⟩ := hr1
      exact ⟨gD (.inr d1), a, cap, d2, d3, d4, fun hc => by rw [g2new j hown hj, gbf2 j hu]; exact d5 hc⟩
    · subst e1; subst e2
      simp only [RV]
      exact ⟨gD (.inl hu), none, 0, rfl, Nat.le_refl _, Nat.zero_le _, fun hc => absurd rfl hc⟩
  · rcases (g2dom k).1 hk with hk | ⟨j, rfl, hj⟩
    · exact .inl hk
    · obtain ⟨n1, n2, _⟩ := hnd j hj
      exact .inr ⟨n1, Nat.le_add_right _ _, by omega⟩
theorem call_spec (own : Bool) {f : Nat} {pa : List VP} {ls rs : List Leaf} {sr : RShape} {G : Gn} {A : Nat → Prop} {xm : XM} {m : Mem} {axs : List XV} {aps : List PV} {x : XV} {bx : List (Nat × XBox)}
    (hsp : SpecF T P f pa ls sr rs) (h : XRM G A xm m) (hx : RlX G (shB xm.bx) xm.nx m axs aps) {os : List XV} (hv : viewVs xm.bx 0 pa axs = some (ls, os)) (he : encR sr rs = some (x, bx)) (hfr : (frX bx x && frBx bx) = true) :
    SpecM T P Y f aps m (fun pv m' => pv = pvX own m.nb bx (opqPs pa aps) x ∧ m' = memAdd own m sr.bx.length bx) := by
  obtain ⟨h1, h2⟩ := call_core (Y := Y) own m.nb (m.nb + sr.bx.length) hsp h hx hv he hfr
  refine ⟨h1, fun cx g w us hy hm hd hl => (h2 cx g w us hy hm hl fun _ k hk hh => by have := hd k hk; omega).mono ?_⟩
  rintro e w' ⟨u, g2, rfl, k1, k2, k3, k4⟩
  refine ⟨u, _, g2, _, rfl, k1, ⟨k2, fun k hk => ?_, ?_, fun k hk => ?_, k4⟩, rfl, rfl⟩
  · rcases k3 k hk with h3 | ⟨ho, h3, h4⟩
    · have := hd k h3
      unfold memN
      cases own
      · exact this
      · simp only [cond_true]; omega
    · subst ho
      unfold memN
      simp only [cond_true]; omega
  · unfold memN
    cases own
    · exact Nat.le_refl _
    · exact Nat.le_add_right _ _
  · rcases k3 k hk with h3 | ⟨_, h3, _⟩
    · exact .inl h3
    · exact .inr h3
end
end Go.Proofs.Ytcbhmedknbiffaa
