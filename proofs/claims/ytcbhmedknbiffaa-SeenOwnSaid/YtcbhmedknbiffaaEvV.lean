/-
  The layer Ev: a region that draws its order, walks through one call, makes one box and writes to it.
-/
import Derived.Test.YtcbhmedknbiffaaEvU
namespace Go.Proofs.Ytcbhmedknbiffaa
open Go Go.RowKit
def InvD (all : List Oper) (vs : List PV) (env0 : List (Nat × PV)) (D : Nat → Prop) (E : List (Nat × PV)) : Prop :=
  ∀ k, (∀ j oj v, D j → all[j]? = some oj → oj.dst = some k → vs[j]? = some v → lk E k = v) ∧ ((∀ j oj, D j → all[j]? = some oj → oj.dst ≠ some k) → lk E k = lk env0 k)
theorem qchk_one {all : List Oper} (hq : qchk all = true) {i j k : Nat} {oi oj : Oper} (hi : all[i]? = some oi) (hj : all[j]? = some oj) (h1 : oi.dst = some k) (h2 : oj.dst = some k) : i = j := by
  by_cases e : i = j
  · exact e
  · exact absurd h1 (qchk_uniq hq hi hj e h2)
theorem InvD.base {all : List Oper} {vs : List PV} {env0 : List (Nat × PV)} : InvD all vs env0 (fun _ => False) env0 := fun _ => ⟨fun _ _ _ h => h.elim, fun _ => rfl⟩
theorem InvD.q {all : List Oper} {vs vt : List PV} {env0 E : List (Nat × PV)} {D : Nat → Prop} {sel : Nat → Bool} {J : Nat} (hq : qchk all = true) (hl : vt.length = all.length) (h : InvD all vs env0 D E) (hv : ∀ j, sel j = true → j < all.length → vs[j]? = vt[j]?) :
    InvD all vs env0 (fun j => D j ∨ (sel j = true ∧ j < J)) (qAt sel E 0 all vt J) := by
  intro k
  refine ⟨fun j oj v hD hoj hd hvj => ?_, fun hno => ?_⟩
  · have hjl : j < all.length := (List.getElem?_eq_some_iff.1 hoj).1
    have un : ∀ i' o', i' ≠ j → all[i']? = some o' → o'.dst ≠ some k := fun i' o' hne ho' hd' => hne (qchk_one hq ho' hoj hd' hd)
    by_cases hs : sel j = true ∧ j < J
    · rw [hv j hs.1 hjl] at hvj
      exact qAt_some all vt E 0 J j oj v hl hs.2 hoj (by rw [Nat.zero_add]; exact hs.1) hd hvj un
    · rw [qAt_none all vt E 0 J fun j' o' hj' ho' hs' hd' => hs (by
        rw [Nat.zero_add] at hs'
        have := qchk_one hq ho' hoj hd' hd
        subst this; exact ⟨hs', hj'⟩)]
      exact (h k).1 j oj v (hD.resolve_right hs) hoj hd hvj
  · rw [qAt_none all vt E 0 J fun j oj hj hoj hs hd => hno j oj (.inr ⟨by rw [Nat.zero_add] at hs; exact hs, hj⟩) hoj hd]
    exact (h k).2 fun j oj hD hoj => hno j oj (.inl hD) hoj
theorem InvD.put {all : List Oper} {vs : List PV} {env0 E : List (Nat × PV)} {D : Nat → Prop} {i : Nat} {o : Oper} {v : PV} (hq : qchk all = true) (ho : all[i]? = some o) (hv : vs[i]? = some v) (h : InvD all vs env0 D E) :
    InvD all vs env0 (fun j => D j ∨ j = i) (eput E o.dst v) := by
  intro k
  rw [lk_eput]
  refine ⟨fun j oj v' hD hoj hd hvj => ?_, fun hno => ?_⟩
  · split
    · rename_i hd'
      have := qchk_one hq ho hoj hd' hd
      subst this
      rw [hv] at hvj; cases hvj; rfl
    · rename_i hd'
      refine (h k).1 j oj v' (hD.resolve_right fun e => hd' ?_) hoj hd hvj
      subst e
      rw [ho] at hoj; cases hoj; exact hd
  · rw [if_neg fun hd => hno i o (.inr rfl) ho hd]
    exact (h k).2 fun j oj hD hoj => hno j oj (.inl hD) hoj
theorem InvD.vals {all : List Oper} {vs vs' : List PV} {env0 E : List (Nat × PV)} {D : Nat → Prop} (h : InvD all vs env0 D E) (hv : ∀ j, D j → vs'[j]? = vs[j]?) : InvD all vs' env0 D E :=
  fun k => ⟨fun j oj v hD hoj hd hvj => (h k).1 j oj v hD hoj hd (by rw [← hv j hD]; exact hvj), (h k).2⟩
theorem InvD.fit {all : List Oper} {vs : List PV} {env0 E : List (Nat × PV)} {D : Nat → Prop} {i : Nat} {o : Oper} (hq : qchk all = true) (h : InvD all vs env0 D E) (ho : all[i]? = some o)
    (h1 : ∀ j oj k, j < i → all[j]? = some oj → oj.dst = some k → k ∈ opTmps o.op ++ glook all o → edgeTo o j = true → D j) (h2 : ∀ j oj, i < j → all[j]? = some oj → edgeTo oj i = true → ¬ D j) (h3 : ¬ D i) : Fit all vs env0 E i o := by
  intro k hk
  refine ⟨fun j oj v hji hoj hd hv => (h k).1 j oj v (h1 j oj k hji hoj hd hk ((qchk_pair hq ho hoj hd hk).1 hji)) hoj hd hv, fun hno => (h k).2 fun j oj hD hoj hd => ?_⟩
  rcases Nat.lt_trichotomy j i with h' | h' | h'
  · exact hno j oj h' hoj hd
  · subst h'; exact h3 hD
  · exact h2 j oj h' hoj ((qchk_pair hq ho hoj hd hk).2 h') hD
theorem InvD.fin {all : List Oper} {vs : List PV} {env0 E : List (Nat × PV)} {D : Nat → Prop} (h : InvD all vs env0 D E) (hD : ∀ j, j < all.length → D j) : Fin all vs env0 E :=
  fun k => ⟨fun j oj v hoj hd hv => (h k).1 j oj v (hD j (List.getElem?_eq_some_iff.1 hoj).1) hoj hd hv, fun hno => (h k).2 fun j oj _ hoj => hno j oj hoj⟩
theorem edgeIn_spec {o : Oper} {p : Nat → Bool} (h : edgeIn o p = true) : ∃ e ∈ o.after, Region.binds .any e = true ∧ p e.on = true := by
  obtain ⟨e, he, hb⟩ := List.any_eq_true.1 h
  exact ⟨e, Array.mem_toList_iff.1 he, and_l hb, and_r hb⟩
theorem nb_ne {i j : Nat} : (!Nat.beq i j) = true ↔ i ≠ j := by rw [nbeq]; simp
theorem aA_spec {all : List Oper} {b ia is i : Nat} {ob : Oper} (hbo : all[b]? = some ob) (h : aA all b ia is i = true) : i ≠ b ∧ i ≠ ia ∧ i ≠ is ∧ behX all 12 ob i = true := by
  unfold aA at h
  rw [hbo] at h
  simp only at h
  have h1 := and_l h
  exact ⟨nb_ne.1 (and_l h1), nb_ne.1 (and_l (and_r h1)), nb_ne.1 (and_r (and_r h1)), and_r h⟩
theorem cA_spec {all : List Oper} {b ia is i : Nat} (h : cA all b ia is i = true) : i ≠ b ∧ i ≠ ia ∧ i ≠ is ∧ aA all b ia is i = false := by
  unfold cA at h
  split at h
  · have h1 := and_l h
    exact ⟨nb_ne.1 (and_l h1), nb_ne.1 (and_l (and_r h1)), nb_ne.1 (and_r (and_r h1)), by simpa using and_l (and_r h)⟩
  · cases h
theorem uA_spec {all : List Oper} {b ia is i : Nat} (h : uA all b ia is i = true) : i ≠ b ∧ i ≠ ia ∧ i ≠ is ∧ aA all b ia is i = false ∧ cA all b ia is i = false := by
  unfold uA at h
  have h1 := and_l h
  exact ⟨nb_ne.1 (and_l h1), nb_ne.1 (and_l (and_r h1)), nb_ne.1 (and_r (and_r h1)), by simpa using and_l (and_r h), by simpa using and_r (and_r h)⟩
theorem classes (all : List Oper) (b ia is i : Nat) : aA all b ia is i = true ∨ i = b ∨ i = ia ∨ i = is ∨ uA all b ia is i = true ∨ cA all b ia is i = true := by
  by_cases h1 : i = b
  · exact .inr (.inl h1)
  by_cases h2 : i = ia
  · exact .inr (.inr (.inl h2))
  by_cases h3 : i = is
  · exact .inr (.inr (.inr (.inl h3)))
  cases ha : aA all b ia is i with
  | true => exact .inl rfl
  | false =>
    cases hc : cA all b ia is i with
    | true => exact .inr (.inr (.inr (.inr (.inr rfl))))
    | false =>
      refine .inr (.inr (.inr (.inr (.inl ?_))))
      unfold uA
      rw [ha, hc, nb_ne.2 h1, nb_ne.2 h2, nb_ne.2 h3]; rfl
structure ChkM (all : List Oper) (b ia is : Nat) (oa os : Oper) : Prop where
  n1 : b ≠ ia
  n2 : ia < is
  n3 : b < is
  ga : oa.guard = none
  gs : os.guard = none
  st : storesTo os oa.dst = true
  ea : ∀ i o, (i = b ∨ aA all b ia is i = true) → all[i]? = some o → ∀ e ∈ o.after, Region.binds .any e = true → aA all b ia is e.on = true
  es1 : ∀ o, all[is]? = some o → ∃ e ∈ o.after, Region.binds .any e = true ∧ e.on = ia
  es2 : ∀ o, all[is]? = some o → ∃ e ∈ o.after, Region.binds .any e = true ∧ (e.on = b ∨ uA all b ia is e.on = true)
  ec : ∀ i o, cA all b ia is i = true → all[i]? = some o → is < i ∧ ∃ e ∈ o.after, Region.binds .any e = true ∧ (e.on = is ∨ cA all b ia is e.on = true)
  eu : ∀ i o, uA all b ia is i = true → all[i]? = some o → b < i ∧ i < is ∧ (∃ e ∈ o.after, Region.binds .any e = true ∧ (e.on = b ∨ uA all b ia is e.on = true)) ∧ ∀ k, k ∈ opTmps o.op ++ glook all o → oa.dst ≠ some k
theorem chkM_spec {all : List Oper} {b ia is : Nat} {oa os ob : Oper} (hbo : all[b]? = some ob) (h : chkM all b ia is oa os = true) : ChkM all b ia is oa os := by
  unfold chkM at h
  have h0 := and_l h
  have hz := and_r h
  have h1 := and_r h0
  have h2 := and_r h1
  have h3 := and_r h2
  have h4 := and_r h3
  have n1 : b ≠ ia := nb_ne.1 (and_l h0)
  have n2 : ia < is := by have := and_l h1; simpa [Nat.blt_eq] using this
  have n3 : b < is := by have := and_l h2; simpa [Nat.blt_eq] using this
  have cas : ∀ i o, all[i]? = some o → _ := fun i o ho => zipIdx_all hz (i := i) (a := o) ho
  have nbf : ∀ {i j : Nat}, i ≠ j → Nat.beq i j = false := fun h => by have := nb_ne.2 h; simpa using this
  refine ⟨n1, n2, n3, Option.isNone_iff_eq_none.1 (and_l h3), Option.isNone_iff_eq_none.1 (and_l h4), and_r h4, ?_, ?_, ?_, ?_, ?_⟩
  · intro i o hor ho e he hb
    have hc := cas i o ho
    simp only at hc
    have ht : (Nat.beq i b || aA all b ia is i) = true := by
      rcases hor with h | h
      · subst h; rw [Nat.beq_refl]; rfl
      · rw [h, Bool.or_true]
    rw [ht, cond_true] at hc
    have := List.all_eq_true.1 hc e (Array.mem_toList_iff.2 he)
    simpa [hb] using this
  · intro o ho
    have hc := cas is o ho
    simp only at hc
    have ha : aA all b ia is is = false := by
      cases ha : aA all b ia is is with
      | false => rfl
      | true => exact absurd rfl (aA_spec hbo ha).2.2.1
    rw [nbf (by omega : is ≠ b), ha, Bool.or_false, cond_false, nbf (by omega : is ≠ ia), cond_false, Nat.beq_refl, cond_true] at hc
    obtain ⟨e, he, hb, hp⟩ := edgeIn_spec (and_l hc)
    exact ⟨e, he, hb, Nat.eq_of_beq_eq_true hp⟩
  · intro o ho
    have hc := cas is o ho
    simp only at hc
    have ha : aA all b ia is is = false := by
      cases ha : aA all b ia is is with
      | false => rfl
      | true => exact absurd rfl (aA_spec hbo ha).2.2.1
    rw [nbf (by omega : is ≠ b), ha, Bool.or_false, cond_false, nbf (by omega : is ≠ ia), cond_false, Nat.beq_refl, cond_true] at hc
    obtain ⟨e, he, hb, hp⟩ := edgeIn_spec (and_r hc)
    refine ⟨e, he, hb, ?_⟩
    rcases Bool.or_eq_true_iff.1 hp with h | h
    · exact .inl (Nat.eq_of_beq_eq_true h)
    · exact .inr h
  · intro i o hci ho
    have hc := cas i o ho
    simp only at hc
    obtain ⟨c1, c2, c3, c4⟩ := cA_spec hci
    rw [nbf c1, c4, Bool.or_false, cond_false, nbf c2, cond_false, nbf c3, cond_false, hci, cond_true] at hc
    obtain ⟨e, he, hb, hp⟩ := edgeIn_spec (and_r hc)
    refine ⟨by have := and_l hc; simpa [Nat.blt_eq] using this, e, he, hb, ?_⟩
    rcases Bool.or_eq_true_iff.1 hp with h | h
    · exact .inl (Nat.eq_of_beq_eq_true h)
    · exact .inr h
  · intro i o hui ho
    have hc := cas i o ho
    simp only at hc
    obtain ⟨c1, c2, c3, c4, c5⟩ := uA_spec hui
    rw [nbf c1, c4, Bool.or_false, cond_false, nbf c2, cond_false, nbf c3, cond_false, c5, cond_false] at hc
    obtain ⟨e, he, hb, hp⟩ := edgeIn_spec (and_l (and_r hc))
    refine ⟨by have := and_l (and_l hc); simpa [Nat.blt_eq] using this, by have := and_r (and_l hc); simpa [Nat.blt_eq] using this, ⟨e, he, hb, ?_⟩, fun k hk hd => ?_⟩
    · rcases Bool.or_eq_true_iff.1 hp with h | h
      · exact .inl (Nat.eq_of_beq_eq_true h)
      · exact .inr h
    · have hn := and_r (and_r hc)
      rw [hd] at hn
      have hn : (!(opTmps o.op ++ glook all o).any fun z => Nat.beq z k) = true := hn
      have : ((opTmps o.op ++ glook all o).any fun z => Nat.beq z k) = true := List.any_eq_true.2 ⟨k, hk, Nat.beq_refl k⟩
      rw [this] at hn; cases hn
theorem mkAt_spec {ia : Nat} {oa : Oper} : ∀ (l : List Oper) (i : Nat), mkAt i l = some (ia, oa) → ∃ j, ia = i + j ∧ l[j]? = some oa ∧ ∃ te, oa.op = .alloc te
  | [], i, h => by cases h
  | o :: l, i, h => by
    simp only [mkAt] at h
    split at h
    · rename_i te ho
      cases h; exact ⟨0, rfl, rfl, te, ho⟩
    · obtain ⟨j, h1, h2⟩ := mkAt_spec l (i + 1) h
      exact ⟨j + 1, by omega, by simpa using h2⟩
theorem wrAt_spec {is : Nat} {os : Oper} : ∀ (l : List Oper) (i : Nat), wrAt i l = some (is, os) → ∃ j, is = i + j ∧ l[j]? = some os
  | [], i, h => by cases h
  | o :: l, i, h => by
    simp only [wrAt] at h
    split at h
    · cases h; exact ⟨0, rfl, rfl⟩
    · obtain ⟨j, h1, h2⟩ := wrAt_spec l (i + 1) h
      exact ⟨j + 1, by omega, by simpa using h2⟩
theorem mwAt_spec {all : List Oper} {ia is : Nat} {oa os : Oper} (h : mwAt all = some (ia, oa, is, os)) : all[ia]? = some oa ∧ (∃ te, oa.op = .alloc te) ∧ all[is]? = some os := by
  unfold mwAt at h
  split at h
  · cases h
  · rename_i ia' oa' h1
    split at h
    · cases h
    · rename_i is' os' h2
      cases h
      obtain ⟨j, e1, e2, e3⟩ := mkAt_spec _ _ h1
      obtain ⟨j', e4, e5⟩ := wrAt_spec _ _ h2
      rw [Nat.zero_add] at e1 e4
      subst e1; subst e4
      exact ⟨e2, e3, e5⟩
theorem free_pop {T : Tab} {ρ : Operand → PV} {bx bx' : Nat → Box} {nm nm' : Nat} {op : Op} (h : freeX op = true) : popv T ρ bx nm op = popv T ρ bx' nm' op := by
  cases op <;> simp only [freeX, Bool.false_eq_true] at h <;> rfl
section
variable {R : Type} {X : Px R}
theorem near_fp {G : Gn} {A : Nat → Prop} {xm : XM} {m : Mem} {xe : List (Nat × XV)} {e : List (Nat × PV)} {op : Op} (h : XRM G A xm m) (he : ReX G (shB xm.bx) xm.nx m xe e) (hn : nearX X xm.bx xe op = true) : ∀ k ∈ fpV (peval X.T e) op, A k := by
  intro k hk
  cases op <;> simp only [nearX, Bool.false_eq_true] at hn <;> (try (simp [fpV] at hk; done))
  rename_i t a
  have ha := xev_ok (T := X.T) he a
  split at hn
  · rename_i k1 off hxa
    split at hn
    · rename_i xs hl
      rw [hxa] at ha
      simp only [RvX] at ha
      simp only [fpV, ha.2, pnm, List.mem_singleton] at hk
      rw [hk]
      exact h.al k1 (own_cells hl)
    · cases hn
  · rename_i xs hxa
    rw [hxa] at ha
    simp only [RvX] at ha
    obtain ⟨ps, e1, _⟩ := ha
    rcases e1 with ⟨f, e1⟩ | ⟨k1, sz, i, off, es0, el, e1, hH, _⟩
    · simp only [fpV, e1, pnm] at hk
      simp at hk
    · simp only [fpV, e1, pnm, List.mem_singleton] at hk
      rw [hk]; exact h.ha _ hH
  · cases hn
theorem XRM.off {G : Gn} {A : Nat → Prop} {xm : XM} {m : Mem} {k nb : Nat} {x : Box} (h : XRM G A xm m) (hk : ¬ A k) :
    XRM G A xm ⟨nb, setB m.bx k x, m.ys⟩ ∧ GXt G (shB xm.bx) xm.nx m G (shB xm.bx) xm.nx ⟨nb, setB m.bx k x, m.ys⟩ := by
  have hx : GXt G (shB xm.bx) xm.nx m G (shB xm.bx) xm.nx ⟨nb, setB m.bx k x, m.ys⟩ :=
    ⟨Nat.le_refl _, fun _ _ => rfl, fun _ _ => Iff.rfl, fun _ _ => .inr rfl, ⟨fun _ h => h, fun j hj => setB_old _ _ fun e => hk (e ▸ h.ha j hj)⟩, rfl, rfl⟩
  have away : ∀ j, OwnX G xm.bx j → G.ι j ≠ k := fun j ho e => hk (e ▸ h.al j ho)
  refine ⟨⟨fun j => ?_, h.al, h.nh, h.inj, h.ha, h.ys, h.lt, fun b n hP => ⟨(h.pv b n hP).1, (h.pv b n hP).2.1, (h.pv b n hP).2.2.1, by show PvB (setB m.bx k x b) n; rw [setB_old _ _ (show b ≠ k from fun e => hk (e ▸ (h.pv b n hP).1))]; exact (h.pv b n hP).2.2.2⟩⟩, hx⟩
  have hb := h.box j
  cases hl : lkB xm.bx j with
  | gone => trivial
  | cells ys =>
    rw [hl] at hb
    obtain ⟨qs, e1, e2⟩ := hb
    exact ⟨qs, (setB_old _ _ (away j (own_cells hl))).trans e1, RlX.mono hx _ _ e2⟩
  | mp kd es =>
    rw [hl] at hb
    obtain ⟨qs, e1, e2, e3⟩ := hb
    exact ⟨qs, (setB_old _ _ (away j (own_mp hl))).trans e1, e2, RlX.mono hx _ _ e3⟩
  | pv cs ns =>
    rw [hl] at hb
    rcases hb with hb | ⟨hu, qs, e1, e2⟩
    · exact .inl hb
    · exact .inr ⟨hu, qs, (setB_old _ _ (away j (own_pv hl hu))).trans e1, e2⟩
  | row fr cs l =>
    rw [hl] at hb
    rcases hb with hb | ⟨hu, es, e1, e2⟩
    · exact .inl hb
    · exact .inr ⟨hu, es, (setB_old _ _ (away j (own_row hl hu))).trans e1, e2.mono hx.hh id⟩
theorem xw1_ok {all : List Oper} {o : Oper} {K : XSt → Option R} {nb0 n i : Nat} {r : R} {out : List PF} {B : Nat → Prop} {G : Gn} {m : Mem} {s : XSt} {env : List (Nat × PV)} (hB : B (nb0 + i)) (hlt : nb0 + i < m.nb) (hr : xw1 X all o K s = some r) (hs : RelS B G s ⟨n, env, m⟩ out) :
    ∃ s' G' pv ws, ∃ sd : Prop, dstOK n o.dst = true ∧ o.guard = none ∧ popv X.T (peval X.T (qenv all env o)) m.bx (nb0 + i) o.op = some (sd, pv, ws) ∧ sd ∧ s'.fu = s.fu ∧ G'.L = G.L ∧
      RelS (fun k => B k ∧ k ≠ nb0 + i) G' s' ⟨n, eput env o.dst pv, ⟨m.nb, setBs m.bx ws, m.ys⟩⟩ out ∧ K s' = some r := by
  obtain ⟨f, fs, hfr, hfn, hre, hrf⟩ := hs.head
  unfold xw1 at hr
  rw [hfr] at hr
  simp only at hr
  cases hc : (dstX f.n o.dst && o.guard.isNone) with
  | false => rw [hc] at hr; cases hr
  | true =>
  rw [hc, cond_true] at hr
  have hdst' : dstOK n o.dst = true := by rw [← show f.n = n from hfn]; exact dst_ok (and_l hc)
  have hgd : o.guard = none := Option.isNone_iff_eq_none.1 (and_r hc)
  split at hr
  · rename_i side v m' hop
    cases side with
    | false => cases hr
    | true =>
      rw [cond_true] at hr
      have hkeep : ReX G (shB s.m.bx) s.m.nx m (keepX f.env (opTmps o.op ++ glook all o)) (qenv all env o) := keep_ok hre _
      obtain ⟨G', sideP, pv, ws, k1, k2, k3, k4, k5, k6⟩ := xop_ok hs.2 (fun x => xev_ok (T := X.T) hkeep x) (nm := nb0 + i) (fun h => h.2 hB) hop rfl
      have hm : XRM G' (fun k => k < (⟨m.nb, setBs m.bx ws, m.ys⟩ : Mem).nb ∧ ¬ (B k ∧ k ≠ nb0 + i)) m' ⟨m.nb, setBs m.bx ws, m.ys⟩ := k3.more fun k hk => by
        rcases hk with h1 | h1
        · exact ⟨h1.1, fun h2 => h1.2 h2.1⟩
        · exact ⟨by rw [h1]; exact hlt, fun h2 => h2.2 h1⟩
      have hput := RelS.put (p := ⟨n, env, m⟩) (dst := o.dst) (fu := s.fu) hfn hre hrf k5 hm k4
      have hp : St.put ⟨n, env, m⟩ o.dst pv ⟨m.nb, setBs m.bx ws, m.ys⟩ = ⟨n, eput env o.dst pv, ⟨m.nb, setBs m.bx ws, m.ys⟩⟩ := by cases o.dst <;> rfl
      rw [hp, ← hfr] at hput
      refine ⟨_, G', pv, ws, sideP, hdst', hgd, k1, k2, ?_, k5.hl, hput, by rw [← hfr] at hr; exact hr⟩
      cases o.dst <;> simp only [XSt.put, hfr]
  · cases hr
theorem mapr_get {n i : Nat} {F : Nat → PV} (hi : i < n) : ((List.range n).map F)[i]? = some (F i) := by simp [hi]
theorem getD_get {l : List PV} {i : Nat} (hi : i < l.length) : l[i]? = some (l.getD i .any) := by
  rw [List.getElem?_eq_getElem hi]; simp [List.getD, hi]
theorem store_pop {T : Tab} {ρ : Operand → PV} {bx : Nat → Box} {nm t k : Nat} {a x : Operand} {sd : Prop} {v : PV} {ws : List (Nat × Box)} (ha : ρ a = .ref k 0) (h : popv T ρ bx nm (.store t a x) = some (sd, v, ws)) : ∃ bS, ws = [(k, bS)] := by
  simp only [popv] at h
  split at h
  · split at h
    · rw [ha] at h
      simp only [storeTo] at h
      split at h
      · split at h
        · simp only [Option.map_some, Option.some.injEq, Prod.mk.injEq] at h
          exact ⟨_, h.2.2.symm⟩
        · cases h
      · cases h
    · cases h
  · cases h
theorem storesTo_spec {os : Oper} {dst : Option Nat} (h : storesTo os dst = true) : ∃ t d x, os.op = .store t (.tmp d) x ∧ dst = some d := by
  unfold storesTo at h
  split at h
  · rename_i t k x d ho
    obtain rfl := Nat.eq_of_beq_eq_true h
    exact ⟨_, _, _, ho, rfl⟩
  · cases h
theorem xbigA_ok (hT : TOK X.T X.P) (hmix : X.P.follows .mixedOrders = true) {d N : Nat} (hE : EOK X d N) {pth : List Nat} {rid : Nat} {ops : Array Oper} {κ : EK R} {s : XSt} {p : St} {G : Gn} {B : Nat → Prop} {out : List PF} {Y : Nat → YS} {r : R} {b ia is : Nat} {ob oa os : Oper} {kV : Option Nat}
    (hmw : mwAt ops.toList = some (ia, oa, is, os)) (hB : ∀ k, B k → k < p.m.nb) (hq : qchk ops.toList = true) (hbo : ops.toList[b]? = some ob) (hr : xbig X (ev X d) pth ops.toList b ob kV κ s = some r) (hN : s.fu ≤ N)
    (hcut : ∀ h fn c, X.P.funcs[h]? = some fn → fn.body = some c → CutsOK X d (2 * h :: b :: pth) c none (retX X fn.results.toList (bigK X ops.toList b κ ob.dst)))
    (hs : RelS B G s p out) : PW X.T X.P Y (.region rid ops true) (PostX B s.fu pth.length G.L κ r out) p := by
  obtain ⟨f, fs, hfr, hfn, hre, hrf⟩ := hs.head
  obtain ⟨hoa, ⟨te, hte⟩, hos⟩ := mwAt_spec hmw
  have hrel : RelS (Bi B p.m.nb ops.toList.length 0) G s ⟨p.n, p.env, ⟨p.m.nb + ops.toList.length, p.m.bx, p.m.ys⟩⟩ out := by
    refine ⟨RfX.mono (GXt.same (m := p.m) (m' := ⟨p.m.nb + ops.toList.length, p.m.bx, p.m.ys⟩) rfl) hs.1, ?_⟩
    have := hs.2.same (m' := ⟨p.m.nb + ops.toList.length, p.m.bx, p.m.ys⟩) (A' := fun k => k < p.m.nb + ops.toList.length ∧ ¬ Bi B p.m.nb ops.toList.length 0 k) (ys := s.m.ys) rfl hs.2.ys (fun k hk => ⟨Nat.lt_of_lt_of_le hk.1 (Nat.le_add_right _ _), ?_⟩)
    · exact this
    · rintro (h | ⟨h, _⟩)
      · exact hk.2 h
      · have := hk.1; omega
  have inBi : ∀ i, i < ops.toList.length → Bi B p.m.nb ops.toList.length 0 (p.m.nb + i) := fun i hi => .inr ⟨by omega, by omega⟩
  unfold xbig at hr
  rw [hfr] at hr
  simp only [hmw] at hr
  cases hc : (chkM ops.toList b ia is oa os && (dstX f.n ob.dst && (ob.guard.isNone && (dstX f.n oa.dst && (dstX f.n os.dst && szA X oa))))) with
  | false => rw [hc] at hr; cases hr
  | true =>
  rw [hc, cond_true] at hr
  have ck := chkM_spec hbo (and_l hc)
  have hdst : dstOK p.n ob.dst = true := by rw [← hfn]; exact dst_ok (and_l (and_r hc))
  have hgd : ob.guard = none := Option.isNone_iff_eq_none.1 (and_l (and_r (and_r hc)))
  have hc3 := and_r (and_r (and_r hc))
  have hda : dstOK p.n oa.dst = true := by rw [← hfn]; exact dst_ok (and_l hc3)
  have hds : dstOK p.n os.dst = true := by rw [← hfn]; exact dst_ok (and_l (and_r hc3))
  have hsz : (X.T.at te).sz ≠ 0 := by
    have := and_r (and_r hc3)
    unfold szA at this
    rw [hte] at this
    exact nb_ne.1 this
  have hbl : b < ops.toList.length := (List.getElem?_eq_some_iff.1 hbo).1
  have hal : ia < ops.toList.length := (List.getElem?_eq_some_iff.1 hoa).1
  have hsl : is < ops.toList.length := (List.getElem?_eq_some_iff.1 hos).1
  -- the operations ahead of the call
  obtain ⟨v0, hvl, hvf, s1, e1, e2, hs1, hr1⟩ := xqs_ok (fun i _ hi h => h.2 (inBi i hi)) ops.toList 0 s p.env rfl hr hrel
  obtain ⟨EA, hEA⟩ : ∃ EA, EA = qAt (aA ops.toList b ia is) p.env 0 ops.toList v0 ops.toList.length := ⟨_, rfl⟩
  rw [← hEA] at hs1
  obtain ⟨f1, fs1, hfr1, hfn1, hre1, hrf1⟩ := hs1.head
  obtain ⟨vs, hvs⟩ : ∃ vs : List PV, vs = (List.range ops.toList.length).map fun i => bif Nat.beq i ia then PV.ref (p.m.nb + ia) 0 else v0.getD i .any := ⟨_, rfl⟩
  have hvsl : vs.length = ops.toList.length := by rw [hvs, List.length_map, List.length_range]
  have hvget : ∀ i, i < ops.toList.length → vs[i]? = some (bif Nat.beq i ia then PV.ref (p.m.nb + ia) 0 else v0.getD i .any) := fun i hi => by rw [hvs]; exact mapr_get hi
  have hva : vs[ia]? = some (.ref (p.m.nb + ia) 0) := by rw [hvget ia hal, Nat.beq_refl]; rfl
  have aLt : ∀ {i : Nat}, aA ops.toList b ia is i = true → i < ops.toList.length → vs[i]? = v0[i]? := fun {i} ha hi => by
    have hb : Nat.beq i ia = false := by rw [nbeq, beq_eq_false_iff_ne]; exact (aA_spec hbo ha).2.1
    rw [hvget i hi, hb, cond_false, getD_get (by rw [hvl]; exact hi)]
  -- an edge into a class is an edge into a class
  have eA : ∀ {i j : Nat} {o : Oper}, (i = b ∨ aA ops.toList b ia is i = true) → ops.toList[i]? = some o → edgeTo o j = true → aA ops.toList b ia is j = true := fun {i j o} hor ho he => by
    obtain ⟨e, h1, h2, h3⟩ := edgeTo_spec he
    rw [← h2]; exact ck.ea i o hor ho e h1 h3
  have ab : aA ops.toList b ia is b = false := by
    cases h : aA ops.toList b ia is b with
    | false => rfl
    | true => exact absurd rfl (aA_spec hbo h).1
  have invA : ∀ J, InvD ops.toList vs p.env (fun j => False ∨ (aA ops.toList b ia is j = true ∧ j < J)) (qAt (aA ops.toList b ia is) p.env 0 ops.toList v0 J) := fun J => InvD.q hq hvl .base fun j ha hj => aLt ha hj
  have fitA : ∀ i o, aA ops.toList b ia is i = true → ops.toList[i]? = some o → Fit ops.toList vs p.env (qAt (aA ops.toList b ia is) p.env 0 ops.toList v0 i) i o := fun i o ha ho => by
    refine (invA i).fit hq ho (fun j oj k hj hoj hd hk he => .inr ⟨eA (.inr ha) ho he, hj⟩) (fun j oj hj hoj he hD => ?_) (fun h => by have := h.resolve_left id; omega)
    have := (hD.resolve_left id).2; omega
  have fitB : Fit ops.toList vs p.env EA b ob := by
    rw [hEA]
    refine (invA _).fit hq hbo (fun j oj k hj hoj hd hk he => .inr ⟨eA (.inl rfl) hbo he, (List.getElem?_eq_some_iff.1 hoj).1⟩) (fun j oj hj hoj he hD => ?_) (fun h => by rw [(h.resolve_left id).1] at ab; cases ab)
    rw [eA (.inr (hD.resolve_left id).1) hoj he] at ab; cases ab
  unfold bigC at hr1
  rw [hfr1] at hr1
  simp only at hr1
  split at hr1
  rotate_left
  · cases hr1
  rename_i g args ats hop
  have hkB : ReX G (shB s1.m.bx) s1.m.nx ⟨p.m.nb + ops.toList.length, p.m.bx, p.m.ys⟩ (keepX f1.env (opTmps ob.op ++ glook ops.toList ob)) (qenv ops.toList EA ob) := keep_ok hre1 _
  split at hr1
  rotate_left
  · cases hr1
  rename_i h caps hge
  simp only [spillX, hfr1] at hr1
  have hg := xev_ok (T := X.T) hkB g
  rw [hge] at hg
  simp only [RvX] at hg
  obtain ⟨cps, hgp, hcap⟩ := hg
  have hargs := (RlX.mapρ (fun x => xev_ok (T := X.T) hkB x) args.toList).append hcap
  have hni : ¬ ((fun k => k < p.m.nb + ops.toList.length ∧ ¬ Bi B p.m.nb ops.toList.length 0 k) (p.m.nb + ia)) := fun h => h.2 (inBi ia hal)
  have hN1 : s1.fu ≤ N := by rw [e2]; exact hN
  refine pw_bigA hT hmix (A := aA ops.toList b ia is) (U := uA ops.toList b ia is) (C := cA ops.toList b ia is) (vs := vs) (te := te) (EB := EA) hq hbo hop hgd hgp hdst hoa hte hsz ck.ga hda hos ck.gs hds hvsl hva (fun i _ => classes _ _ _ _ _) ⟨ck.n1, by have := ck.n3; omega, by have := ck.n2; omega⟩ ?_ ?_ ?_ ?_
    (fun i o hu ho => (ck.eu i o hu ho).2.2.1) (ck.es1 os hos) (ck.es2 os hos) (fun i o hu ho => (ck.ec i o hu ho).2) fitB ?_ ?_
  · intro i ha
    obtain ⟨a1, a2, a3, _⟩ := aA_spec hbo ha
    refine ⟨a1, a2, a3, ?_, ?_⟩
    · cases hu : uA ops.toList b ia is i with
      | false => rfl
      | true => have := (uA_spec hu).2.2.2.1; rw [ha] at this; cases this
    · cases hu : cA ops.toList b ia is i with
      | false => rfl
      | true => have := (cA_spec hu).2.2.2; rw [ha] at this; cases this
  · intro i hu
    obtain ⟨a1, a2, a3, _, a5⟩ := uA_spec hu
    exact ⟨a1, a2, a3, a5⟩
  · intro i hu
    obtain ⟨a1, a2, a3, _⟩ := cA_spec hu
    exact ⟨a1, a2, a3⟩
  · intro i ha
    exact behX_ok _ _ _ (aA_spec hbo ha).2.2.2
  · intro i o v ha ho hv
    rw [aLt ha (List.getElem?_eq_some_iff.1 ho).1] at hv
    obtain ⟨k1, xe, k2, k3⟩ := hvf i o v ho hv (by rw [Nat.zero_add]; exact ha)
    rw [Nat.zero_add] at k1
    refine ⟨_, fitA i o ha ho, k1, fun k hk e => ?_⟩
    have := near_fp hrel.2 k2 k3 k hk
    subst e
    exact hni this
  obtain ⟨z1, z2⟩ := XRM.off (nb := p.m.nb + ops.toList.length) (x := .dead) hs1.2 hni
  have hrf2 : RfX G (shB s1.m.bx) s1.m.nx ⟨p.m.nb + ops.toList.length, setB p.m.bx (p.m.nb + ia) .dead, p.m.ys⟩ (⟨f1.n, (f1.n, .b false) :: f1.env⟩ :: fs1) (⟨p.n, (p.n, .v (.bool false)) :: EA⟩ :: out) :=
    ⟨_, _, rfl, hfn1, by
      have hfn1' : f1.n = p.n := hfn1
      simp only [hfn1']
      exact (hre1.mono z2).cons (by simp only [RvX]) p.n, RfX.mono z2 hrf1⟩
  refine ((inl_ok (Y := Y) hT hE hr1 hN1 (fun fn c h1 h2 => hcut h fn c h1 h2) (B := Bi B p.m.nb ops.toList.length 0) (m := ⟨p.m.nb + ops.toList.length, setB p.m.bx (p.m.nb + ia) .dead, p.m.ys⟩) (fun k hk => by
    rcases hk with h1 | h1
    · have := hB k h1; show k < p.m.nb + ops.toList.length; omega
    · exact h1.2) (y := none) trivial hrf2 (RlX.mono z2 _ _ hargs) z1).withNb).mono ?_
  rintro pv m2 ⟨⟨v, xm', fr', fu', G', k1, k2, k3, k4, k5, k6⟩, knb⟩
  have knb' : p.m.nb + ops.toList.length ≤ m2.nb := knb
  cases fr' with
  | nil => cases k3
  | cons f2 fs2 =>
    obtain ⟨e, rr, j1, j2, j3, j4⟩ := k3
    cases j1
    have j2' : f2.n = p.n := j2
    have hsl2 := j3 f2.n
    have hlk : lk ((p.n, PV.v (.bool false)) :: EA) f2.n = .v (.bool false) := by rw [j2']; simp [lk]
    rw [hlk] at hsl2
    unfold bigK at k6
    simp only at k6
    split at k6
    · rename_i hx
      rw [hx] at hsl2
      simp only [RvX] at hsl2
      obtain ⟨_, e, _⟩ := hsl2
      cases e
    rotate_left
    · cases k6
    have drop : ReX G' (shB xm'.bx) xm'.nx m2 ((f2.n, .any) :: f2.env) EA := by
      intro k
      simp only [lkX, nbeq]
      by_cases e : f2.n = k
      · subst e; simp only [beq_self_eq_true, cond_true, RvX]
      · have hb : (f2.n == k) = false := by simpa using e
        rw [hb, cond_false]
        have := j3 k
        have hb2 : (p.n == k) = false := by rw [← j2']; exact hb
        simpa only [lk, hb2, cond_false] using this
    have hput := RelS.put (B' := Bi B p.m.nb ops.toList.length 0) (p := ⟨p.n, EA, m2⟩) (f := ⟨f2.n, (f2.n, .any) :: f2.env⟩) (dst := ob.dst) (fu := fu') j2' drop j4 (GXt.refl _ _ _ _) k4 k5
    have hp : St.put ⟨p.n, EA, m2⟩ ob.dst pv m2 = ⟨p.n, eput EA ob.dst pv, m2⟩ := by cases ob.dst <;> rfl
    rw [hp] at hput
    simp only [bigT, hmw] at k6
    obtain ⟨vU, u1, u2, s3, u3, u4, u5, u6⟩ := xqs_ok (fun i _ hi h => h.2 (inBi i hi)) ops.toList 0 _ _ rfl k6 hput
    obtain ⟨s4, G4, pa, wa, sa, a1, a2, a3, a4, a5, a6, a7, a8⟩ := xw1_ok (inBi ia hal) (by omega) u6 u5
    have hpa : pa = .ref (p.m.nb + ia) 0 ∧ wa = [(p.m.nb + ia, .cells ((X.T.at te).zero.map .v))] := by
      rw [hte] at a3
      simp only [popv, if_neg hsz, Option.some.injEq, Prod.mk.injEq] at a3
      exact ⟨a3.2.1.symm, a3.2.2.symm⟩
    obtain ⟨rfl, rfl⟩ := hpa
    obtain ⟨s5, G5, ps, wS, sS, b1, b2, b3, b4, b5, b6, b7, b8⟩ := xw1_ok (i := is) ⟨inBi is hsl, by have := ck.n2; omega⟩ (by show p.m.nb + is < m2.nb; omega) a8 a7
    obtain ⟨vC, c1, c2, s6, c3, c4, c5, c6⟩ := xqs_ok (fun i hci hi h => h.2 ⟨⟨inBi i hi, by have := (cA_spec hci).2.1; omega⟩, by have := (cA_spec hci).2.2.1; omega⟩) ops.toList 0 _ _ rfl b8 b7
    obtain ⟨t, da, xo, hop2, hdda⟩ := storesTo_spec ck.st
    obtain ⟨EU, hEU⟩ : ∃ EU, EU = qAt (uA ops.toList b ia is) (eput EA ob.dst pv) 0 ops.toList vU ops.toList.length := ⟨_, rfl⟩
    rw [← hEU] at u5 a3 a7 b3 b7 c2 c5
    obtain ⟨EI, hEI⟩ : ∃ EI, EI = eput EU oa.dst (PV.ref (p.m.nb + ia) 0) := ⟨_, rfl⟩
    rw [← hEI] at a7 b3 b7 c2 c5
    obtain ⟨ES, hES⟩ : ∃ ES, ES = eput EI os.dst ps := ⟨_, rfl⟩
    rw [← hES] at b7 c2 c5
    obtain ⟨EF, hEF⟩ : ∃ EF, EF = qAt (cA ops.toList b ia is) ES 0 ops.toList vC ops.toList.length := ⟨_, rfl⟩
    rw [← hEF] at c5
    have haddr : peval X.T (qenv ops.toList EI os) (.tmp da) = .ref (p.m.nb + ia) 0 := by
      show lk (keepEnv EI (opTmps os.op ++ glook ops.toList os)) da = _
      rw [lk_keep (by rw [hop2]; simp [opTmps, otmp, otmps, Op.operands]), hEI, lk_eput, if_pos hdda]
    obtain ⟨bS, rfl⟩ : ∃ bS, wS = [(p.m.nb + ia, bS)] := by
      rw [hop2] at b3
      exact store_pop haddr b3
    have hmm : (⟨m2.nb, setBs (setBs m2.bx [(p.m.nb + ia, .cells ((X.T.at te).zero.map .v))]) [(p.m.nb + ia, bS)], m2.ys⟩ : Mem) = ⟨m2.nb, setB m2.bx (p.m.nb + ia) bS, m2.ys⟩ := by simp only [setBs, setB_setB]
    -- the values
    obtain ⟨vs2, hvs2⟩ : ∃ vs2 : List PV, vs2 = (List.range ops.toList.length).map fun i => bif aA ops.toList b ia is i then vs.getD i .any else bif Nat.beq i b then pv else bif Nat.beq i ia then PV.ref (p.m.nb + ia) 0 else bif Nat.beq i is then ps else bif uA ops.toList b ia is i then vU.getD i .any else vC.getD i .any := ⟨_, rfl⟩
    have hl2 : vs2.length = ops.toList.length := by rw [hvs2, List.length_map, List.length_range]
    have hget : ∀ i, i < ops.toList.length → vs2[i]? = some (bif aA ops.toList b ia is i then vs.getD i .any else bif Nat.beq i b then pv else bif Nat.beq i ia then PV.ref (p.m.nb + ia) 0 else bif Nat.beq i is then ps else bif uA ops.toList b ia is i then vU.getD i .any else vC.getD i .any) := fun i hi => by rw [hvs2]; exact mapr_get hi
    have nbf : ∀ {i j : Nat}, i ≠ j → Nat.beq i j = false := fun h => by have := nb_ne.2 h; simpa using this
    have aF : ∀ {i : Nat}, (i = b ∨ i = ia ∨ i = is) → aA ops.toList b ia is i = false := fun {i} h => by
      cases ha : aA ops.toList b ia is i with
      | false => rfl
      | true =>
        obtain ⟨h1, h2, h3, _⟩ := aA_spec hbo ha
        rcases h with h | h | h
        · exact absurd h h1
        · exact absurd h h2
        · exact absurd h h3
    have n1 := ck.n1
    have n2 := ck.n2
    have n3 := ck.n3
    have gA : ∀ {i : Nat}, aA ops.toList b ia is i = true → i < ops.toList.length → vs2[i]? = vs[i]? := fun {i} ha hi => by
      rw [hget i hi, ha, cond_true, getD_get (by rw [hvsl]; exact hi)]
    have gB : vs2[b]? = some pv := by rw [hget b hbl, aF (.inl rfl), Nat.beq_refl]; rfl
    have gI : vs2[ia]? = some (.ref (p.m.nb + ia) 0) := by rw [hget ia hal, aF (.inr (.inl rfl)), nbf (Ne.symm n1), Nat.beq_refl]; rfl
    have gS : vs2[is]? = some ps := by rw [hget is hsl, aF (.inr (.inr rfl)), nbf (by omega : is ≠ b), nbf (by omega : is ≠ ia), Nat.beq_refl]; rfl
    have gU : ∀ {i : Nat}, uA ops.toList b ia is i = true → i < ops.toList.length → vs2[i]? = vU[i]? := fun {i} hu hi => by
      obtain ⟨h1, h2, h3, h4, h5⟩ := uA_spec hu
      rw [hget i hi, h4, nbf h1, nbf h2, nbf h3, hu, getD_get (by rw [u1]; exact hi)]; rfl
    have gC : ∀ {i : Nat}, cA ops.toList b ia is i = true → i < ops.toList.length → vs2[i]? = vC[i]? := fun {i} hu hi => by
      obtain ⟨h1, h2, h3, h4⟩ := cA_spec hu
      have h5 : uA ops.toList b ia is i = false := by
        cases hu' : uA ops.toList b ia is i with
        | false => rfl
        | true => have := (uA_spec hu').2.2.2.2; rw [hu] at this; cases this
      rw [hget i hi, h4, nbf h1, nbf h2, nbf h3, h5, getD_get (by rw [c1]; exact hi)]; rfl
    -- the slots, phase by phase
    have i1 : InvD ops.toList vs2 p.env (fun j => False ∨ (aA ops.toList b ia is j = true ∧ j < ops.toList.length)) EA := by
      rw [hEA]; exact (invA _).vals fun j hj => gA (hj.resolve_left (fun h => h)).1 (hj.resolve_left (fun h => h)).2
    have i2 := InvD.put hq hbo gB i1
    have i3 := fun J => InvD.q (J := J) hq u1 i2 fun j hj hjl => gU hj hjl
    have i4 := i3 ops.toList.length
    rw [← hEU] at i4
    have i5 := InvD.put hq hoa gI i4
    rw [← hEI] at i5
    have i6 := InvD.put hq hos gS i5
    rw [← hES] at i6
    have i7 := fun J => InvD.q (J := J) hq c1 i6 fun j hj hjl => gC hj hjl
    have i8 := i7 ops.toList.length
    rw [← hEF] at i8
    have ctrA : ∀ {i j : Nat} {oj : Oper}, aA ops.toList b ia is j = true → ops.toList[j]? = some oj → edgeTo oj i = true → aA ops.toList b ia is i = true := fun {i j oj} ha hoj he => eA (.inr ha) hoj he
    refine ⟨vs2, EF, EI, ps, bS, sS, ⟨hl2, gB, fun i ha => ?_, gI, gS, ?_, ?_, ?_, b4, ?_, ?_⟩⟩
    · rcases Nat.lt_or_ge i ops.toList.length with h | h
      · exact gA ha h
      · rw [List.getElem?_eq_none (by rw [hl2]; exact h), List.getElem?_eq_none (by rw [hvsl]; exact h)]
    · intro i o v hor ho hv
      have hi : i < ops.toList.length := (List.getElem?_eq_some_iff.1 ho).1
      by_cases hu : uA ops.toList b ia is i = true
      · obtain ⟨d1, d2, _, d4⟩ := ck.eu i o hu ho
        obtain ⟨h1, h2, h3, h4, h5⟩ := uA_spec hu
        rw [gU hu hi] at hv
        obtain ⟨⟨q1, q2, sd, q3, q4⟩, _, _, q5⟩ := u2 i o v ho hv (by rw [Nat.zero_add]; exact hu)
        refine ⟨_, (i3 i).fit hq ho (fun j oj k hj hoj hd hk he => ?_) (fun j oj hj hoj he hD => ?_) (fun hD => ?_), q1, q2, sd, fun bx nm => (free_pop q5).trans q3, q4⟩
        · rcases classes ops.toList b ia is j with h | h | h | h | h | h
          · exact .inl (.inl (.inr ⟨h, (List.getElem?_eq_some_iff.1 hoj).1⟩))
          · exact .inl (.inr h)
          · subst h; rw [hoa] at hoj; cases hoj; exact absurd hd (d4 k hk)
          · omega
          · exact .inr ⟨h, hj⟩
          · have := (ck.ec j oj h hoj).1; omega
        · rcases hD with ((hD | hD) | hD) | hD
          · exact hD
          · have := ctrA hD.1 hoj he; rw [h4] at this; cases this
          · omega
          · omega
        · rcases hD with ((hD | hD) | hD) | hD
          · exact hD
          · rw [h4] at hD; cases hD.1
          · exact h1 hD
          · omega
      · have hci : cA ops.toList b ia is i = true := hor.resolve_left hu
        obtain ⟨d1, _⟩ := ck.ec i o hci ho
        obtain ⟨h1, h2, h3, h4⟩ := cA_spec hci
        rw [gC hci hi] at hv
        obtain ⟨⟨q1, q2, sd, q3, q4⟩, _, _, q5⟩ := c2 i o v ho hv (by rw [Nat.zero_add]; exact hci)
        refine ⟨_, (i7 i).fit hq ho (fun j oj k hj hoj hd hk he => ?_) (fun j oj hj hoj he hD => ?_) (fun hD => ?_), q1, q2, sd, fun bx nm => (free_pop q5).trans q3, q4⟩
        · have hjl := (List.getElem?_eq_some_iff.1 hoj).1
          rcases classes ops.toList b ia is j with h | h | h | h | h | h
          · exact .inl (.inl (.inl (.inl (.inl (.inr ⟨h, hjl⟩)))))
          · exact .inl (.inl (.inl (.inl (.inr h))))
          · exact .inl (.inl (.inr h))
          · exact .inl (.inr h)
          · exact .inl (.inl (.inl (.inr ⟨h, hjl⟩)))
          · exact .inr ⟨h, hj⟩
        · rcases hD with (((((hD | hD) | hD) | hD) | hD) | hD) | hD
          · exact hD
          · have := ctrA hD.1 hoj he; rw [h4] at this; cases this
          · omega
          · have := (ck.eu j oj hD.1 hoj).2.1; omega
          · omega
          · omega
          · omega
        · rcases hD with (((((hD | hD) | hD) | hD) | hD) | hD) | hD
          · exact hD
          · rw [h4] at hD; cases hD.1
          · exact h1 hD
          · exact hu hD.1
          · exact h2 hD
          · exact h3 hD
          · omega
    · -- the write
      refine i5.fit hq hos (fun j oj k hj hoj hd hk he => ?_) (fun j oj hj hoj he hD => ?_) (fun hD => ?_)
      · have hjl := (List.getElem?_eq_some_iff.1 hoj).1
        rcases classes ops.toList b ia is j with h | h | h | h | h | h
        · exact .inl (.inl (.inl (.inr ⟨h, hjl⟩)))
        · exact .inl (.inl (.inr h))
        · exact .inr h
        · omega
        · exact .inl (.inr ⟨h, hjl⟩)
        · have := (ck.ec j oj h hoj).1; omega
      · rcases hD with (((hD | hD) | hD) | hD) | hD
        · exact hD
        · have := ctrA hD.1 hoj he; rw [aF (.inr (.inr rfl))] at this; cases this
        · omega
        · have := (ck.eu j oj hD.1 hoj).2.1; omega
        · omega
      · rcases hD with (((hD | hD) | hD) | hD) | hD
        · exact hD
        · rw [aF (.inr (.inr rfl))] at hD; cases hD.1
        · omega
        · have := (uA_spec hD.1).2.2.1; exact this rfl
        · omega
    · exact b3
    · refine i8.fin fun j hj => ?_
      rcases classes ops.toList b ia is j with h | h | h | h | h | h
      · exact .inl (.inl (.inl (.inl (.inl (.inr ⟨h, hj⟩)))))
      · exact .inl (.inl (.inl (.inl (.inr h))))
      · exact .inl (.inl (.inr h))
      · exact .inl (.inr h)
      · exact .inl (.inl (.inl (.inr ⟨h, hj⟩)))
      · exact .inr ⟨h, hj⟩
    · have hrl : RelS B G5 s6 ⟨p.n, EF, ⟨m2.nb, setB m2.bx (p.m.nb + ia) bS, m2.ys⟩⟩ out := by
        rw [← hmm]
        exact ⟨c5.1, c5.2.more fun k hk => ⟨hk.1, fun hb => hk.2 ⟨⟨.inl hb, by have := hB k hb; omega⟩, by have := hB k hb; omega⟩⟩⟩
      refine ⟨s6, G5, ?_, fun j hj => ?_, hrl, c6⟩
      · rw [c4, b5, a5, u4]
        cases ob.dst <;> simp only [XSt.put] <;> (rw [← e2]; exact k1)
      · rw [b6, a6]; exact k2 j (by simp only [List.length_cons]; omega)
theorem xbig_ok (hT : TOK X.T X.P) (hmix : X.P.follows .mixedOrders = true) {d N : Nat} (hE : EOK X d N) {pth : List Nat} {rid : Nat} {ops : Array Oper} {κ : EK R} {s : XSt} {p : St} {G : Gn} {B : Nat → Prop} {out : List PF} {Y : Nat → YS} {r : R} {b : Nat} {ob : Oper} {kV : Option Nat}
    (hB : ∀ k, B k → k < p.m.nb) (hq : qchk ops.toList = true) (hbo : ops.toList[b]? = some ob) (hr : xbig X (ev X d) pth ops.toList b ob kV κ s = some r) (hN : s.fu ≤ N)
    (hcut : ∀ h fn c, X.P.funcs[h]? = some fn → fn.body = some c → CutsOK X d (2 * h :: b :: pth) c none (retX X fn.results.toList (bigK X ops.toList b κ ob.dst)))
    (hs : RelS B G s p out) : PW X.T X.P Y (.region rid ops true) (PostX B s.fu pth.length G.L κ r out) p := by
  cases hmw : mwAt ops.toList with
  | none => exact xbigN_ok hT hmix hE hmw hB hq hbo hr hN hcut hs
  | some z =>
    obtain ⟨ia, oa, is, os⟩ := z
    exact xbigA_ok hT hmix hE hmw hB hq hbo hr hN hcut hs
end
end Go.Proofs.Ytcbhmedknbiffaa
