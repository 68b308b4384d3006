/-
  The layer Ev: a call by value, in the caller's names.
-/
import Derived.Test.YtcbhmedknbiffaaEvL
namespace Go.Proofs.Ytcbhmedknbiffaa
open Go Go.RowKit
theorem addB_lt {n : Nat} {b1 : List (Nat × XBox)} (h1 : ∀ k, n ≤ k → lkB b1 k = .gone) : ∀ (bx : List (Nat × XBox)) (k : Nat), lkB (addB n b1 bx) k = if k < n then lkB b1 k else rowB (lkB bx (k - n))
  | [], k => by
    simp only [addB]
    split
    · rfl
    · rw [h1 k (by omega)]; rfl
  | (j, b) :: r, k => by
    simp only [addB]
    rw [lkB_cons, addB_lt h1 r k, lkB_cons]
    by_cases e : n + j = k
    · rw [if_pos e, if_neg (by omega), if_pos (by omega)]
    · rw [if_neg e]
      split
      · rfl
      · rw [if_neg (by omega)]
theorem encB_lt : ∀ (bs : List BP) (j0 : Nat) {ls r : List Leaf} {bx : List (Nat × XBox)}, encB j0 bs ls = some (bx, r) → ∀ j, lkB bx j = .gone ∨ j < j0 + bs.length
  | [], j0, ls, r, bx, h, j => by
    simp only [encB, Option.some.injEq, Prod.mk.injEq] at h
    obtain ⟨rfl, _⟩ := h; exact .inl rfl
  | b :: bs, j0, ls, r, bx, h, j => by
    have cons : ∀ (c : XBox) (nb : List (Nat × XBox)), (∀ j, lkB nb j = .gone ∨ j < j0 + 1 + bs.length) → lkB ((j0, c) :: nb) j = .gone ∨ j < j0 + (b :: bs).length := by
      intro c nb hr
      rw [lkB_cons, List.length_cons]
      split
      · right; omega
      · rcases hr j with h | h
        · exact .inl h
        · right; omega
    cases b with
    | gone =>
      simp only [encB] at h
      rw [List.length_cons]
      rcases encB_lt bs (j0 + 1) h j with h | h
      · exact .inl h
      · right; omega
    | cells ps =>
      simp only [encB] at h
      split at h
      · split at h
        · rename_i nb ls' e
          cases h
          exact cons _ _ (encB_lt bs (j0 + 1) e)
        · cases h
      · cases h
    | row fr cs =>
      simp only [encB] at h
      split at h
      · split at h
        · split at h
          · rename_i nb ls' e
            cases h
            exact cons _ _ (encB_lt bs (j0 + 1) e)
          · cases h
        · cases h
      · cases h
    | pv cs =>
      simp only [encB] at h
      split at h
      · split at h
        · split at h
          · rename_i nb ls' e
            cases h
            exact cons _ _ (encB_lt bs (j0 + 1) e)
          · cases h
        · cases h
      · cases h
theorem encR1_lt {v : VP} {bs : List BP} {ls x bx} (h : encR1 v bs ls = some (x, bx)) : ∀ j, bs.length ≤ j → lkB bx j = .gone := by
  unfold encR1 at h
  split at h
  · split at h
    · rename_i nb e
      cases h
      intro j hj
      rcases encB_lt _ 0 e j with h | h
      · exact h
      · omega
    · cases h
  · cases h
theorem encR_lt {sr : RShape} {ls x bx} (h : encR sr ls = some (x, bx)) : ∀ j, sr.bx.length ≤ j → lkB bx j = .gone := by
  unfold encR at h
  split at h
  · exact encR1_lt h
  · split at h
    · rename_i t ls'
      cases t with
      | true => exact encR1_lt h
      | false => intro j _; exact encR1_lt (bs := []) h j (Nat.zero_le _)
    · cases h
section
variable {T : Tab} {P : Program} {Y : Nat → YS}
mutual
theorem ownV {G' : Gn} {sh : Sh} {nx' n nb N : Nat} {m2 : Mem} {bx : List (Nat × XBox)} {os : List XV} {po : List PV} (hos : RlX G' sh nx' m2 os po) (hlt : ∀ j, N ≤ j → lkB bx j = .gone) (hnx : nx' = n + N) (hsh : ∀ j, sh (n + j) = shp (rowB (lkB bx j))) (hι : ∀ j, G'.ι (n + j) = nb + j) (hU : ∀ j, ¬ G'.U (n + j)) :
    ∀ (x : XV), frX bx x = true → RvX G' sh nx' m2 (shiftX bx n os x) (pvX true nb bx po x)
  | .i k y, _ => by simp only [shiftX, pvX, RvX]
  | .b t, _ => by simp only [shiftX, pvX, RvX]
  | .s y, _ => by simp only [shiftX, pvX, RvX]
  | .nil, _ => by simp only [shiftX, pvX, RvX]
  | .sl fr cs l, hf => by
    simp only [frX] at hf; subst hf
    simp only [shiftX, pvX, RvX]
    exact ⟨_, .inl ⟨true, rfl, fun _ => .inl rfl⟩, re_pv id l⟩
  | .row j, hf => by
    simp only [frX] at hf
    split at hf
    · rename_i fr cs l hl
      have hj : j < N := by
        rcases Nat.lt_or_ge j N with h | h
        · exact h
        · rw [hlt j h] at hl; cases hl
      simp only [shiftX, pvX, RvX, hsh, hl, rowB, shp, cond_true]
      exact ⟨by omega, rfl, .inl ⟨hU j, by rw [hι]⟩⟩
    · cases hf
  | .agg xs, hf => by
    simp only [frX] at hf
    simp only [shiftX, pvX, RvX]; exact ⟨_, rfl, ownVs hos hlt hnx hsh hι hU xs hf⟩
  | .tup xs, hf => by
    simp only [frX] at hf
    simp only [shiftX, pvX, RvX]; exact ⟨_, rfl, ownVs hos hlt hnx hsh hι hU xs hf⟩
  | .any, hf => by simp [frX] at hf
  | .skip, hf => by simp [frX] at hf
  | .rsub _ _ _, hf => by simp [frX] at hf
  | .ref j off, hf => by
    simp only [frX] at hf
    split at hf
    · rename_i xs hl
      simp only [shiftX, pvX, hl, RvX]
      exact ⟨_, .inl ⟨true, rfl⟩, rl_flat hf⟩
    · cases hf
  | .aref _ _ _ _, hf => by simp [frX] at hf
  | .asl _ _ _ _, hf => by simp [frX] at hf
  | .rp _ _ _, hf => by simp [frX] at hf
  | .ep _, hf => by simp [frX] at hf
  | .aep _ _ _ _, hf => by simp [frX] at hf
  | .clos f xs, hf => by
    simp only [frX] at hf
    simp only [shiftX, pvX, RvX]; exact ⟨_, rfl, ownVs hos hlt hnx hsh hι hU xs hf⟩
  | .yield _, hf => by simp [frX] at hf
  | .opq j, _ => by
    simp only [shiftX, pvX]
    by_cases hj : j < os.length
    · have h1 := hos.get' (List.getElem?_eq_getElem hj) (List.getElem?_eq_getElem (by rw [← hos.length]; exact hj))
      have e1 : os.getD j .any = os[j] := by simp [List.getD, hj]
      have e2 : po.getD j .any = po[j]'(by rw [← hos.length]; exact hj) := by simp [List.getD, show j < po.length by rw [← hos.length]; exact hj]
      rw [e1, e2]; exact h1
    · have e1 : os.getD j .any = .any := by simp [List.getD, Nat.le_of_not_lt hj]
      rw [e1]; simp only [RvX]
theorem ownVs {G' : Gn} {sh : Sh} {nx' n nb N : Nat} {m2 : Mem} {bx : List (Nat × XBox)} {os : List XV} {po : List PV} (hos : RlX G' sh nx' m2 os po) (hlt : ∀ j, N ≤ j → lkB bx j = .gone) (hnx : nx' = n + N) (hsh : ∀ j, sh (n + j) = shp (rowB (lkB bx j))) (hι : ∀ j, G'.ι (n + j) = nb + j) (hU : ∀ j, ¬ G'.U (n + j)) :
    ∀ (xs : List XV), frXs bx xs = true → RlX G' sh nx' m2 (shiftXs bx n os xs) (pvXs true nb bx po xs)
  | [], _ => by simp only [shiftXs, pvXs, RlX]
  | x :: xs, hf => by
    simp only [frXs, Bool.and_eq_true] at hf
    simp only [shiftXs, pvXs, RlX]
    exact ⟨_, _, rfl, ownV hos hlt hnx hsh hι hU x hf.1, ownVs hos hlt hnx hsh hι hU xs hf.2⟩
end
mutual
theorem iceV {G : Gn} {sh : Sh} {nx nb : Nat} {m : Mem} {bx : List (Nat × XBox)} {os : List XV} {po : List PV} (hos : RlX G sh nx m os po) (hb : frBx bx = true) : ∀ (x : XV), frX bx x = true → RvX G sh nx m (iceX bx os x) (pvX false nb bx po x)
  | .i k y, _ => by simp only [iceX, pvX, RvX]
  | .b t, _ => by simp only [iceX, pvX, RvX]
  | .s y, _ => by simp only [iceX, pvX, RvX]
  | .nil, _ => by simp only [iceX, pvX, RvX]
  | .sl fr cs l, hf => by
    simp only [frX] at hf; subst hf
    simp only [iceX, pvX, RvX]
    exact ⟨_, .inl ⟨true, rfl, fun _ => .inl rfl⟩, re_pv id l⟩
  | .row j, hf => by
    simp only [frX] at hf
    split at hf
    · rename_i fr cs l hl
      have := frBx_ok hb hl
      subst this
      simp only [iceX, pvX, hl, cond_false, RvX]
      exact ⟨_, .inl ⟨true, rfl, fun _ => .inl rfl⟩, re_pv id l⟩
    · cases hf
  | .agg xs, hf => by
    simp only [frX] at hf
    simp only [iceX, pvX, RvX]; exact ⟨_, rfl, iceVs hos hb xs hf⟩
  | .tup xs, hf => by
    simp only [frX] at hf
    simp only [iceX, pvX, RvX]; exact ⟨_, rfl, iceVs hos hb xs hf⟩
  | .any, hf => by simp [frX] at hf
  | .skip, hf => by simp [frX] at hf
  | .rsub _ _ _, hf => by simp [frX] at hf
  | .ref j off, hf => by
    simp only [frX] at hf
    split at hf
    · rename_i xs hl
      simp only [iceX, pvX, hl, RvX]
      exact ⟨_, .inl ⟨true, rfl⟩, rl_flat hf⟩
    · cases hf
  | .aref _ _ _ _, hf => by simp [frX] at hf
  | .asl _ _ _ _, hf => by simp [frX] at hf
  | .rp _ _ _, hf => by simp [frX] at hf
  | .ep _, hf => by simp [frX] at hf
  | .aep _ _ _ _, hf => by simp [frX] at hf
  | .clos f xs, hf => by
    simp only [frX] at hf
    simp only [iceX, pvX, RvX]; exact ⟨_, rfl, iceVs hos hb xs hf⟩
  | .yield _, hf => by simp [frX] at hf
  | .opq j, _ => by
    simp only [iceX, pvX]
    by_cases hj : j < os.length
    · have h1 := hos.get' (List.getElem?_eq_getElem hj) (List.getElem?_eq_getElem (by rw [← hos.length]; exact hj))
      have e1 : os.getD j .any = os[j] := by simp [List.getD, hj]
      have e2 : po.getD j .any = po[j]'(by rw [← hos.length]; exact hj) := by simp [List.getD, show j < po.length by rw [← hos.length]; exact hj]
      rw [e1, e2]; exact h1
    · have e1 : os.getD j .any = .any := by simp [List.getD, Nat.le_of_not_lt hj]
      rw [e1]; simp only [RvX]
theorem iceVs {G : Gn} {sh : Sh} {nx nb : Nat} {m : Mem} {bx : List (Nat × XBox)} {os : List XV} {po : List PV} (hos : RlX G sh nx m os po) (hb : frBx bx = true) : ∀ (xs : List XV), frXs bx xs = true → RlX G sh nx m (iceXs bx os xs) (pvXs false nb bx po xs)
  | [], _ => by simp only [iceXs, pvXs, RlX]
  | x :: xs, hf => by
    simp only [frXs, Bool.and_eq_true] at hf
    simp only [iceXs, pvXs, RlX]
    exact ⟨_, _, rfl, iceV hos hb x hf.1, iceVs hos hb xs hf.2⟩
end
theorem call_ice' {f : Nat} {pa : List VP} {ls rs : List Leaf} {sr : RShape} {xm xm' : XM} {v : XV} {os : List XV} (nb : Nat) (aps : List PV)
    (hsp : SpecF T P f pa ls sr rs) (hc : callRes true sr.bx.length os (encR sr rs) xm = some (v, xm')) :
    xm' = xm ∧ ∃ pv, (∀ G sh nx m, RlX G sh nx m os (opqPs pa aps) → RvX G sh nx m v pv) ∧ ∀ (G : Gn) (A : Nat → Prop) (xm0 : XM) (m : Mem) (axs : List XV), m.nb = nb → XRM G A xm0 m → RlX G (shB xm0.bx) xm0.nx m axs aps → viewVs xm0.bx 0 pa axs = some (ls, os) →
      SpecM T P Y f aps m (fun r m' => m' = m ∧ r = pv) := by
  unfold callRes at hc
  split at hc
  · rename_i x bx he
    cases hf : (frX bx x && frBx bx) with
    | false => rw [hf] at hc; cases hc
    | true =>
      rw [hf] at hc
      cases hc
      refine ⟨rfl, pvX false nb bx (opqPs pa aps) x, fun G sh nx m hos => iceV hos (and_r hf) x (and_l hf), fun G A xm0 m axs hnb h hx hv => ?_⟩
      subst hnb
      exact (call_spec false hsp h hx hv he hf).mono fun r m' hr => ⟨hr.2, hr.1⟩
  · cases hc
theorem call_part {sr : RShape} {rs : List Leaf} {G : Gn} {A : Nat → Prop} {xm : XM} {m : Mem} {x : XV} {bx : List (Nat × XBox)} {os : List XV} {po : List PV} (nm nb : Nat) (h : XRM G A xm m) (hA : ∀ k, A k → ¬ (nm ≤ k ∧ k < nm + sr.bx.length)) (he : encR sr rs = some (x, bx)) (hf : (frX bx x && frBx bx) = true) (hos : RlX G (shB xm.bx) xm.nx m os po) :
    ∃ G', XRM G' (fun k => A k ∨ (nm ≤ k ∧ k < nm + sr.bx.length)) ⟨addB xm.nx xm.bx bx, xm.nx + sr.bx.length, xm.ys⟩ (memN true m nm nb sr.bx.length bx) ∧ RvX G' (shB (addB xm.nx xm.bx bx)) (xm.nx + sr.bx.length) (memN true m nm nb sr.bx.length bx) (shiftX bx xm.nx os x) (pvX true nm bx po x) ∧
      GXt G (shB xm.bx) xm.nx m G' (shB (addB xm.nx xm.bx bx)) (xm.nx + sr.bx.length) (memN true m nm nb sr.bx.length bx) ∧ (∀ j, G'.ι (xm.nx + j) = nm + j) ∧ G'.H = G.H := by
  have hlt := encR_lt he
  have hlk : ∀ k, lkB (addB xm.nx xm.bx bx) k = if k < xm.nx then lkB xm.bx k else rowB (lkB bx (k - xm.nx)) := addB_lt h.lt bx
  obtain ⟨m', hm2⟩ : ∃ m' : Mem, m' = memN true m nm nb sr.bx.length bx := ⟨_, rfl⟩
  rw [← hm2]
  replace hm2 : m' = ⟨nb, fun k => if nm ≤ k ∧ k < nm + sr.bx.length then boxOf (lkB bx (k - nm)) else m.bx k, m.ys⟩ := hm2
  obtain ⟨G', hG'⟩ : ∃ G' : Gn, G' = { ι := fun k => if k < xm.nx then G.ι k else nm + (k - xm.nx), U := fun k => k < xm.nx ∧ G.U k, H := G.H, L := G.L, P := G.P } := ⟨_, rfl⟩
  have mold : ∀ k, A k → m'.bx k = m.bx k := fun k hk => by rw [hm2]; exact if_neg (hA k hk)
  have mnew : ∀ j, j < sr.bx.length → m'.bx (nm + j) = boxOf (lkB bx j) := fun j hj => by rw [hm2]; simp only; rw [if_pos ⟨by omega, by omega⟩, Nat.add_sub_cancel_left]
  have ιnew : ∀ j, G'.ι (xm.nx + j) = nm + j := fun j => by rw [hG']; simp only; rw [if_neg (by omega), Nat.add_sub_cancel_left]
  have ιold : ∀ k, k < xm.nx → G'.ι k = G.ι k := fun k hk => by rw [hG']; exact if_pos hk
  have Unew : ∀ j, ¬ G'.U (xm.nx + j) := fun j => by rw [hG']; rintro ⟨h, _⟩; omega
  have Uold : ∀ k, k < xm.nx → (G'.U k ↔ G.U k) := fun k hk => by rw [hG']; exact ⟨fun h => h.2, fun h => ⟨hk, h⟩⟩
  have hH : G'.H = G.H := by rw [hG']
  have hL : G'.L = G.L := by rw [hG']
  have hP' : G'.P = G.P := by rw [hG']
  clear hG'
  have hx' : GXt G (shB xm.bx) xm.nx m G' (shB (addB xm.nx xm.bx bx)) (xm.nx + sr.bx.length) m' :=
    ⟨Nat.le_add_right _ _, ιold, Uold, fun k hk => .inr (by unfold shB; rw [hlk, if_pos hk]), ⟨fun k hk => by rw [hH]; exact hk, fun k hk => mold k (h.ha k hk)⟩, hL, hP'⟩
  have own : ∀ k, OwnX G' (addB xm.nx xm.bx bx) k → (k < xm.nx ∧ OwnX G xm.bx k) ∨ ∃ j, k = xm.nx + j ∧ j < sr.bx.length ∧ ∃ fr cs l, lkB bx j = .row fr cs l := by
    intro k ho
    unfold OwnX at ho
    rw [hlk] at ho
    by_cases hk : k < xm.nx
    · rw [if_pos hk] at ho
      refine .inl ⟨hk, ?_⟩
      unfold OwnX
      cases hl : lkB xm.bx k with
      | gone => rw [hl] at ho; exact ho
      | mp _ _ => trivial
      | cells xs => trivial
      | row fr cs l => rw [hl] at ho; exact fun hu => ho ((Uold k hk).2 hu)
      | pv _ _ => rw [hl] at ho; exact fun hu => ho ((Uold k hk).2 hu)
    · rw [if_neg hk] at ho
      right
      cases hl : lkB bx (k - xm.nx) with
      | gone => rw [hl] at ho; exact ho.elim
      | mp _ _ => rw [hl] at ho; exact ho.elim
      | cells xs => rw [hl] at ho; exact ho.elim
      | pv _ _ => rw [hl] at ho; exact ho.elim
      | row fr cs l =>
        refine ⟨k - xm.nx, by omega, ?_, fr, cs, l, hl⟩
        rcases Nat.lt_or_ge (k - xm.nx) sr.bx.length with h1 | h1
        · exact h1
        · rw [hlt _ h1] at hl; cases hl
  refine ⟨G', ⟨fun k => ?_, fun k ho => ?_, fun k ho hh => ?_, fun k k' ho ho' e => ?_, fun k hk => ?_, by rw [hm2]; exact h.ys, fun k hk => ?_, fun b n hP => ?_⟩, ownV (RlX.mono hx' _ _ hos) hlt rfl (fun j => by unfold shB; rw [hlk, if_neg (by omega), Nat.add_sub_cancel_left]) ιnew Unew x (and_l hf), hx', ιnew, hH⟩
  · simp only
    rw [hlk]
    split
    · rename_i hk
      exact BoxX.mono hx' hk (fun hoj => mold _ (h.al k hoj)) (h.box k)
    · rename_i hk
      obtain ⟨j, rfl⟩ : ∃ j, k = xm.nx + j := ⟨k - xm.nx, by omega⟩
      rw [Nat.add_sub_cancel_left]
      cases hl : lkB bx j with
      | gone => trivial
      | mp _ _ => trivial
      | cells xs => trivial
      | pv _ _ => trivial
      | row fr cs l =>
        refine .inr ⟨Unew j, ?_⟩
        refine ⟨l.map (pvL true cs), ?_, re_pv (fun _ => rfl) l⟩
        have hj : j < sr.bx.length := by
          rcases Nat.lt_or_ge j sr.bx.length with h1 | h1
          · exact h1
          · rw [hlt _ h1] at hl; cases hl
        rw [ιnew, mnew j hj, hl]; rfl
  · rcases own k ho with ⟨h1, h2⟩ | ⟨j, rfl, hj, _⟩
    · rw [ιold k h1]; exact .inl (h.al k h2)
    · rw [ιnew]; exact .inr ⟨by omega, by omega⟩
  · rw [hH] at hh
    rcases own k ho with ⟨h1, h2⟩ | ⟨j, rfl, hj, _⟩
    · rw [ιold k h1] at hh; exact h.nh k h2 hh
    · rw [ιnew] at hh; exact hA _ (h.ha _ hh) ⟨by omega, by omega⟩
  · rcases own k ho with ⟨h1, h2⟩ | ⟨j, rfl, hj, _⟩
    · rcases own k' ho' with ⟨h1', h2'⟩ | ⟨j', rfl, hj', _⟩
      · rw [ιold k h1, ιold k' h1'] at e; exact h.inj k k' h2 h2' e
      · rw [ιold k h1, ιnew] at e; exact absurd ⟨by omega, by omega⟩ (hA _ (h.al k h2))
    · rcases own k' ho' with ⟨h1', h2'⟩ | ⟨j', rfl, hj', _⟩
      · rw [ιold k' h1', ιnew] at e; exact absurd ⟨by omega, by omega⟩ (hA _ (h.al k' h2'))
      · rw [ιnew, ιnew] at e; omega
  · rw [hH] at hk; exact .inl (h.ha k hk)
  · have hk' : xm.nx + sr.bx.length ≤ k := hk
    simp only
    rw [hlk, if_neg (by omega), hlt (k - xm.nx) (by omega)]
    rfl
  · rw [hP'] at hP
    obtain ⟨p1, p2, p3, p4⟩ := h.pv b n hP
    refine ⟨.inl p1, by rw [hH]; exact p2, fun k ho => ?_, by rw [mold b p1]; exact p4⟩
    rcases own k ho with ⟨h1, h2⟩ | ⟨j, rfl, hj, _⟩
    · rw [ιold k h1]; exact p3 k h2
    · rw [ιnew]; intro e; exact hA b p1 ⟨by omega, by omega⟩
theorem call_own {f : Nat} {pa : List VP} {ls rs : List Leaf} {sr : RShape} {G : Gn} {B : Nat → Prop} {xm xm' : XM} {m : Mem} {axs : List XV} {aps : List PV} {v : XV}
    (hsp : SpecF T P f pa ls sr rs) (hB : ∀ k, B k → k < m.nb) (h : XRM G (fun k => k < m.nb ∧ ¬ B k) xm m) (hx : RlX G (shB xm.bx) xm.nx m axs aps) {os : List XV} (hv : viewVs xm.bx 0 pa axs = some (ls, os)) (hc : callRes false sr.bx.length os (encR sr rs) xm = some (v, xm')) :
    SpecM T P Y f aps m (fun pv m' => ∃ G', XRM G' (fun k => k < m'.nb ∧ ¬ B k) xm' m' ∧ RvX G' (shB xm'.bx) xm'.nx m' v pv ∧ GXt G (shB xm.bx) xm.nx m G' (shB xm'.bx) xm'.nx m') := by
  unfold callRes at hc
  split at hc
  · rename_i x bx he
    cases hf : (frX bx x && frBx bx) with
    | false => rw [hf] at hc; cases hc
    | true =>
      rw [hf] at hc
      cases hc
      refine (call_spec true hsp h hx hv he hf).mono fun pv m' hr => ?_
      obtain ⟨rfl, rfl⟩ := hr
      obtain ⟨G', k1, k2, k3, _⟩ := call_part m.nb (m.nb + sr.bx.length) h (fun k hk hh => by have := hk.1; omega) he hf (views_opq pa hv hx)
      refine ⟨G', k1.more fun k hk => ?_, k2, k3⟩
      show k < m.nb + sr.bx.length ∧ ¬ B k
      rcases hk with ⟨h1, h2⟩ | ⟨h1, h2⟩
      · exact ⟨by omega, h2⟩
      · exact ⟨h2, fun hb => by have := hB k hb; omega⟩
  · cases hc
theorem call_nm {f : Nat} {pa : List VP} {ls rs : List Leaf} {sr : RShape} {xm xm' : XM} {v : XV} {os : List XV} (nm nb : Nat) (aps : List PV)
    (hsp : SpecF T P f pa ls sr rs) (hN : sr.bx.length ≤ 1) (hc : callRes false sr.bx.length os (encR sr rs) xm = some (v, xm')) :
    ∃ pv ws, (∀ b ∈ keys ws, b = nm ∧ xm.nx < xm'.nx) ∧
      (∀ (G : Gn) (A : Nat → Prop) (m : Mem), m.nb = nb → XRM G A xm m → ¬ A nm → RlX G (shB xm.bx) xm.nx m os (opqPs pa aps) →
        ∃ G', XRM G' (fun k => A k ∨ k = nm) xm' ⟨nb, setBs m.bx ws, m.ys⟩ ∧ RvX G' (shB xm'.bx) xm'.nx ⟨nb, setBs m.bx ws, m.ys⟩ v pv ∧ GXt G (shB xm.bx) xm.nx m G' (shB xm'.bx) xm'.nx ⟨nb, setBs m.bx ws, m.ys⟩ ∧ NewOK false G xm nm G' xm') ∧
      ∀ (G : Gn) (A : Nat → Prop) (xm0 : XM) (m : Mem) (axs : List XV), m.nb = nb → XRM G A xm0 m → RlX G (shB xm0.bx) xm0.nx m axs aps → viewVs xm0.bx 0 pa axs = some (ls, os) → SpecN T P Y nm f aps m pv ws := by
  unfold callRes at hc
  split at hc
  · rename_i x bx he
    cases hf : (frX bx x && frBx bx) with
    | false => rw [hf] at hc; cases hc
    | true =>
      rw [hf] at hc
      cases hc
      obtain ⟨ws, hws⟩ : ∃ ws : List (Nat × Box), ws = (bif Nat.beq sr.bx.length 0 then [] else [(nm, boxOf (lkB bx 0))]) := ⟨_, rfl⟩
      have hmem : ∀ m : Mem, m.nb = nb → memN true m nm nb sr.bx.length bx = ⟨nb, setBs m.bx ws, m.ys⟩ := by
        intro m hnb
        unfold memN
        simp only [cond_true]
        rw [hws]
        cases hz : Nat.beq sr.bx.length 0 with
        | true =>
          have h0 := Nat.eq_of_beq_eq_true hz
          simp only [cond_true, setBs]
          congr 1
          funext k
          exact if_neg (by omega)
        | false =>
          have h1 : sr.bx.length = 1 := by
            have : sr.bx.length ≠ 0 := fun e => by rw [e] at hz; cases hz
            omega
          simp only [cond_false, setBs]
          congr 1
          funext k
          unfold setB
          by_cases e : k = nm
          · subst e
            rw [if_pos ⟨Nat.le_refl _, by omega⟩, Nat.sub_self]; simp
          · have hb : (k == nm) = false := by simpa using e
            rw [if_neg (by omega), hb]; rfl
      refine ⟨pvX true nm bx (opqPs pa aps) x, ws, fun b hb => ?_, fun G A m hnb h hn hos => ?_, fun G A xm0 m axs hnb h hx hv => ?_⟩
      · rw [hws] at hb
        cases hz : Nat.beq sr.bx.length 0 with
        | true => rw [hz] at hb; simp [keys] at hb
        | false =>
          rw [hz] at hb
          simp only [cond_false, keys, List.map_cons, List.map_nil, List.mem_singleton] at hb
          refine ⟨hb, ?_⟩
          have : sr.bx.length ≠ 0 := fun e => by rw [e] at hz; cases hz
          show xm.nx < xm.nx + sr.bx.length
          omega
      · obtain ⟨G', k1, k2, k3, k4, k5⟩ := call_part nm nb h (fun k hk hh => by
          have : k = nm := by omega
          exact hn (this ▸ hk)) he hf hos
        rw [hmem m hnb] at k1 k2 k3
        refine ⟨G', k1.more fun k hk => hk.imp id fun hh => by omega, k2, k3, by show xm.nx + sr.bx.length ≤ xm.nx + 1; omega, fun k h1 h2 => ?_, fun b hb => .inl (by rw [k5] at hb; exact hb)⟩
        have h2' : k < xm.nx + sr.bx.length := h2
        have : k = xm.nx + 0 := by omega
        rw [this, k4]; rfl
      · obtain ⟨h1, h2⟩ := call_core (Y := Y) true nm nb hsp h hx hv he hf
        refine ⟨h1, fun cx g w us hy hm _ hl hnd => (h2 cx g w us hy hm hl fun _ k hk hh => ?_).mono ?_⟩
        · have : k = nm := by omega
          exact hnd (this ▸ hk)
        · rintro e w' ⟨u, g2, rfl, k1, k2, k3, k4⟩
          rw [hmem m hnb] at k2 k4
          rw [← hnb] at k2 k4
          exact ⟨u, g2, rfl, k1, k2, fun k hk => (k3 k hk).imp id fun hh => by omega, k4⟩
  · cases hc
end
end Go.Proofs.Ytcbhmedknbiffaa
