/-
  The layer Ev: every operation is as below.
-/
import Derived.Test.YtcbhmedknbiffaaEvF
namespace Go.Proofs.Ytcbhmedknbiffaa
open Go Go.RowKit
section
variable {T : Tab} {G : Gn} {A : Nat → Prop} {xm : XM} {m : Mem}
theorem RlX.mapρ {ρ : Operand → XV} {ρ' : Operand → PV} {sh nx} (hρ : ∀ x, RvX G sh nx m (ρ x) (ρ' x)) (l : List Operand) : RlX G sh nx m (l.map ρ) (l.map ρ') := by
  induction l with
  | nil => simp only [List.map_nil, RlX]
  | cons x l ih => simp only [List.map_cons, RlX]; exact ⟨_, _, rfl, hρ x, ih⟩
theorem px_some {m : XM} {r : Option (Bool × XV)} {b v m'} (h : px m r = some (b, v, m')) : r = some (b, v) ∧ m' = m := by
  unfold px at h; split at h
  · cases h; exact ⟨rfl, rfl⟩
  · cases h
theorem py_some {m : XM} {r : Option XV} {b v m'} (h : py m r = some (b, v, m')) : r = some v ∧ b = true ∧ m' = m := by
  unfold py at h; split at h
  · cases h; exact ⟨rfl, rfl, rfl⟩
  · cases h
theorem lookE_none {n : Int} : ∀ {ps : List (Int × PV)} {es : List (Int × XV)}, ps.map (·.1) = es.map (·.1) → hasE es n = false → lookE ps n = none
  | [], _, _, _ => rfl
  | (k, p) :: ps, [], h, _ => by simp at h
  | (k, p) :: ps, (k', x) :: es, h, hh => by
    simp only [List.map_cons, List.cons.injEq] at h
    simp only [hasE, Bool.or_eq_false_iff] at hh
    have hne : n ≠ k := by
      rw [h.1]; intro e; rw [e] at hh; simp [ieq] at hh
    simp only [lookE, if_neg hne]
    exact lookE_none h.2 hh.2
theorem xop_ok {ρ : Operand → XV} {ρ' : Operand → PV} {nm : Nat} {op : Op} {side : Bool} {v : XV} {xm' : XM} (h : XRM G A xm m) (hρ : ∀ x, RvX G (shB xm.bx) xm.nx m (ρ x) (ρ' x)) (hn : ¬ A nm)
    (hx : xop T ρ xm op = some (side, v, xm')) (hs : side = true) : OpOK T G A xm m nm (isApp op) (popv T ρ' m.bx nm op) v xm' := by
  cases op with
  | move x => simp only [xop, Option.some.injEq, Prod.mk.injEq] at hx; obtain ⟨rfl, rfl, rfl⟩ := hx; exact OpOK.pure h rfl trivial (hρ x)
  | assign x => simp only [xop, Option.some.injEq, Prod.mk.injEq] at hx; obtain ⟨rfl, rfl, rfl⟩ := hx; exact OpOK.pure h rfl trivial (hρ x)
  | pick c a b =>
    simp only [xop] at hx
    split at hx
    · rename_i t hc
      cases hx
      have := hρ c
      rw [hc] at this
      simp only [RvX] at this
      exact OpOK.pure h (sideP := True) (pv := bif t then ρ' a else ρ' b) (by simp only [popv, this]) trivial (pickX_ok (hρ a) (hρ b))
    · cases hx
  | box e x =>
    simp only [xop] at hx
    split at hx
    · rename_i xs hc
      cases hx
      obtain ⟨ps, h1, h2⟩ := cellsX_ok (hρ x) hc
      obtain ⟨k1, k2⟩ := h.new (nb := m.nb) (b := .cells xs) (pb := .cells ps) hn ⟨ps, rfl, h2⟩
      refine ⟨_, True, .ref nm 0, [(nm, .cells ps)], by simp only [popv, h1], trivial, k1, ?_, k2, NewOK.new rfl (fun k hk => h.blt hk) fun _ hb => .inl hb⟩
      simp only [RvX]
      exact ⟨Nat.lt_succ_self _, by simp only [if_true]⟩
    · cases hx
  | alloc e =>
    simp only [xop] at hx
    rw [nbeq] at hx
    by_cases hz : (T.at e).sz = 0
    · have : ((T.at e).sz == 0) = true := by simpa using hz
      rw [this] at hx; cases hx
    · have hb : ((T.at e).sz == 0) = false := by simpa using hz
      rw [hb, cond_false] at hx
      cases hx
      obtain ⟨k1, k2⟩ := h.new (nb := m.nb) (b := .cells ((T.at e).zero.map cX1)) (pb := .cells ((T.at e).zero.map .v)) hn ⟨_, rfl, RlX.map cX1_ok⟩
      refine ⟨_, True, .ref nm 0, [(nm, .cells ((T.at e).zero.map .v))], by simp only [popv, hz, if_false], trivial, k1, ?_, k2, NewOK.new rfl (fun k hk => h.blt hk) fun _ hb => .inl hb⟩
      simp only [RvX]
      exact ⟨Nat.lt_succ_self _, by simp only [if_true]⟩
  | build t ps =>
    simp only [xop] at hx
    cases ha : (T.at t).kind.isAgg with
    | false => rw [ha] at hx; cases hx
    | true =>
      rw [ha, cond_true] at hx
      split at hx
      · rename_i xs hf
        cases hx
        obtain ⟨rs, h1, h2⟩ := fillX_ok hρ _ _ _ _ (RlX.map cX1_ok) hf
        exact OpOK.pure h (sideP := True) (pv := .agg rs) (by simp only [popv, ha, Bool.true_eq_false, if_false, h1, pure2, Option.map_some]) trivial (by simp only [RvX]; exact ⟨rs, rfl, h2⟩)
      · cases hx
  | buildSlice t len ps =>
    simp only [xop] at hx
    split at hx
    · rename_i e hk
      split at hx
      · cases hb : ((T.at e).kind.isFunc && Nat.ble (len * (T.at e).sz) 16777216) with
        | false => rw [hb] at hx; cases hx
        | true =>
          rw [hb, cond_true] at hx
          have hfu := and_l hb
          have hle := Nat.le_of_ble_eq_true (and_r hb)
          split at hx
          · rename_i xs hf
            cases hx
            obtain ⟨rs, h1, h2⟩ := fillX_ok hρ _ _ _ _ (RlX.map cX1_ok) hf
            obtain ⟨k1, k2⟩ := h.new (nb := m.nb) (b := .cells xs) (pb := .cells rs) hn ⟨rs, rfl, h2⟩
            have hno : ¬ 16777216 < len * (T.at e).sz := by omega
            refine ⟨_, True, .asl nm 0 (T.at e).sz len, [(nm, .cells rs)], by simp only [popv, hk, hno, if_false, h1, Option.map_some, hfu, if_true], trivial, k1, ?_, k2, NewOK.new rfl (fun k hk => h.blt hk) fun _ hb => .inl hb⟩
            simp only [RvX]
            exact ⟨Nat.lt_succ_self _, by simp only [if_true]⟩
          · cases hx
      · rename_i cs hcs
        obtain ⟨hsz, hne⟩ := ctElem_ok hcs
        cases hb : Nat.ble (len * (T.at e).sz) 16777216 with
        | false => rw [hb] at hx; cases hx
        | true =>
          rw [hb, cond_true] at hx
          have hle := Nat.le_of_ble_eq_true hb
          split at hx
          · cases hx
          · rename_i xs hf
            obtain ⟨rs, h1, h2⟩ := fillX_ok hρ _ _ _ _ (RlX.map cX1_ok) hf
            cases hl : Nat.beq xs.length (len * (T.at e).sz) with
            | false => rw [hl] at hx; cases hx
            | true =>
              rw [hl, cond_true] at hx
              split at hx
              · rename_i l fr bx hr
                cases hx
                obtain ⟨G1, k1, k2, k3, k4⟩ := rowsX_ok len h hr h2
                have hlen : (chunk (T.at e).sz len rs).length = len := by
                  have : ∀ (n : Nat) (xs : List PV), (chunk (T.at e).sz n xs).length = n := by
                    intro n
                    induction n with
                    | zero => intro xs; rfl
                    | succ n ih => intro xs; simp only [chunk, List.length_cons, ih]
                  exact this _ _
                refine row_new (xm1 := ⟨bx, xm.nx, xm.ys⟩) (ws := []) (sideP := True) ?_ trivial rfl k1 k2 hn k3 rfl h (fun b hb => (k4.1 b hb).imp id fun h => ⟨rfl, h⟩)
                have : ¬ 16777216 < len * (T.at e).sz := by omega
                simp only [popv, hk, this, if_false, h1, Option.map_some, hlen, hsz, List.nil_append, ctElem_nf hcs, Bool.false_eq_true]
              · split at hx
                · rename_i n hpv _
                  cases hx
                  obtain ⟨k1, k2⟩ := pv1_ok hpv h2
                  have hch : chunk (T.at e).sz 1 rs = [rs.take (T.at e).sz] := rfl
                  have htk : rs.take (T.at e).sz = rs := List.take_of_length_le (by rw [k1, hsz]; exact Nat.le_refl _)
                  rw [htk] at hch
                  refine pv_new (xm1 := xm) (ws := []) (es := [rs]) (sideP := True) ?_ trivial rfl h (GXt.refl _ _ _ _) hn ⟨rfl, fun i n' e' hn' he' => ?_⟩ rfl h (fun b hb => .inl hb)
                  · have : ¬ 16777216 < 1 * (T.at e).sz := by omega
                    simp only [popv, hk, this, if_false, h1, Option.map_some, hch, hsz, List.nil_append, ctElem_nf hcs, Bool.false_eq_true, List.length_cons, List.length_nil, Nat.zero_add]
                  · cases i with
                    | zero =>
                      simp only [List.getElem?_cons_zero, Option.some.injEq] at hn' he'
                      subst hn'; subst he'
                      exact ⟨k1, k2 _ fun n hn => by simpa using hn⟩
                    | succ i => simp at hn'
                · cases hx
    · cases hx
  | makeMap t r =>
    simp only [xop] at hx
    split at hx
    · rename_i kt e0 hk
      split at hx
      · rename_i kd hkd
        cases hx
        obtain ⟨k1, k2⟩ := h.new (nb := m.nb) (b := .mp kd []) (pb := .mp kd []) hn ⟨[], rfl, rfl, by simp only [List.map_nil, RlX]⟩
        refine ⟨_, True, .mp nm, [(nm, .mp kd [])], by simp only [popv, hk, hkd], trivial, k1, ?_, k2, NewOK.new rfl (fun k hk => h.blt hk) fun _ hb => .inl hb⟩
        simp only [RvX]
        exact ⟨Nat.lt_succ_self _, by simp only [if_true]⟩
      · cases hx
    · cases hx
  | insert t a k x =>
    simp only [xop] at hx
    split at hx
    · rename_i b kd n kt e0 hka hkk hkt
      split at hx
      · rename_i kd1 kd2 es hkt2 hbx
        split at hx
        · rename_i e1 e2 _ _
          subst e1; subst e2
          cases hh : hasE es n with
          | true => rw [hh] at hx; cases hx
          | false =>
            rw [hh, cond_false] at hx
            cases hx
            have h1 := hρ a
            have h2 := hρ k
            rw [hka] at h1; rw [hkk] at h2
            simp only [RvX] at h1 h2
            have hb := h.box b
            rw [hbx] at hb
            simp only [BoxX] at hb
            obtain ⟨ps, hpb, hkeys, hvals⟩ := hb
            have hl : lookE ps n = none := lookE_none (es := es) hkeys hh
            refine OpOK.set1 (G1 := G) (xm1 := xm) (b := .mp kd2 (es ++ [(n, ρ x)])) (pb := .mp kd2 (ps ++ [(n, ρ' x)])) rfl (Hd.refl _ _) (by simp) (by simp only [popv, h1.2, h2, hkt, hkt2, hpb, hl, and_self, if_true]) h (GXt.refl _ _ _ _) h1.1 (own_mp hbx) (by rw [hbx]; rfl) ⟨_, rfl, by simp [hkeys], ?_⟩
            simp only [List.map_append, List.map_cons, List.map_nil]
            exact hvals.append (by simp only [RlX]; exact ⟨_, _, rfl, hρ x, rfl⟩)
        · cases hx
      · cases hx
    · cases hx
  | load t a =>
    simp only [xop] at hx
    obtain ⟨h1, rfl⟩ := px_some hx
    exact loadX_ok h h1 hs (hρ a)
  | store t a x =>
    simp only [xop] at hx
    split at hx
    · rename_i b m' hst
      cases hx
      exact storeX_ok h hst hs (hρ a) (hρ x)
    · cases hx
  | nilCheck x =>
    simp only [xop] at hx
    have hr := hρ x
    split at hx
    · rename_i k off hc
      cases hx
      rw [hc] at hr
      have hr' := hr
      simp only [RvX] at hr'
      exact OpOK.pure h (sideP := True) (pv := ρ' x) (by simp only [popv, hr'.2]) trivial hr
    · rename_i k i off hc
      cases hx
      rw [hc] at hr
      have hr' := hr
      simp only [RvX] at hr'
      obtain ⟨_, w, e, _⟩ := hr'
      exact OpOK.pure h (sideP := True) (pv := ρ' x) (by simp only [popv, e]) trivial hr
    · rename_i xs hc
      cases hx
      rw [hc] at hr
      have hr' := hr
      simp only [RvX] at hr'
      obtain ⟨ps, he, _⟩ := hr'
      rcases he with ⟨f, e⟩ | ⟨k, sz, i, off, es0, c, e, _⟩
      · exact OpOK.pure h (sideP := True) (pv := ρ' x) (by simp only [popv, e]) trivial hr
      · exact OpOK.pure h (sideP := True) (pv := ρ' x) (by simp only [popv, e]) trivial hr
    · rename_i f cs hc
      cases hx
      rw [hc] at hr
      have hr' := hr
      simp only [RvX] at hr'
      obtain ⟨ps, e, _⟩ := hr'
      exact OpOK.pure h (sideP := True) (pv := ρ' x) (by simp only [popv, e]) trivial hr
    · cases hx
  | binOp op t x y t' =>
    simp only [xop] at hx
    obtain ⟨h1, rfl⟩ := px_some hx
    obtain ⟨sideP, pv, e1, e2, e3⟩ := binX_ok h1 hs (hρ x) (hρ y)
    exact OpOK.pure h (by simp only [popv]; exact e1) e2 e3
  | unOp op t x =>
    simp only [xop] at hx
    obtain ⟨h1, rfl, rfl⟩ := py_some hx
    obtain ⟨pv, e1, e2⟩ := unX_ok h1 (hρ x)
    exact OpOK.pure h (sideP := True) (pv := pv) (by simp only [popv, pure2, e1, Option.map_some]) trivial e2
  | convert src dst x =>
    simp only [xop] at hx
    split at hx
    · rename_i k1 k2 k3 a h1 h2 h3
      cases hx
      have hr := hρ x
      rw [h3] at hr
      simp only [RvX] at hr
      exact OpOK.pure h (sideP := True) (pv := .v (.int k2 (k2.wrap a))) (by simp only [popv, h1, h2, hr]) trivial (by simp only [RvX])
    · cases hx
  | makeFunc fn first cap =>
    simp only [xop] at hx
    split at hx
    · rename_i f
      cases hf : first.isEmpty with
      | false => rw [hf] at hx; cases hx
      | true =>
        rw [hf, cond_true] at hx
        cases hx
        exact OpOK.pure h (sideP := True) (pv := .clos f (cap.toList.map ρ')) (by simp only [popv, hf, if_true]) trivial (by simp only [RvX]; exact ⟨_, rfl, RlX.mapρ hρ _⟩)
    · cases hx
  | makeSlice t l c =>
    simp only [xop] at hx
    split at hx
    · rename_i e a b hk h1 h2
      split at hx
      · cases hx
      · rename_i cs hcs
        obtain ⟨hsz, hne⟩ := ctElem_ok hcs
        split at hx
        · rename_i z fr bx hd
          cases hx
          have hl := hρ l
          have hc := hρ c
          rw [h1] at hl
          rw [h2] at hc
          simp only [RvX] at hl hc
          obtain ⟨G1, k1, k2, k3, k4⟩ := decXL_ok cs h hd (RlX.map cX1_ok)
          have s1 := and_l (and_l (and_l hs))
          have s2 := and_r (and_l (and_l hs))
          have s3 := and_r (and_l hs)
          have s4 := and_r hs
          simp only [inn, ile, decide_eq_true_eq] at s1 s2 s3 s4
          have hlen : (List.replicate a.toNat ((T.at e).zero.map PV.v)).length = a.toNat := List.length_replicate
          refine row_new (xm1 := ⟨bx, xm.nx, xm.ys⟩) (ws := []) (sideP := 0 ≤ a ∧ a ≤ b ∧ b * (T.at e).bytes ≤ 281474976710656 ∧ b ≤ 9223372036854775807) ?_ ⟨s1, s2, s3, s4⟩ rfl k1 k2 hn (replicate_ok k3 a.toNat) rfl h (fun b hb => (k4.1 b hb).imp id fun h => ⟨rfl, h⟩)
          simp only [popv, hk, hl, hc, hlen, hsz, List.nil_append]
        · cases hx
    · cases hx
  | slice t x lo hi mx =>
    simp only [xop] at hx
    split at hx
    · cases hx
    · obtain ⟨h1, rfl⟩ := px_some hx
      obtain ⟨sideP, pv, e1, e2, e3⟩ := sliceX_ok h hρ h1 hs (hρ x)
      exact OpOK.pure h (sideP := sideP) (pv := pv) (by simp only [popv, e1, pure1, Option.map_some]) e2 e3
  | fieldAddr t x f =>
    simp only [xop] at hx
    have hr := hρ x
    split at hx
    · rename_i fs hk
      split at hx
      · rename_i o ft k off hf hc
        cases hx
        rw [hc] at hr
        simp only [RvX] at hr
        exact OpOK.pure h (sideP := True) (pv := .ref (G.ι k) (off + o)) (by simp only [popv, hk, hf, hr.2]) trivial (by simp only [RvX]; exact ⟨hr.1, trivial⟩)
      · rename_i o ft k i off hf hc
        cases hx
        rw [hc] at hr
        simp only [RvX] at hr
        obtain ⟨h1, w, e, h2⟩ := hr
        exact OpOK.pure h (sideP := True) (pv := .rp (G.ι k) w i (off + o)) (by simp only [popv, hk, hf, e]) trivial (by simp only [RvX]; exact ⟨h1, w, rfl, h2⟩)
      · rename_i o ft cs hf hc
        cases hx
        rw [hc] at hr
        simp only [RvX] at hr
        obtain ⟨ps, he, hl⟩ := hr
        rcases he with ⟨f', e⟩ | ⟨k, sz, i, off, es0, c, e, hH, hb, hes, hp⟩
        · exact OpOK.pure h (sideP := True) (pv := .ep f' (ps.drop o)) (by simp only [popv, hk, hf, e]) trivial (by simp only [RvX]; exact ⟨_, .inl ⟨_, rfl⟩, hl.drop o⟩)
        · refine OpOK.pure h (sideP := True) (pv := .rp k sz i (off + o)) (by simp only [popv, hk, hf, e]) trivial ?_
          simp only [RvX]
          exact ⟨_, .inr ⟨k, sz, i, off + o, es0, c, rfl, hH, hb, hes, by rw [hp, List.drop_drop]⟩, hl.drop o⟩
      · rename_i o ft cs i w off hf hc
        cases hx
        rw [hc] at hr
        simp only [RvX] at hr
        obtain ⟨ps, he, hl⟩ := hr
        rcases he with ⟨f', e⟩ | ⟨k, sz, j, off', es0, c, e, hH, hb, hes, hp⟩
        · refine OpOK.pure h (sideP := True) (pv := .ep f' ((ps.drop (i * w + off)).drop o)) (by simp only [popv, hk, hf, e]) trivial ?_
          simp only [RvX]
          exact ⟨ps, .inl ⟨f', by rw [List.drop_drop, Nat.add_assoc]⟩, hl⟩
        · refine OpOK.pure h (sideP := True) (pv := .rp k sz j (off' + o)) (by simp only [popv, hk, hf, e]) trivial ?_
          simp only [RvX]
          exact ⟨ps, .inr ⟨k, sz, j, off' + o, es0, c, rfl, hH, hb, hes, by rw [← Nat.add_assoc, ← List.drop_drop, hp, List.drop_drop]⟩, hl⟩
      · cases hx
    · cases hx
  | field t x f =>
    simp only [xop] at hx
    have hr := hρ x
    split at hx
    · rename_i fs xs hk hc
      split at hx
      · rename_i o ft hf
        obtain ⟨h1, rfl, rfl⟩ := py_some hx
        rw [hc] at hr
        simp only [RvX] at hr
        obtain ⟨ps, e, hl⟩ := hr
        obtain ⟨pv, e1, e2⟩ := ofCellsX_ok (hl.drop o) h1
        exact OpOK.pure h (sideP := True) (pv := pv) (by simp only [popv, hk, e, hf, pure2, e1, Option.map_some]) trivial e2
      · cases hx
    · cases hx
  | indexAddr t x ix =>
    simp only [xop] at hx
    have hri := hρ ix
    split at hx
    · rename_i k i hc
      obtain ⟨h1, rfl⟩ := px_some hx
      rw [hc] at hri
      simp only [RvX] at hri
      obtain ⟨sideP, pv, e1, e2, e3⟩ := indexAddrX_ok h h1 hs (hρ x)
      exact OpOK.pure h (sideP := sideP) (pv := pv) (by simp only [popv, hri, e1, pure1, Option.map_some]) e2 e3
    · cases hx
  | index t x ix =>
    simp only [xop] at hx
    have hri := hρ ix
    have hr := hρ x
    split at hx
    · rename_i k i n e xs hc hk hcx
      cases hcond : (Nat.beq (T.at e).sz 1 && !(T.at e).kind.isAgg && Nat.ble n xs.length) with
      | false => rw [hcond] at hx; cases hx
      | true =>
        rw [hcond, cond_true] at hx
        split at hx
        · rename_i v' hv
          cases hx
          have c1 := Nat.eq_of_beq_eq_true (and_l (and_l hcond))
          have c2 : (T.at e).kind.isAgg = false := by have := and_r (and_l hcond); simpa using this
          have c3 := Nat.le_of_ble_eq_true (and_r hcond)
          obtain ⟨i1, i2⟩ := inb_ok hs
          have hlt : i.toNat < n := by omega
          have hsel := selX_ok hv (by rw [List.length_take]; omega)
          rw [List.getElem?_take, if_pos hlt] at hsel
          rw [hc] at hri
          rw [hcx] at hr
          simp only [RvX] at hri hr
          obtain ⟨ps, e1, hl⟩ := hr
          obtain ⟨pv, e2, e3⟩ := hl.get hsel
          exact OpOK.pure h (sideP := 0 ≤ i ∧ i < (n : Int)) (pv := pv) (by simp only [popv, hri, hk, e1, c1, Nat.mul_one, ofCells_one c1 c2 e2, Option.map_some]) ⟨i1, i2⟩ e3
        · cases hx
    · rename_i k i b hc hk hcx
      cases hx
      rw [hc] at hri
      rw [hcx] at hr
      simp only [RvX] at hri hr
      exact OpOK.pure h (sideP := 0 ≤ i ∧ i < (b.size : Int)) (pv := .v (.int .u8 ((b.data.toList.getD i.toNat 0).toNat))) (by simp only [popv, hri, hk, hr]) (inb_ok hs) (by simp only [RvX, stat])
    · cases hx
  | extract x i =>
    simp only [xop] at hx
    have hr := hρ x
    split at hx
    · rename_i vs hc
      obtain ⟨h1, rfl, rfl⟩ := py_some hx
      rw [hc] at hr
      simp only [RvX] at hr
      obtain ⟨ps, e, hl⟩ := hr
      obtain ⟨pv, e1, e2⟩ := hl.get h1
      exact OpOK.pure h (sideP := True) (pv := pv) (by simp only [popv, e, pure2, e1, Option.map_some]) trivial e2
    · cases hx
  | call c =>
    simp only [xop] at hx
    split at hx
    · rename_i hce
      split at hx
      · rename_i t x ht hxa
        split at hx
        · rename_i n hl
          cases hx
          exact OpOK.pure h (sideP := True) (pv := .v (.int .i64 n)) (by simp only [popv, hce, ht, hxa]; exact lenX_ok h hl (hρ x)) trivial (by simp only [RvX])
        · cases hx
      · cases hx
    · rename_i hce
      split at hx
      · rename_i t t' x y ht hxa
        cases hb : Nat.beq t t' with
        | false => rw [hb] at hx; cases hx
        | true =>
          rw [hb, cond_true] at hx
          have ht' := Nat.eq_of_beq_eq_true hb
          split at hx
          · rename_i e hk
            have := appendX_ok h hn hx hs (hρ x) (hρ y)
            have e2 : popv T ρ' m.bx nm (.call c) = appendV T m.bx nm e (ρ' x) (ρ' y) := by simp only [popv, hce, ht, hxa, ht', if_true]; rw [← ht', hk]
            have e3 : isApp (.call c) = true := by simp only [isApp, hce]
            rw [e2, e3]; exact this
          · cases hx
      · cases hx
    · rename_i hce
      split at hx
      · rename_i t x ht hxa
        split at hx
        · rename_i e k i n hk hxx
          split at hx
          · rename_i fr cs l hl
            cases hb : Nat.beq cs.length (T.at e).sz with
            | false => rw [hb] at hx; cases hx
            | true =>
              rw [hb, cond_true] at hx
              have hsz := Nat.eq_of_beq_eq_true hb
              split at hx
              · rename_i z frz bx hd
                split at hx
                · rename_i fr2 cs2 l2 hl2
                  cases hx
                  have hn0 := nlt_ok hs
                  have hrx := hρ x
                  rw [hxx] at hrx
                  obtain ⟨hkl, hor⟩ := h.rsub hl hrx
                  rcases hor with ⟨hu, hp, hle, es, hbx, hre⟩ | ⟨_, _, e0, _⟩
                  · obtain ⟨G1, k1, k2, k3, k4⟩ := decXL_ok cs h hd (RlX.map cX1_ok)
                    have hsh : shB xm.bx k = some (some (cs.length, l.length)) := by simp only [shB, hl, shp]
                    have hsh2 : shB bx k = shB xm.bx k := by
                      rcases k2.hs k hkl with e | e
                      · simp only [shB, hl2, shp] at e; cases e
                      · exact e
                    have hu2 : ¬ G1.U k := fun x => hu ((k2.hu k hkl).1 x)
                    have hap : isApp (.call c) = false := by simp only [isApp, hce]
                    rw [hap]
                    refine OpOK.set1 (xm1 := ⟨bx, xm.nx, xm.ys⟩) rfl k4 (by simp) (pb := .row cs.length (es.take i ++ List.replicate n ((T.at e).zero.map .v) ++ es.drop (i + n))) ?_ k1 k2 hkl (own_row hl2 hu2) ?_ ⟨_, rfl, ?_⟩
                    · have hle' : i + n ≤ es.length := by rw [← hre.1]; exact hle
                      simp only [popv, hce, ht, hxa, hk, hp, hbx, hsz, hle', and_self, if_true]
                    · show _ = shB bx k
                      rw [hsh2, hsh]
                      simp only [shp, List.length_append, List.length_take, List.length_replicate, List.length_drop]
                      congr 3; omega
                    · have hre' := hre.mono k2.hh (fr' := fr && frz) and_l
                      have hz := RdL.mono (HX.refl G1.H m) (fr' := fr && frz) and_r _ _ _ k3
                      exact RdE.append (RdE.append (hre'.take i) (replicate_ok hz n)) (hre'.drop (i + n))
                  · omega
                · cases hx
              · cases hx
          · cases hx
        · cases hx
      · cases hx
    · rename_i hce
      split at hx
      · rename_i x y hxa
        split at hx
        · rename_i a b h1 h2
          cases hx
          have hx1 := hρ x
          have hx2 := hρ y
          rw [h1] at hx1
          rw [h2] at hx2
          simp only [RvX] at hx1 hx2
          exact OpOK.pure h (sideP := True) (pv := .v (.int .i64 (if b < a then b else a))) (by simp only [popv, hce, hxa, hx1, hx2]) trivial (by simp only [RvX, minI])
        · cases hx
      · cases hx
    · rename_i hce
      split at hx
      · rename_i x y hxa
        split at hx
        · rename_i a b h1 h2
          cases hx
          have hx1 := hρ x
          have hx2 := hρ y
          rw [h1] at hx1
          rw [h2] at hx2
          simp only [RvX] at hx1 hx2
          exact OpOK.pure h (sideP := True) (pv := .v (.int .i64 (if b > a then b else a))) (by simp only [popv, hce, hxa, hx1, hx2]) trivial (by simp only [RvX, maxI])
        · cases hx
      · cases hx
    · cases hx
  | _ => simp only [xop] at hx; cases hx
end
end Go.Proofs.Ytcbhmedknbiffaa
