/-
  The layer Ev: operations, one by one.
-/
import Derived.Test.YtglcodeinalnjaaEvC
namespace Go.Proofs.Ytglcodeinalnjaa
open Go Go.RowKit

theorem decX_ok {G A xm m c x d fr bx p} (h : XRM G A xm m) (hd : decX xm.bx c x = some (d, fr, bx)) (hr : RvX G (shB xm.bx) xm.nx m x p) :
    ∃ G', XRM G' A ⟨bx, xm.nx, xm.ys⟩ m ∧ GXt G (shB xm.bx) xm.nx m G' (shB bx) xm.nx m ∧ Rd G'.H m fr c d p := by
  have same : XRM G A ⟨xm.bx, xm.nx, xm.ys⟩ m := h
  unfold decX at hd
  split at hd
  · rename_i k k' n
    split at hd
    · rename_i e _; cases hd; subst e
      exact ⟨G, same, GXt.refl _ _ _ _, by simp only [RvX] at hr; simp only [Rd]; exact hr⟩
    · cases hd
  · cases hd; exact ⟨G, same, GXt.refl _ _ _ _, by simp only [RvX] at hr; simp only [Rd]; exact hr⟩
  · cases hd; exact ⟨G, same, GXt.refl _ _ _ _, by simp only [RvX] at hr; simp only [Rd]; exact hr⟩
  · cases hd
    refine ⟨G, same, GXt.refl _ _ _ _, ?_⟩
    simp only [RvX] at hr; simp only [Rd]
    exact ⟨[], .inr (.inl ⟨hr, rfl⟩), rfl, fun i x e hx => by simp [LGet] at hx⟩
  · rename_i cs fr' cs' l
    split at hd
    · rename_i l' hc
      cases hd
      obtain ⟨e, e'⟩ := castL_ok hc
      subst e; subst e'
      refine ⟨G, same, GXt.refl _ _ _ _, ?_⟩
      simp only [RvX] at hr; simp only [Rd]
      obtain ⟨es, h1, h2⟩ := hr
      exact ⟨es, h1, h2.1, h2.2⟩
    · cases hd
  · rename_i cs k
    split at hd
    · rename_i fr' cs' l hl
      split at hd
      · rename_i l' hc
        cases hd
        obtain ⟨e, e'⟩ := castL_ok hc
        subst e; subst e'
        obtain ⟨hk, hor⟩ := h.row hl hr
        obtain ⟨f1, f2⟩ := h.forget k hk
        refine ⟨_, f1, f2, ?_⟩
        simp only [Rd]
        rcases hor with ⟨hu, e, es, hb, hre⟩ | ⟨hu, e1, e2⟩
        · have hre' := hre.mono f2.hh (fr' := fr) id
          refine ⟨es, .inr (.inr ⟨_, 0, _, es, e, .inr ⟨own_row hl hu, rfl⟩, hb, ?_, ?_⟩), hre'.1, hre'.2⟩
          · rw [hre.1]; omega
          · rw [List.drop_zero, hre.1, List.take_length]
        · subst e1
          exact ⟨[], .inr (.inl ⟨e2, rfl⟩), rfl, fun i x e hx => by simp [LGet] at hx⟩
      · cases hd
    · cases hd
  · rename_i cs k i n
    split at hd
    · rename_i fr' cs' l hl
      split at hd
      · rename_i l' hc
        cases hd
        obtain ⟨e, e'⟩ := castL_ok hc
        subst e; subst e'
        obtain ⟨hk, hor⟩ := h.rsub hl hr
        obtain ⟨f1, f2⟩ := h.forget k hk
        refine ⟨_, f1, f2, ?_⟩
        simp only [Rd]
        rcases hor with ⟨hu, e, hle, es, hb, hre⟩ | ⟨hu, e1, e2, f, e3⟩
        · have hre' := ((hre.mono f2.hh (fr' := fr) id).drop i).take n
          exact ⟨(es.drop i).take n, .inr (.inr ⟨_, i, n, es, e, .inr ⟨own_row hl hu, rfl⟩, hb, by rw [← hre.1]; exact hle, rfl⟩), hre'.1, hre'.2⟩
        · subst e1; subst e2
          refine ⟨[], .inl ⟨f, e3, fun _ => .inr rfl⟩, ?_, fun i x e hx => ?_⟩
          · show List.length ((List.drop i []).take 0) = _; simp
          · have hx' : LGet ((List.drop i ([] : List (DenL cs'))).take 0) _ _ := hx
            simp [LGet] at hx'
      · cases hd
    · cases hd
  · cases hd

theorem decXL_nil {m xs} : decXL [] m xs = (match xs with
    | [] => some ((), true, m)
    | _ => none) := rfl
theorem decXL_one {c m xs} : decXL [c] m xs = (match xs with
    | [x] => decX m c x
    | _ => none) := rfl
theorem decXL_cons {c d cs m xs} : decXL (c :: d :: cs) m xs = (match xs with
    | [] => none
    | x :: xs => match decX m c x with
      | some (a, fr, m') => match decXL (d :: cs) m' xs with
        | some (r, fr', m'') => some ((a, r), fr && fr', m'')
        | none => none
      | none => none) := rfl

theorem decXL_ok {A m} (cs : List CT) : ∀ {G : Gn} {xm : XM} {xs : List XV} {d : DenL cs} {fr bx ps}, XRM G A xm m → decXL cs xm.bx xs = some (d, fr, bx) → RlX G (shB xm.bx) xm.nx m xs ps →
    ∃ G', XRM G' A ⟨bx, xm.nx, xm.ys⟩ m ∧ GXt G (shB xm.bx) xm.nx m G' (shB bx) xm.nx m ∧ RdL G'.H m fr cs d ps := by
  induction cs with
  | nil =>
    intro G xm xs d fr bx ps h hd hr
    rw [decXL_nil] at hd
    split at hd
    · cases hd; exact ⟨G, h, GXt.refl _ _ _ _, by simp only [RlX] at hr; simp only [RdL]; exact hr⟩
    · cases hd
  | cons c cs ih =>
    intro G xm xs d fr bx ps h hd hr
    cases cs with
    | nil =>
      rw [decXL_one] at hd
      cases xs with
      | nil => cases hd
      | cons x xs =>
        cases xs with
        | cons => cases hd
        | nil =>
          simp only [RlX] at hr
          obtain ⟨p, r, rfl, h1, rfl⟩ := hr
          obtain ⟨G', k1, k2, k3⟩ := decX_ok h hd h1
          exact ⟨G', k1, k2, by simp only [RdL]; exact ⟨p, rfl, k3⟩⟩
    | cons c2 cs =>
      rw [decXL_cons] at hd
      split at hd
      · cases hd
      · simp only [RlX] at hr
        obtain ⟨p, r, rfl, h1, h2⟩ := hr
        split at hd
        · rename_i a fr1 bx1 hd1
          split at hd
          · rename_i b fr2 bx2 hd2
            cases hd
            obtain ⟨G1, k1, k2, k3⟩ := decX_ok h hd1 h1
            obtain ⟨G2, j1, j2, j3⟩ := ih (xm := ⟨bx1, xm.nx, xm.ys⟩) k1 hd2 (RlX.mono k2 _ _ h2)
            refine ⟨G2, j1, k2.trans j2, ?_⟩
            simp only [RdL]
            exact ⟨p, r, rfl, Rd.mono j2.hh and_l _ _ _ k3, RdL.mono (HX.refl _ _) and_r _ _ _ j3⟩
          · cases hd
        · cases hd

theorem elemsX_ok {G A xm m cs y side fr l p} (h : XRM G A xm m) (he : elemsX xm.bx cs y = some (side, fr, l)) (hr : RvX G (shB xm.bx) xm.nx m y p) :
    side = true ∧ ∃ es, elems m.bx p = some es ∧ RdE G.H m fr cs l es := by
  unfold elemsX at he
  split at he
  · cases he; simp only [RvX] at hr; subst hr; exact ⟨rfl, [], rfl, RdE.nil⟩
  · rename_i fr' cs' l0
    split at he
    · rename_i l1 hc
      cases he
      obtain ⟨e, e'⟩ := castL_ok hc
      subst e; subst e'
      simp only [RvX] at hr
      obtain ⟨es, h1, h2⟩ := hr
      refine ⟨rfl, es, ?_, h2⟩
      rcases h1 with ⟨f, e, _⟩ | ⟨e, e2⟩ | ⟨k, i, n, es0, e, _, hb, hle, e2⟩
      · subst e; rfl
      · subst e; subst e2; rfl
      · subst e; subst e2; simp only [elems, hb, hle, and_self, if_true]
    · cases he
  · rename_i k
    split at he
    · rename_i fr' cs' l0 hl
      split at he
      · rename_i l1 hc
        cases he
        obtain ⟨e, e'⟩ := castL_ok hc
        subst e; subst e'
        obtain ⟨hk, hor⟩ := h.row hl hr
        refine ⟨rfl, ?_⟩
        rcases hor with ⟨hu, e, es, hb, hre⟩ | ⟨hu, e1, e2⟩
        · subst e
          have hle : l0.length ≤ es.length := by rw [hre.1]; exact Nat.le_refl _
          refine ⟨es, ?_, hre⟩
          simp only [elems, hb, Nat.zero_add, hle, and_self, if_true, List.drop_zero]
          rw [hre.1, List.take_length]
        · subst e1; subst e2; exact ⟨[], rfl, RdE.nil⟩
      · cases he
    · cases he
  · rename_i k i n
    split at he
    · rename_i fr' cs' l0 hl
      split at he
      · rename_i l1 hc
        cases he
        obtain ⟨e, e'⟩ := castL_ok hc
        subst e; subst e'
        obtain ⟨hk, hor⟩ := h.rsub hl hr
        refine ⟨rfl, ?_⟩
        rcases hor with ⟨hu, e, hle, es, hb, hre⟩ | ⟨hu, e1, e2, f, e3⟩
        · subst e
          have hle' : i + n ≤ es.length := by rw [← hre.1]; exact hle
          exact ⟨(es.drop i).take n, by simp only [elems, hb, hle', and_self, if_true], (hre.drop i).take n⟩
        · subst e1; subst e2; subst e3
          refine ⟨[], rfl, ?_⟩
          simpa using RdE.nil
      · cases he
    · cases he
  · cases he

theorem srcOf_of {T e bx p es} (h : elems bx p = some es) : srcOf T e bx p = some es := by
  cases p <;> first | exact h | (simp only [elems] at h; cases h)

theorem ctElem_ok {T e cs} (h : ctElem T e = some cs) : cs.length = (T.at e).sz ∧ cs ≠ [] := by
  unfold ctElem at h
  split at h
  · rename_i cs' _
    cases hb : Nat.beq cs'.length (T.at e).sz with
    | false => rw [hb] at h; cases h
    | true =>
      rw [hb, cond_true] at h
      split at h
      · cases h
      · rename_i hne; cases h; exact ⟨Nat.eq_of_beq_eq_true hb, hne⟩
  · cases h

theorem RdE.all {H m fr cs} {l : List (DenL cs)} {es} (h : RdE H m fr cs l es) : ∀ z ∈ es, z.length = cs.length ∧ z.all PV.one = true := by
  intro z hz
  obtain ⟨i, hi, e⟩ := List.mem_iff_getElem.1 hz
  have hi' : i < l.length := by rw [h.1]; exact hi
  have := h.2 i l[i] z (List.getElem?_eq_getElem hi') (by rw [List.getElem?_eq_getElem hi, e])
  exact ⟨RdL.length this, RdL.one this⟩

def OpOK (T : Tab) (G : Gn) (A : Nat → Prop) (xm : XM) (m : Mem) (nm : Nat) (r : Option (Prop × PV × List (Nat × Box))) (v : XV) (xm' : XM) : Prop :=
  ∃ G' sideP pv ws, r = some (sideP, pv, ws) ∧ sideP ∧ XRM G' (fun k => A k ∨ k = nm) xm' ⟨m.nb, setBs m.bx ws, m.ys⟩ ∧
    RvX G' (shB xm'.bx) xm'.nx ⟨m.nb, setBs m.bx ws, m.ys⟩ v pv ∧ GXt G (shB xm.bx) xm.nx m G' (shB xm'.bx) xm'.nx ⟨m.nb, setBs m.bx ws, m.ys⟩

theorem XRM.more {G A A' xm m} (h : XRM G A xm m) (ha : ∀ k, A k → A' k) : XRM G A' xm m :=
  ⟨h.box, fun k ho => ha _ (h.al k ho), h.nh, h.inj, fun k hk => ha _ (h.ha k hk), h.ys, h.lt⟩

theorem OpOK.pure {T G A xm m nm r v sideP pv} (h : XRM G A xm m) (hp : r = some (sideP, pv, [])) (hs : sideP) (hv : RvX G (shB xm.bx) xm.nx m v pv) : OpOK T G A xm m nm r v xm :=
  ⟨G, sideP, pv, [], hp, hs, h.more fun _ => .inl, hv, GXt.refl _ _ _ _⟩

theorem room_ok {n b : Nat} (h : room n b = true) : n * b ≤ 140737488355328 ∧ n ≤ 9223372036854775807 := by
  unfold room at h; simpa using h
theorem inb_ok {i : Int} {n : Nat} (h : inb i n = true) : 0 ≤ i ∧ i < n := by unfold inb at h; simpa using h
theorem inbs_ok {a b c : Nat} (h : inbs a b c = true) : a ≤ b ∧ b ≤ c := by unfold inbs at h; simpa using h
theorem nlt_ok {a b : Nat} (h : nlt a b = true) : a < b := by unfold nlt at h; simpa using h
theorem full_ok {a b c : Nat} (h : full a b c = true) : a + b = c := by unfold full at h; simpa using h

theorem shB_new (m : XM) (b : XBox) : shB (m.new b).bx m.nx = shp b := by simp only [XM.new]; rw [shB_upd, if_pos rfl]

/-- A row made. -/
theorem row_new {T G A xm m nm r fr cs} {l : List (DenL cs)} {es : List (List PV)} {sideP : Prop} {ws : List (Nat × Box)} {G1 : Gn} {xm1 : XM} {m1 : Mem}
    (hr : r = some (sideP, .row nm cs.length 0 es.length, ws ++ [(nm, .row cs.length es)])) (hs : sideP) (hm1 : m1 = ⟨m.nb, setBs m.bx ws, m.ys⟩) (h1 : XRM G1 A xm1 m1)
    (hx : GXt G (shB xm.bx) xm.nx m G1 (shB xm1.bx) xm1.nx m1) (hn : ¬ A nm) (he : RdE G1.H m1 fr cs l es) : OpOK T G A xm m nm r (.row xm1.nx) (xm1.new (.row fr cs l)) := by
  obtain ⟨k1, k2⟩ := h1.new (nb := m.nb) (b := .row fr cs l) (pb := .row cs.length es) hn ⟨es, rfl, he⟩
  have hset : (⟨m.nb, setBs m.bx (ws ++ [(nm, .row cs.length es)]), m.ys⟩ : Mem) = ⟨m.nb, setB m1.bx nm (.row cs.length es), m1.ys⟩ := by
    have : ∀ (l : List (Nat × Box)) (b : Nat → Box) (x : Nat × Box), setBs b (l ++ [x]) = setB (setBs b l) x.1 x.2 := by
      intro l
      induction l with
      | nil => intro b x; rfl
      | cons y l ih => intro b x; exact ih _ x
    rw [hm1, this]
  refine ⟨_, sideP, _, _, hr, hs, by rw [hset]; exact k1, ?_, by rw [hset]; exact hx.trans k2⟩
  rw [hset]
  simp only [RvX]
  rw [shB_new]
  refine ⟨Nat.lt_succ_self _, rfl, .inl ⟨fun h => h.1 rfl, ?_⟩⟩
  simp only [if_true]
  rw [he.1]

theorem appendX_ok {T G A xm m e x y side v xm' p q nm} (h : XRM G A xm m) (hn : ¬ A nm) (ha : appendX T xm e x y = some (side, v, xm')) (hs : side = true)
    (hx : RvX G (shB xm.bx) xm.nx m x p) (hy : RvX G (shB xm.bx) xm.nx m y q) : OpOK T G A xm m nm (appendV T m.bx nm e p q) v xm' := by
  unfold appendX at ha
  split at ha
  · cases ha
  · rename_i cs hcs
    obtain ⟨hsz, hne⟩ := ctElem_ok hcs
    split at ha
    · cases ha
    · rename_i sy fy ly hye
      obtain ⟨hsy, ys, hys, hre⟩ := elemsX_ok h hye hy
      have hsrc := srcOf_of (T := T) (e := e) hys
      have hall : ∀ z ∈ ys, z.length = (T.at e).sz ∧ z.all PV.one = true := by rw [← hsz]; exact hre.all
      split at ha
      · -- nil
        cases ha
        simp only [RvX] at hx
        subst hx
        obtain ⟨r1, r2⟩ := room_ok (and_r hs)
        rw [hre.1] at r1 r2
        refine row_new (ws := []) (sideP := ys.length * (T.at e).bytes ≤ 140737488355328 ∧ ys.length ≤ 9223372036854775807 ∧ (∀ z ∈ ys, z.length = (T.at e).sz ∧ z.all PV.one = true)) ?_ ⟨r1, r2, hall⟩ rfl h (GXt.refl _ _ _ _) hn hre
        simp only [appendV, hsrc, hsz, List.nil_append]
      · rename_i k
        split at ha
        · rename_i fx cs' l0 hl
          split at ha
          · rename_i l1 hc
            cases ha
            obtain ⟨e1, e'⟩ := castL_ok hc
            subst e1; subst e'
            obtain ⟨r1, r2⟩ := room_ok (and_r hs)
            rw [hre.1] at r1 r2
            obtain ⟨hk, hor⟩ := h.row hl hx
            rcases hor with ⟨hu, e, es, hb, hre1⟩ | ⟨hu, e1, e2⟩
            · subst e
              obtain ⟨s1, s2⟩ := h.set (b := .gone) (pb := .dead) (nb := m.nb) (own_row hl hu) (.inl rfl) trivial
              rw [hre1.1] at r1 r2
              have hre2 : RdE G.H ⟨m.nb, setB m.bx (G.ι k) .dead, m.ys⟩ (fx && fy) cs' (l0 ++ ly) (es ++ ys) := RdE.append (hre1.mono s2.hh and_l) (hre.mono s2.hh and_r)
              refine row_new (ws := [(G.ι k, .dead)]) (sideP := 0 + l0.length = es.length ∧ (l0.length + ys.length) * (T.at e).bytes ≤ 140737488355328 ∧ l0.length + ys.length ≤ 9223372036854775807 ∧ (∀ z ∈ ys, z.length = (T.at e).sz ∧ z.all PV.one = true)) ?_
                ⟨by rw [hre1.1]; omega, by rw [hre1.1]; exact r1, by rw [hre1.1]; exact r2, hall⟩ rfl s1 s2 hn hre2
              simp only [appendV, hsrc, hb, hsz, and_self, if_true, List.drop_zero, List.length_append, hre1.1, List.cons_append, List.nil_append]
            · subst e1; subst e2
              obtain ⟨f1, f2⟩ := h.forget k hk
              rw [List.length_nil, Nat.zero_add] at r1 r2
              refine row_new (ws := []) (sideP := ys.length * (T.at e).bytes ≤ 140737488355328 ∧ ys.length ≤ 9223372036854775807 ∧ (∀ z ∈ ys, z.length = (T.at e).sz ∧ z.all PV.one = true)) ?_ ⟨r1, r2, hall⟩ rfl f1 f2 hn (hre.mono f2.hh and_r)
              simp only [appendV, hsrc, hsz, List.nil_append]
          · cases ha
        · cases ha
      · rename_i k i n
        split at ha
        · rename_i fx cs' l0 hl
          split at ha
          · rename_i l1 hc
            cases ha
            obtain ⟨e1, e'⟩ := castL_ok hc
            subst e1
            replace e' : l0 = l1 := e'
            subst e'
            have hs2 := and_r hs
            obtain ⟨r1, r2⟩ := room_ok (and_r hs2)
            rw [hre.1] at r1 r2
            have hn0 := nlt_ok (and_l (and_l hs2))
            have hf := full_ok (and_r (and_l hs2))
            obtain ⟨hk, hor⟩ := h.rsub hl hx
            rcases hor with ⟨hu, e, hle, es, hb, hre1⟩ | ⟨hu, e1, e2, _⟩
            · subst e
              obtain ⟨s1, s2⟩ := h.set (b := .gone) (pb := .dead) (nb := m.nb) (own_row hl hu) (.inl rfl) trivial
              have hre2 : RdE G.H ⟨m.nb, setB m.bx (G.ι k) .dead, m.ys⟩ (fx && fy) cs' (l0.drop i ++ ly) (es.drop i ++ ys) := RdE.append ((hre1.mono s2.hh and_l).drop i) (hre.mono s2.hh and_r)
              have hlen : (es.drop i ++ ys).length = n + ys.length := by
                rw [List.length_append, List.length_drop, ← hre1.1]; omega
              refine row_new (ws := [(G.ι k, .dead)]) (sideP := i + n = es.length ∧ (n + ys.length) * (T.at e).bytes ≤ 140737488355328 ∧ n + ys.length ≤ 9223372036854775807 ∧ (∀ z ∈ ys, z.length = (T.at e).sz ∧ z.all PV.one = true)) ?_
                ⟨by rw [← hre1.1]; exact hf, r1, r2, hall⟩ rfl s1 s2 hn hre2
              simp only [appendV, hsrc, hb, hsz, and_self, if_true, List.cons_append, List.nil_append, hlen]
            · omega
          · cases ha
        · cases ha
      · cases ha

end Go.Proofs.Ytglcodeinalnjaa
