/-
  The layer Ev: operations, one by one.
-/
import Derived.Test.YtcbhmedknbiffaaEvC
namespace Go.Proofs.Ytcbhmedknbiffaa
open Go Go.RowKit
def Hd (G : Gn) (b0 : List (Nat × XBox)) (G' : Gn) (b1 : List (Nat × XBox)) : Prop :=
  (∀ b, G'.H b → G.H b ∨ ∃ k, lkB b0 k ≠ .gone ∧ lkB b1 k = .gone) ∧ ∀ k, lkB b0 k = .gone → lkB b1 k = .gone
theorem Hd.refl (G b0) : Hd G b0 G b0 := ⟨fun _ h => .inl h, fun _ h => h⟩
theorem Hd.trans {G b0 G1 b1 G2 b2} (h : Hd G b0 G1 b1) (k : Hd G1 b1 G2 b2) : Hd G b0 G2 b2 :=
  ⟨fun b hb => by
    rcases k.1 b hb with h1 | ⟨j, h1, h2⟩
    · rcases h.1 b h1 with h2 | ⟨j, h2, h3⟩
      · exact .inl h2
      · exact .inr ⟨j, h2, k.2 j h3⟩
    · exact .inr ⟨j, fun e => h1 (h.2 j e), h2⟩, fun j hj => k.2 j (h.2 j hj)⟩
theorem Hd.forget {G : Gn} {bx : List (Nat × XBox)} {k : Nat} (hk : lkB bx k ≠ .gone) : Hd G bx { G with H := fun j => G.H j ∨ (OwnX G bx k ∧ j = G.ι k) } (updB bx k .gone) :=
  ⟨fun b hb => by
    rcases hb with h | ⟨h, e⟩
    · exact .inl h
    · exact .inr ⟨k, hk, by rw [lkB_upd, if_pos rfl]⟩, fun j hj => by rw [lkB_upd]; split; rfl; exact hj⟩
theorem decX_ok {G A xm m c x d fr bx p} (h : XRM G A xm m) (hd : decX xm.bx c x = some (d, fr, bx)) (hr : RvX G (shB xm.bx) xm.nx m x p) :
    ∃ G', XRM G' A ⟨bx, xm.nx, xm.ys⟩ m ∧ GXt G (shB xm.bx) xm.nx m G' (shB bx) xm.nx m ∧ Rd G'.H m fr c d p ∧ Hd G xm.bx G' bx := by
  have same : XRM G A ⟨xm.bx, xm.nx, xm.ys⟩ m := h
  unfold decX at hd
  split at hd
  · rename_i k k' n
    split at hd
    · rename_i e _; cases hd; subst e
      exact ⟨G, same, GXt.refl _ _ _ _, by simp only [RvX] at hr; simp only [Rd]; exact hr, Hd.refl _ _⟩
    · cases hd
  · cases hd; exact ⟨G, same, GXt.refl _ _ _ _, by simp only [RvX] at hr; simp only [Rd]; exact hr, Hd.refl _ _⟩
  · cases hd; exact ⟨G, same, GXt.refl _ _ _ _, by simp only [RvX] at hr; simp only [Rd]; exact hr, Hd.refl _ _⟩
  · cases hd
    refine ⟨G, same, GXt.refl _ _ _ _, ?_, Hd.refl _ _⟩
    simp only [RvX] at hr; simp only [Rd]
    exact ⟨[], .inr (.inl ⟨hr, rfl⟩), rfl, fun i x e hx => by simp [LGet] at hx⟩
  · rename_i cs fr' cs' l
    split at hd
    · rename_i l' hc
      cases hd
      obtain ⟨e, e'⟩ := castL_ok hc
      subst e; subst e'
      refine ⟨G, same, GXt.refl _ _ _ _, ?_, Hd.refl _ _⟩
      simp only [RvX] at hr; simp only [Rd]
      obtain ⟨es, h1, h2⟩ := hr
      exact ⟨es, h1, h2.1, h2.2⟩
    · cases hd
  · rename_i cs k
    split at hd
    · rename_i fr' cs' l hl
      split at hd
      · rename_i l' hc
        cases hd
        obtain ⟨e, e'⟩ := castL_ok hc
        subst e; subst e'
        obtain ⟨hk, hor⟩ := h.row hl hr
        obtain ⟨f1, f2⟩ := h.forget k hk
        refine ⟨_, f1, f2, ?_, Hd.forget (by rw [hl]; simp)⟩
        simp only [Rd]
        rcases hor with ⟨hu, e, es, hb, hre⟩ | ⟨hu, e1, e2⟩
        · have hre' := hre.mono f2.hh (fr' := fr) id
          refine ⟨es, .inr (.inr ⟨_, 0, _, es, e, .inr ⟨own_row hl hu, rfl⟩, hb, ?_, ?_⟩), hre'.1, hre'.2⟩
          · rw [hre.1]; omega
          · rw [List.drop_zero, hre.1, List.take_length]
        · subst e1
          exact ⟨[], .inr (.inl ⟨e2, rfl⟩), rfl, fun i x e hx => by simp [LGet] at hx⟩
      · cases hd
    · cases hd
  · rename_i cs k i n
    split at hd
    · rename_i fr' cs' l hl
      split at hd
      · rename_i l' hc
        cases hd
        obtain ⟨e, e'⟩ := castL_ok hc
        subst e; subst e'
        obtain ⟨hk, hor⟩ := h.rsub hl hr
        obtain ⟨f1, f2⟩ := h.forget k hk
        refine ⟨_, f1, f2, ?_, Hd.forget (by rw [hl]; simp)⟩
        simp only [Rd]
        rcases hor with ⟨hu, e, hle, es, hb, hre⟩ | ⟨hu, e1, e2, e3⟩
        · have hre' := ((hre.mono f2.hh (fr' := fr) id).drop i).take n
          exact ⟨(es.drop i).take n, .inr (.inr ⟨_, i, n, es, e, .inr ⟨own_row hl hu, rfl⟩, hb, by rw [← hre.1]; exact hle, rfl⟩), hre'.1, hre'.2⟩
        · subst e1; subst e2
          refine ⟨[], e3.slr, ?_, fun i x e hx => ?_⟩
          · show List.length ((List.drop i []).take 0) = _; simp
          · have hx' : LGet ((List.drop i ([] : List (DenL cs'))).take 0) _ _ := hx
            simp [LGet] at hx'
      · cases hd
    · cases hd
  · cases hd
theorem decXL_nil {m xs} : decXL [] m xs = (match xs with
    | [] => some ((), true, m)
    | _ => none) := rfl
theorem decXL_one {c m xs} : decXL [c] m xs = (match xs with
    | [x] => decX m c x
    | _ => none) := rfl
theorem decXL_cons {c d cs m xs} : decXL (c :: d :: cs) m xs = (match xs with
    | [] => none
    | x :: xs => match decX m c x with
      | some (a, fr, m') => match decXL (d :: cs) m' xs with
        | some (r, fr', m'') => some ((a, r), fr && fr', m'')
        | none => none
      | none => none) := rfl
theorem decXL_ok {A m} (cs : List CT) : ∀ {G : Gn} {xm : XM} {xs : List XV} {d : DenL cs} {fr bx ps}, XRM G A xm m → decXL cs xm.bx xs = some (d, fr, bx) → RlX G (shB xm.bx) xm.nx m xs ps →
    ∃ G', XRM G' A ⟨bx, xm.nx, xm.ys⟩ m ∧ GXt G (shB xm.bx) xm.nx m G' (shB bx) xm.nx m ∧ RdL G'.H m fr cs d ps ∧ Hd G xm.bx G' bx := by
  induction cs with
  | nil =>
    intro G xm xs d fr bx ps h hd hr
    rw [decXL_nil] at hd
    split at hd
    · cases hd; exact ⟨G, h, GXt.refl _ _ _ _, by simp only [RlX] at hr; simp only [RdL]; exact hr, Hd.refl _ _⟩
    · cases hd
  | cons c cs ih =>
    intro G xm xs d fr bx ps h hd hr
    cases cs with
    | nil =>
      rw [decXL_one] at hd
      cases xs with
      | nil => cases hd
      | cons x xs =>
        cases xs with
        | cons => cases hd
        | nil =>
          simp only [RlX] at hr
          obtain ⟨p, r, rfl, h1, rfl⟩ := hr
          obtain ⟨G', k1, k2, k3, k4⟩ := decX_ok h hd h1
          exact ⟨G', k1, k2, by simp only [RdL]; exact ⟨p, rfl, k3⟩, k4⟩
    | cons c2 cs =>
      rw [decXL_cons] at hd
      split at hd
      · cases hd
      · simp only [RlX] at hr
        obtain ⟨p, r, rfl, h1, h2⟩ := hr
        split at hd
        · rename_i a fr1 bx1 hd1
          split at hd
          · rename_i b fr2 bx2 hd2
            cases hd
            obtain ⟨G1, k1, k2, k3, k4⟩ := decX_ok h hd1 h1
            obtain ⟨G2, j1, j2, j3, j4⟩ := ih (xm := ⟨bx1, xm.nx, xm.ys⟩) k1 hd2 (RlX.mono k2 _ _ h2)
            refine ⟨G2, j1, k2.trans j2, ?_, k4.trans j4⟩
            simp only [RdL]
            exact ⟨p, r, rfl, Rd.mono j2.hh and_l _ _ _ k3, RdL.mono (HX.refl _ _) and_r _ _ _ j3⟩
          · cases hd
        · cases hd
theorem intsX_ok {k} : ∀ {xs : List XV} {l : List Int}, intsX k xs = some l → l.length = xs.length ∧ ∀ (i : Nat) (n : Int), l[i]? = some n → xs[i]? = some (.i k n)
  | [], l, h => by simp only [intsX, Option.some.injEq] at h; subst h; exact ⟨rfl, fun i n hi => by simp at hi⟩
  | x :: xs, l, h => by
    unfold intsX at h
    split at h
    · rename_i hx; cases hx
    · rename_i hx
      cases hx
      split at h
      · rename_i e l' _ hl
        cases h
        subst e
        obtain ⟨h1, h2⟩ := intsX_ok hl
        refine ⟨by simp [h1], fun i n hi => ?_⟩
        cases i with
        | zero => simp only [List.getElem?_cons_zero, Option.some.injEq] at hi; subst hi; rfl
        | succ i => simp only [List.getElem?_cons_succ] at hi ⊢; exact h2 i n hi
      · cases h
    · cases h
theorem chunk_one : ∀ (n : Nat) (xs : List PV) (i : Nat) {q : PV}, i < n → xs[i]? = some q → (chunk 1 n xs)[i]? = some [q]
  | 0, _, _, _, h, _ => by omega
  | n + 1, xs, 0, q, _, h => by
    cases xs with
    | nil => simp at h
    | cons x xs => simp only [List.getElem?_cons_zero, Option.some.injEq] at h; subst h; simp [chunk]
  | n + 1, xs, i + 1, q, hi, h => by
    cases xs with
    | nil => simp at h
    | cons x xs =>
      simp only [List.getElem?_cons_succ] at h
      simp only [chunk, List.getElem?_cons_succ]
      exact chunk_one n _ i (by omega) (by simpa using h)
theorem elemsX_ok {G A xm m cs y side fr l p} (h : XRM G A xm m) (he : elemsX xm.bx cs y = some (side, fr, l)) (hr : RvX G (shB xm.bx) xm.nx m y p) :
    side = true ∧ ∃ es, elems m.bx p = some es ∧ RdE G.H m fr cs l es := by
  unfold elemsX at he
  split at he
  · cases he; simp only [RvX] at hr; subst hr; exact ⟨rfl, [], rfl, RdE.nil⟩
  · rename_i fr' cs' l0
    split at he
    · rename_i l1 hc
      cases he
      obtain ⟨e, e'⟩ := castL_ok hc
      subst e; subst e'
      simp only [RvX] at hr
      obtain ⟨es, h1, h2⟩ := hr
      refine ⟨rfl, es, ?_, h2.flat⟩
      rcases h1 with ⟨f, e, _⟩ | ⟨e, e2⟩ | ⟨k, i, n, es0, e, _, hb, hle, e2⟩
      · subst e; rfl
      · subst e; subst e2; rfl
      · subst e; subst e2; simp only [elems, hb, hle, and_self, if_true]
    · cases he
  · rename_i k
    split at he
    · rename_i fr' cs' l0 hl
      split at he
      · rename_i l1 hc
        cases he
        obtain ⟨e, e'⟩ := castL_ok hc
        subst e; subst e'
        obtain ⟨hk, hor⟩ := h.row hl hr
        refine ⟨rfl, ?_⟩
        rcases hor with ⟨hu, e, es, hb, hre⟩ | ⟨hu, e1, e2⟩
        · subst e
          have hle : l0.length ≤ es.length := by rw [hre.1]; exact Nat.le_refl _
          refine ⟨es, ?_, hre.flat⟩
          simp only [elems, hb, Nat.zero_add, hle, and_self, if_true, List.drop_zero]
          rw [hre.1, List.take_length]
        · subst e1; subst e2; exact ⟨[], rfl, RdE.nil⟩
      · cases he
    · cases he
  · rename_i k i n
    split at he
    · rename_i fr' cs' l0 hl
      split at he
      · rename_i l1 hc
        cases he
        obtain ⟨e, e'⟩ := castL_ok hc
        subst e; subst e'
        obtain ⟨hk, hor⟩ := h.rsub hl hr
        refine ⟨rfl, ?_⟩
        rcases hor with ⟨hu, e, hle, es, hb, hre⟩ | ⟨hu, e1, e2, e3⟩
        · subst e
          have hle' : i + n ≤ es.length := by rw [← hre.1]; exact hle
          exact ⟨(es.drop i).take n, by simp only [elems, hb, hle', and_self, if_true], ((hre.drop i).take n).flat⟩
        · subst e1; subst e2
          refine ⟨[], e3.elems, ?_⟩
          simpa using RdE.nil
      · cases he
    · cases he
  · cases he
theorem srcOf_of {T e bx p es} (h : elems bx p = some es) : srcOf T e bx p = some es := by
  cases p <;> first | exact h | (simp only [elems] at h; cases h)
theorem srcX_ok {T : Tab} {e : Nat} {G A xm m cs y side fr l p} (hsz : cs.length = (T.at e).sz) (h : XRM G A xm m) (he : srcX xm.bx cs y = some (side, fr, l)) (hr : RvX G (shB xm.bx) xm.nx m y p) :
    side = true ∧ ∃ es, srcOf T e m.bx p = some es ∧ RdE G.H m fr cs l es := by
  unfold srcX at he
  split at he
  · rename_i k j off sz n
    split at he
    · rename_i xs hl
      cases hc : (Nat.beq sz 1 && Nat.ble (off + n) xs.length) with
      | false => rw [hc] at he; cases he
      | true =>
        rw [hc, cond_true] at he
        split at he
        · rename_i _ hi
          cases he
          have c1 := Nat.eq_of_beq_eq_true (and_l hc)
          have c2 := Nat.le_of_ble_eq_true (and_r hc)
          subst c1
          have hb := h.box j
          rw [hl] at hb
          obtain ⟨ps, hb1, hb2⟩ := hb
          simp only [RvX] at hr
          obtain ⟨_, rfl⟩ := hr
          have hlen := hb2.length
          have c3 : off + n * 1 ≤ ps.length := by omega
          have hsz1 : 1 = (T.at e).sz := hsz
          refine ⟨rfl, chunk 1 n (ps.drop off), by simp only [srcOf, hb1]; rw [if_pos ⟨hsz1, c3⟩], ?_⟩
          obtain ⟨i1, i2⟩ := intsX_ok hi
          have hn : List.length (α := Int) l = n := by rw [i1, List.length_take, List.length_drop]; omega
          refine ⟨by rw [chunk_length]; exact hn, fun i x e' hx he' => ?_⟩
          have hxi : (l : List Int)[i]? = some x := hx
          have hin : i < n := by rw [← hn]; exact (List.getElem?_eq_some_iff.1 hxi).1
          have h1 := i2 i x hxi
          rw [List.getElem?_take, if_pos hin, List.getElem?_drop] at h1
          obtain ⟨q, hq, hq2⟩ := hb2.get h1
          simp only [RvX] at hq2
          subst hq2
          have h2 := chunk_one n (ps.drop off) i hin (by rw [List.getElem?_drop]; exact hq)
          rw [h2] at he'
          cases he'
          simp only [RdL, Rd]
          exact ⟨_, rfl, rfl⟩
        · cases he
    · cases he
  · obtain ⟨h1, es, h2, h3⟩ := elemsX_ok h he hr
    exact ⟨h1, es, srcOf_of h2, h3⟩
theorem ctElem_ok {T e cs} (h : ctElem T e = some cs) : cs.length = (T.at e).sz ∧ cs ≠ [] := by
  unfold ctElem at h
  split at h
  · rename_i cs' _
    cases hb : Nat.beq cs'.length (T.at e).sz with
    | false => rw [hb] at h; cases h
    | true =>
      rw [hb, cond_true] at h
      split at h
      · cases h
      · rename_i hne; cases h; exact ⟨Nat.eq_of_beq_eq_true hb, hne⟩
  · cases h
theorem ctElem_nf {T e cs} (h : ctElem T e = some cs) : (T.at e).kind.isFunc = false := by
  cases hk : (T.at e).kind with
  | func =>
    unfold ctElem at h
    have : ctOf T 8 e = none := by unfold ctOf; rw [hk]
    rw [this] at h; cases h
  | _ => rfl
theorem RdE.all {H m fr cs} {l : List (DenL cs)} {es} (h : RdE H m fr cs l es) : ∀ z ∈ es, z.length = cs.length ∧ z.all PV.one = true := by
  intro z hz
  obtain ⟨i, hi, e⟩ := List.mem_iff_getElem.1 hz
  have hi' : i < l.length := by rw [h.1]; exact hi
  have := h.2 i l[i] z (List.getElem?_eq_getElem hi') (by rw [List.getElem?_eq_getElem hi, e])
  exact ⟨RdL.length this, RdL.one this⟩
structure NewOK (ap : Bool) (G : Gn) (xm : XM) (nm : Nat) (G' : Gn) (xm' : XM) : Prop where
  le : xm'.nx ≤ xm.nx + 1
  nw : ∀ k, xm.nx ≤ k → k < xm'.nx → G'.ι k = nm
  hd : ∀ b, G'.H b → G.H b ∨ (ap = false ∧ ∃ k, lkB xm.bx k ≠ .gone ∧ lkB xm'.bx k = .gone)
theorem NewOK.refl (ap G xm nm) : NewOK ap G xm nm G xm := ⟨Nat.le_succ _, fun k h1 h2 => by omega, fun _ h => .inl h⟩
def OpOK (_T : Tab) (G : Gn) (A : Nat → Prop) (xm : XM) (m : Mem) (nm : Nat) (ap : Bool) (r : Option (Prop × PV × List (Nat × Box))) (v : XV) (xm' : XM) : Prop :=
  ∃ G' sideP pv ws, r = some (sideP, pv, ws) ∧ sideP ∧ XRM G' (fun k => A k ∨ k = nm) xm' ⟨m.nb, setBs m.bx ws, m.ys⟩ ∧
    RvX G' (shB xm'.bx) xm'.nx ⟨m.nb, setBs m.bx ws, m.ys⟩ v pv ∧ GXt G (shB xm.bx) xm.nx m G' (shB xm'.bx) xm'.nx ⟨m.nb, setBs m.bx ws, m.ys⟩ ∧ NewOK ap G xm nm G' xm'
theorem XRM.more {G A A' xm m} (h : XRM G A xm m) (ha : ∀ k, A k → A' k) : XRM G A' xm m :=
  ⟨h.box, fun k ho => ha _ (h.al k ho), h.nh, h.inj, fun k hk => ha _ (h.ha k hk), h.ys, h.lt, fun b n hP => ⟨ha _ (h.pv b n hP).1, (h.pv b n hP).2⟩⟩
theorem OpOK.pure {T G A xm m nm ap r v sideP pv} (h : XRM G A xm m) (hp : r = some (sideP, pv, [])) (hs : sideP) (hv : RvX G (shB xm.bx) xm.nx m v pv) : OpOK T G A xm m nm ap r v xm :=
  ⟨G, sideP, pv, [], hp, hs, h.more fun _ => .inl, hv, GXt.refl _ _ _ _, NewOK.refl _ _ _ _⟩
theorem NewOK.new {ap : Bool} {G : Gn} {xm : XM} {nm : Nat} {G1 : Gn} {xm1 : XM} {b : XBox} {U : Nat → Prop} (hn : xm1.nx = xm.nx) (hlt : ∀ k, lkB xm.bx k ≠ .gone → k < xm.nx) (hh : ∀ b, G1.H b → G.H b ∨ (ap = false ∧ ∃ k, lkB xm.bx k ≠ .gone ∧ lkB xm1.bx k = .gone)) :
    NewOK ap G xm nm { G1 with ι := fun j => if j = xm1.nx then nm else G1.ι j, U := U } (xm1.new b) :=
  ⟨by show xm1.nx + 1 ≤ xm.nx + 1; omega, fun k h1 h2 => by
    have h2' : k < xm1.nx + 1 := h2
    have : k = xm1.nx := by omega
    exact if_pos this, fun b hb => by
    rcases hh b hb with h | ⟨h, k, h1, h2⟩
    · exact .inl h
    · refine .inr ⟨h, k, h1, ?_⟩
      have := hlt k h1
      show lkB (updB xm1.bx xm1.nx _) k = .gone
      rw [lkB_upd, if_neg (by omega)]; exact h2⟩
theorem XRM.blt {G A xm m} (h : XRM G A xm m) {k : Nat} (hk : lkB xm.bx k ≠ .gone) : k < xm.nx := by
  rcases Nat.lt_or_ge k xm.nx with h1 | h1
  · exact h1
  · exact absurd (h.lt k h1) hk
theorem room_ok {n b : Nat} (h : room n b = true) : n * b ≤ 140737488355328 ∧ n ≤ 9223372036854775807 := by
  unfold room at h; simpa using h
theorem inb_ok {i : Int} {n : Nat} (h : inb i n = true) : 0 ≤ i ∧ i < n := by unfold inb at h; simpa using h
theorem inbs_ok {a b c : Nat} (h : inbs a b c = true) : a ≤ b ∧ b ≤ c := by unfold inbs at h; simpa using h
theorem nlt_ok {a b : Nat} (h : nlt a b = true) : a < b := by unfold nlt at h; simpa using h
theorem full_ok {a b c : Nat} (h : full a b c = true) : a + b = c := by unfold full at h; simpa using h
theorem shB_new (m : XM) (b : XBox) : shB (m.new b).bx m.nx = shp b := by simp only [XM.new]; rw [shB_upd, if_pos rfl]
theorem row_new {T G A xm m nm ap r fr cs} {l : List (DenL cs)} {es : List (List PV)} {sideP : Prop} {ws : List (Nat × Box)} {G1 : Gn} {xm1 : XM} {m1 : Mem}
    (hr : r = some (sideP, .row nm cs.length 0 es.length, ws ++ [(nm, .row cs.length es)])) (hs : sideP) (hm1 : m1 = ⟨m.nb, setBs m.bx ws, m.ys⟩) (h1 : XRM G1 A xm1 m1)
    (hx : GXt G (shB xm.bx) xm.nx m G1 (shB xm1.bx) xm1.nx m1) (hn : ¬ A nm) (he : RdE G1.H m1 fr cs l es)
    (hnx : xm1.nx = xm.nx) (h0 : XRM G A xm m) (hh : ∀ b, G1.H b → G.H b ∨ (ap = false ∧ ∃ k, lkB xm.bx k ≠ .gone ∧ lkB xm1.bx k = .gone)) : OpOK T G A xm m nm ap r (.row xm1.nx) (xm1.new (.row fr cs l)) := by
  obtain ⟨k1, k2⟩ := h1.new (nb := m.nb) (b := .row fr cs l) (pb := .row cs.length es) hn ⟨es, rfl, he⟩
  have hset : (⟨m.nb, setBs m.bx (ws ++ [(nm, .row cs.length es)]), m.ys⟩ : Mem) = ⟨m.nb, setB m1.bx nm (.row cs.length es), m1.ys⟩ := by
    have : ∀ (l : List (Nat × Box)) (b : Nat → Box) (x : Nat × Box), setBs b (l ++ [x]) = setB (setBs b l) x.1 x.2 := by
      intro l
      induction l with
      | nil => intro b x; rfl
      | cons y l ih => intro b x; exact ih _ x
    rw [hm1, this]
  refine ⟨_, sideP, _, _, hr, hs, by rw [hset]; exact k1, ?_, by rw [hset]; exact hx.trans k2, NewOK.new hnx (fun k hk => h0.blt hk) hh⟩
  rw [hset]
  simp only [RvX]
  rw [shB_new]
  refine ⟨Nat.lt_succ_self _, rfl, .inl ⟨fun h => h.1 rfl, ?_⟩⟩
  simp only [if_true]
  rw [he.1]
theorem pv_new {T G A xm m nm ap r cs} {ns : List Int} {es : List (List PV)} {sideP : Prop} {ws : List (Nat × Box)} {G1 : Gn} {xm1 : XM} {m1 : Mem}
    (hr : r = some (sideP, .row nm cs.length 0 es.length, ws ++ [(nm, .row cs.length es)])) (hs : sideP) (hm1 : m1 = ⟨m.nb, setBs m.bx ws, m.ys⟩) (h1 : XRM G1 A xm1 m1)
    (hx : GXt G (shB xm.bx) xm.nx m G1 (shB xm1.bx) xm1.nx m1) (hn : ¬ A nm) (he : PvE G1.P cs ns es)
    (hnx : xm1.nx = xm.nx) (h0 : XRM G A xm m) (hh : ∀ b, G1.H b → G.H b ∨ (ap = false ∧ ∃ k, lkB xm.bx k ≠ .gone ∧ lkB xm1.bx k = .gone)) : OpOK T G A xm m nm ap r (.row xm1.nx) (xm1.new (.pv cs ns)) := by
  obtain ⟨k1, k2⟩ := h1.new (nb := m.nb) (b := .pv cs ns) (pb := .row cs.length es) hn ⟨es, rfl, he⟩
  have hset : (⟨m.nb, setBs m.bx (ws ++ [(nm, .row cs.length es)]), m.ys⟩ : Mem) = ⟨m.nb, setB m1.bx nm (.row cs.length es), m1.ys⟩ := by
    have : ∀ (l : List (Nat × Box)) (b : Nat → Box) (x : Nat × Box), setBs b (l ++ [x]) = setB (setBs b l) x.1 x.2 := by
      intro l
      induction l with
      | nil => intro b x; rfl
      | cons y l ih => intro b x; exact ih _ x
    rw [hm1, this]
  refine ⟨_, sideP, _, _, hr, hs, by rw [hset]; exact k1, ?_, by rw [hset]; exact hx.trans k2, NewOK.new hnx (fun k hk => h0.blt hk) hh⟩
  rw [hset]
  simp only [RvX]
  rw [shB_new]
  refine ⟨Nat.lt_succ_self _, rfl, .inl ⟨fun h => h.1 rfl, ?_⟩⟩
  simp only [if_true]
  rw [he.1]
theorem appendP_ok {T G A xm m e cs x y side v xm' p q nm} (hcs : ctElem T e = some cs) (h : XRM G A xm m) (hn : ¬ A nm) (ha : appendP xm cs (T.at e).bytes x y = some (side, v, xm')) (hs : side = true)
    (hx : RvX G (shB xm.bx) xm.nx m x p) (hy : RvX G (shB xm.bx) xm.nx m y q) : OpOK T G A xm m nm true (appendV T m.bx nm e p q) v xm' := by
  obtain ⟨hsz, hne⟩ := ctElem_ok hcs
  unfold appendP at ha
  split at ha
  · rename_i j
    split at ha
    · rename_i cs2 ns2 hl2
      split at ha
      · rename_i e1 _
        subst e1
        obtain ⟨ys, hsrc, hre⟩ : ∃ ys, srcOf T e m.bx q = some ys ∧ PvE G.P cs2 ns2 ys := by
          obtain ⟨_, hor⟩ := h.prow hl2 hy
          rcases hor with ⟨_, e, es, hb, hre⟩ | ⟨_, e1, e2⟩
          · subst e
            have hle : ns2.length ≤ es.length := by rw [hre.1]; exact Nat.le_refl _
            refine ⟨es, srcOf_of ?_, hre⟩
            simp only [elems, hb, Nat.zero_add, hle, and_self, if_true, List.drop_zero]
            rw [← hre.1, List.take_length]
          · subst e1; subst e2
            exact ⟨[], srcOf_of rfl, rfl, fun i n e hx => by simp at hx⟩
        have hall : ∀ z ∈ ys, z.length = (T.at e).sz ∧ z.all PV.one = true := by rw [← hsz]; exact hre.all
        split at ha
        · cases ha
          simp only [RvX] at hx
          subst hx
          obtain ⟨r1, r2⟩ := room_ok hs
          rw [← hre.1] at r1 r2
          refine pv_new (ws := []) (sideP := ys.length * (T.at e).bytes ≤ 140737488355328 ∧ ys.length ≤ 9223372036854775807 ∧ (∀ z ∈ ys, z.length = (T.at e).sz ∧ z.all PV.one = true)) ?_ ⟨r1, r2, hall⟩ rfl h (GXt.refl _ _ _ _) hn hre rfl h (fun _ hb => .inl hb)
          simp only [appendV, hsrc, hsz, List.nil_append]
        · rename_i k
          split at ha
          · rename_i cs1 ns1 hl
            split at ha
            · rename_i e1 _
              subst e1
              cases ha
              obtain ⟨r1, r2⟩ := room_ok hs
              rw [← hre.1] at r1 r2
              obtain ⟨hk, hor⟩ := h.prow hl hx
              rcases hor with ⟨hu, e, es, hb, hre1⟩ | ⟨hu, e1, e2⟩
              · subst e
                obtain ⟨s1, s2⟩ := h.set (b := .gone) (pb := .dead) (nb := m.nb) (own_pv hl hu) (.inl rfl) trivial
                rw [← hre1.1] at r1 r2
                refine pv_new (ws := [(G.ι k, .dead)]) (sideP := 0 + ns1.length = es.length ∧ (ns1.length + ys.length) * (T.at e).bytes ≤ 140737488355328 ∧ ns1.length + ys.length ≤ 9223372036854775807 ∧ (∀ z ∈ ys, z.length = (T.at e).sz ∧ z.all PV.one = true)) ?_
                  ⟨by rw [hre1.1]; omega, by rw [← hre1.1]; exact r1, by rw [← hre1.1]; exact r2, hall⟩ rfl s1 s2 hn (hre1.append hre) rfl h (fun _ hb => .inl hb)
                simp only [appendV, hsrc, hb, hsz, and_self, if_true, List.drop_zero, List.length_append, ← hre1.1, List.cons_append, List.nil_append]
              · subst e1; subst e2
                obtain ⟨f1, f2⟩ := h.forget k hk
                rw [List.length_nil, Nat.zero_add] at r1 r2
                refine pv_new (ws := []) (sideP := ys.length * (T.at e).bytes ≤ 140737488355328 ∧ ys.length ≤ 9223372036854775807 ∧ (∀ z ∈ ys, z.length = (T.at e).sz ∧ z.all PV.one = true)) ?_ ⟨r1, r2, hall⟩ rfl f1 f2 hn hre rfl h (fun b hb => by
                  rcases hb with hb | ⟨hb, _⟩
                  · exact .inl hb
                  · unfold OwnX at hb; rw [hl] at hb; exact absurd hu hb)
                simp only [appendV, hsrc, hsz, List.nil_append]
            · cases ha
          · cases ha
        · cases ha
      · cases ha
    · cases ha
  · cases ha
theorem appendX_ok {T G A xm m e x y side v xm' p q nm} (h : XRM G A xm m) (hn : ¬ A nm) (ha : appendX T xm e x y = some (side, v, xm')) (hs : side = true)
    (hx : RvX G (shB xm.bx) xm.nx m x p) (hy : RvX G (shB xm.bx) xm.nx m y q) : OpOK T G A xm m nm true (appendV T m.bx nm e p q) v xm' := by
  unfold appendX at ha
  split at ha
  · cases ha
  · rename_i cs hcs
    obtain ⟨hsz, hne⟩ := ctElem_ok hcs
    split at ha
    · exact appendP_ok hcs h hn ha hs hx hy
    · rename_i sy fy ly hye
      obtain ⟨hsy, ys, hsrc, hre⟩ := srcX_ok hsz h hye hy
      have hall : ∀ z ∈ ys, z.length = (T.at e).sz ∧ z.all PV.one = true := by rw [← hsz]; exact hre.all
      split at ha
      · -- nil
        cases ha
        simp only [RvX] at hx
        subst hx
        obtain ⟨r1, r2⟩ := room_ok (and_r hs)
        rw [hre.1] at r1 r2
        refine row_new (ws := []) (sideP := ys.length * (T.at e).bytes ≤ 140737488355328 ∧ ys.length ≤ 9223372036854775807 ∧ (∀ z ∈ ys, z.length = (T.at e).sz ∧ z.all PV.one = true)) ?_ ⟨r1, r2, hall⟩ rfl h (GXt.refl _ _ _ _) hn hre rfl h (fun _ hb => .inl hb)
        simp only [appendV, hsrc, hsz, List.nil_append]
      · rename_i k
        split at ha
        · rename_i fx cs' l0 hl
          split at ha
          · rename_i l1 hc
            cases ha
            obtain ⟨e1, e'⟩ := castL_ok hc
            subst e1; subst e'
            obtain ⟨r1, r2⟩ := room_ok (and_r hs)
            rw [hre.1] at r1 r2
            obtain ⟨hk, hor⟩ := h.row hl hx
            rcases hor with ⟨hu, e, es, hb, hre1⟩ | ⟨hu, e1, e2⟩
            · subst e
              obtain ⟨s1, s2⟩ := h.set (b := .gone) (pb := .dead) (nb := m.nb) (own_row hl hu) (.inl rfl) trivial
              rw [hre1.1] at r1 r2
              have hre2 : RdE G.H ⟨m.nb, setB m.bx (G.ι k) .dead, m.ys⟩ (fx && fy) cs' (l0 ++ ly) (es ++ ys) := RdE.append (hre1.mono s2.hh and_l) (hre.mono s2.hh and_r)
              refine row_new (ws := [(G.ι k, .dead)]) (sideP := 0 + l0.length = es.length ∧ (l0.length + ys.length) * (T.at e).bytes ≤ 140737488355328 ∧ l0.length + ys.length ≤ 9223372036854775807 ∧ (∀ z ∈ ys, z.length = (T.at e).sz ∧ z.all PV.one = true)) ?_
                ⟨by rw [hre1.1]; omega, by rw [hre1.1]; exact r1, by rw [hre1.1]; exact r2, hall⟩ rfl s1 s2 hn hre2 rfl h (fun _ hb => .inl hb)
              simp only [appendV, hsrc, hb, hsz, and_self, if_true, List.drop_zero, List.length_append, hre1.1, List.cons_append, List.nil_append]
            · subst e1; subst e2
              obtain ⟨f1, f2⟩ := h.forget k hk
              rw [List.length_nil, Nat.zero_add] at r1 r2
              refine row_new (ws := []) (sideP := ys.length * (T.at e).bytes ≤ 140737488355328 ∧ ys.length ≤ 9223372036854775807 ∧ (∀ z ∈ ys, z.length = (T.at e).sz ∧ z.all PV.one = true)) ?_ ⟨r1, r2, hall⟩ rfl f1 f2 hn (hre.mono f2.hh and_r) rfl h (fun b hb => by
                rcases hb with hb | ⟨hb, _⟩
                · exact .inl hb
                · unfold OwnX at hb; rw [hl] at hb; exact absurd hu hb)
              simp only [appendV, hsrc, hsz, List.nil_append]
          · cases ha
        · cases ha
      · rename_i k i n
        split at ha
        · rename_i fx cs' l0 hl
          split at ha
          · rename_i l1 hc
            cases ha
            obtain ⟨e1, e'⟩ := castL_ok hc
            subst e1
            replace e' : l0 = l1 := e'
            subst e'
            have hs2 := and_r hs
            obtain ⟨r1, r2⟩ := room_ok (and_r hs2)
            rw [hre.1] at r1 r2
            have hf := full_ok (and_l hs2)
            obtain ⟨hk, hor⟩ := h.rsub hl hx
            rcases hor with ⟨hu, e, hle, es, hb, hre1⟩ | ⟨hu, e1, e2, e3⟩
            · subst e
              obtain ⟨s1, s2⟩ := h.set (b := .gone) (pb := .dead) (nb := m.nb) (own_row hl hu) (.inl rfl) trivial
              have hre2 : RdE G.H ⟨m.nb, setB m.bx (G.ι k) .dead, m.ys⟩ (fx && fy) cs' (l0.drop i ++ ly) (es.drop i ++ ys) := RdE.append ((hre1.mono s2.hh and_l).drop i) (hre.mono s2.hh and_r)
              have hlen : (es.drop i ++ ys).length = n + ys.length := by
                rw [List.length_append, List.length_drop, ← hre1.1]; omega
              refine row_new (ws := [(G.ι k, .dead)]) (sideP := i + n = es.length ∧ (n + ys.length) * (T.at e).bytes ≤ 140737488355328 ∧ n + ys.length ≤ 9223372036854775807 ∧ (∀ z ∈ ys, z.length = (T.at e).sz ∧ z.all PV.one = true)) ?_
                ⟨by rw [← hre1.1]; exact hf, r1, r2, hall⟩ rfl s1 s2 hn hre2 rfl h (fun _ hb => .inl hb)
              simp only [appendV, hsrc, hb, hsz, and_self, if_true, List.cons_append, List.nil_append, hlen]
            · subst e1; subst e2
              replace e3 : p = .v (.slice none 0 0) := e3
              subst e3
              obtain ⟨f1, f2⟩ := h.forget k hk
              rw [Nat.zero_add] at r1 r2
              rw [List.drop_nil]
              refine row_new (ws := []) (sideP := ys.length * (T.at e).bytes ≤ 140737488355328 ∧ ys.length ≤ 9223372036854775807 ∧ (∀ z ∈ ys, z.length = (T.at e).sz ∧ z.all PV.one = true)) ?_ ⟨r1, r2, hall⟩ rfl f1 f2 hn (hre.mono f2.hh and_r) rfl h (fun b hb => by
                rcases hb with hb | ⟨hb, _⟩
                · exact .inl hb
                · unfold OwnX at hb; rw [hl] at hb; exact absurd hu hb)
              simp only [appendV, hsrc, hsz, List.nil_append]
          · cases ha
        · cases ha
      · cases ha
end Go.Proofs.Ytcbhmedknbiffaa
