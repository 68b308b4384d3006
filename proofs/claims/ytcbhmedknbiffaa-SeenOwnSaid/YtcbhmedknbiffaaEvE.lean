/-
  The layer Ev: the other operations.
-/
import Derived.Test.YtcbhmedknbiffaaEvD
namespace Go.Proofs.Ytcbhmedknbiffaa
open Go Go.RowKit
theorem EpR.cells {H m p ps} (h : EpR H m p ps) : cellsAt m.bx p = some ps := by
  rcases h with ⟨f, e⟩ | ⟨k, sz, i, off, es0, e, h0, _, hb, he, hp⟩
  · subst e; rfl
  · subst h0; subst hp; simp only [cellsAt, hb, if_true, he, Option.map_some]
theorem boolsX_ok : ∀ {xs : List XV} {l : List Bool}, boolsX xs = some l → l.length = xs.length ∧ ∀ (i : Nat) (n : Bool), l[i]? = some n → xs[i]? = some (.b n)
  | [], l, h => by simp only [boolsX, Option.some.injEq] at h; subst h; exact ⟨rfl, fun i n hi => by simp at hi⟩
  | x :: xs, l, h => by
    unfold boolsX at h
    split at h
    · rename_i hx; cases hx
    · rename_i hx
      cases hx
      split at h
      · rename_i l' hl
        cases h
        obtain ⟨h1, h2⟩ := boolsX_ok hl
        refine ⟨by simp [h1], fun i n hi => ?_⟩
        cases i with
        | zero => simp only [List.getElem?_cons_zero, Option.some.injEq] at hi; subst hi; rfl
        | succ i => simp only [List.getElem?_cons_succ] at hi ⊢; exact h2 i n hi
      · cases h
    · cases h
theorem slsX_ok {fr : Bool} {cs : List CT} : ∀ {xs : List XV} {l : List (List (DenL cs))}, slsX fr cs xs = some l → l.length = xs.length ∧ ∀ (i : Nat) (n : List (DenL cs)), l[i]? = some n → xs[i]? = some (.sl fr cs n)
  | [], l, h => by simp only [slsX, Option.some.injEq] at h; subst h; exact ⟨rfl, fun i n hi => by simp at hi⟩
  | x :: xs, l, h => by
    unfold slsX at h
    split at h
    · rename_i hx; cases hx
    · rename_i hx
      cases hx
      split at h
      · rename_i l1 ls h1 h2
        obtain ⟨e, e'⟩ := castL_ok h1
        subst e
        replace e' : _ = l1 := e'
        subst e'
        obtain ⟨k1, k2⟩ := slsX_ok h2
        split at h
        · cases h
          refine ⟨by simp [k1], fun i n hi => ?_⟩
          cases i with
          | zero => simp only [List.getElem?_cons_zero, Option.some.injEq] at hi; subst hi; rfl
          | succ i => simp only [List.getElem?_cons_succ] at hi ⊢; exact k2 i n hi
        · cases h
          refine ⟨by simp [k1], fun i n hi => ?_⟩
          cases i with
          | zero => simp only [List.getElem?_cons_zero, Option.some.injEq] at hi; subst hi; rfl
          | succ i => simp only [List.getElem?_cons_succ] at hi ⊢; exact k2 i n hi
        · cases h
      · cases h
    · cases h
theorem selX_ok {xs : List XV} {i : Nat} {v : XV} (h : selX xs i = some v) (hi : i < xs.length) : xs[i]? = some v := by
  unfold selX at h
  split at h
  · rename_i k n r
    split at h
    · rename_i l hl
      cases h
      obtain ⟨h1, h2⟩ := intsX_ok hl
      have hi' : i < l.length := by rw [h1]; exact hi
      exact h2 i _ (by simp [List.getD, hi'])
    · cases h
  · rename_i t r
    split at h
    · rename_i l hl
      cases h
      obtain ⟨h1, h2⟩ := boolsX_ok hl
      have hi' : i < l.length := by rw [h1]; exact hi
      exact h2 i _ (by simp [List.getD, hi'])
    · cases h
  · rename_i fr cs l0 r
    split at h
    · rename_i l hl
      cases h
      obtain ⟨h1, h2⟩ := slsX_ok hl
      have hi' : i < l.length := by rw [h1]; exact hi
      exact h2 i _ (by simp [List.getD, hi'])
    · cases h
  · cases h
theorem strideX_ok {w off : Nat} : ∀ (d : Nat) (xs : List XV) (i : Nat) (x : XV), (strideX w off d xs)[i]? = some x → xs[i * w + off]? = some x
  | 0, xs, i, x, h => by simp [strideX] at h
  | d + 1, xs, i, x, h => by
    simp only [strideX] at h
    split at h
    · simp at h
    · rename_i y r hy
      cases i with
      | zero =>
        simp only [List.getElem?_cons_zero, Option.some.injEq] at h
        subst h
        have := congrArg (fun l => l[0]?) hy
        simpa using this
      | succ i =>
        simp only [List.getElem?_cons_succ] at h
        have := strideX_ok d _ i x h
        rw [List.getElem?_drop] at this
        rw [Nat.succ_mul]
        rw [show i * w + w + off = w + (i * w + off) by omega]; exact this
theorem colsX_ok {xs : List XV} {i w : Nat} : ∀ (s off : Nat) (vs : List XV) (b : Bool), colsX xs i w s off = some (b, vs) → b = true → vs.length = s ∧ ∀ j v, vs[j]? = some v → xs[i * w + off + j]? = some v
  | 0, off, vs, b, h, _ => by
    simp only [colsX, Option.some.injEq, Prod.mk.injEq] at h
    obtain ⟨_, rfl⟩ := h
    exact ⟨rfl, fun j v hj => by simp at hj⟩
  | s + 1, off, vs, b, h, hb => by
    unfold colsX at h
    split at h
    · rename_i v b' r hv hr
      simp only [Option.some.injEq, Prod.mk.injEq] at h
      obtain ⟨rfl, rfl⟩ := h
      obtain ⟨h1, h2⟩ := colsX_ok s (off + 1) r b' hr (and_r hb)
      have h3 := strideX_ok _ _ _ _ (selX_ok hv (nlt_ok (and_l hb)))
      refine ⟨by simp [h1], fun j v' hj => ?_⟩
      cases j with
      | zero => simp only [List.getElem?_cons_zero, Option.some.injEq] at hj; subst hj; exact h3
      | succ j =>
        simp only [List.getElem?_cons_succ] at hj
        have := h2 j v' hj
        rw [show i * w + off + (j + 1) = i * w + (off + 1) + j by omega]; exact this
    · cases h
theorem ofCells_take {i : TI} {ps : List PV} {v : PV} (h : ofCells i (ps.take i.sz) = some v) : ofCells i ps = some v := by
  unfold ofCells at h ⊢
  by_cases hz : i.sz = 0
  · rw [if_pos hz] at h; cases h
  · rw [if_neg hz] at h ⊢
    cases ha : i.kind.isAgg with
    | true =>
      rw [ha] at h
      simp only [if_true] at h ⊢
      by_cases hl : i.sz ≤ ps.length
      · rw [if_pos (by rw [List.length_take]; omega), List.take_take, Nat.min_self] at h
        rw [if_pos hl]; exact h
      · rw [if_neg (by rw [List.length_take]; omega)] at h; cases h
    | false =>
      simp only [ha, Bool.false_eq_true, if_false] at h ⊢
      cases ps with
      | nil => simp at h
      | cons p ps =>
        obtain ⟨n, hn⟩ : ∃ n, i.sz = n + 1 := ⟨i.sz - 1, by omega⟩
        rw [hn, List.take_succ_cons] at h
        simpa using h
theorem ofCells_one {i : TI} {ps : List PV} {j : Nat} {p : PV} (h1 : i.sz = 1) (h2 : i.kind.isAgg = false) (hp : ps[j]? = some p) : ofCells i (ps.drop j) = some p := by
  have hd : ps.drop j = p :: ps.drop (j + 1) := by
    obtain ⟨hj, e⟩ := List.getElem?_eq_some_iff.1 hp
    rw [List.drop_eq_getElem_cons hj, e]
  unfold ofCells
  rw [hd, h1, h2]
  simp
theorem ofCells_hd {i : TI} {p : PV} {r : List PV} (h1 : i.sz ≠ 0) (h2 : i.kind.isAgg = false) : ofCells i (p :: r) = some p := by
  unfold ofCells; rw [if_neg h1]; simp [h2]
theorem intK_ok {G : Gn} {sh nx m} {k : IntKind} {x : XV} {p : PV} (h : intK k x = true) (hr : RvX G sh nx m x p) : ∃ z, p = .v (.int k z) := by
  unfold intK at h
  split at h
  · split at h
    · rename_i e _; subst e; simp only [RvX] at hr; exact ⟨_, hr⟩
    · cases h
  · split at h
    · rename_i e _; subst e; simp only [RvX] at hr; exact hr
    · cases h
  · cases h
section
variable {T : Tab} {G : Gn} {A : Nat → Prop} {xm : XM} {m : Mem}
theorem indexAddrX_ok {t x i side v p} (h : XRM G A xm m) (hi : indexAddrX T xm.bx t x i = some (side, v)) (hs : side = true) (hr : RvX G (shB xm.bx) xm.nx m x p) :
    ∃ sideP pv, indexAddrV T t p i = some (sideP, pv) ∧ sideP ∧ RvX G (shB xm.bx) xm.nx m v pv := by
  unfold indexAddrX at hi
  unfold indexAddrV
  split at hi
  · rename_i n e hk
    rw [hk]
    split at hi
    · rename_i k off
      cases hb : Nat.beq (T.at e).sz 1 with
      | false =>
        rw [hb] at hi; cases hi
        simp only [RvX] at hr ⊢
        obtain ⟨h1, rfl⟩ := hr
        exact ⟨_, _, rfl, inb_ok hs, h1, rfl⟩
      | true =>
        rw [hb] at hi; cases hi
        have hsz : (T.at e).sz = 1 := Nat.eq_of_beq_eq_true hb
        simp only [RvX] at hr ⊢
        obtain ⟨h1, rfl⟩ := hr
        exact ⟨_, _, rfl, inb_ok hs, h1, by rw [hsz, Nat.mul_one]⟩
    · rename_i cs
      cases hi
      simp only [RvX] at hr ⊢
      obtain ⟨ps, h1, h2⟩ := hr
      rcases h1 with ⟨f, e1⟩ | ⟨k, sz, j, off, es0, c, e1, hH, hbx, hes, hp⟩
      · subst e1; exact ⟨_, _, rfl, inb_ok hs, ps, .inl ⟨f, by simp⟩, h2⟩
      · subst e1; exact ⟨_, _, rfl, inb_ok hs, ps, .inr ⟨k, sz, j, _, es0, c, rfl, hH, hbx, hes, by rw [hp, List.drop_drop]; simp⟩, h2⟩
    · cases hi
  · rename_i e hk
    rw [hk]
    split at hi
    · split at hi
      · rename_i k off sz n
        cases hb : Nat.beq sz (T.at e).sz with
        | false => rw [hb] at hi; cases hi
        | true =>
          rw [hb] at hi; cases hi
          have hsz : sz = (T.at e).sz := Nat.eq_of_beq_eq_true hb
          simp only [RvX] at hr ⊢
          obtain ⟨h1, rfl⟩ := hr
          refine ⟨0 ≤ i ∧ i < (n : Int), .ref (G.ι k) (off + i.toNat * sz), by simp only [hsz, if_true], inb_ok hs, h1, rfl⟩
      · cases hi
    · rename_i cs hcs
      obtain ⟨hsz, hne⟩ := ctElem_ok hcs
      split at hi
      · rename_i n
        split at hi
        · rename_i e1 _
          cases hi
          subst e1
          obtain ⟨i1, i2⟩ := inb_ok hs
          simp only [RvX] at hr
          rcases hr with ⟨h1, _⟩ | ⟨b, hP, h1, e2⟩
          · subst h1; simp at i2; omega
          · subst e2
            have hsz' : (1 : Nat) = (T.at e).sz := hsz
            refine ⟨0 ≤ i ∧ i < (n.toNat : Int), .rp b (T.at e).sz (0 + i.toNat) 0, by simp only [hsz', if_true], ⟨i1, i2⟩, ?_⟩
            simp only [RvX]
            exact ⟨b, hP, by omega, by rw [Nat.zero_add, hsz']⟩
        · cases hi
      · rename_i k
        split at hi
        · rename_i fr cs' l hl
          split at hi
          · rename_i e1 _
            cases hi
            subst e1
            obtain ⟨hlt, hor⟩ := h.row hl hr
            obtain ⟨i1, i2⟩ := inb_ok hs
            rcases hor with ⟨hu, e2, es, hb, hre⟩ | ⟨hu, e2, _⟩
            · subst e2
              refine ⟨0 ≤ i ∧ i < (l.length : Int), .rp (G.ι k) (T.at e).sz (0 + i.toNat) 0, by simp only [hsz, if_true], ⟨i1, i2⟩, ?_⟩
              simp only [RvX]
              refine ⟨hlt, (T.at e).sz, by rw [Nat.zero_add], ?_⟩
              simp only [shB, hl, shp, hsz]
            · subst e2; simp at i2; omega
          · cases hi
        · rename_i cs' ns hl
          split at hi
          · rename_i e1 _
            cases hi
            subst e1
            obtain ⟨hlt, hor⟩ := h.prow hl hr
            obtain ⟨i1, i2⟩ := inb_ok hs
            rcases hor with ⟨_, e2, _⟩ | ⟨_, e2, _⟩
            · subst e2
              refine ⟨0 ≤ i ∧ i < (ns.length : Int), .rp (G.ι k) (T.at e).sz (0 + i.toNat) 0, by simp only [hsz, if_true], ⟨i1, i2⟩, ?_⟩
              simp only [RvX]
              refine ⟨hlt, (T.at e).sz, by rw [Nat.zero_add], ?_⟩
              simp only [shB, hl, shp, hsz]
            · subst e2; simp at i2; omega
          · cases hi
        · cases hi
      · rename_i k j n
        split at hi
        · rename_i fr cs' l hl
          split at hi
          · rename_i e1 _
            cases hi
            subst e1
            obtain ⟨hlt, hor⟩ := h.rsub hl hr
            obtain ⟨i1, i2⟩ := inb_ok hs
            rcases hor with ⟨hu, e2, _, es, hb, hre⟩ | ⟨hu, _, e2, _⟩
            · subst e2
              refine ⟨0 ≤ i ∧ i < (n : Int), .rp (G.ι k) (T.at e).sz (j + i.toNat) 0, by simp only [hsz, if_true], ⟨i1, i2⟩, ?_⟩
              simp only [RvX]
              refine ⟨hlt, (T.at e).sz, rfl, ?_⟩
              simp only [shB, hl, shp, hsz]
            · subst e2; simp at i2; omega
          · cases hi
        · cases hi
      · rename_i fr cs' l
        split at hi
        · rename_i l1 hc
          cases hi
          obtain ⟨e1, e'⟩ := castL_ok hc
          subst e1
          replace e' : l = l1 := e'
          subst e'
          obtain ⟨i1, i2⟩ := inb_ok hs
          have i3 : i.toNat < l.length := by omega
          simp only [RvX] at hr
          obtain ⟨es, h1, hre⟩ := hr
          obtain ⟨c, hc1, hc2⟩ := hre.get i3
          have henc := encXL_ok (sh := shB xm.bx) (nx := xm.nx) cs' _ _ hc2
          have hclen := RdL.length hc2
          rcases h1 with ⟨f, e2, _⟩ | ⟨e2, e3⟩ | ⟨k, j, n, es0, e2, hH, hbx, hle, e3⟩
          · subst e2
            refine ⟨0 ≤ i ∧ c.length = (T.at e).sz, .ep f c, by simp only [hc1], ⟨i1, by rw [hclen]; exact hsz⟩, ?_⟩
            simp only [RvX]; exact ⟨c, .inl ⟨f, rfl⟩, henc⟩
          · subst e3; simp at hc1
          · subst e2
            have hn : i.toNat < n := by
              have := hre.1; rw [e3, List.length_take, List.length_drop] at this; omega
            refine ⟨0 ≤ i ∧ i < (n : Int), .rp k (T.at e).sz (j + i.toNat) 0, by simp only [hsz, if_true], ⟨i1, by omega⟩, ?_⟩
            simp only [RvX]
            refine ⟨c, .inr ⟨k, _, _, 0, es0, c, rfl, hH, by rw [← hsz]; exact hbx, ?_, by simp⟩, henc⟩
            rw [e3, List.getElem?_take, if_pos hn, List.getElem?_drop] at hc1
            exact hc1
        · cases hi
      · cases hi; cases hs
      · cases hi
  · cases hi
theorem XRM.cells {k xs} (h : XRM G A xm m) (hl : lkB xm.bx k = .cells xs) : ∃ ps, m.bx (G.ι k) = .cells ps ∧ RlX G (shB xm.bx) xm.nx m xs ps := by
  have := h.box k
  rw [hl] at this
  exact this
theorem XRM.real {k fr cs l i} (h : XRM G A xm m) (hl : lkB xm.bx k = .row fr cs l) (hi : i < l.length) : ¬ G.U k ∧ ∃ es, m.bx (G.ι k) = .row cs.length es ∧ RdE G.H m fr cs l es := by
  have := h.box k
  rw [hl] at this
  rcases this with ⟨_, e⟩ | ⟨hu, hc⟩
  · subst e; simp at hi
  · exact ⟨hu, hc⟩
theorem loadX_ok {t a side v p nm} (h : XRM G A xm m) (hi : loadX T xm.bx t a = some (side, v)) (hs : side = true) (hr : RvX G (shB xm.bx) xm.nx m a p) :
    OpOK T G A xm m nm false (match cellsAt m.bx p with | some xs => pure2 (ofCells (T.at t) xs) | none => none) v xm := by
  have key : ∀ (ps : List PV) (pv : PV), cellsAt m.bx p = some ps → ofCells (T.at t) ps = some pv → RvX G (shB xm.bx) xm.nx m v pv → OpOK T G A xm m nm false (match cellsAt m.bx p with | some xs => pure2 (ofCells (T.at t) xs) | none => none) v xm := by
    intro ps pv h1 h2 h3
    refine OpOK.pure h (sideP := True) (pv := pv) ?_ trivial h3
    rw [h1]; simp only [h2, pure2, Option.map_some]
  unfold loadX at hi
  split at hi
  · rename_i k off
    split at hi
    · rename_i xs hl
      split at hi
      · rename_i v' hv
        cases hi
        obtain ⟨ps, hb, hre⟩ := h.cells hl
        obtain ⟨pv, h1, h2⟩ := ofCellsX_ok (hre.drop off) hv
        simp only [RvX] at hr
        obtain ⟨_, rfl⟩ := hr
        exact key _ _ (by simp only [cellsAt, hb]) h1 h2
      · cases hi
    · cases hi
  · rename_i k off n i
    split at hi
    · rename_i xs hl
      cases hc : (Nat.beq (T.at t).sz 1 && !(T.at t).kind.isAgg && Nat.ble (off + n) xs.length) with
      | false => rw [hc] at hi; cases hi
      | true =>
        rw [hc, cond_true] at hi
        split at hi
        · rename_i v' hv
          cases hi
          have c1 := Nat.eq_of_beq_eq_true (and_l (and_l hc))
          have c2 : (T.at t).kind.isAgg = false := by have := and_r (and_l hc); simpa using this
          have c3 := Nat.le_of_ble_eq_true (and_r hc)
          have hin := nlt_ok hs
          obtain ⟨ps, hb, hre⟩ := h.cells hl
          have hsel := selX_ok hv (by rw [List.length_take, List.length_drop]; omega)
          rw [List.getElem?_take, if_pos hin, List.getElem?_drop] at hsel
          obtain ⟨pv, h1, h2⟩ := hre.get hsel
          simp only [RvX] at hr
          obtain ⟨_, rfl⟩ := hr
          exact key _ _ (by simp only [cellsAt, hb]) (ofCells_one c1 c2 h1) h2
        · cases hi
    · cases hi
  · rename_i k i off
    split at hi
    · rename_i fr cs l hl
      split at hi
      · rename_i v' hv
        cases hi
        have hin := nlt_ok hs
        obtain ⟨hu, es, hb, hre⟩ := h.real hl hin
        obtain ⟨c, hc1, hc2⟩ := hre.get hin
        have henc := encXL_ok (sh := shB xm.bx) (nx := xm.nx) cs _ _ hc2
        obtain ⟨pv, h1, h2⟩ := ofCellsX_ok (henc.drop off) hv
        simp only [RvX] at hr
        obtain ⟨_, w, rfl, hw⟩ := hr
        have : shB xm.bx k = some (some (cs.length, l.length)) := by simp only [shB, hl, shp]
        rw [this] at hw
        simp only at hw
        subst hw
        exact key _ _ (by simp only [cellsAt, hb, if_true, hc1, Option.map_some]) h1 h2
      · cases hi
    · rename_i cs ns hl
      cases hc : (Nat.beq (T.at t).sz 0 || (T.at t).kind.isAgg) with
      | true => rw [hc] at hi; cases hi
      | false =>
        rw [hc, cond_false] at hi
        obtain ⟨c1, c2⟩ := Bool.or_eq_false_iff.1 hc
        simp only [RvX] at hr
        obtain ⟨_, w, rfl, hw⟩ := hr
        have : shB xm.bx k = some (some (cs.length, ns.length)) := by simp only [shB, hl, shp]
        rw [this] at hw
        simp only at hw
        subst hw
        have go : ∀ (c : CT), i < ns.length → cs[off]? = some c → ∃ p r, cellsAt m.bx (.rp (G.ι k) cs.length i off) = some (p :: r) ∧ PvC G.P (ns.getD i 0) p c := by
          intro c hin hc1
          obtain ⟨_, es, hb, hre⟩ := h.preal hl hin
          obtain ⟨e, h1, h2, h3⟩ := hre.get hin
          have hlt : off < e.length := by rw [h2]; exact (List.getElem?_eq_some_iff.1 hc1).1
          refine ⟨e[off], e.drop (off + 1), ?_, h3 off c _ hc1 (List.getElem?_eq_getElem hlt)⟩
          simp only [cellsAt, hb, if_true, h1, Option.map_some]
          rw [List.drop_eq_getElem_cons hlt]
        split at hi
        · rename_i kd hcd
          cases hi
          obtain ⟨p, r, h1, h2⟩ := go _ (nlt_ok hs) hcd
          exact key _ _ h1 (ofCells_hd (by rw [nbeq] at c1; simpa using c1) c2) (by simp only [RvX]; exact h2)
        · rename_i cs' hcd
          cases hi
          obtain ⟨p, r, h1, h2⟩ := go _ (nlt_ok hs) hcd
          exact key _ _ h1 (ofCells_hd (by rw [nbeq] at c1; simpa using c1) c2) (by simp only [RvX]; exact h2.2)
        · cases hi
    · cases hi
  · rename_i n i
    cases hc : (Nat.beq (T.at t).sz 0 || (T.at t).kind.isAgg) with
    | true => rw [hc] at hi; cases hi
    | false =>
      rw [hc, cond_false] at hi
      obtain ⟨c1, c2⟩ := Bool.or_eq_false_iff.1 hc
      cases hi
      simp only [RvX] at hr
      obtain ⟨b, hP, hlt, rfl⟩ := hr
      obtain ⟨_, _, _, es, hb, hlen, hes⟩ := h.pv b _ hP
      have hi' : i.toNat < es.length := by rw [hlen]; exact hlt
      obtain ⟨z, hz⟩ := hes es[i.toNat] (List.getElem_mem hi')
      refine key [.v (.int .i64 z)] _ ?_ (ofCells_hd (by rw [nbeq] at c1; simpa using c1) c2) (by simp only [RvX]; exact ⟨z, rfl⟩)
      simp only [cellsAt, hb, if_true, List.getElem?_eq_getElem hi', Option.map_some, List.drop_zero, hz]
  · rename_i xs
    split at hi
    · rename_i v' hv
      cases hi
      simp only [RvX] at hr
      obtain ⟨ps, he, hre⟩ := hr
      obtain ⟨pv, h1, h2⟩ := ofCellsX_ok hre hv
      exact key _ _ he.cells h1 h2
    · cases hi
  · rename_i xs i w off
    cases hc : (Nat.beq (T.at t).sz 1 && !(T.at t).kind.isAgg) with
    | false =>
      rw [hc, cond_false] at hi
      split at hi
      · rename_i b vs hcols
        split at hi
        · rename_i v' hv
          cases hi
          obtain ⟨h1, h2⟩ := colsX_ok _ _ _ _ hcols hs
          simp only [RvX] at hr
          obtain ⟨ps, he, hre⟩ := hr
          have hlen := hre.length
          have hgv : ∀ j, j < (T.at t).sz → i * w + off + j < xs.length := fun j hj => by
            have hj' : j < vs.length := by rw [h1]; exact hj
            exact (List.getElem?_eq_some_iff.1 (h2 j _ (List.getElem?_eq_getElem hj'))).1
          have htl : ((ps.drop (i * w + off)).take (T.at t).sz).length = (T.at t).sz := by
            rw [List.length_take, List.length_drop]
            rcases Nat.eq_zero_or_pos (T.at t).sz with h0 | h0
            · omega
            · have := hgv ((T.at t).sz - 1) (by omega); omega
          have hl2 : RlX G (shB xm.bx) xm.nx m vs ((ps.drop (i * w + off)).take (T.at t).sz) := by
            refine RlX.of_get (by rw [h1, htl]) fun j x p hx hp => ?_
            have hxs := h2 j x hx
            have hj : j < (T.at t).sz := by rw [← h1]; exact (List.getElem?_eq_some_iff.1 hx).1
            rw [List.getElem?_take, if_pos hj, List.getElem?_drop] at hp
            exact hre.get' hxs hp
          obtain ⟨pv, h3, h4⟩ := ofCellsX_ok hl2 hv
          exact key _ _ he.cells (ofCells_take h3) h4
        · cases hi
      · cases hi
    | true =>
      rw [hc, cond_true] at hi
      split at hi
      · rename_i v' hv
        cases hi
        have c1 := Nat.eq_of_beq_eq_true (and_l hc)
        have c2 : (T.at t).kind.isAgg = false := by have := and_r hc; simpa using this
        have hin := nlt_ok hs
        have hsel := strideX_ok _ _ _ _ (selX_ok hv hin)
        simp only [RvX] at hr
        obtain ⟨ps, he, hre⟩ := hr
        obtain ⟨pv, h1, h2⟩ := hre.get hsel
        exact key _ _ he.cells (ofCells_one c1 c2 h1) h2
      · cases hi
  · cases hi
theorem setInts_ok {kd : IntKind} {xs : List XV} {l : List Int} {qs : List PV} {i : Nat} {n : Int} {sh nx} (hl : intsX kd xs = some l) (hr : RlX G sh nx m xs qs) : RlX G sh nx m (setInts kd l i n) (qs.set i (.v (.int kd n))) := by
  obtain ⟨h1, h2⟩ := intsX_ok hl
  refine RlX.of_get (by simp [setInts, h1, hr.length]) fun j x p hx hp => ?_
  simp only [setInts] at hx
  rw [List.getElem?_map] at hx
  obtain ⟨j', hj', e⟩ := Option.map_eq_some_iff.1 hx
  rw [List.getElem?_range] at hj'
  · cases hj'
    subst e
    by_cases e1 : i = j
    · subst e1
      have hlt : i < l.length := by
        obtain ⟨hq, _⟩ := List.getElem?_eq_some_iff.1 hp
        rw [List.length_set, ← hr.length, ← h1] at hq; exact hq
      have hq : i < qs.length := by rw [← hr.length, ← h1]; exact hlt
      rw [List.getElem?_set_self hq] at hp
      cases hp
      have : (l.set i n).getD i 0 = n := by simp [List.getD, hlt]
      rw [this]; simp only [RvX]
    · rw [List.getElem?_set_ne e1] at hp
      have hlt : j < l.length := by
        obtain ⟨hq, _⟩ := List.getElem?_eq_some_iff.1 hp
        rw [← hr.length, ← h1] at hq; exact hq
      have hg : (l.set i n).getD j 0 = l[j] := by simp [List.getD, hlt, List.getElem_set_ne e1]
      rw [hg]
      exact hr.get' (h2 j _ (List.getElem?_eq_getElem hlt)) hp
  · obtain ⟨hq, _⟩ := List.getElem?_eq_some_iff.1 hp
    rw [List.length_set, ← hr.length, ← h1] at hq; exact hq
theorem splice_set {ps : List PV} {off n i : Nat} {p : PV} (hle : off + n ≤ ps.length) (hi : i < n) : splice ps off (((ps.drop off).take n).set i p) = splice ps (off + i) [p] := by
  unfold splice
  apply List.ext_getElem?
  intro j
  have hlen : (((ps.drop off).take n).set i p).length = n := by rw [List.length_set, List.length_take, List.length_drop]; omega
  by_cases h1 : j < off
  · rw [List.append_assoc, List.append_assoc, List.getElem?_append_left (by rw [List.length_take]; omega), List.getElem?_append_left (by rw [List.length_take]; omega),
      List.getElem?_take, List.getElem?_take, if_pos h1, if_pos (by omega)]
  · rw [List.append_assoc, List.getElem?_append_right (by rw [List.length_take]; omega)]
    have ho : (ps.take off).length = off := by rw [List.length_take]; omega
    rw [ho]
    by_cases h2 : j < off + n
    · rw [List.getElem?_append_left (by rw [hlen]; omega)]
      by_cases h3 : j < off + i
      · rw [List.getElem?_set_ne (by omega), List.getElem?_take, if_pos (by omega), List.getElem?_drop, List.append_assoc, List.getElem?_append_left (by rw [List.length_take]; omega), List.getElem?_take, if_pos h3]
        congr 1; omega
      · have ho2 : (ps.take (off + i)).length = off + i := by rw [List.length_take]; omega
        by_cases h4 : j = off + i
        · subst h4
          rw [List.append_assoc, List.getElem?_append_right (by rw [ho2]; exact Nat.le_refl _), ho2]
          have : off + i - off = i := by omega
          rw [this, List.getElem?_set_self (by rw [List.length_take, List.length_drop]; omega)]
          simp
        · rw [List.getElem?_set_ne (by omega), List.getElem?_take, if_pos (by omega), List.getElem?_drop, List.append_assoc, List.getElem?_append_right (by rw [ho2]; omega), ho2,
            List.getElem?_append_right (by simp; omega), List.getElem?_drop]
          congr 1; simp; omega
    · have ho2 : (ps.take (off + i)).length = off + i := by rw [List.length_take]; omega
      rw [List.getElem?_append_right (by rw [hlen]; omega), hlen, List.getElem?_drop, List.append_assoc, List.getElem?_append_right (by rw [ho2]; omega), ho2,
            List.getElem?_append_right (by simp; omega), List.getElem?_drop]
      congr 1; simp; omega
theorem OpOK.set1 {G1 xm1 k b pb nm r} (hnx : xm1.nx = xm.nx) (hdd : Hd G xm.bx G1 xm1.bx) (_ : b ≠ .gone) (hn : r = some (True, .any, [(G.ι k, pb)])) (h1 : XRM G1 A xm1 m) (hx : GXt G (shB xm.bx) xm.nx m G1 (shB xm1.bx) xm1.nx m) (hk : k < xm.nx)
    (ho : OwnX G1 xm1.bx k) (hs : shp b = shp (lkB xm1.bx k)) (hc : Cont G1 (shB xm1.bx) xm1.nx m pb b) : OpOK T G A xm m nm false r .any (xm1.upd k b) := by
  obtain ⟨k1, k2⟩ := h1.set (b := b) (pb := pb) (nb := m.nb) ho (.inr hs) hc
  rw [hx.hi k hk] at k1 k2
  refine ⟨G1, True, .any, _, hn, trivial, k1.more fun _ => .inl, by simp only [RvX], hx.trans k2, ⟨by show xm1.nx ≤ xm.nx + 1; omega, fun j h1 h2 => ?_, fun b' hb => ?_⟩⟩
  · have h2' : j < xm1.nx := h2
    omega
  · rcases hdd.1 b' hb with h | ⟨j, h1, h2⟩
    · exact .inl h
    · refine .inr ⟨rfl, j, h1, ?_⟩
      show lkB (updB xm1.bx k b) j = .gone
      have hne : k ≠ j := fun e => by subst e; unfold OwnX at ho; rw [h2] at ho; exact ho
      rw [lkB_upd, if_neg hne]; exact h2
theorem storeX_ok {t a x side xm' p q nm} (h : XRM G A xm m) (hi : storeX T xm t a x = some (side, xm')) (hs : side = true) (ha : RvX G (shB xm.bx) xm.nx m a p) (hx : RvX G (shB xm.bx) xm.nx m x q) :
    OpOK T G A xm m nm false (match cellsOf q with | some ys => if ys.length = (T.at t).sz ∧ (T.at t).sz ≠ 0 then (storeTo m.bx p ys).map fun r => (True, .any, [r]) else none | none => none) .any xm' := by
  unfold storeX at hi
  split at hi
  · cases hi
  · rename_i ys hys
    obtain ⟨qs, hq, hrq⟩ := cellsX_ok hx hys
    rw [hq]
    simp only
    cases hc : (Nat.beq ys.length (T.at t).sz && !Nat.beq (T.at t).sz 0) with
    | false => rw [hc] at hi; cases hi
    | true =>
      rw [hc, cond_true] at hi
      have c1 : qs.length = (T.at t).sz := by rw [← hrq.length]; exact Nat.eq_of_beq_eq_true (and_l hc)
      have c2 : (T.at t).sz ≠ 0 := by have := and_r hc; rw [nbeq] at this; simpa using this
      rw [if_pos ⟨c1, c2⟩]
      split at hi
      · rename_i k off
        split at hi
        · rename_i xs hl
          cases hb : Nat.ble (off + ys.length) xs.length with
          | false => rw [hb] at hi; cases hi
          | true =>
            rw [hb] at hi; cases hi
            have hle := Nat.le_of_ble_eq_true hb
            obtain ⟨ps, hbx, hre⟩ := h.cells hl
            simp only [RvX] at ha
            obtain ⟨hk, rfl⟩ := ha
            rw [hrq.length, hre.length] at hle
            refine OpOK.set1 rfl (Hd.refl _ _) (by simp) (pb := .cells (splice ps off qs)) ?_ h (GXt.refl _ _ _ _) hk (own_cells hl) (by rw [hl]; rfl) ⟨_, rfl, hre.splice hrq off⟩
            simp only [storeTo, hbx, hle, if_true, Option.map_some]
        · cases hi
      · rename_i k off n i
        split at hi
        · rename_i xs kd v hl
          cases hb : Nat.ble (off + n) xs.length with
          | false => rw [hb] at hi; cases hi
          | true =>
            rw [hb, cond_true] at hi
            split at hi
            · rename_i l hli
              cases hi
              have hle := Nat.le_of_ble_eq_true hb
              have hin := nlt_ok hs
              obtain ⟨ps, hbx, hre⟩ := h.cells hl
              simp only [RvX] at ha
              obtain ⟨hk, rfl⟩ := ha
              simp only [RlX, RvX] at hrq
              obtain ⟨pv, r, rfl, rfl, rfl⟩ := hrq
              have hle' : off + n ≤ ps.length := by rw [← hre.length]; exact hle
              have h2 := hre.splice (setInts_ok (i := i) (n := v) hli ((hre.drop off).take n)) off
              rw [splice_set hle' hin] at h2
              refine OpOK.set1 rfl (Hd.refl _ _) (by simp) (pb := .cells (splice ps (off + i) [.v (.int kd v)])) ?_ h (GXt.refl _ _ _ _) hk (own_cells hl) (by rw [hl]; rfl) ⟨_, rfl, h2⟩
              have : off + i + 1 ≤ ps.length := by omega
              simp only [storeTo, hbx, List.length_cons, List.length_nil, Nat.zero_add, this, if_true, Option.map_some]
            · cases hi
        · cases hi
      · rename_i k i off
        split at hi
        · rename_i fr cs l hl
          cases hb : Nat.ble (off + ys.length) cs.length with
          | false => rw [hb] at hi; cases hi
          | true =>
            rw [hb, cond_true] at hi
            split at hi
            · rename_i v fr' bx hd
              split at hi
              · rename_i fr2 cs2 l2 hl2
                cases hi
                have hle := Nat.le_of_ble_eq_true hb
                have hin := nlt_ok hs
                obtain ⟨hu, es, hbx, hre⟩ := h.real hl hin
                obtain ⟨c, hc1, hc2⟩ := hre.get hin
                have henc := encXL_ok (sh := shB xm.bx) (nx := xm.nx) cs _ _ hc2
                obtain ⟨G1, k1, k2, k3, k4⟩ := decXL_ok cs h hd (henc.splice hrq off)
                simp only [RvX] at ha
                obtain ⟨hk, w, rfl, hw⟩ := ha
                have hsh : shB xm.bx k = some (some (cs.length, l.length)) := by simp only [shB, hl, shp]
                rw [hsh] at hw
                simp only at hw
                subst hw
                have hsh2 : shB bx k = shB xm.bx k := by
                  rcases k2.hs k hk with e | e
                  · simp only [shB, hl2, shp] at e; cases e
                  · exact e
                have hu2 : ¬ G1.U k := fun x => hu ((k2.hu k hk).1 x)
                refine OpOK.set1 (xm1 := ⟨bx, xm.nx, xm.ys⟩) rfl k4 (by simp) (pb := .row cs.length (es.set i (splice c off qs))) ?_ k1 k2 hk (own_row hl2 hu2) ?_ ⟨_, rfl, ?_⟩
                · have hcl := RdL.length hc2
                  rw [hrq.length] at hle
                  simp only [storeTo, hbx, hc1, hcl, hle, and_self, if_true, Option.map_some]
                · show _ = shB bx k
                  rw [hsh2, hsh]; simp only [shp, List.length_set]
                · exact RdE.set (hre.mono k2.hh and_l) (RdL.mono (HX.refl _ _) and_r _ _ _ k3)
              · cases hi
            · cases hi
        · rename_i cs ns hl
          split at hi
          · rename_i kd y hcd
            cases hk0 : intK kd y with
            | false => rw [hk0] at hi; cases hi
            | true =>
              rw [hk0, cond_true] at hi
              cases hi
              simp only [RlX] at hrq
              obtain ⟨pv, r, rfl, hry, rfl⟩ := hrq
              obtain ⟨z, rfl⟩ := intK_ok hk0 hry
              have hin := nlt_ok hs
              obtain ⟨hu, es, hbx, hre⟩ := h.preal hl hin
              obtain ⟨e, he1, he2, he3⟩ := hre.get hin
              simp only [RvX] at ha
              obtain ⟨hk, w, rfl, hw⟩ := ha
              have hsh : shB xm.bx k = some (some (cs.length, ns.length)) := by simp only [shB, hl, shp]
              rw [hsh] at hw
              simp only at hw
              subst hw
              have hoff : off < cs.length := (List.getElem?_eq_some_iff.1 hcd).1
              have hspl : splice e off [.v (.int kd z)] = e.set off (.v (.int kd z)) := by
                unfold splice
                rw [List.set_eq_take_append_cons_drop, if_pos (by rw [he2]; exact hoff)]
                simp
              refine OpOK.set1 (xm1 := xm) (b := .pv cs ns) rfl (Hd.refl _ _) (by simp) (pb := .row cs.length (es.set i (splice e off [.v (.int kd z)]))) ?_ h (GXt.refl _ _ _ _) hk (own_pv hl hu) (by rw [hl]) ⟨_, rfl, ?_⟩
              · have hle : off + 1 ≤ e.length := by rw [he2]; omega
                simp only [storeTo, hbx, he1, List.length_cons, List.length_nil, Nat.zero_add, hle, and_self, if_true, Option.map_some]
              · rw [hspl]
                refine hre.set fun n hn => ⟨by rw [List.length_set]; exact he2, fun j c p hc hp => ?_⟩
                have hn' : ns.getD i 0 = n := by simp [List.getD, hn]
                by_cases e1 : off = j
                · subst e1
                  rw [hcd] at hc; cases hc
                  rw [List.getElem?_set_self (by rw [he2]; exact hoff)] at hp
                  cases hp
                  exact ⟨z, rfl⟩
                · rw [List.getElem?_set_ne e1] at hp
                  rw [← hn']; exact he3 j c p hc hp
          · cases hi
        · cases hi
      · rename_i n i
        split at hi
        · rename_i y
          cases hk0 : intK .i64 y with
          | false => rw [hk0] at hi; cases hi
          | true =>
            rw [hk0, cond_true] at hi
            cases hi
            simp only [RlX] at hrq
            obtain ⟨pv, r, rfl, hry, rfl⟩ := hrq
            obtain ⟨z, rfl⟩ := intK_ok hk0 hry
            simp only [RvX] at ha
            obtain ⟨b, hP, hlt, rfl⟩ := ha
            have hpv := (h.pv b _ hP).2.2.2
            obtain ⟨es, hb, hlen, hes⟩ := hpv
            have hi' : i.toNat < es.length := by rw [hlen]; exact hlt
            obtain ⟨z0, hz0⟩ := hes es[i.toNat] (List.getElem_mem hi')
            have hpb : PvB (.row 1 (es.set i.toNat [.v (.int .i64 z)])) n.toNat := PvB.set ⟨es, rfl, hlen, hes⟩ _ _
            obtain ⟨k1, k2⟩ := h.setP (nb := m.nb) hP hpb
            refine ⟨G, True, .any, [(b, .row 1 (es.set i.toNat [.v (.int .i64 z)]))], ?_, trivial, k1.more fun _ => .inl, by simp only [RvX], k2, NewOK.refl _ _ _ _⟩
            have hle : 0 + 1 ≤ es[i.toNat].length := by rw [hz0]; simp
            simp only [storeTo, hb, List.getElem?_eq_getElem hi', List.length_cons, List.length_nil, hle, and_self, if_true, Option.map_some]
            rw [hz0]; rfl
        · cases hi
      · cases hi
end
end Go.Proofs.Ytcbhmedknbiffaa
