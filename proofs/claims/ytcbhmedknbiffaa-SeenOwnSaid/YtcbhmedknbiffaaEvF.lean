/-
  The layer Ev: every operation.
-/
import Derived.Test.YtcbhmedknbiffaaEvE
namespace Go.Proofs.Ytcbhmedknbiffaa
open Go Go.RowKit
section
variable {T : Tab} {G : Gn} {A : Nat → Prop} {xm : XM} {m : Mem}
theorem boundX_ok {sh nx} {ρ : Operand → XV} {ρ' : Operand → PV} {d d' : Nat} {o p a} (h : ∀ x, RvX G sh nx m (ρ x) (ρ' x)) (hd : d = d') (hb : boundX ρ d o = some (p, a)) (hp : p = true) : ∃ q, boundV ρ' d' o = some (q, a) ∧ q := by
  unfold boundX at hb
  unfold boundV
  split at hb
  · cases hb; subst hd; exact ⟨True, rfl, trivial⟩
  · rename_i x
    split at hb
    · rename_i k i hx
      cases hb
      have := h x
      rw [hx] at this
      simp only [RvX] at this
      simp only [this]
      exact ⟨_, rfl, by simpa [inn] using hp⟩
    · cases hb
theorem take_drop_sub {α : Type} {es0 : List α} {i n a h : Nat} (hh : h ≤ n) : (((es0.drop i).take n).take h).drop a = (es0.drop (i + a)).take (h - a) := by
  rw [List.take_take, Nat.min_eq_left hh, List.drop_take, List.drop_drop]
theorem sliceX_ok {t x lo hi side v p} {ρ : Operand → XV} {ρ' : Operand → PV} (h : XRM G A xm m) (hρ : ∀ x, RvX G (shB xm.bx) xm.nx m (ρ x) (ρ' x)) (hi' : sliceX T ρ xm.bx t x lo hi = some (side, v)) (hs : side = true)
    (hr : RvX G (shB xm.bx) xm.nx m x p) : ∃ sideP pv, sliceV T ρ' m.bx t p lo hi = some (sideP, pv) ∧ sideP ∧ RvX G (shB xm.bx) xm.nx m v pv := by
  unfold sliceX at hi'
  unfold sliceV
  split at hi'
  · rename_i e hk
    rw [hk]
    simp only
    split at hi'
    · rename_i cs hcs
      obtain ⟨hsz, hne⟩ := ctElem_ok hcs
      split at hi'
      · rename_i k
        split at hi'
        · rename_i fr cs' l hl
          split at hi'
          · rename_i p1 a p2 b h1 h2
            split at hi'
            · rename_i e1 _
              cases hi'
              subst e1
              obtain ⟨i1, i2⟩ := inbs_ok (and_r hs)
              obtain ⟨hlt, hor⟩ := h.row hl hr
              rcases hor with ⟨hu, e2, es, hb, hre⟩ | ⟨hu, e2, e3⟩
              · subst e2
                obtain ⟨q1, b1, c1⟩ := boundX_ok hρ rfl h1 (and_l (and_l hs))
                obtain ⟨q2, b2, c2⟩ := boundX_ok hρ rfl h2 (and_r (and_l hs))
                refine ⟨q1 ∧ q2 ∧ a ≤ b ∧ b ≤ l.length, .row (G.ι k) (T.at e).sz (0 + a) (b - a), by simp only [b1, b2, hsz, if_true], ⟨c1, c2, i1, i2⟩, ?_⟩
                simp only [RvX]
                refine ⟨hlt, rfl, ?_⟩
                have : shB xm.bx k = some (some (cs'.length, l.length)) := by simp only [shB, hl, shp]
                rw [this]
                exact .inl ⟨hu, by rw [hsz, Nat.zero_add], by omega⟩
              · subst e2; subst e3
                obtain ⟨q1, b1, c1⟩ := boundX_ok hρ rfl h1 (and_l (and_l hs))
                obtain ⟨q2, b2, c2⟩ := boundX_ok hρ rfl h2 (and_r (and_l hs))
                simp only [List.length_nil] at b2 i2
                refine ⟨q1 ∧ q2 ∧ a ≤ b ∧ b ≤ 0, .v (.slice none 0 0), by simp only [b1, b2], ⟨c1, c2, i1, i2⟩, ?_⟩
                simp only [RvX]
                refine ⟨hlt, rfl, ?_⟩
                have : shB xm.bx k = some (some (cs'.length, 0)) := by simp only [shB, hl, shp, List.length_nil]
                rw [this]
                exact .inr ⟨hu, by omega, rfl⟩
            · cases hi'
          · cases hi'
        · cases hi'
      · rename_i k i n
        split at hi'
        · rename_i fr cs' l hl
          split at hi'
          · rename_i p1 a p2 b h1 h2
            split at hi'
            · rename_i e1 _
              cases hi'
              subst e1
              obtain ⟨i1, i2⟩ := inbs_ok (and_r hs)
              obtain ⟨hlt, hor⟩ := h.rsub hl hr
              rcases hor with ⟨hu, e2, hle, es, hb, hre⟩ | ⟨hu, e2, e3, e4⟩
              · subst e2
                obtain ⟨q1, b1, c1⟩ := boundX_ok hρ rfl h1 (and_l (and_l hs))
                obtain ⟨q2, b2, c2⟩ := boundX_ok hρ rfl h2 (and_r (and_l hs))
                refine ⟨q1 ∧ q2 ∧ a ≤ b ∧ b ≤ n, .row (G.ι k) (T.at e).sz (i + a) (b - a), by simp only [b1, b2, hsz, if_true], ⟨c1, c2, i1, i2⟩, ?_⟩
                simp only [RvX]
                refine ⟨hlt, rfl, ?_⟩
                have : shB xm.bx k = some (some (cs'.length, l.length)) := by simp only [shB, hl, shp]
                rw [this]
                exact .inl ⟨hu, by rw [hsz], by omega⟩
              · subst e2; subst e3
                obtain ⟨q1, b1, c1⟩ := boundX_ok hρ rfl h1 (and_l (and_l hs))
                obtain ⟨q2, b2, c2⟩ := boundX_ok hρ rfl h2 (and_r (and_l hs))
                have : shB xm.bx k = some (some (cs'.length, 0)) := by simp only [shB, hl, shp, List.length_nil]
                replace e4 : p = .v (.slice none 0 0) := e4
                subst e4
                refine ⟨q1 ∧ q2 ∧ a ≤ b ∧ b ≤ 0, .v (.slice none 0 0), by simp only [b1, b2], ⟨c1, c2, i1, i2⟩, ?_⟩
                simp only [RvX]
                refine ⟨hlt, rfl, ?_⟩
                rw [this]
                exact .inr ⟨hu, by omega, rfl⟩
            · cases hi'
          · cases hi'
        · cases hi'
      · rename_i fr cs' l
        split at hi'
        · rename_i l1 hc
          split at hi'
          · rename_i p1 a p2 b h1 h2
            cases hi'
            obtain ⟨e1, e'⟩ := castL_ok hc
            subst e1
            replace e' : l = l1 := e'
            subst e'
            obtain ⟨i1, i2⟩ := inbs_ok (and_r hs)
            simp only [RvX] at hr
            obtain ⟨es, g1, hre⟩ := hr
            have hall : ∀ z ∈ es, z.length = (T.at e).sz := fun z hz => by rw [← hsz]; exact (hre.all z hz).1
            have hre' := (hre.take b).drop a
            rcases g1 with ⟨f, e2, hf⟩ | ⟨e2, e3⟩ | ⟨k, j, n, es0, e2, hH, hbx, hle, e3⟩
            · subst e2
              obtain ⟨q1, b1, c1⟩ := boundX_ok hρ rfl h1 (and_l (and_l hs))
              obtain ⟨q2, b2, c2⟩ := boundX_ok hρ hre.1 h2 (and_r (and_l hs))
              refine ⟨q1 ∧ q2 ∧ a ≤ b ∧ b ≤ es.length ∧ (∀ z ∈ es, z.length = (T.at e).sz), .sl f ((es.take b).drop a), by simp only [elems, b1, b2, frOf], ⟨c1, c2, i1, by rw [← hre.1]; exact i2, hall⟩, ?_⟩
              simp only [RvX]
              exact ⟨_, .inl ⟨f, rfl, fun x => (hf x).imp id fun y => by rw [y]; simp⟩, hre'⟩
            · subst e2; subst e3
              have hl0 : l.length = 0 := by simpa using hre.1
              obtain ⟨q1, b1, c1⟩ := boundX_ok hρ rfl h1 (and_l (and_l hs))
              obtain ⟨q2, b2, c2⟩ := boundX_ok (d' := 0) hρ hl0 h2 (and_r (and_l hs))
              refine ⟨q1 ∧ q2 ∧ a ≤ b ∧ b ≤ 0, .v (.slice none 0 0), by simp only [b1, b2], ⟨c1, c2, i1, by omega⟩, ?_⟩
              simp only [RvX]
              exact ⟨_, .inr (.inl ⟨rfl, by simp⟩), hre'⟩
            · subst e2
              have hn : l.length = n := by rw [hre.1, e3, List.length_take, List.length_drop]; omega
              obtain ⟨q1, b1, c1⟩ := boundX_ok hρ rfl h1 (and_l (and_l hs))
              obtain ⟨q2, b2, c2⟩ := boundX_ok hρ hn h2 (and_r (and_l hs))
              rw [hn] at i2
              refine ⟨q1 ∧ q2 ∧ a ≤ b ∧ b ≤ n, .row k (T.at e).sz (j + a) (b - a), by simp only [b1, b2, hsz, if_true], ⟨c1, c2, i1, i2⟩, ?_⟩
              simp only [RvX]
              refine ⟨_, .inr (.inr ⟨k, j + a, b - a, es0, by rw [hsz], hH, hbx, by omega, ?_⟩), hre'⟩
              rw [e3, take_drop_sub i2]
          · cases hi'
        · cases hi'
      · split at hi'
        · rename_i p1 a p2 b h1 h2
          cases hi'
          simp only [RvX] at hr
          subst hr
          obtain ⟨i1, i2⟩ := inbs_ok (and_r hs)
          obtain ⟨q1, b1, c1⟩ := boundX_ok hρ rfl h1 (and_l (and_l hs))
          obtain ⟨q2, b2, c2⟩ := boundX_ok hρ rfl h2 (and_r (and_l hs))
          refine ⟨q1 ∧ q2 ∧ a ≤ b ∧ b ≤ 0, .v (.slice none 0 0), by simp only [b1, b2], ⟨c1, c2, i1, i2⟩, ?_⟩
          simp only [RvX]
          exact ⟨_, .inr (.inl ⟨rfl, rfl⟩), by simpa using RdE.nil⟩
        · cases hi'
      · cases hi'
    · cases hi'
  · rename_i n e hk
    rw [hk]
    simp only
    split at hi'
    · rename_i k off
      split at hi'
      · rename_i p1 a p2 b h1 h2
        cases hb : Nat.ble n 9223372036854775807 with
        | false => rw [hb] at hi'; cases hi'
        | true =>
          rw [hb] at hi'; cases hi'
          have hn := Nat.le_of_ble_eq_true hb
          simp only [RvX] at hr
          obtain ⟨hlt, rfl⟩ := hr
          obtain ⟨i1, i2⟩ := inbs_ok (and_r hs)
          obtain ⟨q1, b1, c1⟩ := boundX_ok hρ rfl h1 (and_l (and_l hs))
          obtain ⟨q2, b2, c2⟩ := boundX_ok hρ rfl h2 (and_r (and_l hs))
          exact ⟨q1 ∧ q2 ∧ a ≤ b ∧ b ≤ n ∧ n ≤ 9223372036854775807, .asl (G.ι k) (off + a * (T.at e).sz) (T.at e).sz (b - a), by simp only [b1, b2], ⟨c1, c2, i1, i2, hn⟩, by simp only [RvX, and_true]; exact hlt⟩
      · cases hi'
    · cases hi'
  · rename_i hk
    rw [hk]
    simp only
    split at hi'
    · rename_i b
      split at hi'
      · rename_i p1 a p2 c h1 h2
        cases hi'
        simp only [RvX] at hr
        subst hr
        obtain ⟨i1, i2⟩ := inbs_ok (and_r hs)
        obtain ⟨q1, b1, c1⟩ := boundX_ok hρ rfl h1 (and_l (and_l hs))
        obtain ⟨q2, b2, c2⟩ := boundX_ok hρ rfl h2 (and_r (and_l hs))
        exact ⟨q1 ∧ q2 ∧ a ≤ c ∧ c ≤ b.size, .v (.string (b.extract a c)), by simp only [b1, b2], ⟨c1, c2, i1, i2⟩, by simp only [RvX]⟩
      · cases hi'
    · cases hi'
  · cases hi'
theorem ceqX_ok {sh nx l x y b p q} (h : ceqX l x y = some b) (hx : RvX G sh nx m x p) (hy : RvX G sh nx m y q) : ceq l p q = some b := by
  unfold ceqX at h
  split at h
  · rename_i k a k' b'
    simp only [RvX] at hx hy
    subst hx; subst hy
    rw [nbeq] at h
    by_cases e : l = 0
    · subst e
      simp only [beq_self_eq_true, cond_true] at h
      split at h
      · rename_i e _; cases h; subst e; simp only [ceq, and_self, if_true, ieq]
      · cases h
    · have : (l == 0) = false := by simpa using e
      rw [this] at h; cases h
  · simp only [RvX] at hx hy
    subst hx; subst hy
    rw [nbeq] at h
    by_cases e : l = 1
    · subst e
      simp only [beq_self_eq_true, cond_true] at h
      cases h; simp only [ceq, if_true, beqb]
    · have : (l == 1) = false := by simpa using e
      rw [this] at h; cases h
  · simp only [RvX] at hx hy
    subst hx; subst hy
    rw [nbeq] at h
    by_cases e : l = 2
    · subst e
      simp only [beq_self_eq_true, cond_true] at h
      cases h; simp only [ceq, if_true, steq]
    · have : (l == 2) = false := by simpa using e
      rw [this] at h; cases h
  · cases h
theorem ceqsX_ok {sh nx} : ∀ {ls : List Nat} {xs ys : List XV} {b : Bool} {ps qs : List PV}, ceqsX ls xs ys = some b → RlX G sh nx m xs ps → RlX G sh nx m ys qs → ceqs ls ps qs = some b
  | [], [], [], b, ps, qs, h, hx, hy => by simp only [RlX] at hx hy; subst hx; subst hy; exact h
  | l :: ls, x :: xs, y :: ys, b, ps, qs, h, hx, hy => by
    simp only [RlX] at hx hy
    obtain ⟨p, r, rfl, h1, h2⟩ := hx
    obtain ⟨q, r', rfl, k1, k2⟩ := hy
    simp only [ceqsX] at h
    split at h
    · rename_i a b' e1 e2
      cases h
      simp only [ceqs, ceqX_ok e1 h1 k1, ceqsX_ok e2 h2 k2]
    · cases h
  | [], [], _ :: _, b, ps, qs, h, _, _ => by simp [ceqsX] at h
  | [], _ :: _, _, b, ps, qs, h, _, _ => by simp [ceqsX] at h
  | _ :: _, [], _, b, ps, qs, h, _, _ => by simp [ceqsX] at h
  | _ :: _, _ :: _, [], b, ps, qs, h, _, _ => by simp [ceqsX] at h
theorem intBinX_ok {op k a b side v} {sh nx} (h : intBinX op k a b = some (side, v)) (hs : side = true) : ∃ sideP pv, intBin op k a b = some (sideP, pv) ∧ sideP ∧ RvX G sh nx m v pv := by
  unfold intBinX at h
  split at h <;> first
    | (cases h; exact ⟨_, _, rfl, trivial, by simp only [RvX, iadd, isub, imul, ieq, ine, ilt, ile, igt, ige]⟩)
    | (cases h; exact ⟨_, _, rfl, by simpa [inz] using hs, by simp only [RvX, iquo, irem]⟩)
    | cases h
theorem binX_ok {op t x y side v p q} {sh nx} (h : binX T op t x y = some (side, v)) (hs : side = true) (hx : RvX G sh nx m x p) (hy : RvX G sh nx m y q) :
    ∃ sideP pv, (match p, q with
    | .agg xs, .agg ys => pure1 (aggEq T op t xs ys)
    | .v (.bool a), .v (.bool b) => match (T.at t).kind with
      | .bool => pure1 (binV op (.v (.bool a)) (.v (.bool b)))
      | _ => none
    | a, b => pure1 (binV op a b)) = some (sideP, pv, []) ∧ sideP ∧ RvX G sh nx m v pv := by
  unfold binX at h
  split at h
  · rename_i k a k' b
    simp only [RvX] at hx hy
    subst hx; subst hy
    simp only
    split at h
    · cases h; exact ⟨_, _, rfl, by simpa [inn] using hs, by simp only [RvX, ishl]⟩
    · cases h; exact ⟨_, _, rfl, by simpa [inn] using hs, by simp only [RvX, ishr]⟩
    · rename_i h1 h2
      split at h
      · rename_i e _
        subst e
        obtain ⟨sideP, pv, e1, e2, e3⟩ := intBinX_ok (sh := sh) (nx := nx) (G := G) (m := m) h hs
        refine ⟨sideP, pv, ?_, e2, e3⟩
        cases op <;> first
          | exact absurd rfl h1
          | exact absurd rfl h2
          | (simp only [binV, if_true, e1, pure1, Option.map_some])
      · cases h
  · rename_i a b
    simp only [RvX] at hx hy
    subst hx; subst hy
    simp only
    split at h
    · rename_i v' hv
      cases h
      unfold strBinX at hv
      split at hv <;> first
        | (cases hv; exact ⟨_, _, rfl, trivial, by simp only [RvX, steq, stne, stlt, stle, stgt, stge]⟩)
        | cases hv
    · cases h
  · rename_i a b
    simp only [RvX] at hx hy
    subst hx; subst hy
    simp only
    split at h
    · rename_i hk; cases h; rw [hk]; exact ⟨_, _, rfl, trivial, by simp only [RvX, beqb]⟩
    · rename_i hk; cases h; rw [hk]; exact ⟨_, _, rfl, trivial, by simp only [RvX, bneb]⟩
    · cases h
  · rename_i k k' b
    simp only [RvX] at hx hy
    obtain ⟨a, rfl⟩ := hx
    subst hy
    simp only
    split at h
    · rename_i e _
      cases h; subst e
      obtain ⟨sideP, pv, e1, e2, e3⟩ := intBinX_ok (sh := sh) (nx := nx) (G := G) (m := m) (op := .add) (k := k) (a := a) (b := b) (side := true) (v := .i k (iadd k a b)) rfl rfl
      refine ⟨sideP, pv, by simp only [binV, if_true, e1, pure1, Option.map_some], e2, ?_⟩
      simp only [RvX] at e3 ⊢; exact ⟨_, e3⟩
    · cases h
  · rename_i xs ys
    simp only [RvX] at hx hy
    obtain ⟨ps, rfl, h1⟩ := hx
    obtain ⟨qs, rfl, h2⟩ := hy
    simp only
    split at h
    · cases h
    · rename_i ks hks
      split at h
      · rename_i b hb
        cases hag : (T.at t).kind.isAgg with
        | false => rw [hag] at h; cases h
        | true =>
          rw [hag] at h; cases h
          exact ⟨_, _, by simp only [aggEq, hks, ceqsX_ok hb h1 h2, pure1, Option.map_some]; rfl, hag, by simp only [RvX]⟩
      · rename_i b hb
        cases hag : (T.at t).kind.isAgg with
        | false => rw [hag] at h; cases h
        | true =>
          rw [hag] at h; cases h
          exact ⟨_, _, by simp only [aggEq, hks, ceqsX_ok hb h1 h2, pure1, Option.map_some]; rfl, hag, by simp only [RvX]⟩
      · cases h
  · cases h
theorem fillX_ok {place : Nat → Option (Nat × Nat)} {ρ : Operand → XV} {ρ' : Operand → PV} {sh nx} (hρ : ∀ x, RvX G sh nx m (ρ x) (ρ' x)) : ∀ (ps : List (Nat × Operand)) (cells xs : List XV) (qs : List PV), RlX G sh nx m cells qs → fillX place cells (evsX ρ ps) = some xs →
    ∃ rs, fillV place qs (evs ρ' ps) = some rs ∧ RlX G sh nx m xs rs
  | [], cells, xs, qs, hr, h => by
    simp only [evsX, List.map_nil, fillX, Option.some.injEq] at h
    subst h
    exact ⟨qs, rfl, hr⟩
  | (i, o) :: ps, cells, xs, qs, hr, h => by
    simp only [evsX, List.map_cons, fillX] at h
    split at h
    · rename_i off sz ys hp hy
      cases hc : (Nat.beq ys.length sz && Nat.ble (off + sz) cells.length) with
      | false => rw [hc] at h; cases h
      | true =>
        rw [hc, cond_true] at h
        have c1 := Nat.eq_of_beq_eq_true (and_l hc)
        have c2 := Nat.le_of_ble_eq_true (and_r hc)
        obtain ⟨zs, hz, hrz⟩ := cellsX_ok (hρ o) hy
        obtain ⟨rs, k1, k2⟩ := fillX_ok hρ ps _ xs _ (hr.splice hrz off) h
        refine ⟨rs, ?_, k2⟩
        rw [hrz.length] at c1
        rw [hr.length] at c2
        simp only [evs, List.map_cons, fillV, hp, hz, c1, c2, and_self, if_true]
        exact k1
    · cases h
theorem rowsX_ok {cs : List CT} {sz : Nat} : ∀ (n : Nat) {G : Gn} {xm : XM} {xs : List XV} {l : List (DenL cs)} {fr bx} {ps : List PV}, XRM G A xm m → rowsX cs sz n xm.bx xs = some (l, fr, bx) → RlX G (shB xm.bx) xm.nx m xs ps →
    ∃ G', XRM G' A ⟨bx, xm.nx, xm.ys⟩ m ∧ GXt G (shB xm.bx) xm.nx m G' (shB bx) xm.nx m ∧ RdE G'.H m fr cs l (chunk sz n ps) ∧ Hd G xm.bx G' bx
  | 0, G, xm, xs, l, fr, bx, ps, h, hd, hr => by
    simp only [rowsX, Option.some.injEq, Prod.mk.injEq] at hd
    obtain ⟨rfl, rfl, rfl⟩ := hd
    exact ⟨G, h, GXt.refl _ _ _ _, RdE.nil, Hd.refl _ _⟩
  | n + 1, G, xm, xs, l, fr, bx, ps, h, hd, hr => by
    simp only [rowsX] at hd
    split at hd
    · rename_i a fr1 bx1 hd1
      split at hd
      · rename_i r fr2 bx2 hd2
        cases hd
        obtain ⟨G1, k1, k2, k3, k4⟩ := decXL_ok cs h hd1 (hr.take sz)
        obtain ⟨G2, j1, j2, j3, j4⟩ := rowsX_ok n (xm := ⟨bx1, xm.nx, xm.ys⟩) k1 hd2 (RlX.mono k2 _ _ (hr.drop sz))
        refine ⟨G2, j1, k2.trans j2, ?_, k4.trans j4⟩
        simp only [chunk]
        exact RdE.cons (RdL.mono j2.hh and_l _ _ _ k3) (j3.mono (HX.refl _ _) and_r)
      · cases hd
    · cases hd
theorem pv1_ok {sh nx} : ∀ {cs : List CT} {xs : List XV} {l : List Int} {ps : List PV}, pv1 cs xs = some l → RlX G sh nx m xs ps →
    ps.length = cs.length ∧ ∀ (n0 : Int), (∀ n ∈ l, n = n0) → ∀ (j : Nat) (c : CT) (p : PV), cs[j]? = some c → ps[j]? = some p → PvC G.P n0 p c
  | [], xs, l, ps, h, hr => by
    simp only [pv1] at h
    split at h
    · simp only [RlX] at hr; subst hr
      exact ⟨rfl, fun n0 _ j c p hc => by simp at hc⟩
    · cases h
  | c :: cs, xs, l, ps, h, hr => by
    simp only [pv1] at h
    split at h
    · cases h
    · rename_i x xs
      simp only [RlX] at hr
      obtain ⟨q, r, rfl, h1, h2⟩ := hr
      split at h
      · cases h
      · rename_i l1 hl1
        obtain ⟨k1, k2⟩ := pv1_ok hl1 h2
        have key : (∀ n ∈ l1, n ∈ l) → (∀ n0, (∀ n ∈ l, n = n0) → PvC G.P n0 q c) → (q :: r).length = (c :: cs).length ∧ ∀ (n0 : Int), (∀ n ∈ l, n = n0) → ∀ (j : Nat) (c' : CT) (p : PV), (c :: cs)[j]? = some c' → (q :: r)[j]? = some p → PvC G.P n0 p c' := by
          intro hm hq
          refine ⟨by simp [k1], fun n0 hn0 j c' p hc hp => ?_⟩
          cases j with
          | zero => simp only [List.getElem?_cons_zero, Option.some.injEq] at hc hp; subst hc; subst hp; exact hq n0 hn0
          | succ j => simp only [List.getElem?_cons_succ] at hc hp; exact k2 n0 (fun n hn => hn0 n (hm n hn)) j c' p hc hp
        split at h
        · split at h
          · rename_i e _; cases h; subst e
            refine key (fun _ h => h) fun n0 _ => ?_
            simp only [RvX] at h1; exact ⟨_, h1⟩
          · cases h
        · split at h
          · rename_i e _; cases h; subst e
            refine key (fun _ h => h) fun n0 _ => ?_
            simp only [RvX] at h1; exact h1
          · cases h
        · cases h
          refine key (fun _ h => h) fun n0 _ => ?_
          simp only [RvX] at h1; exact ⟨_, h1⟩
        · cases h
          refine key (fun _ h => h) fun n0 _ => ?_
          simp only [RvX] at h1; exact ⟨_, h1⟩
        · rename_i n
          split at h
          · rename_i e _; cases h; subst e
            refine key (fun _ h => List.mem_cons_of_mem _ h) fun n0 hn0 => ?_
            simp only [RvX] at h1
            have := hn0 n List.mem_cons_self
            subst this
            exact ⟨rfl, h1⟩
          · cases h
        · cases h
theorem unX_ok {op x v p} {sh nx} (h : unX op x = some v) (hx : RvX G sh nx m x p) : ∃ pv, unV op p = some pv ∧ RvX G sh nx m v pv := by
  unfold unX at h
  split at h
  · cases h; simp only [RvX] at hx; subst hx; exact ⟨_, rfl, by simp only [RvX]⟩
  · cases h; simp only [RvX] at hx; subst hx; exact ⟨_, rfl, by simp only [RvX, ineg]⟩
  · cases h
theorem pickX_ok {t : Bool} {x y p q} {sh nx} (hx : RvX G sh nx m x p) (hy : RvX G sh nx m y q) : RvX G sh nx m (pickX t x y) (bif t then p else q) := by
  unfold pickX
  split
  · simp only [RvX] at hx hy; subst hx; subst hy; cases t <;> simp only [cond_true, cond_false, RvX]
  · cases t <;> simpa
theorem lenX_ok {t x n p} (h : XRM G A xm m) (hl : lenX T xm.bx t x = some n) (hr : RvX G (shB xm.bx) xm.nx m x p) :
    (match (T.at t).kind, p with
        | .slice _, x => match slen x with
          | some n => some (True, PV.v (.int .i64 (n : Int)), ([] : List (Nat × Box)))
          | none => none
        | .str, .v (.string b) => some (True, .v (.int .i64 b.size), [])
        | .arr n _, _ => some (True, .v (.int .i64 n), [])
        | _, _ => none) = some (True, .v (.int .i64 n), []) := by
  unfold lenX at hl
  split at hl
  · rename_i e hk
    rw [hk]
    have key : ∀ k : Nat, slen p = some k → n = (k : Int) → (match slen p with
          | some n => some (True, PV.v (.int .i64 (n : Int)), ([] : List (Nat × Box)))
          | none => none) = some (True, .v (.int .i64 n), []) := by
      intro k h1 h2; rw [h1, h2]
    simp only
    split at hl
    · cases hl; simp only [RvX] at hr; subst hr; exact key 0 rfl rfl
    · rename_i l
      cases hl
      simp only [RvX] at hr
      obtain ⟨es, h1, h2⟩ := hr
      refine key l.length ?_ rfl
      rcases h1 with ⟨f, e, _⟩ | ⟨e, e2⟩ | ⟨k, i, k2, es0, e, _, hb, hle, e2⟩
      · subst e; simp only [slen, h2.1]
      · subst e; subst e2; simp only [slen, h2.1, List.length_nil]
      · subst e; simp only [slen, h2.1, e2, List.length_take, List.length_drop]; congr 1; omega
    · cases hl
      simp only [RvX] at hr
      rcases hr with ⟨h1, e⟩ | ⟨b, _, h1, e⟩
      · subst e; exact key 0 rfl h1
      · subst e; exact key _ rfl (by omega)
    · rename_i k
      split at hl
      · rename_i fr cs l hb
        cases hl
        obtain ⟨_, hor⟩ := h.row hb hr
        refine key l.length ?_ rfl
        rcases hor with ⟨_, e, _⟩ | ⟨_, e1, e2⟩
        · subst e; rfl
        · subst e1; subst e2; rfl
      · rename_i cs ns hb
        cases hl
        obtain ⟨_, hor⟩ := h.prow hb hr
        refine key ns.length ?_ rfl
        rcases hor with ⟨_, e, _⟩ | ⟨_, e1, e2⟩
        · subst e; rfl
        · subst e1; subst e2; rfl
      · cases hl
    · rename_i k i n'
      split at hl
      · rename_i fr cs l hb
        cases hl
        obtain ⟨_, hor⟩ := h.rsub hb hr
        refine key n' ?_ rfl
        rcases hor with ⟨_, e, _⟩ | ⟨_, _, e1, e2⟩
        · subst e; rfl
        · subst e1; exact e2.slen
      · cases hl
    · cases hl
      simp only [RvX] at hr
      rw [hr.2]
      rfl
    · cases hl
  · rename_i hk
    rw [hk]
    split at hl
    · cases hl; simp only [RvX] at hr; subst hr; rfl
    · cases hl
  · rename_i hk; rw [hk]; cases hl; rfl
  · cases hl
theorem replicate_ok {H fr} {cs : List CT} {z : DenL cs} {e : List PV} (h : RdL H m fr cs z e) (n : Nat) : RdE H m fr cs (List.replicate n z) (List.replicate n e) :=
  ⟨by simp, fun i x e' hx he => by
    unfold LGet at hx
    rw [List.getElem?_replicate] at hx he
    split at hx
    · rename_i hi; rw [if_pos hi] at he; cases hx; cases he; exact h
    · cases hx⟩
end
end Go.Proofs.Ytcbhmedknbiffaa
