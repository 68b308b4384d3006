/-
  The layer VS: a function's contract out of its body.
-/
import Derived.Test.YtcbhmedknbiffaaVsO
import Derived.RangeFuncRecord
import Derived.Shelf.Abstract
namespace Go.Proofs.Ytcbhmedknbiffaa
open Go Go.RowKit
def resOne (T : Tab) (bx : Nat → Box) (env : List (Nat × PV)) : ResultVar → Option PV
  | .tmp t => some (lk env t)
  | .cell a t => match cellsAt bx (lk env a) with
    | some xs => ofCells (T.at t) xs
    | none => none
def resAll (T : Tab) (bx : Nat → Box) (env : List (Nat × PV)) : List ResultVar → Option (List PV)
  | [] => some []
  | r :: rs => match resOne T bx env r, resAll T bx env rs with
    | some v, some vs => some (v :: vs)
    | _, _ => none
def resPV : List PV → PV
  | [x] => x
  | xs => .tup xs
def retR (T : Tab) (rs : List ResultVar) (Q : PV → Mem → Prop) (s : St) : Prop :=
  match resAll T s.m.bx s.env rs with
  | some vs => Q (resPV vs) s.m
  | none => False
def retQ (T : Tab) (rs : List ResultVar) (Q : PV → Mem → Prop) : Exit → St → Prop
  | .normal, s => retR T rs Q s
  | .ret, s => retR T rs Q s
  | _, _ => False
def initEnv : Nat → List PV → List (Nat × PV)
  | _, [] => []
  | i, x :: xs => (i, x) :: initEnv (i + 1) xs
section
variable {T : Tab} {P : Program} {Y : Nat → YS}
theorem resOne_ok (hT : TOK T P) {cx g m w env} {a : Act} (hm : MR T cx g m w) (he : EnvOK g w env a) {r : ResultVar} {v : PV} (h : resOne T m.bx env r = some v) :
    ∃ u, Sem.run P (match r with | .tmp t => pure (a.tmps.getD t undef) | .cell b t => do loadVar t (← asAddr (a.tmps.getD b undef))) w = .ok u w ∧ RV g w v u := by
  cases r with
  | tmp t =>
    simp only [resOne, Option.some.injEq] at h
    subst h
    exact ⟨_, by simp only [Sem.run_pure], he t⟩
  | cell b t =>
    simp only [resOne] at h
    split at h
    · rename_i xs hx
      obtain ⟨bb, off, hp, hrd⟩ := cellsAt_ok hm (he b) hx
      obtain ⟨u, hu, hr⟩ := run_loadVar_RD hT hrd h
      exact ⟨u, by simp only [Sem.run_bind, hp, asAddr, Sem.run_pure, Result.andThen_ok, hu], hr⟩
    · cases h
theorem resAll_ok (hT : TOK T P) {cx g m w env} {a : Act} (hm : MR T cx g m w) (he : EnvOK g w env a) : ∀ (rs : List ResultVar) (vs : List PV), resAll T m.bx env rs = some vs →
    ∃ us : List Value, Sem.run P (rs.mapM fun r : ResultVar => match r with | .tmp t => (pure (a.tmps.getD t undef) : Sem Value) | .cell b t => do loadVar t (← asAddr (a.tmps.getD b undef))) w = .ok us w ∧ RL g w vs us
  | [], vs, h => by
    simp only [resAll, Option.some.injEq] at h
    subst h
    exact ⟨[], by simp only [List.mapM_nil, Sem.run_pure], by simp [RL]⟩
  | r :: rs, vs, h => by
    simp only [resAll] at h
    split at h
    · rename_i v vs' h1 h2
      cases h
      obtain ⟨u, hu, hr⟩ := resOne_ok hT hm he h1
      obtain ⟨us, hus, hrs⟩ := resAll_ok hT hm he rs vs' h2
      exact ⟨u :: us, by rw [List.mapM_cons, Sem.run_bind, hu]; simp only [Result.andThen_ok, Sem.run_bind, hus, Sem.run_pure], by simp only [RL]; exact ⟨u, us, rfl, hr, hrs⟩⟩
    · cases h
theorem results_ok (hT : TOK T P) {cx g m w env} {a : Act} (hm : MR T cx g m w) (he : EnvOK g w env a) {fn : Func} {vs : List PV} (h : resAll T m.bx env fn.results.toList = some vs) :
    ∃ u, (results fn a.tmps).run P w = .ok u w ∧ RV g w (resPV vs) u := by
  obtain ⟨us, hus, hrs⟩ := resAll_ok hT hm he _ _ h
  have hlen := RL.length hrs
  have hrun : Sem.run P (fn.results.mapM fun r : ResultVar => match r with | .tmp t => (pure (a.tmps.getD t undef) : Sem Value) | .cell b t => do loadVar t (← asAddr (a.tmps.getD b undef))) w = .ok us.toArray w := by
    rw [Array.mapM_eq_mapM_toList, map_eq_pure_bind, Sem.run_bind, hus]
    simp only [Result.andThen_ok, Sem.run_pure]
  refine ⟨if h : us.toArray.size = 1 then us.toArray[0] else .tuple us.toArray, ?_, ?_⟩
  · simp only [results, Sem.run_bind]
    erw [hrun]
    simp only [Result.andThen_ok, Sem.run_pure]
  · cases vs with
    | nil =>
      cases us with
      | nil => simp only [resPV, RV]; exact ⟨[], by simp, hrs⟩
      | cons x xs => simp at hlen
    | cons v vs =>
      cases us with
      | nil => simp at hlen
      | cons u us =>
        cases vs with
        | nil =>
          cases us with
          | nil => simp only [RL] at hrs; obtain ⟨c, r, e, h1, _⟩ := hrs; cases e; simpa [resPV] using h1
          | cons x xs => simp at hlen
        | cons v2 vs =>
          cases us with
          | nil => simp at hlen
          | cons u2 us => simp only [resPV, RV]; exact ⟨u :: u2 :: us, by simp, hrs⟩
theorem cell_putObj {w : World} {D : Nat} {o o' : Obj} (h : w.heap[D]? = some o) (h1 : boxy o = false) {b off : Nat} {v : Value} (hc : w.cell? ⟨b, off, none⟩ = some v) : (w.putObj D o').cell? ⟨b, off, none⟩ = some v := by
  by_cases e : b = D
  · subst e
    simp only [World.cell?, h] at hc
    cases o <;> simp_all [boxy]
  · simp only [World.cell?] at hc ⊢
    rw [World.putObj_heap_other e]; exact hc
theorem GX.putObj {w : World} {D : Nat} {o o' : Obj} (h : w.heap[D]? = some o) (h1 : boxy o = false) (g : Gh) : GX g w g (w.putObj D o') :=
  ⟨fun _ _ h => h, rfl, fun _ h => h, fun _ _ => rfl, fun _ _ h => h, fun _ _ _ _ hc => cell_putObj h h1 hc⟩
theorem MR.putObj {cx g m} {w : World} {D : Nat} {o o' : Obj} (h : w.heap[D]? = some o) (h1 : boxy o = false) (hfx : ∀ x, x ∈ cx.fx → x.1 ≠ D) (hy : ∀ l r, cx.yc = some (l, r) → D ≠ l) (hm : MR T cx g m w) : MR T cx g m (w.putObj D o') where
  pin b off hp := by rw [World.putObj_size]; exact hm.pin b off hp
  base := by rw [World.putObj_size]; exact hm.base
  box k hk := (hm.box k hk).mono (.putObj h h1 g) fun ho => World.putObj_heap_other (hm.not_owned h h1 k ⟨hk, ho⟩)
  np := hm.np
  inj := hm.inj
  fresh := hm.fresh
  fix k ob hk := by
    have := hm.fix k ob hk
    exact ⟨(World.putObj_heap_other (hfx _ hk)).trans this.1, this.2⟩
  ys l r hyc := (World.putObj_heap_other (fun e => hy l r hyc e.symm)).trans (hm.ys l r hyc)
  glob := hm.glob.mono (.putObj h h1 g)
theorem EX.putObj {cx g m} {w0 : World} {g' m'} {w : World} {D : Nat} {o o' : Obj} (h : w.heap[D]? = some o) (h1 : boxy o = false) (hlo : w0.heap.size ≤ D) (he : EX cx g m w0 g' m' w) : EX cx g m w0 g' m' (w.putObj D o') :=
  ⟨he.gx.trans (.putObj h h1 g'), by rw [World.putObj_size]; exact he.size, he.os, he.tape, he.output, fun k hk ho hl => (World.putObj_heap_other (by omega)).trans (he.same k hk ho hl), he.pn, he.bn⟩
theorem MR.fewer {cx fx g m w} (h : MR T ⟨fx, cx.yc⟩ g m w) (hs : ∀ x, x ∈ cx.fx → x ∈ fx) : MR T cx g m w :=
  ⟨h.pin, h.base, h.box, h.np, h.inj, h.fresh, fun k o hk => h.fix k o (hs _ hk), h.ys, h.glob⟩
theorem EnvOK.mono {g g' : Gh} {w w' : World} {env : List (Nat × PV)} {a : Act} (h : EnvOK g w env a) (hx : GX g w g' w') : EnvOK g' w' env a := fun k => (h k).mono hx
theorem leaves_ok (hT : TOK T P) {n : Nat} {fn : Func} {cx g m} {w0 : World} {g' : Gh} {s' : St} {a : Act} {vs : List PV} {R : Ending → World → Prop} (hres : resAll T s'.m.bx s'.env fn.results.toList = some vs)
    (hR : ∀ u w', RV g' w' (resPV vs) u → MR T cx g' s'.m w' → EX cx g m w0 g' s'.m w' → R (.returned u) w') :
    ∀ (ds : List Nat) (w : World), (∀ D, D ∈ ds → w.heap[D]? = some (.deferred (some [])) ∧ w0.heap.size ≤ D ∧ (∀ x, x ∈ cx.fx → x.1 ≠ D) ∧ (∀ l r, cx.yc = some (l, r) → D ≠ l)) → ds.Nodup →
      MR T cx g' s'.m w → EX cx g m w0 g' s'.m w → EnvOK g' w s'.env a → LeavesInM Fence.wide n P fn a.tmps R (ds.map dmark) .returning w
  | [], w, _, _, hm, hx, he => by
    obtain ⟨u, hu, hr⟩ := results_ok hT hm he hres
    exact ⟨u, hu, hR u w hr hm hx⟩
  | D :: ds, w, hD, hnd, hm, hx, he => by
    obtain ⟨h1, h2, h3, h4⟩ := hD D (by simp)
    obtain ⟨hnot, hnd⟩ := List.nodup_cons.1 hnd
    refine ⟨by simp, .inl ⟨D, _, rfl, run_takeDeferred h1, ?_⟩⟩
    refine leaves_ok hT hres hR ds _ (fun D' hD' => ?_) hnd (hm.putObj h1 rfl h3 h4) (hx.putObj h1 rfl h2) (he.mono (.putObj h1 rfl g'))
    obtain ⟨k1, k2, k3, k4⟩ := hD D' (by simp [hD'])
    exact ⟨(World.putObj_heap_other (fun e => hnot (by rw [← e]; exact hD'))).trans k1, k2, k3, k4⟩
theorem lk_init : ∀ (xs : List PV) (i k : Nat), lk (initEnv i xs) k = if i ≤ k then xs.getD (k - i) .any else .any
  | [], i, k => by simp [initEnv, lk]
  | x :: xs, i, k => by
    simp only [initEnv, lk]
    by_cases e : i = k
    · subst e; simp
    · have : (i == k) = false := by simpa using e
      rw [this, cond_false, lk_init xs (i + 1) k]
      by_cases h : i ≤ k
      · have h1 : i + 1 ≤ k := by omega
        have h2 : k - i = (k - (i + 1)) + 1 := by omega
        rw [if_pos h, if_pos h1, h2]; simp
      · rw [if_neg h, if_neg (by omega)]
theorem env_init {g : Gh} {w : World} {args : List PV} {us : List Value} (h : RL g w args us) (k : Nat) : EnvOK g w (initEnv 0 args) { tmps := us.toArray ++ Array.replicate k undef, defers := [] } := by
  intro i
  rw [lk_init]
  simp only [Nat.zero_le, if_true, Nat.sub_zero]
  cases hx : args[i]? with
  | none => simp [List.getD, hx, RV]
  | some x =>
    obtain ⟨c, hc, hr⟩ := RL.get_v h hx
    have hlt : i < us.length := (List.getElem?_eq_some_iff.1 hc).1
    have : (us.toArray ++ Array.replicate k undef).getD i undef = c := by
      rw [Array.getD_eq_getD_getElem?, Array.getElem?_append_left (by simpa using hlt)]
      simp [hc]
    simp only [List.getD, hx, Option.getD_some]
    rw [this]; exact hr
end
end Go.Proofs.Ytcbhmedknbiffaa
