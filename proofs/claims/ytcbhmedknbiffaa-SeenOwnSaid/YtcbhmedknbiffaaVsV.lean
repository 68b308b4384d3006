/-
  The layer VS: a range over a function.
-/
import Derived.Test.YtcbhmedknbiffaaVsU
import Derived.RangeFuncNested
namespace Go.Proofs.Ytcbhmedknbiffaa
open Go Go.RowKit
def noY : Nat → YS := fun _ _ _ _ => False
def oneY (L : Nat) (Yn : YS) : Nat → YS := fun L' args m K => L' = L ∧ Yn args m K
def asgK (F : St → Prop) : Exit → St → Prop
  | .normal, s => F s
  | _, _ => False
def roundK (K : Option Code → Mem → Prop) : Exit → St → Prop
  | .normal, s => K none ⟨s.m.nb, s.m.bx, none⟩
  | .ret, s => K (some .ret) ⟨s.m.nb, s.m.bx, some .ret⟩
  | .exit id, s => K (some (.exit id)) ⟨s.m.nb, s.m.bx, some (.exit id)⟩
  | .goto l, s => K (some (.goto l)) ⟨s.m.nb, s.m.bx, some (.goto l)⟩
  | _, _ => False
def bind : List Nat → List PV → List (Nat × PV) → List (Nat × PV)
  | p :: ps, x :: xs, env => bind ps xs ((p, x) :: env)
  | _, _, env => env
def rY (T : Tab) (P : Program) (s : St) (ps : List Nat) (assign body : Code) : YS := fun args m K =>
  m.ys = none ∧ args.length = ps.length ∧ ps.all (fun p => decide (p < s.n)) = true ∧ PW T P noY assign (asgK (PW T P noY body (roundK K))) ⟨s.n, bind ps args s.env, ⟨m.nb, m.bx, s.m.ys⟩⟩
def rend (Q : Exit → St → Prop) (s : St) (m' : Mem) : Prop :=
  match m'.ys with
  | none => Q .normal ⟨s.n, s.env, ⟨m'.nb, m'.bx, s.m.ys⟩⟩
  | some .ret => Q .ret ⟨s.n, s.env, ⟨m'.nb, m'.bx, s.m.ys⟩⟩
  | some (.exit id) => Q (.exit id) ⟨s.n, s.env, ⟨m'.nb, m'.bx, s.m.ys⟩⟩
  | some (.goto l) => Q (.goto l) ⟨s.n, s.env, ⟨m'.nb, m'.bx, s.m.ys⟩⟩
  | _ => False
section
variable {T : Tab} {P : Program} {Y : Nat → YS}
theorem noY_ok {cx g w} : YOK T P noY cx g w := by
  intro _ _ _ _ _ _ _ _ _ _ _ _ _ h
  exact h.elim
theorem env_bind {g : Gh} {w : World} : ∀ (ps : List Nat) (xs : List PV) (us : List Value) (env : List (Nat × PV)) (tmps : Array Value), (∀ p ∈ ps, p < tmps.size) → RL g w xs us → EnvOK g w env { tmps := tmps, defers := [] } →
    EnvOK g w (bind ps xs env) { tmps := (ps.zip us).foldl (fun t x => t.setIfInBounds x.1 x.2) tmps, defers := [] }
  | [], xs, us, env, tmps, _, _, h => by simpa [bind] using h
  | p :: ps, [], us, env, tmps, _, hl, h => by simp only [RL] at hl; subst hl; simpa [bind] using h
  | p :: ps, x :: xs, us, env, tmps, hp, hl, h => by
    simp only [RL] at hl
    obtain ⟨c, r, rfl, h1, h2⟩ := hl
    simp only [bind, List.zip_cons_cons, List.foldl_cons]
    refine env_bind ps xs r _ _ (fun q hq => by rw [Array.size_setIfInBounds]; exact hp q (by simp [hq])) h2 ?_
    intro k
    simp only [lk]
    by_cases e : p = k
    · subst e
      have := hp p (by simp)
      simp only [beq_self_eq_true, cond_true]
      have : (tmps.setIfInBounds p c).getD p undef = c := by simp [Array.getD_eq_getD_getElem?, this]
      rw [this]; exact h1
    · have e' : (p == k) = false := by simpa using e
      rw [e', cond_false]
      have : (tmps.setIfInBounds p c).getD k undef = tmps.getD k undef := by simp [Array.getD_eq_getD_getElem?, Array.getElem?_setIfInBounds_ne e]
      rw [this]; exact h k
theorem fold_size : ∀ (ps : List Nat) (us : List Value) (tmps : Array Value), ((ps.zip us).foldl (fun t x => t.setIfInBounds x.1 x.2) tmps).size = tmps.size
  | [], _, _ => by simp
  | _ :: _, [], _ => by simp
  | p :: ps, u :: us, tmps => by simp only [List.zip_cons_cons, List.foldl_cons]; rw [fold_size ps us, Array.size_setIfInBounds]
structure Grown (w w' : World) : Prop where
  size : w.heap.size ≤ w'.heap.size
  same : ∀ k, k < w.heap.size → w'.heap[k]? = w.heap[k]?
  os : w'.os = w.os
  tape : w'.tape = w.tape
  output : w'.output = w.output
theorem Grown.alloc (w : World) (o : Obj) : Grown w (w.alloc o) :=
  ⟨by rw [World.size_alloc]; omega, fun k hk => by
    have h : w.heap[k]? = some w.heap[k] := Array.getElem?_eq_getElem hk
    rw [heap_alloc_old' w o h, h], rfl, rfl, rfl⟩
theorem Grown.trans {w w1 w2} (h : Grown w w1) (k : Grown w1 w2) : Grown w w2 :=
  ⟨Nat.le_trans h.size k.size, fun i hi => (k.same i (Nat.lt_of_lt_of_le hi h.size)).trans (h.same i hi), k.os.trans h.os, k.tape.trans h.tape, k.output.trans h.output⟩
theorem GX.grown {g : Gh} {w w' : World} (h : Grown w w') (hp : ∀ b o, g.p b o → b < w.heap.size) : GX g w g w' :=
  ⟨fun _ _ h => h, rfl, fun _ h => h, fun _ _ => rfl, fun _ _ h => h, fun b o v hb hc => by
    simp only [World.cell?] at hc ⊢
    rw [h.same b (hp b o hb)]; exact hc⟩
theorem MR.grown {cx g m} {w w' : World} (h : Grown w w') (hm : MR T cx g m w) : MR T cx g m w' where
  pin b o hp := Nat.lt_of_lt_of_le (hm.pin b o hp) h.size
  base := Nat.le_trans hm.base h.size
  box k hk := (hm.box k hk).mono (.grown h hm.pin) fun ho => h.same _ (hm.owns_block ⟨hk, ho⟩)
  np := hm.np
  inj := hm.inj
  fresh := hm.fresh
  fix k o hk := by
    obtain ⟨h1, h2⟩ := hm.fix k o hk
    exact ⟨(h.same k (Array.getElem?_eq_some_iff.1 h1).1).trans h1, h2⟩
  ys l r hy := by
    have h1 := hm.ys l r hy
    exact (h.same l (Array.getElem?_eq_some_iff.1 h1).1).trans h1
  glob := hm.glob.mono (.grown h hm.pin)
theorem EX.grown {cx g m} {w w' : World} (h : Grown w w') (hm : MR T cx g m w) : EX cx g m w g m w' :=
  ⟨.grown h hm.pin, h.size, h.os, h.tape, h.output, fun k hk _ _ => h.same k hk, fun _ _ h => .inl h, fun j h => .inr ⟨j, h, rfl⟩⟩
theorem MR.ctx {cx cx' g m w} {ys : Option Code} (h : MR T cx g m w) (hfix : ∀ k o, (k, o) ∈ cx'.fx → w.heap[k]? = some o ∧ boxy o = false ∧ (∀ l r, cx'.yc = some (l, r) → k ≠ l))
    (hys : ∀ l r, cx'.yc = some (l, r) → w.heap[l]? = some (.loop (r (if ys.isNone then .ready else .done) ys))) : MR T cx' g ⟨m.nb, m.bx, ys⟩ w :=
  ⟨h.pin, h.base, h.box, h.np, h.inj, h.fresh, hfix, hys, h.glob⟩
theorem MR.putRec {cx g m} {w : World} {l : Nat} {r0 : Loop} {o' : Obj} (h : w.heap[l]? = some (.loop r0)) (hm : MR T cx g m w) (hfx : ∀ k o, (k, o) ∈ cx.fx → k ≠ l) (hy : ∀ l' r', cx.yc = some (l', r') → l' ≠ l) : MR T cx g m (w.putObj l o') :=
  hm.putObj h rfl (fun x hx => hfx x.1 x.2 hx) (fun l' r' e => (hy l' r' e).symm)
theorem EX.out {cx cx' : Cx} {g m w g' m' w'} (h : EX cx g m w g' m' w') (hn : cx.yc = none) : EX cx' g m w g' m' w' :=
  ⟨h.gx, h.size, h.os, h.tape, h.output, fun k hk ho _ => h.same k hk ho (fun _ _ e => by rw [hn] at e; cases e), h.pn, h.bn⟩
theorem EX.rcd {cx : Cx} {g m} {w : World} {l : Nat} {r : Rec} {r0 : Loop} {o' : Obj} (hc : cx.yc = some (l, r)) (h : w.heap[l]? = some (.loop r0)) : EX cx g m w g m (w.putObj l o') :=
  ⟨.putObj h rfl g, by rw [World.putObj_size]; exact Nat.le_refl _, rfl, rfl, rfl, fun k _ _ hl => World.putObj_heap_other (hl l r hc), fun _ _ h => .inl h, fun j h => .inr ⟨j, h, rfl⟩⟩
theorem EX.ys {cx : Cx} {g m w g' m' w'} (h : EX cx g m w g' m' w') {a b : Nat} {y z : Option Code} : EX cx g ⟨a, m.bx, y⟩ w g' ⟨b, m'.bx, z⟩ w' :=
  ⟨h.gx, h.size, h.os, h.tape, h.output, h.same, h.pn, h.bn⟩
theorem round_ok {s : St} {ps : Array Nat} {assign body : Code} {l fn D : Nat} {tmps : Array Value} {rec : Rec} (hrec : rec = fun st pe => { state := st, pending := pe, fn := fn, tmps := tmps, params := ps, assign := assign, body := body, defers := D })
    {fx : List (Nat × Obj)} {g0 : Gh} {w0 : World} (henv : EnvOK g0 w0 s.env { tmps := tmps, defers := [] }) (hsz : tmps.size = s.n) :
    YOK T P (oneY l (rY T P s ps.toList assign body)) ⟨fx, some (l, rec)⟩ g0 w0 := by
  intro fx2 hsub L g m w args us K hgx hm hd hl hY
  obtain ⟨hL, hys, hlen, hps, hw⟩ := hY
  have hL := hL.symm
  subst hL
  have hus := RL.length hl
  have hh : w.heap[l]? = some (.loop (rec .ready none)) := by
    have := hm.ys l rec rfl
    rw [hys] at this
    exact this
  have hy : (Instr.yield l us.toArray).run P w = .ok (.round l fn ((ps.toList.zip us).foldl (fun t x => t.setIfInBounds x.1 x.2) tmps) assign body) w := by
    have := run_yield (P := P) (args := us.toArray) hh (by rw [hrec]; simp [← hus, hlen])
    rw [this, hrec]
    congr 2
    rw [← Array.foldl_toList]; simp
  refine ⟨fn, _, assign, body, hy, fun n => roundIn_of_wpIn (F := Fence.wide) trivial ?_⟩
  have hpsz : ∀ p ∈ ps.toList, p < tmps.size := fun p hp => by
    have := List.all_eq_true.1 hps p hp
    rw [hsz]; simpa using this
  -- the assignment to the loop's variables
  have hneq : ∀ k o, (k, o) ∈ fx2 → k ≠ l := fun k o hk => (hm.fix k o hk).2.2 l rec rfl
  have hmA : MR T ⟨(l, .loop (rec .ready none)) :: fx2, none⟩ g ⟨m.nb, m.bx, s.m.ys⟩ w :=
    hm.ctx (fun k o hk => by
      rcases List.mem_cons.1 hk with e | hk
      · cases e; exact ⟨hh, rfl, fun _ _ h => by cases h⟩
      · have := hm.fix k o hk; exact ⟨this.1, this.2.1, fun _ _ h => by cases h⟩) (fun _ _ h => by cases h)
  have hfr : FR T ⟨(l, .loop (rec .ready none)) :: fx2, none⟩ w.heap.size [] g ⟨s.n, bind ps.toList args s.env, ⟨m.nb, m.bx, s.m.ys⟩⟩ { tmps := (ps.toList.zip us).foldl (fun t x => t.setIfInBounds x.1 x.2) tmps, defers := [] } w :=
    ⟨⟨hmA, hd, env_bind _ _ _ _ _ hpsz hl (henv.mono hgx), by rw [fold_size]; exact hsz⟩, rfl, fun _ h => by simp at h, by simp, Nat.le_refl _⟩
  have h1 := hw (some l) n ⟨(l, .loop (rec .ready none)) :: fx2, none⟩ w.heap.size [] g _ w (fun l' e => by cases e; exact ⟨rec .ready none, List.mem_cons_self⟩) noY_ok hfr
  refine wpIn_mono h1 fun e a1 w1 hp => ?_
  obtain ⟨s1, fxa, ds1, g1, k1, k2, k3, k4, k5, k6, k7⟩ := hp
  cases e with
  | normal =>
    have hl1 := (k2.rs.mr.fix l (.loop (rec .ready none)) (k1 _ (by simp))).1
    have hl1s : l < w1.heap.size := (Array.getElem?_eq_some_iff.1 hl1).1
    refine ⟨_, run_beginRound hl1 (by rw [hrec]), ?_⟩
    have hbusy : (Obj.loop { rec .ready none with state := .busy }) = .loop (rec .busy none) := by rw [hrec]
    rw [hbusy]
    have hmB0 : MR T ⟨fxa.filter (fun x => x.1 != l), none⟩ g1 s1.m (w1.putObj l (.loop (rec .busy none))) :=
      (k2.rs.mr.fewer (cx := ⟨fxa.filter (fun x => x.1 != l), none⟩) (fun x hx => (List.mem_filter.1 hx).1)).putRec hl1 (fun k o hk => by simpa using (List.mem_filter.1 hk).2) (fun _ _ h => by cases h)
    have hl2 : (w1.putObj l (.loop (rec .busy none))).heap[l]? = some (.loop (rec .busy none)) := World.putObj_heap_same hl1s
    have hmB : MR T ⟨(l, .loop (rec .busy none)) :: fxa.filter (fun x => x.1 != l), none⟩ g1 s1.m (w1.putObj l (.loop (rec .busy none))) :=
      hmB0.ctx (fun k o hk => by
        rcases List.mem_cons.1 hk with e | hk
        · cases e; exact ⟨hl2, rfl, fun _ _ h => by cases h⟩
        · exact hmB0.fix k o hk) (fun _ _ h => by cases h)
    have hfrB : FR T ⟨(l, .loop (rec .busy none)) :: fxa.filter (fun x => x.1 != l), none⟩ w.heap.size ds1 g1 s1 a1 (w1.putObj l (.loop (rec .busy none))) :=
      ⟨⟨hmB, k2.rs.dl, k2.rs.env.mono (.putObj hl1 rfl g1), k2.rs.sz⟩, k2.df, fun D hD => by
        obtain ⟨h1, h2⟩ := k2.dx D hD
        refine ⟨List.mem_cons_of_mem _ (List.mem_filter.2 ⟨h1, ?_⟩), h2⟩
        have := (k2.rs.mr.fix _ _ h1).1
        have hne : D ≠ l := fun e => by rw [e, hl1] at this; cases this
        simpa using hne, k2.nd, by rw [World.putObj_size]; exact k2.lo⟩
    have h2 := k7 (some l) n ⟨(l, .loop (rec .busy none)) :: fxa.filter (fun x => x.1 != l), none⟩ w.heap.size ds1 g1 a1 _ (fun l' e => by cases e; exact ⟨rec .busy none, List.mem_cons_self⟩) noY_ok hfrB
    refine wpIn_mono h2 fun e2 a2 w3 hp2 => ?_
    obtain ⟨s2, fx3, ds2, g2, j1, j2, j3, j4, j5, j6, j7⟩ := hp2
    have hl3 := (j2.rs.mr.fix l (.loop (rec .busy none)) (j1 _ (by simp))).1
    have fin : ∀ jump : Option Code, (Instr.endRound l jump).run P w3 = .ok (.bool jump.isNone) (w3.putObj l (.loop (rec (if jump.isNone then .ready else .done) jump))) ∧
        After T ⟨fx2, some (l, rec)⟩ g m w g2 ⟨s2.m.nb, s2.m.bx, jump⟩ (w3.putObj l (.loop (rec (if jump.isNone then .ready else .done) jump))) := by
      intro jump
      refine ⟨?_, ?_, j2.rs.dl, Nat.le_trans k4 j4, fun k hk => ?_, ?_⟩
      · have := run_endRound (P := P) jump hl3
        rw [hrec] at this ⊢
        exact this
      · have hm3 : MR T ⟨fx2, none⟩ g2 s2.m (w3.putObj l (.loop (rec (if jump.isNone then .ready else .done) jump))) :=
          (j2.rs.mr.fewer (cx := ⟨fx2, none⟩) (fun x hx => j1 x (List.mem_cons_of_mem _ (List.mem_filter.2 ⟨k1 x (List.mem_cons_of_mem _ hx), by simpa using hneq x.1 x.2 hx⟩)))).putRec hl3 hneq (fun _ _ h => by cases h)
        refine hm3.ctx (fun k o hk => ⟨(hm3.fix k o hk).1, (hm3.fix k o hk).2.1, fun l' r' e => by cases e; exact hneq k o hk⟩) (fun l' r' e => ?_)
        cases e
        exact World.putObj_heap_same (Array.getElem?_eq_some_iff.1 hl3).1
      · rcases j5 k hk with h | h
        · exact (k5 k h)
        · exact .inr (Nat.le_trans k4 h)
      · have x1 : EX ⟨fx2, some (l, rec)⟩ g m w g1 s1.m w1 := (k3.out (cx' := ⟨fx2, some (l, rec)⟩) rfl).ys (a := m.nb) (y := m.ys) (b := s1.m.nb) (z := s1.m.ys)
        have x2 : EX ⟨fx2, some (l, rec)⟩ g1 s1.m w1 g1 s1.m (w1.putObj l (.loop (rec .busy none))) := .rcd rfl hl1
        have x3 : EX ⟨fx2, some (l, rec)⟩ g1 s1.m _ g2 s2.m w3 := j3.out rfl
        have x4 : EX ⟨fx2, some (l, rec)⟩ g2 s2.m w3 g2 s2.m (w3.putObj l (.loop (rec (if jump.isNone then .ready else .done) jump))) := .rcd rfl hl3
        exact (((x1.trans x2).trans x3).trans x4).ys (a := m.nb) (y := m.ys)
    cases e2 with
    | normal => exact ⟨_, _, (fin none).1, none, g2, _, rfl, (fin none).2, j7⟩
    | ret => exact ⟨_, _, (fin (some .ret)).1, some .ret, g2, _, rfl, (fin (some .ret)).2, j7⟩
    | exit id => exact ⟨_, _, (fin (some (.exit id))).1, some (.exit id), g2, _, rfl, (fin (some (.exit id))).2, j7⟩
    | goto t => exact ⟨_, _, (fin (some (.goto t))).1, some (.goto t), g2, _, rfl, (fin (some (.goto t))).2, j7⟩
    | panic ch => exact j7.elim
    | outgrown => exact j7.elim
  | _ => exact k7.elim
theorem enter_ok {P : Program} {r : Option Nat} {cx : Cx} {w : World} (hr : ∀ l, r = some l → ∃ rec, (l, Obj.loop rec) ∈ cx.fx) (hfix : ∀ k o, (k, o) ∈ cx.fx → w.heap[k]? = some o) (fn : Nat) (tmps : Array Value) (ps : Array Nat) (assign body : Code) :
    ∃ (l : Nat) (Ds : List Nat) (W1 : World) (D : Nat), (Instr.enterLoop fn tmps ps assign body r).run P w = .ok (l, Ds.map dmark) W1 ∧ Grown w W1 ∧
      W1.heap[l]? = some (.loop { state := .ready, pending := none, fn := fn, tmps := tmps, params := ps, assign := assign, body := body, defers := D }) ∧ w.heap.size ≤ l ∧
      (∀ D, D ∈ Ds → W1.heap[D]? = some (.deferred (some [])) ∧ w.heap.size ≤ D) ∧ Ds.Nodup := by
  cases r with
  | none =>
    refine ⟨w.heap.size + 1, [w.heap.size], _, w.heap.size, run_enterLoop_outer _ _ _ _ _, (Grown.alloc _ _).trans (Grown.alloc _ _), ?_, by omega, fun D hD => ?_, by simp⟩
    · have := World.alloc_heap_new (w.alloc (.deferred (some []))) (.loop { state := .ready, pending := none, fn := fn, tmps := tmps, params := ps, assign := assign, body := body, defers := w.heap.size }); rwa [World.size_alloc] at this
    · simp only [List.mem_singleton] at hD
      subst hD
      exact ⟨heap_alloc_old' _ _ (World.alloc_heap_new w _), Nat.le_refl _⟩
  | some l0 =>
    obtain ⟨r0, h0⟩ := hr l0 rfl
    refine ⟨w.heap.size, [], _, r0.defers, run_enterLoop_inner (hfix _ _ h0) _ _ _ _ _, Grown.alloc _ _, World.alloc_heap_new _ _, Nat.le_refl _, fun D hD => by simp at hD, by simp⟩
def upY (Yn : YS) : YS := fun args m K => ∃ K0, Yn args m K0 ∧ ∀ o m', K0 o m' → K o m'
theorem YOK.up {L : Nat} {Yn : YS} {cx g w} (h : YOK T P (oneY L Yn) cx g w) : YOK T P (oneY L (upY Yn)) cx g w := by
  intro fx hf l g m w args us K hg hm hd hl ⟨hL, K0, hY, hK⟩
  obtain ⟨fn, tmps, assign, body, h1, h2⟩ := h fx hf l g m w args us K0 hg hm hd hl ⟨hL, hY⟩
  exact ⟨fn, tmps, assign, body, h1, fun n => (h2 n).mono fun e w' ⟨o, g', m', e1, ha, hk⟩ => ⟨o, g', m', e1, ha, hK o m' hk⟩⟩
theorem pw_range {gx : Operand} {ps : Array Nat} {assign body : Code} {Q : Exit → St → Prop} {s : St} {gf : Nat} {caps : List PV} (hgf : peval T s.env gx = .clos gf caps)
    (h : ∀ L, SpecM T P (oneY L (upY (rY T P s ps.toList assign body))) gf (.yield L :: caps) ⟨s.m.nb, s.m.bx, none⟩ (fun _ m' => rend Q s m')) : PW T P Y (.rangeFunc gx ps assign body) Q s := by
  intro r n cx lo ds g a w hr hy hf
  refine wpIn_rangeFunc ?_
  intro fn hfn
  have hm := hf.rs.mr
  obtain ⟨l, Ds, W1, D, hent, hgr, hl1, hlw, hDs, hnd⟩ := enter_ok (P := P) hr (fun k o hk => (hm.fix k o hk).1) fn a.tmps ps assign body
  obtain ⟨rec, hrec⟩ : ∃ rec : Rec, rec = fun st pe => { state := st, pending := pe, fn := fn, tmps := a.tmps, params := ps, assign := assign, body := body, defers := D } := ⟨_, rfl⟩
  have hl1' : W1.heap[l]? = some (.loop (rec .ready none)) := by rw [hrec]; exact hl1
  have hg := peval_ok hm hf.rs.env gx
  rw [hgf] at hg
  simp only [RV] at hg
  obtain ⟨cs, hgv, hcs⟩ := hg
  have hL := h l
  have hm1 := MR.grown hgr hm
  -- the new context
  obtain ⟨yo, hyo⟩ : ∃ yo : List (Nat × Obj), yo = (match cx.yc with | none => [] | some (l0, r0) => [(l0, Obj.loop (r0 (if s.m.ys.isNone then .ready else .done) s.m.ys))]) := ⟨_, rfl⟩
  have hyo1 : ∀ k o, (k, o) ∈ yo → W1.heap[k]? = some o ∧ boxy o = false ∧ k < w.heap.size := by
    intro k o hk
    rw [hyo] at hk
    split at hk
    · simp at hk
    · rename_i l0 r0 hc
      simp only [List.mem_singleton, Prod.mk.injEq] at hk
      obtain ⟨rfl, rfl⟩ := hk
      exact ⟨hm1.ys _ _ hc, rfl, (Array.getElem?_eq_some_iff.1 (hm.ys _ _ hc)).1⟩
  have hyo2 : ∀ l0 r0, cx.yc = some (l0, r0) → (l0, Obj.loop (r0 (if s.m.ys.isNone then .ready else .done) s.m.ys)) ∈ yo := by
    intro l0 r0 hc; rw [hyo, hc]; simp
  have hDl : ∀ D', D' ∈ Ds → D' ≠ l := fun D' hD' e => by have := (hDs D' hD').1; rw [e, hl1] at this; cases this
  have hm2 : MR T ⟨yo ++ (Ds.map fun D => (D, Obj.deferred (some []))) ++ cx.fx, some (l, rec)⟩ g ⟨s.m.nb, s.m.bx, none⟩ W1 :=
    hm1.ctx (fun k o hk => by
      rcases List.mem_append.1 hk with hk | hk
      · rcases List.mem_append.1 hk with hk | hk
        · obtain ⟨h1, h2, h3⟩ := hyo1 k o hk
          exact ⟨h1, h2, fun l' r' e => by cases e; omega⟩
        · obtain ⟨D', hD', e⟩ := List.mem_map.1 hk
          have e1 : D' = k := congrArg Prod.fst e
          have e2 : Obj.deferred (some []) = o := congrArg Prod.snd e
          subst e1; subst e2
          exact ⟨(hDs D' hD').1, rfl, fun l' r' e => by cases e; exact hDl D' hD'⟩
      · have hk1 := hm1.fix k o hk
        have hk2 := (Array.getElem?_eq_some_iff.1 (hm.fix k o hk).1).1
        exact ⟨hk1.1, hk1.2.1, fun l' r' e => by cases e; omega⟩) (fun l' r' e => by cases e; exact hl1')
  have hgx : GX g w g W1 := .grown hgr hm.pin
  have hrl : RL g W1 (.yield l :: caps) (.func (.yield l) #[] #[] :: cs) := by
    simp only [RL]; exact ⟨_, _, rfl, by simp only [RV], RL.mono hgx _ _ hcs⟩
  have hyok := round_ok (T := T) (P := P) (s := s) (ps := ps) (assign := assign) (body := body) (l := l) (fn := fn) (D := D) (tmps := a.tmps) hrec (fx := yo ++ (Ds.map fun D => (D, Obj.deferred (some []))) ++ cx.fx) (g0 := g) (w0 := W1)
    (fun k => (hf.rs.env k).mono hgx) hf.rs.sz |>.up
  refine ⟨l, Ds.map dmark, W1, { target := .fn (.func gf) cs.toArray, args := #[.func (.yield l) #[] #[]] }, W1, gf, #[.func (.yield l) #[] #[]] ++ cs.toArray, W1, hent, ?_, ?_, ?_, fun h => (by cases h), ?_⟩
  · simp only [resolve, hgv]
    simp [go_sem]
  · intro f' _; trivial
  · have := hL.1 (#[.func (.yield l) #[] #[]] ++ cs.toArray) W1
    simp only [invoke]
    exact this
  · refine callsFW ?_
    have harr : (#[Value.func (.yield l) #[] #[]] ++ cs.toArray) = (Value.func (.yield l) #[] #[] :: cs).toArray := by apply Array.ext'; simp
    rw [harr]
    refine (hL.2 _ g W1 _ hyok hm2 (fun k hk => hf.rs.dl k hk) hrl).mono ?_
    rintro e w2 ⟨u, rr, g', m', rfl, _, ⟨h1, h2, h3, h4, h5⟩, hq⟩
    have hl2 := h1.ys l rec rfl
    have hlt := (Array.getElem?_eq_some_iff.1 hl2).1
    -- behind the loop
    have hfin : ∀ e : Exit, Q e ⟨s.n, s.env, ⟨m'.nb, m'.bx, s.m.ys⟩⟩ → Post T cx lo g s w Q e { a with defers := Ds.map dmark ++ a.defers } (w2.putObj l (.loop { rec (if m'.ys.isNone then .ready else .done) m'.ys with state := .exhausted })) := by
      intro e hQ
      have hfx0 : ∀ x, x ∈ (yo ++ (Ds.map fun D => (D, Obj.deferred (some []))) ++ cx.fx) → x.1 ≠ l := fun x hx => (h1.fix x.1 x.2 hx).2.2 l rec rfl
      have hm3 : MR T ⟨yo ++ (Ds.map fun D => (D, Obj.deferred (some []))) ++ cx.fx, none⟩ g' ⟨m'.nb, m'.bx, m'.ys⟩ w2 := h1.ctx (fun k o hk => ⟨(h1.fix k o hk).1, (h1.fix k o hk).2.1, fun _ _ h => by cases h⟩) (fun _ _ h => by cases h)
      have hm4 := hm3.putRec (o' := .loop { rec (if m'.ys.isNone then .ready else .done) m'.ys with state := .exhausted }) hl2 (fun k o hk => hfx0 (k, o) hk) (fun _ _ h => by cases h)
      have hm5 : MR T ⟨(Ds.map fun D => (D, Obj.deferred (some []))) ++ cx.fx, cx.yc⟩ g' ⟨m'.nb, m'.bx, s.m.ys⟩ (w2.putObj l (.loop { rec (if m'.ys.isNone then .ready else .done) m'.ys with state := .exhausted })) :=
        hm4.ctx (fun k o hk => by
          have := hm4.fix k o (by rw [List.append_assoc]; exact List.mem_append_right _ hk)
          refine ⟨this.1, this.2.1, fun l0 r0 hc e => ?_⟩
          rcases List.mem_append.1 hk with hk | hk
          · obtain ⟨D', hD', e2⟩ := List.mem_map.1 hk
            have e1 : D' = k := congrArg Prod.fst e2
            subst e1
            have h9 := hyo1 _ _ (hyo2 l0 r0 hc)
            have := (hDs D' hD').2
            omega
          · exact (hm.fix k o hk).2.2 l0 r0 hc e) (fun l0 r0 hc => (hm4.fix _ _ (by rw [List.append_assoc]; exact List.mem_append_left _ (hyo2 l0 r0 hc))).1)
      have hx1 : EX cx g s.m w g s.m W1 := .grown hgr hm
      have hx2 : EX cx g s.m w g' ⟨m'.nb, m'.bx, s.m.ys⟩ (w2.putObj l (.loop { rec (if m'.ys.isNone then .ready else .done) m'.ys with state := .exhausted })) := by
        have x1 : EX ⟨yo ++ (Ds.map fun D => (D, Obj.deferred (some []))) ++ cx.fx, some (l, rec)⟩ g ⟨s.m.nb, s.m.bx, none⟩ w g ⟨s.m.nb, s.m.bx, none⟩ W1 :=
          ⟨hx1.gx, hx1.size, hx1.os, hx1.tape, hx1.output, fun k hk _ _ => hgr.same k hk, fun _ _ h => .inl h, fun j h => .inr ⟨j, h, rfl⟩⟩
        have x2 := (x1.trans h5).trans (EX.rcd (o' := .loop { rec (if m'.ys.isNone then .ready else .done) m'.ys with state := .exhausted }) rfl hl2)
        exact ⟨x2.gx, x2.size, x2.os, x2.tape, x2.output, fun k hk ho hl => x2.same k hk ho (fun l' r' e => by cases e; omega), x2.pn, x2.bn⟩
      refine ⟨⟨s.n, s.env, ⟨m'.nb, m'.bx, s.m.ys⟩⟩, (Ds.map fun D => (D, Obj.deferred (some []))) ++ cx.fx, Ds ++ ds, g', fun x hx => List.mem_append_right _ hx,
        ⟨⟨hm5, h2, fun k => (hf.rs.env k).mono hx2.gx, hf.rs.sz⟩, by rw [List.map_append, ← hf.df], fun D' hD' => ?_, ?_, Nat.le_trans hf.lo hx2.size⟩, hx2, h3, h4, rfl, hQ⟩
      · rcases List.mem_append.1 hD' with hD' | hD'
        · exact ⟨List.mem_append_left _ (List.mem_map.2 ⟨D', hD', rfl⟩), Nat.le_trans hf.lo (hDs D' hD').2⟩
        · exact ⟨List.mem_append_right _ (hf.dx D' hD').1, (hf.dx D' hD').2⟩
      · refine List.nodup_append.2 ⟨hnd, hf.nd, fun x hx y hy e => ?_⟩
        subst e
        have h8 := (hm.fix _ _ (hf.dx x hy).1).1
        have h9 := (Array.getElem?_eq_some_iff.1 h8).1
        have := (hDs x hx).2
        omega
    have hend : (Instr.endLoop l).run P w2 = .ok m'.ys (w2.putObj l (.loop { rec (if m'.ys.isNone then .ready else .done) m'.ys with state := .exhausted })) := by
      have := run_endLoop (P := P) hl2 (by rw [hrec]; simp only; split <;> simp)
      have hp : (rec (if m'.ys.isNone then .ready else .done) m'.ys).pending = m'.ys := by rw [hrec]
      exact this.trans (congrArg (fun q => Result.ok q _) hp)
    refine ⟨m'.ys, w2.putObj l (.loop { rec (if m'.ys.isNone then .ready else .done) m'.ys with state := .exhausted }), hend, ?_⟩
    clear hend
    generalize hW : w2.putObj l (.loop { rec (if m'.ys.isNone then .ready else .done) m'.ys with state := .exhausted }) = W at hfin ⊢
    clear hW
    unfold rend at hq
    generalize m'.ys = ys at hq ⊢
    cases ys with
    | none => exact hfin .normal hq
    | some c =>
      cases c with
      | ret => exact wpIn_ret (hfin .ret hq)
      | exit id => exact wpIn_exit (hfin (.exit id) hq)
      | goto t => exact wpIn_goto (hfin (.goto t) hq)
      | _ => exact hq.elim
end
end Go.Proofs.Ytcbhmedknbiffaa
