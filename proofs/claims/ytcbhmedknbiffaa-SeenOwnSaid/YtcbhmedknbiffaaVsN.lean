/-
  The layer VS: calls, regions; a region walked in the text's order.
-/
import Derived.Test.YtcbhmedknbiffaaVsM
import Derived.RangeFuncCalls
namespace Go.Proofs.Ytcbhmedknbiffaa
open Go Go.RowKit
abbrev YS := List PV → Mem → (Option Code → Mem → Prop) → Prop
def Enters (P : Program) (f : Nat) : Prop := ∀ args w, (callFunc f args).run P w = .ok (.enter f args) w
def After (T : Tab) (cx : Cx) (g : Gh) (m : Mem) (w : World) (g' : Gh) (m' : Mem) (w' : World) : Prop :=
  MR T cx g' m' w' ∧ DL g' m' ∧ m.nb ≤ m'.nb ∧ (∀ k, g'.dom k → g.dom k ∨ m.nb ≤ k) ∧ EX cx g m w g' m' w'
def YOK (T : Tab) (P : Program) (Y : Nat → YS) (cx : Cx) (g0 : Gh) (w0 : World) : Prop :=
  ∀ (fx : List (Nat × Obj)), (∀ x, x ∈ cx.fx → x ∈ fx) → ∀ (l : Nat) (g : Gh) (m : Mem) (w : World) (args : List PV) (us : List Value) (K : Option Code → Mem → Prop),
    GX g0 w0 g w → MR T ⟨fx, cx.yc⟩ g m w → DL g m → RL g w args us → Y l args m K →
    ∃ fn tmps assign body, (Instr.yield l us.toArray).run P w = .ok (.round l fn tmps assign body) w ∧
      ∀ n, RoundIn Fence.wide n P l fn tmps assign body w fun e w' => ∃ (o : Option Code) (g' : Gh) (m' : Mem), e = .returned (.bool o.isNone) ∧ After T ⟨fx, cx.yc⟩ g m w g' m' w' ∧ K o m'
theorem YOK.gx {T P Y cx g0 w0 g w} (h : YOK T P Y cx g0 w0) (hx : GX g0 w0 g w) : YOK T P Y cx g w :=
  fun fx hf l g' m w' args us K hg => h fx hf l g' m w' args us K (hx.trans hg)
theorem YOK.more {T P Y cx g0 w0} (h : YOK T P Y cx g0 w0) {fx : List (Nat × Obj)} (hf : ∀ x, x ∈ cx.fx → x ∈ fx) : YOK T P Y ⟨fx, cx.yc⟩ g0 w0 :=
  fun fx' hf' => h fx' (fun x hx => hf' x (hf x hx))
def SpecM (T : Tab) (P : Program) (Y : Nat → YS) (f : Nat) (args : List PV) (m : Mem) (Q : PV → Mem → Prop) : Prop :=
  Enters P f ∧ ∀ (cx : Cx) (g : Gh) (w : World) (us : List Value), YOK T P Y cx g w → MR T cx g m w → DL g m → RL g w args us →
    Calls P f us.toArray w fun e w' => ∃ u r g' m', e = .returned u ∧ RV g' w' r u ∧ After T cx g m w g' m' w' ∧ Q r m'
theorem SpecM.mono {T P Y f args m Q Q'} (h : SpecM T P Y f args m Q) (hq : ∀ r m', Q r m' → Q' r m') : SpecM T P Y f args m Q' :=
  ⟨h.1, fun cx g w us hy hm hd hl => (h.2 cx g w us hy hm hd hl).mono fun _ _ ⟨u, r, g', m', he, hr, ha, hQ⟩ => ⟨u, r, g', m', he, hr, ha, hq r m' hQ⟩⟩
def FW (r : Option Nat) : Fence := { Fence.wide with round := r }
theorem callsFW {r : Option Nat} {n : Nat} {P : Program} {f : FuncId} {args : Array Value} {w : World} {R : Ending → World → Prop} (h : Calls P f args w R) : CallsIn (FW r) n P f args w R := by
  cases r with
  | none => exact callsIn_wide.2 h
  | some l => exact (callsIn_wide.2 h : CallsIn Fence.wide n P f args w R).inRound l
theorem roundFW {r : Option Nat} {n : Nat} {P : Program} {l : Nat} {f : FuncId} {tmps : Array Value} {assign body : Code} {w : World} {R : Ending → World → Prop} (h : RoundIn Fence.wide n P l f tmps assign body w R) : RoundIn (FW r) n P l f tmps assign body w R := by
  cases r with
  | none => exact h
  | some l => exact h
def gval (all : List Oper) (env : List (Nat × PV)) (j : Nat) : Option (Option Bool) :=
  match (all[j]?).bind (·.dst) with
  | none => none
  | some d => match lk env d with
    | .v (.bool b) => some (some b)
    | .v (.tuple _) => some none
    | _ => none
def pcall (T : Tab) (P : Program) (Y : Nat → YS) (f : Nat) (args : List PV) (m : Mem) (K : PV → Mem → Prop) : Prop := SpecM T P Y f args m K
def kop (F : St → Prop) (s : St) (dst : Option Nat) (r : PV) (m : Mem) : Prop := F (s.put dst r m)
def kyl (F : St → Prop) (s : St) (dst : Option Nat) (o : Option Code) (m : Mem) : Prop := F (s.put dst (.v (.bool o.isNone)) m)
def nilCmp (T : Tab) (ρ : Operand → PV) : Op → Option (Bool → Prop)
  | .binOp .eql t x y _ => match (T.at t).kind, ρ x, ρ y with
    | .slice _, .sl _ es, .v (.slice none 0 0) => some (fun b => b = true → es = [])
    | .slice _, .row _ _ _ n, .v (.slice none 0 0) => some (fun b => b = true → n = 0)
    | .slice _, .v (.slice none 0 0), .v (.slice none 0 0) => some (fun b => b = true)
    | _, _, _ => none
  | _ => none
theorem nilCmp_popv {T : Tab} {ρ : Operand → PV} {bx : Nat → Box} {nm : Nat} {op : Op} {ok} (h : nilCmp T ρ op = some ok) : popv T ρ bx nm op = none := by
  unfold nilCmp at h
  split at h
  · split at h
    · rename_i h1 h2 h3; simp only [popv, h2, h3, binV, pure1, Option.map_none]
    · rename_i h1 h2 h3; simp only [popv, h2, h3, binV, pure1, Option.map_none]
    · rename_i h1 h2 h3; simp only [popv, h2, h3, binV, pure1, Option.map_none]
    · cases h
  · cases h
def popE (T : Tab) (F : St → Prop) (nm : Nat) (o : Oper) (s : St) : Prop :=
  match popv T (peval T s.env) s.m.bx nm o.op with
  | some (side, v, ws) => side ∧ dstOK s.n o.dst = true ∧ F (s.put o.dst v ⟨s.m.nb, setBs s.m.bx ws, s.m.ys⟩)
  | none => match nilCmp T (peval T s.env) o.op with
    | some ok => dstOK s.n o.dst = true ∧ ∀ b, ok b → F (s.put o.dst (.v (.bool b)) s.m)
    | none => False
def popC (T : Tab) (P : Program) (Y : Nat → YS) (F : St → Prop) (dst : Option Nat) (f : PV) (args : List PV) (s : St) : Prop :=
  match f with
  | .clos g caps => dstOK s.n dst = true ∧ pcall T P Y g (args ++ caps) s.m (kop F s dst)
  | .yield L => dstOK s.n dst = true ∧ Y L args s.m (kyl F s dst)
  | _ => False
def pop1 (T : Tab) (P : Program) (Y : Nat → YS) (F : St → Prop) (nm : Nat) (o : Oper) (s : St) : Prop :=
  match o.op with
  | .call ⟨.value f, args, _⟩ => popC T P Y F o.dst (peval T s.env f) (args.toList.map (peval T s.env)) s
  | _ => popE T F nm o s
def pops (T : Tab) (P : Program) (Y : Nat → YS) (all : List Oper) (nb0 : Nat) (K : St → Prop) : Nat → List Oper → St → Prop
  | _, [], s => K s
  | i, o :: r, s => match o.guard with
    | none => pop1 T P Y (pops T P Y all nb0 K (i + 1) r) (nb0 + i) o s
    | some (j, want) => match gval all s.env j with
      | some b => if b = some want then pop1 T P Y (pops T P Y all nb0 K (i + 1) r) (nb0 + i) o s else dstOK s.n o.dst = true ∧ pops T P Y all nb0 K (i + 1) r (s.put o.dst (.v (.tuple #[])) s.m)
      | none => False
section
variable {T : Tab} {P : Program} {Y : Nat → YS} {cx : Cx}
theorem lk_put (s : St) (d : Option Nat) (v : PV) (m : Mem) (k : Nat) : lk (s.put d v m).env k = if d = some k then v else lk s.env k := by
  cases d with
  | none => simp [St.put]
  | some d =>
    simp only [St.put, lk]
    by_cases e : d = k
    · subst e; simp
    · have : (d == k) = false := by simpa using e
      simp [this, e]
theorem EnvOK.put {g g' : Gh} {w w' : World} {s : St} {a : Act} (h : EnvOK g w s.env a) (hx : GX g w g' w') {d : Option Nat} {v : PV} {u : Value} {m : Mem} (hv : RV g' w' v u) (hd : dstOK a.tmps.size d = true) :
    EnvOK g' w' (s.put d v m).env (a.put d u) := by
  intro k
  rw [lk_put]
  cases d with
  | none => simpa [Act.put] using (h k).mono hx
  | some d =>
    simp only [dstOK, decide_eq_true_eq] at hd
    by_cases e : d = k
    · subst e
      simp only [Act.put, if_true]
      have : (a.tmps.setIfInBounds d u).getD d undef = u := by simp [Array.getD, hd]
      rw [this]; exact hv
    · have h1 : ¬ some d = some k := fun h => e (by cases h; rfl)
      rw [if_neg h1]
      have : (a.tmps.setIfInBounds d u).getD k undef = a.tmps.getD k undef := by
        simp [Array.getD_eq_getD_getElem?, Array.getElem?_setIfInBounds_ne e]
      simp only [Act.put]
      rw [this]; exact (h k).mono hx
theorem put_size (a : Act) (d : Option Nat) (u : Value) : (a.put d u).tmps.size = a.tmps.size := by cases d <;> simp [Act.put]
theorem put_defers (a : Act) (d : Option Nat) (u : Value) : (a.put d u).defers = a.defers := by cases d <;> rfl
theorem st_put_n (s : St) (d : Option Nat) (v : PV) (m : Mem) : (s.put d v m).n = s.n := by cases d <;> rfl
theorem st_put_m (s : St) (d : Option Nat) (v : PV) (m : Mem) : (s.put d v m).m = m := by cases d <;> rfl
structure RS (T : Tab) (cx : Cx) (g : Gh) (s : St) (a : Act) (w : World) : Prop where
  mr : MR T cx g s.m w
  dl : DL g s.m
  env : EnvOK g w s.env a
  sz : a.tmps.size = s.n
theorem RS.put {g g' : Gh} {s : St} {a : Act} {w w' : World} {d : Option Nat} {v : PV} {u : Value} {m : Mem} (h : RS T cx g s a w) (hm : MR T cx g' m w') (hd : DL g' m) (hx : GX g w g' w') (hv : RV g' w' v u) (hdst : dstOK s.n d = true) :
    RS T cx g' (s.put d v m) (a.put d u) w' :=
  ⟨by rw [st_put_m]; exact hm, by rw [st_put_m]; exact hd, h.env.put hx hv (by rw [h.sz]; exact hdst), by rw [put_size, st_put_n]; exact h.sz⟩
theorem run_equalIn_nil (d : Nat) {t e : Nat} {ad : Option Addr} {n c : Nat} {w : World} (ht : P.underlying t = some (.slice e)) : (Op.equalIn (d + 1) t (.slice ad n c) (.slice none 0 0)).run P w = .ok ad.isNone w := by
  cases ad <;> simp [Op.equalIn, run_underlying ht]
theorem run_nilCmp {t e : Nat} {x y : Operand} {ad : Option Addr} {n c : Nat} {w : World} (ht : P.underlying t = some (.slice e)) :
    (do pure (Next.value (← (do eqGuard .eql t x y (.slice ad n c) (.slice none 0 0); binOp .eql t (.slice ad n c) (.slice none 0 0)))) : Sem Next).run P w = .ok (.value (.bool ad.isNone)) w := by
  have hg : (eqGuard .eql t x y (.slice ad n c) (.slice none 0 0)).run P w = .ok () w := by simp [eqGuard]
  have hq : (Op.equal t (.slice ad n c) (.slice none 0 0)).run P w = .ok ad.isNone w := run_equalIn_nil 9999 ht
  simp only [Sem.run_bind, hg, Result.andThen_ok, binOp, hq, Sem.run_pure]
theorem nilCmp_ok (hT : TOK T P) {g : Gh} {w : World} {ρ : Operand → PV} {a : Act} (hρ : ∀ x, RV g w (ρ x) (a.eval x)) (o : Oper) {ok : Bool → Prop} (h : nilCmp T ρ o.op = some ok) :
    ∃ b, (execOp a.eval o).run P w = .ok (.value (.bool b)) w ∧ ok b := by
  obtain ⟨dst, op, type, pos, after, guard⟩ := o
  simp only at h
  unfold nilCmp at h
  split at h
  · rename_i t x y yt
    have hx := hρ x
    have hy := hρ y
    have und : ∀ e, (T.at t).kind = .slice e → P.underlying t = some (.slice e) := by
      intro e hk
      obtain ⟨d, hu, hd⟩ := hT.kind (hT.sz hk (by simp))
      rw [hk] at hd; simp only [KindOK] at hd
      rw [hu, hd.1]
    have go : ∀ (e : Nat) (ad : Option Addr) (n c : Nat), P.underlying t = some (.slice e) → a.eval x = .slice ad n c → a.eval y = .slice none 0 0 → (execOp a.eval ⟨dst, .binOp .eql t x y yt, type, pos, after, guard⟩).run P w = .ok (.value (.bool ad.isNone)) w := by
      intro e ad n c hu h1 h2
      show (do pure (Next.value (← (do eqGuard .eql t x y (a.eval x) (a.eval y); binOp .eql t (a.eval x) (a.eval y)))) : Sem Next).run P w = _
      rw [h1, h2]
      exact run_nilCmp hu
    split at h
    · rename_i e fr es hk hkx hky
      cases h
      rw [hkx] at hx; rw [hky] at hy
      simp only [RV] at hx hy
      obtain ⟨ad, cap, sz, bb, off, hu, h1, h2, h3, _⟩ := hx
      refine ⟨_, go e ad _ _ (und e hk) hu hy, fun hb => ?_⟩
      cases es with
      | nil => rfl
      | cons z es => rw [h3 rfl] at hb; cases hb
    · rename_i e k sz i n hk hkx hky
      cases h
      rw [hkx] at hx; rw [hky] at hy
      simp only [RV] at hx hy
      obtain ⟨_, ad, cap, hu, h1, h2, h3⟩ := hx
      refine ⟨_, go e ad _ _ (und e hk) hu hy, fun hb => ?_⟩
      by_cases hc : cap = 0
      · omega
      · rw [(h3 hc).1] at hb; cases hb
    · rename_i e hk hkx hky
      cases h
      rw [hkx] at hx; rw [hky] at hy
      simp only [RV] at hx hy
      exact ⟨_, go e none 0 0 (und e hk) hx hy, rfl⟩
    · cases h
  · cases h
theorem pop1_ok (hT : TOK T P) {F : St → Prop} {nm : Nat} {o : Oper} {s : St} {g : Gh} {a : Act} {w : World} (hy : YOK T P Y cx g w) (hs : RS T cx g s a w) (hnm : ¬ g.dom nm) (hlt : nm < s.m.nb)
    (h : pop1 T P Y F nm o s) {r : Option Nat} {n : Nat} {next : Act → World → Prop} {Q : Exit → Act → World → Prop}
    (hnext : ∀ s' g' a' w', RS T cx g' s' a' w' → EX cx g s.m w g' s'.m w' → s.m.nb ≤ s'.m.nb → (∀ k, g'.dom k → g.dom k ∨ k = nm ∨ s.m.nb ≤ k) → a'.defers = a.defers → s'.n = s.n → F s' → (∃ u v m', a' = a.put o.dst u ∧ RV g' w' v u ∧ s' = s.put o.dst v m') → next a' w') :
    o.wpIn (FW r) n P a w next Q := by
  refine ⟨fun _ _ => trivial, ?_⟩
  have hρ : ∀ x, RV g w (peval T s.env x) (a.eval x) := peval_ok hs.mr hs.env
  have hargs : ∀ l : List Operand, RL g w (l.map (peval T s.env)) (l.map a.eval) := by
    intro l
    induction l with
    | nil => simp [RL]
    | cons x l ih => simp only [List.map_cons, RL]; exact ⟨_, _, rfl, hρ x, ih⟩
  unfold pop1 at h
  split at h
  · -- a call
    rename_i f args ats hop
    have hnd : ∀ c, o.op ≠ .defer c := fun c => by rw [hop]; simp
    rw [Oper.semAt_eq _ _ _ hnd]
    have hf := hρ f
    unfold popC at h
    split at h
    · -- a function
      rename_i gf caps hfe
      obtain ⟨hdst, hent, hcall⟩ := h
      rw [hfe] at hf
      simp only [RV] at hf
      obtain ⟨cs, hfv, hcl⟩ := hf
      have hrun : (execOp a.eval o).run P w = .ok (.enter gf ((args.toList.map a.eval ++ cs).toArray)) w := by
        simp only [execOp, hop, resolve, hfv, Deferred.ofValue, Sem.run_bind, Sem.run_pure, Result.andThen_ok, invoke]
        rw [hent]
        congr 2
        apply Array.ext'; simp
      rw [hrun, Oper.uponIn_enter]
      refine ⟨fun h => (by cases h), callsFW ?_⟩
      refine (hcall cx g w (args.toList.map a.eval ++ cs) hy hs.mr hs.dl ((hargs _).append hcl)).mono ?_
      rintro e w' ⟨u, rr, g', m', rfl, hr, ⟨h1, h2, h3, h4, h5⟩, hk⟩
      exact hnext (s.put o.dst rr m') g' _ w' (hs.put h1 h2 h5.gx hr hdst) (by rw [st_put_m]; exact h5) (by rw [st_put_m]; exact h3) (fun k hd => (h4 k hd).imp id .inr) (put_defers _ _ _) (st_put_n _ _ _ _) hk ⟨_, _, _, rfl, hr, rfl⟩
    · -- yield
      rename_i L hfe
      obtain ⟨hdst, hyl⟩ := h
      rw [hfe] at hf
      simp only [RV] at hf
      have hfv := hf
      obtain ⟨fn, tmps, assign, body, hrun, hround⟩ := hy cx.fx (fun _ h => h) L g s.m w _ _ _ (GX.refl _ _) hs.mr hs.dl (hargs args.toList) hyl
      have hrun' : (execOp a.eval o).run P w = .ok (.round L fn tmps assign body) w := by
        simp only [execOp, hop, resolve, hfv, Deferred.ofValue, Sem.run_bind, Sem.run_pure, Result.andThen_ok, invoke]
        have e : (#[] ++ Array.map a.eval args) = (args.toList.map a.eval).toArray := by apply Array.ext'; simp
        rw [e, hrun]
      rw [hrun', Oper.uponIn_round]
      refine ⟨fun h => (by cases h), roundFW ((hround _).mono ?_)⟩
      rintro e w' ⟨oc, g', m', rfl, ⟨h1, h2, h3, h4, h5⟩, hk⟩
      exact hnext (s.put o.dst (.v (.bool oc.isNone)) m') g' _ w' (hs.put h1 h2 h5.gx (by simp only [RV]) hdst) (by rw [st_put_m]; exact h5) (by rw [st_put_m]; exact h3) (fun k hd => (h4 k hd).imp id .inr) (put_defers _ _ _) (st_put_n _ _ _ _) hk ⟨_, _, _, rfl, by simp only [RV], rfl⟩
    · exact h.elim
  · rename_i hnc
    unfold popE at h
    split at h
    · rename_i side v ws hpv
      obtain ⟨hside, hdst, hF⟩ := h
      have hnd : ∀ c, o.op ≠ .defer c := fun c e => by rw [e] at hpv; simp [popv] at hpv
      rw [Oper.semAt_eq _ _ _ hnd]
      obtain ⟨u, w', g', hrun, hv, hm, hex, hdn⟩ := popv_ok hT hs.mr hnm hρ o hpv hside
      have hdl : DL g' ⟨s.m.nb, setBs s.m.bx ws, s.m.ys⟩ := fun k hk => (hdn k hk).elim (hs.dl k) (fun e => by subst e; exact hlt)
      have hfin := hnext (s.put o.dst v ⟨s.m.nb, setBs s.m.bx ws, s.m.ys⟩) g' (a.put o.dst u) w' (hs.put hm hdl hex.gx hv hdst) (by rw [st_put_m]; exact hex) (by rw [st_put_m]; exact Nat.le_refl _)
        (fun k hk => (hdn k hk).imp id .inl) (put_defers _ _ _) (st_put_n _ _ _ _) hF ⟨_, _, _, rfl, hv, rfl⟩
      rcases hrun with hrun | ⟨hrun, rfl⟩
      · rw [hrun, Oper.uponIn_value]; exact hfin
      · rw [hrun, Oper.uponIn_skip]; exact hfin
    · split at h
      · rename_i ok hnl
        obtain ⟨hdst, hF⟩ := h
        have hnd : ∀ c, o.op ≠ .defer c := fun c e => by rw [e] at hnl; simp [nilCmp] at hnl
        rw [Oper.semAt_eq _ _ _ hnd]
        obtain ⟨b, hrun, hb⟩ := nilCmp_ok hT hρ o hnl
        rw [hrun, Oper.uponIn_value]
        exact hnext (s.put o.dst (.v (.bool b)) s.m) g (a.put o.dst (.bool b)) w (hs.put hs.mr hs.dl (GX.refl _ _) (by simp only [RV]) hdst) (by rw [st_put_m]; exact EX.refl _ _ _ _) (by rw [st_put_m]; exact Nat.le_refl _)
          (fun k hk => .inl hk) (put_defers _ _ _) (st_put_n _ _ _ _) (hF b hb) ⟨_, _, _, rfl, by simp only [RV], rfl⟩
      · exact h.elim
theorem gval_ok {g : Gh} {w : World} {ops : Array Oper} {env : List (Nat × PV)} {a : Act} (h : EnvOK g w env a) {j : Nat} {b : Option Bool} (hg : gval ops.toList env j = some b) : yielded ops a.tmps j = b := by
  unfold gval at hg
  unfold yielded
  rw [Array.getElem?_toList] at hg
  split at hg
  · cases hg
  · rename_i d hd
    rw [hd]
    have hk := h d
    split at hg
    · rename_i b' hb
      rw [hb] at hk
      simp only [RV] at hk
      simp only [Option.some.injEq] at hg
      subst hg
      have hd2 : a.tmps[d]? = some (.bool b') := by
        rw [Array.getD_eq_getD_getElem?] at hk
        cases ht : a.tmps[d]? with
        | none => rw [ht] at hk; simp [undef] at hk
        | some v => rw [ht] at hk; simpa using hk
      simp [hd2]
    · rename_i cs hb
      rw [hb] at hk
      simp only [RV] at hk
      simp only [Option.some.injEq] at hg
      subst hg
      rw [Array.getD_eq_getD_getElem?] at hk
      cases ht : a.tmps[d]? with
      | none => simp [ht]
      | some v => rw [ht] at hk; simp only [Option.getD_some] at hk; subst hk; simp [ht]
    · cases hg
theorem pops_ok (hT : TOK T P) {ops : Array Oper} {nb0 : Nat} {K : St → Prop} {r : Option Nat} {n : Nat} {Q : Exit → Act → World → Prop} :
    ∀ (l : List Oper) (i : Nat) (s : St) (g : Gh) (a : Act) (w : World), YOK T P Y cx g w → ops.toList.drop i = l → RS T cx g s a w → (∀ k, g.dom k → k < nb0 + i ∨ nb0 + ops.size ≤ k) → nb0 + ops.size ≤ s.m.nb →
      pops T P Y ops.toList nb0 K i l s →
      (∀ s' g' a' w', RS T cx g' s' a' w' → EX cx g s.m w g' s'.m w' → s.m.nb ≤ s'.m.nb → (∀ k, g'.dom k → g.dom k ∨ nb0 ≤ k) → a'.defers = a.defers → s'.n = s.n → K s' → Q .normal a' w') →
      wpOpsIn (FW r) n P ops Q (List.range' i l.length) a w
  | [], i, s, g, a, w, _, _, hs, _, _, h, hq => by
    simp only [List.length_nil, List.range'_zero, wpOpsIn]
    exact hq s g a w hs (EX.refl _ _ _ _) (Nat.le_refl _) (fun _ h => .inl h) rfl rfl h
  | o :: l, i, s, g, a, w, hy, hl, hs, hdom, hnb, h, hq => by
    have hoi : ops[i]? = some o := by
      have := congrArg (fun l => l[0]?) hl
      simpa using this
    have hlt : i < ops.size := (Array.getElem?_eq_some_iff.1 hoi).1
    have hl' : ops.toList.drop (i + 1) = l := by
      rw [← List.drop_drop, hl]; rfl
    have hnm : ¬ g.dom (nb0 + i) := fun hd => by rcases hdom _ hd with h1 | h1 <;> omega
    simp only [List.length_cons, List.range'_succ, wpOpsIn, hoi]
    simp only [pops] at h
    have run : pop1 T P Y (pops T P Y ops.toList nb0 K (i + 1) l) (nb0 + i) o s → o.wpIn (FW r) n P a w (wpOpsIn (FW r) n P ops Q (List.range' (i + 1) l.length)) Q := fun h1 =>
      pop1_ok hT hy hs hnm (by omega) h1 fun s' g' a' w' hs' hex hnb' hdn hdf hn' hF _ =>
        pops_ok hT l (i + 1) s' g' a' w' (hy.gx hex.gx) hl' hs'
          (fun k hk => by rcases hdn k hk with h1 | h1 | h1
                          · rcases hdom k h1 with h2 | h2
                            · exact .inl (by omega)
                            · exact .inr h2
                          · exact .inl (by omega)
                          · exact .inr (by omega))
          (by omega) hF
          (fun s2 g2 a2 w2 hs2 hex2 hnb2 hdn2 hdf2 hn2 hK => hq s2 g2 a2 w2 hs2 (hex.trans hex2) (by omega)
            (fun k hk => by rcases hdn2 k hk with h1 | h1
                            · rcases hdn k h1 with h2 | h2 | h2
                              · exact .inl h2
                              · exact .inr (by omega)
                              · exact .inr (by omega)
                            · exact .inr h1) (hdf2.trans hdf) (hn2.trans hn') hK)
    cases hg : o.guard with
    | none =>
      rw [hg] at h
      simp only [Region.wanted, hg, if_true]
      exact run h
    | some jw =>
      obtain ⟨j, want⟩ := jw
      rw [hg] at h
      simp only at h
      cases hgv : gval ops.toList s.env j with
      | none => rw [hgv] at h; exact h.elim
      | some b =>
        rw [hgv] at h
        simp only at h
        have hyv := gval_ok hs.env hgv
        by_cases hb : b = some want
        · rw [if_pos hb] at h
          have : Region.wanted o (yielded ops a.tmps) = true := by simp [Region.wanted, hg, hyv, hb]
          rw [if_pos this]
          exact run h
        · rw [if_neg hb] at h
          obtain ⟨hdst, h⟩ := h
          have : ¬ Region.wanted o (yielded ops a.tmps) = true := by simp [Region.wanted, hg, hyv, hb]
          rw [if_neg this]
          refine ⟨fun _ _ => trivial, ?_⟩
          have hs' : RS T cx g (s.put o.dst (.v (.tuple #[])) s.m) (a.put o.dst undef) w := hs.put hs.mr hs.dl (GX.refl _ _) (by simp only [RV, undef]) hdst
          exact pops_ok hT l (i + 1) _ g _ w hy hl' hs' (fun k hk => (hdom k hk).imp (by omega) id) (by rw [st_put_m]; exact hnb) h
            (fun s2 g2 a2 w2 hs2 hex2 hnb2 hdn2 hdf2 hn2 hK => hq s2 g2 a2 w2 hs2 (by rw [st_put_m] at hex2; exact hex2) (by rw [st_put_m] at hnb2; exact hnb2) hdn2 (hdf2.trans (put_defers _ _ _)) (hn2.trans (st_put_n _ _ _ _)) hK)
end
end Go.Proofs.Ytcbhmedknbiffaa
