/-
  The layer VS: code.
-/
import Derived.Test.YtlcbbjcehaahlaaVsN
namespace Go.Proofs.Ytlcbbjcehaahlaa
open Go Go.RowKit

def dmark (D : Nat) : Deferred := { target := .collected D, args := #[] }

/-- A frame as the pure state has it: its slots, the world, the marks among its deferred calls. -/
structure FR (T : Tab) (cx : Cx) (lo : Nat) (ds : List Nat) (g : Gh) (s : St) (a : Act) (w : World) : Prop where
  rs : RS T cx g s a w
  df : a.defers = ds.map dmark
  dx : ∀ D, D ∈ ds → (D, Obj.deferred (some [])) ∈ cx.fx ∧ lo ≤ D
  nd : ds.Nodup
  lo : lo ≤ w.heap.size

/-- What a piece of code leaves. -/
def Post (T : Tab) (cx : Cx) (lo : Nat) (g : Gh) (s : St) (w : World) (Q : Exit → St → Prop) (e : Exit) (a' : Act) (w' : World) : Prop :=
  ∃ (s' : St) (fx : List (Nat × Obj)) (ds : List Nat) (g' : Gh), (∀ x, x ∈ cx.fx → x ∈ fx) ∧ FR T ⟨fx, cx.yc⟩ lo ds g' s' a' w' ∧ EX cx g s.m w g' s'.m w' ∧ s.m.nb ≤ s'.m.nb ∧ (∀ k, g'.dom k → g.dom k ∨ s.m.nb ≤ k) ∧ s'.n = s.n ∧ Q e s'

theorem Post.mono {T cx lo g s w Q Q' e a' w'} (h : Post T cx lo g s w Q e a' w') (hq : ∀ s', Q e s' → Q' e s') : Post T cx lo g s w Q' e a' w' := by
  obtain ⟨s', fx, ds, g', h1, h2, h3, h4, h5, h6, h7⟩ := h
  exact ⟨s', fx, ds, g', h1, h2, h3, h4, h5, h6, hq s' h7⟩

theorem Post.then {T cx lo g s w fx g1 s1 w1 Q e a2 w2} (h1 : ∀ x, x ∈ cx.fx → x ∈ fx) (h3 : EX cx g s.m w g1 s1.m w1) (h4 : s.m.nb ≤ s1.m.nb) (h5 : ∀ k, g1.dom k → g.dom k ∨ s.m.nb ≤ k) (h6 : s1.n = s.n)
    (h : Post T ⟨fx, cx.yc⟩ lo g1 s1 w1 Q e a2 w2) : Post T cx lo g s w Q e a2 w2 := by
  obtain ⟨s', fx', ds, g', k1, k2, k3, k4, k5, k6, k7⟩ := h
  exact ⟨s', fx', ds, g', fun x hx => k1 x (h1 x hx), k2, h3.trans (k3.cx rfl), Nat.le_trans h4 k4, fun k hk => by
    rcases k5 k hk with h | h
    · exact h5 k h
    · exact .inr (Nat.le_trans h4 h), k6.trans h6, k7⟩

/-- Code, said of pure states. -/
def PW (T : Tab) (P : Program) (Y : Nat → YS) (c : Code) (Q : Exit → St → Prop) (s : St) : Prop :=
  ∀ (r : Option Nat) (n : Nat) (cx : Cx) (lo : Nat) (ds : List Nat) (g : Gh) (a : Act) (w : World), (∀ l, r = some l → ∃ rec, (l, Obj.loop rec) ∈ cx.fx) → YOK T P Y cx g w → FR T cx lo ds g s a w →
    c.wpIn (FW r) n P (Post T cx lo g s w Q) a w

/-! ### The pure walk of code -/

def seqK (F : St → Prop) (Q : Exit → St → Prop) : Exit → St → Prop
  | .normal, s => F s
  | e, s => Q e s

def blockK (id : Nat) (Q : Exit → St → Prop) : Exit → St → Prop
  | .exit id', s => if id' = id then Q .normal s else Q (.exit id') s
  | e, s => Q e s

def regK (kp : List Nat) (Q : Exit → St → Prop) (s : St) : Prop := Q .normal (s.clean kp)

def condK (t : Bool) (X Y : St → Prop) (s : St) : Prop := (t = true → X s) ∧ (t = false → Y s)

def pcond (c : PV) (X Y : St → Prop) (s : St) : Prop :=
  match c with
  | .v (.bool t) => condK t X Y s
  | _ => False

def St.reserve (s : St) (k : Nat) : St := ⟨s.n, s.env, ⟨s.m.nb + k, s.m.bx, s.m.ys⟩⟩

def pwp (T : Tab) (P : Program) (Y : Nat → YS) (kp : List Nat) : Code → (Exit → St → Prop) → St → Prop
  | .skip, Q, s => Q .normal s
  | .label _, Q, s => Q .normal s
  | .region id ops draw, Q, s => match draw with
    | false => pops T P Y ops.toList s.m.nb (regK kp Q) 0 ops.toList (s.reserve ops.toList.length)
    | true => PW T P Y (.region id ops true) (seqK (regK kp Q) Q) s
  | .seq a b, Q, s => pwp T P Y kp a (seqK (pwp T P Y kp b Q) Q) s
  | .cond c x y, Q, s => pcond (peval T s.env c) (pwp T P Y kp x Q) (pwp T P Y kp y Q) s
  | .block id b, Q, s => pwp T P Y kp b (blockK id Q) s
  | .exit id, Q, s => Q (.exit id) s
  | .goto l, Q, s => Q (.goto l) s
  | .ret, Q, s => Q .ret s
  | .loop b, Q, s => PW T P Y (.loop b) Q s
  | .rangeFunc g ps assign body, Q, s => PW T P Y (.rangeFunc g ps assign body) Q s
  | .scope b, Q, s => PW T P Y (.scope b) Q s
  | .refuse _, _, _ => False

/-! ### It is sound -/

section
variable {T : Tab} {P : Program} {Y : Nat → YS}

theorem keepEnv_ok {g : Gh} {w : World} {env : List (Nat × PV)} {a : Act} (h : EnvOK g w env a) (kp : List Nat) : EnvOK g w (keepEnv env kp) a := by
  intro k
  have key : ∀ l : List Nat, lk (keepEnv env l) k = .any ∨ lk (keepEnv env l) k = lk env k := by
    intro l
    induction l with
    | nil => exact .inl rfl
    | cons j l ih =>
      simp only [keepEnv, lk]
      by_cases e : j = k
      · subst e; right; simp
      · have : (j == k) = false := by simpa using e
        rw [this]; exact ih
  rcases key kp with e | e
  · rw [e]; simp only [RV]
  · rw [e]; exact h k

theorem FR.post {cx lo ds g s a w} (h : FR T cx lo ds g s a w) {Q : Exit → St → Prop} {e : Exit} (hq : Q e s) : Post T cx lo g s w Q e a w :=
  ⟨s, cx.fx, ds, g, fun _ h => h, h, EX.refl _ _ _ _, Nat.le_refl _, fun _ h => .inl h, rfl, hq⟩

theorem FR.fx_keep {cx lo ds g s a w g' s' a' w'} (h : FR T cx lo ds g s a w) (hs : RS T cx g' s' a' w') (he : EX cx g s.m w g' s'.m w') (hd : a'.defers = a.defers) : FR T cx lo ds g' s' a' w' :=
  ⟨hs, hd.trans h.df, h.dx, h.nd, Nat.le_trans h.lo he.size⟩

theorem RS.clean {cx g s a w} (h : RS T cx g s a w) (kp : List Nat) : RS T cx g (s.clean kp) a w := ⟨h.mr, h.dl, keepEnv_ok h.env kp, h.sz⟩

theorem RS.reserve {cx g s a w} (h : RS T cx g s a w) (k : Nat) : RS T cx g (s.reserve k) a w :=
  ⟨⟨h.mr.pin, h.mr.base, h.mr.box, h.mr.np, h.mr.inj, h.mr.fresh, h.mr.fix, h.mr.ys, h.mr.glob⟩, fun j hj => Nat.lt_of_lt_of_le (h.dl j hj) (Nat.le_add_right _ _), h.env, h.sz⟩

theorem EX.nb {cx g m w g' m' w'} (h : EX cx g m w g' m' w') {nb nb' : Nat} {ys ys' : Option Code} : EX cx g ⟨nb, m.bx, ys⟩ w g' ⟨nb', m'.bx, ys'⟩ w' :=
  ⟨h.gx, h.size, h.os, h.tape, h.output, h.same, h.pn, h.bn⟩

theorem region_ok (hT : TOK T P) {id : Nat} {ops : Array Oper} {kp : List Nat} {Q : Exit → St → Prop} {s : St}
    (h : pops T P Y ops.toList s.m.nb (regK kp Q) 0 ops.toList (s.reserve ops.toList.length)) : PW T P Y (.region id ops false) Q s := by
  intro r n cx lo ds g a w hr hy hf
  refine wpIn_region ?_
  have := pops_ok hT (ops := ops) (nb0 := s.m.nb) (K := regK kp Q) (r := r) (n := n) (Q := Post T cx lo g s w Q) ops.toList 0 (s.reserve ops.toList.length) g a w hy rfl (hf.rs.reserve _)
    (fun k hk => .inl (by have := hf.rs.dl k hk; omega)) (by simp [St.reserve]) h
    (fun s' g' a' w' hs' hex hnb hdn hdf hn hK => by
      have hex' : EX cx g s.m w g' s'.m w' := hex.nb (nb := s.m.nb) (nb' := s'.m.nb) (ys := s.m.ys) (ys' := s'.m.ys)
      exact ⟨s'.clean kp, cx.fx, ds, g', fun _ h => h, hf.fx_keep (hs'.clean kp) hex' hdf, hex', by simp [St.reserve] at hnb; show s.m.nb ≤ s'.m.nb; omega, hdn, hn, hK⟩)
  rw [List.range_eq_range']
  simpa using this

theorem PW.mono {c : Code} {Q Q' : Exit → St → Prop} {s : St} (h : PW T P Y c Q s) (hq : ∀ e s', Q e s' → Q' e s') : PW T P Y c Q' s :=
  fun r n cx lo ds g a w hr hy hf => wpIn_mono (h r n cx lo ds g a w hr hy hf) fun e _ _ hp => hp.mono (hq e)

theorem pwp_ok (hT : TOK T P) (kp : List Nat) : ∀ (c : Code) (Q : Exit → St → Prop) (s : St), pwp T P Y kp c Q s → PW T P Y c Q s
  | .skip, Q, s, h => fun r n cx lo ds g a w hr hy hf => wpIn_skip (hf.post h)
  | .label _, Q, s, h => fun r n cx lo ds g a w hr hy hf => wpIn_label (hf.post h)
  | .region id ops false, Q, s, h => region_ok hT h
  | .region id ops true, Q, s, h => by
    intro r n cx lo ds g a w hr hy hf
    refine wpIn_mono (h r n cx lo ds g a w hr hy hf) fun e a' w' hp => ?_
    obtain ⟨s', fx, ds', g', k1, k2, k3, k4, k5, k6, k7⟩ := hp
    cases e with
    | normal => exact ⟨s'.clean kp, fx, ds', g', k1, ⟨k2.rs.clean kp, k2.df, k2.dx, k2.nd, k2.lo⟩, k3, k4, k5, k6, k7⟩
    | _ => exact ⟨s', fx, ds', g', k1, k2, k3, k4, k5, k6, k7⟩
  | .seq x y, Q, s, h => fun r n cx lo ds g a w hr hy hf => by
    refine wpIn_seq (wpIn_mono (pwp_ok hT kp x _ s h r n cx lo ds g a w hr hy hf) fun e a' w' hp => ?_)
    cases e with
    | normal =>
      obtain ⟨s', fx, ds', g', k1, k2, k3, k4, k5, k6, k7⟩ := hp
      refine wpIn_mono (pwp_ok hT kp y Q s' k7 r n ⟨fx, cx.yc⟩ lo ds' g' a' w' (fun l hl => ?_) ((hy.gx k3.gx).more k1) k2) fun e a2 w2 hp2 => hp2.then k1 k3 k4 k5 k6
      obtain ⟨rec, hrec⟩ := hr l hl
      exact ⟨rec, k1 _ hrec⟩
    | _ => exact hp
  | .cond c x y, Q, s, h => fun r n cx lo ds g a w hr hy hf => by
    have hc := peval_ok hf.rs.mr hf.rs.env c
    simp only [pwp, pcond] at h
    split at h
    · rename_i t ht
      rw [ht] at hc
      simp only [RV] at hc
      refine wpIn_cond hc ?_
      cases t with
      | true => exact pwp_ok hT kp x Q s (h.1 rfl) r n cx lo ds g a w hr hy hf
      | false => exact pwp_ok hT kp y Q s (h.2 rfl) r n cx lo ds g a w hr hy hf
    · exact h.elim
  | .block id b, Q, s, h => fun r n cx lo ds g a w hr hy hf => by
    refine wpIn_block (wpIn_mono (pwp_ok hT kp b _ s h r n cx lo ds g a w hr hy hf) fun e a' w' hp => ?_)
    cases e with
    | exit id' =>
      obtain ⟨s', fx, ds', g', k1, k2, k3, k4, k5, k6, k7⟩ := hp
      simp only [Exit.inBlock]
      simp only [blockK] at k7
      split
      · rename_i e; rw [if_pos e] at k7; exact ⟨s', fx, ds', g', k1, k2, k3, k4, k5, k6, k7⟩
      · rename_i e; rw [if_neg e] at k7; exact ⟨s', fx, ds', g', k1, k2, k3, k4, k5, k6, k7⟩
    | _ => exact hp
  | .exit id, Q, s, h => fun r n cx lo ds g a w hr hy hf => wpIn_exit (hf.post h)
  | .goto l, Q, s, h => fun r n cx lo ds g a w hr hy hf => wpIn_goto (hf.post h)
  | .ret, Q, s, h => fun r n cx lo ds g a w hr hy hf => wpIn_ret (hf.post h)
  | .loop b, Q, s, h => h
  | .rangeFunc g ps assign body, Q, s, h => h
  | .scope b, Q, s, h => h
  | .refuse _, Q, s, h => h.elim

/-! ### Loops -/

/-- The kit's law on loops, where the measure is read off a ghost. -/
theorem wpIn_loopG {σ : Type} {F : Fence} {n : Nat} {c : Code} {Q : Exit → Act → World → Prop} {a : Act} {w : World} (I : σ → Act → World → Prop) (μ : σ → Nat) {x : σ} (h₀ : I x a w)
    (round : ∀ x a w, I x a w → c.wpIn F n P (Exit.then (fun a' w' => ∃ x', I x' a' w' ∧ μ x' < μ x) Q) a w) : (Code.loop c).wpIn F n P Q a w := by
  intro b k cs hro hb hr
  have key : ∀ j x a w, μ x = j → I x a w →
      ∃ e a' w', Q e a' w' ∧ ArrivesIn (Machine.fenced P F) P (lone (b.atR a (.code c :: .inLoop c :: k)) cs w) b k cs e a' w' := by
    intro j
    induction j using Nat.strongRecOn with
    | _ j ih =>
      intro x a w hn hI
      obtain ⟨e, a₁, w₁, hq, harr⟩ := round x a w hI b (.inLoop c :: k) cs hro hb hr
      cases e with
      | normal =>
        obtain ⟨x', hI₁, hlt⟩ := hq
        obtain ⟨e₂, a₂, w₂, hq₂, harr₂⟩ := ih (μ x') (hn ▸ hlt) x' a₁ w₁ rfl hI₁
        exact ⟨e₂, a₂, w₂, hq₂, .of_steps (StepsIn.trans harr (.one (fenced_calm hb hr rfl) stepR_inLoop)) harr₂⟩
      | exit id => exact ⟨_, a₁, w₁, hq, .pass (x := .inLoop c) rfl (fun _ _ => .inl (by simp)) harr⟩
      | goto l => exact ⟨_, a₁, w₁, hq, .pass (x := .inLoop c) rfl (fun _ _ => .inl (by simp)) harr⟩
      | ret => exact ⟨_, a₁, w₁, hq, .pass (x := .inLoop c) rfl (fun _ _ => .inl (by simp)) harr⟩
      | panic ch => exact ⟨_, a₁, w₁, hq, .pass (x := .inLoop c) rfl (fun _ _ => .inl (by simp)) harr⟩
      | outgrown => exact ⟨_, a₁, w₁, hq, .pass (x := .inLoop c) rfl (fun _ _ => .inl (by simp)) harr⟩
  obtain ⟨e, a', w', hq, harr⟩ := key _ x a w rfl h₀
  exact ⟨e, a', w', hq, .of_steps (.one (fenced_calm hb hr rfl) stepR_loop) harr⟩

def loopK (I : St → Prop) (μ : St → Nat) (s0 : St) (Q : Exit → St → Prop) : Exit → St → Prop
  | .normal, s => I s ∧ μ s < μ s0
  | e, s => Q e s

theorem pwp_loop (hT : TOK T P) {kp : List Nat} {b : Code} {Q : Exit → St → Prop} {s : St} (I : St → Prop) (μ : St → Nat) (h0 : I s) (round : ∀ s', I s' → pwp T P Y kp b (loopK I μ s' Q) s') : PW T P Y (.loop b) Q s := by
  intro r n cx lo ds g a w hr hy hf
  refine wpIn_loopG (σ := St) (fun s' a' w' => Post T cx lo g s w (fun _ s'' => s'' = s' ∧ I s') .normal a' w') μ (x := s) (hf.post ⟨rfl, h0⟩) ?_
  rintro x a1 w1 ⟨s', fx, ds', g', k1, k2, k3, k4, k5, k6, rfl, hI⟩
  have := pwp_ok hT kp b _ s' (round s' hI) r n ⟨fx, cx.yc⟩ lo ds' g' a1 w1 (fun l hl => by obtain ⟨rec, hrec⟩ := hr l hl; exact ⟨rec, k1 _ hrec⟩) ((hy.gx k3.gx).more k1) k2
  refine wpIn_mono this fun e a2 w2 hp => ?_
  cases e with
  | normal =>
    obtain ⟨s2, fx2, ds2, g2, j1, j2, j3, j4, j5, j6, hI2, hlt⟩ := Post.then k1 k3 k4 k5 k6 hp
    exact ⟨s2, ⟨s2, fx2, ds2, g2, j1, j2, j3, j4, j5, j6, rfl, hI2⟩, hlt⟩
  | _ => exact Post.then k1 k3 k4 k5 k6 hp

/-! ### Labels -/

theorem stepR_scope {P : Program} {b : Frame} {a : Act} {k : List Item} {cs : List Frame} {w : World} {c : Code} :
    step P (lone (b.atR a (.code (.scope c) :: k)) cs w) = .next (lone (b.atR a (.code c :: .inScope c :: k)) cs w) :=
  step_lone_go (by simp [stepG, stepG.exec, Frame.atR])

theorem stepR_inScope {P : Program} {b : Frame} {a : Act} {k : List Item} {cs : List Frame} {w : World} {c : Code} :
    step P (lone (b.atR a (.inScope c :: k)) cs w) = .next (lone (b.atR a k) cs w) :=
  step_lone_go (by simp [stepG, stepG.exec, Frame.atR])

theorem wpIn_scopeG {σ : Type} {F : Fence} {n : Nat} {c : Code} {Q : Exit → Act → World → Prop} {a : Act} {w : World} (J : Nat → σ → Act → World → Prop) (μ : Nat → σ → Nat)
    (first : c.wpIn F n P (fun e a w => match e with | .goto l => (findLabel c l).isSome = true ∧ ∃ x, J l x a w | e => Q e a w) a w)
    (pass : ∀ l rest x a w, findLabel c l = some rest → J l x a w → rest.wpIn F n P (fun e a' w' => match e with | .goto l' => (findLabel c l').isSome = true ∧ ∃ x', J l' x' a' w' ∧ μ l' x' < μ l x | e => Q e a' w') a w) :
    (Code.scope c).wpIn F n P Q a w := by
  intro b k cs hro hb hr
  have hx : ∀ id, exitTo id (.inScope c :: k) = exitTo id k := fun id => by simp [exitTo]
  have fin : ∀ (e : Exit) (a1 : Act) (w1 : World) (m : Machine), (∀ l, e ≠ .goto l) → Q e a1 w1 → ArrivesIn (Machine.fenced P F) P m b (.inScope c :: k) cs e a1 w1 → ∃ e a' w', Q e a' w' ∧ ArrivesIn (Machine.fenced P F) P m b k cs e a' w' := by
    intro e a1 w1 m hne hq harr
    cases e with
    | normal => exact ⟨.normal, a1, w1, hq, StepsIn.trans harr (.one (fenced_calm (fr := b.atR a1 (.inScope c :: k)) hb hr rfl) stepR_inScope)⟩
    | exit id => exact ⟨.exit id, a1, w1, hq, fun k' hk => harr.1 k' (by rw [hx]; exact hk), fun h1 h2 => harr.2 h1 (by rw [hx]; exact h2)⟩
    | goto l => exact absurd rfl (hne l)
    | ret => exact ⟨_, a1, w1, hq, harr⟩
    | panic ch => exact ⟨_, a1, w1, hq, harr⟩
    | outgrown => exact ⟨_, a1, w1, hq, harr⟩
  have hgo : ∀ l rest, findLabel c l = some rest → gotoIn l (.inScope c :: k) = some (.code rest :: .inScope c :: k) := fun l rest h => by simp [gotoIn, h]
  have key : ∀ j l rest x a w, μ l x = j → findLabel c l = some rest → J l x a w → ∃ e a' w', Q e a' w' ∧ ArrivesIn (Machine.fenced P F) P (lone (b.atR a (.code rest :: .inScope c :: k)) cs w) b k cs e a' w' := by
    intro j
    induction j using Nat.strongRecOn with
    | _ j ih =>
      intro l rest x a w hn hfl hJ
      obtain ⟨e, a₁, w₁, hq, harr⟩ := pass l rest x a w hfl hJ b (.inScope c :: k) cs hro hb hr
      cases e with
      | goto l' =>
        obtain ⟨hs, x', hJ', hlt⟩ := hq
        obtain ⟨rest', hr'⟩ := Option.isSome_iff_exists.1 hs
        obtain ⟨e₂, a₂, w₂, hq₂, harr₂⟩ := ih _ (hn ▸ hlt) l' rest' x' a₁ w₁ rfl hr' hJ'
        exact ⟨e₂, a₂, w₂, hq₂, .of_steps (harr.1 _ (hgo l' rest' hr')) harr₂⟩
      | normal => exact fin _ _ _ _ (by simp) hq harr
      | exit id => exact fin _ _ _ _ (by simp) hq harr
      | ret => exact fin _ _ _ _ (by simp) hq harr
      | panic ch => exact fin _ _ _ _ (by simp) hq harr
      | outgrown => exact fin _ _ _ _ (by simp) hq harr
  have h0 : (lone (b.atR a (.code (.scope c) :: k)) cs w).fenced P F := fenced_calm hb hr rfl
  obtain ⟨e, a₁, w₁, hq, harr⟩ := first b (.inScope c :: k) cs hro hb hr
  have back : (∃ e a' w', Q e a' w' ∧ ArrivesIn (Machine.fenced P F) P (lone (b.atR a (.code c :: .inScope c :: k)) cs w) b k cs e a' w') → ∃ e a' w', Q e a' w' ∧ ArrivesIn (Machine.fenced P F) P (lone (b.atR a (.code (.scope c) :: k)) cs w) b k cs e a' w' := by
    rintro ⟨e, a', w', h1, h2⟩; exact ⟨e, a', w', h1, .of_steps (.one h0 stepR_scope) h2⟩
  refine back ?_
  cases e with
  | goto l' =>
    obtain ⟨hs, x', hJ'⟩ := hq
    obtain ⟨rest', hr'⟩ := Option.isSome_iff_exists.1 hs
    obtain ⟨e₂, a₂, w₂, hq₂, harr₂⟩ := key _ l' rest' x' a₁ w₁ rfl hr' hJ'
    exact ⟨e₂, a₂, w₂, hq₂, .of_steps (harr.1 _ (hgo l' rest' hr')) harr₂⟩
  | normal => exact fin _ _ _ _ (by simp) hq harr
  | exit id => exact fin _ _ _ _ (by simp) hq harr
  | ret => exact fin _ _ _ _ (by simp) hq harr
  | panic ch => exact fin _ _ _ _ (by simp) hq harr
  | outgrown => exact fin _ _ _ _ (by simp) hq harr

end
end Go.Proofs.Ytlcbbjcehaahlaa
