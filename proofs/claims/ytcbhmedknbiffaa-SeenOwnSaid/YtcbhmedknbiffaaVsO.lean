/-
  The layer VS: code.
-/
import Derived.Test.YtcbhmedknbiffaaVsN
namespace Go.Proofs.Ytcbhmedknbiffaa
open Go Go.RowKit
def dmark (D : Nat) : Deferred := { target := .collected D, args := #[] }
structure FR (T : Tab) (cx : Cx) (lo : Nat) (ds : List Nat) (g : Gh) (s : St) (a : Act) (w : World) : Prop where
  rs : RS T cx g s a w
  df : a.defers = ds.map dmark
  dx : ∀ D, D ∈ ds → (D, Obj.deferred (some [])) ∈ cx.fx ∧ lo ≤ D
  nd : ds.Nodup
  lo : lo ≤ w.heap.size
def Post (T : Tab) (cx : Cx) (lo : Nat) (g : Gh) (s : St) (w : World) (Q : Exit → St → Prop) (e : Exit) (a' : Act) (w' : World) : Prop :=
  ∃ (s' : St) (fx : List (Nat × Obj)) (ds : List Nat) (g' : Gh), (∀ x, x ∈ cx.fx → x ∈ fx) ∧ FR T ⟨fx, cx.yc⟩ lo ds g' s' a' w' ∧ EX cx g s.m w g' s'.m w' ∧ s.m.nb ≤ s'.m.nb ∧ (∀ k, g'.dom k → g.dom k ∨ s.m.nb ≤ k) ∧ s'.n = s.n ∧ Q e s'
theorem Post.mono {T cx lo g s w Q Q' e a' w'} (h : Post T cx lo g s w Q e a' w') (hq : ∀ s', Q e s' → Q' e s') : Post T cx lo g s w Q' e a' w' := by
  obtain ⟨s', fx, ds, g', h1, h2, h3, h4, h5, h6, h7⟩ := h
  exact ⟨s', fx, ds, g', h1, h2, h3, h4, h5, h6, hq s' h7⟩
theorem Post.then {T cx lo g s w fx g1 s1 w1 Q e a2 w2} (h1 : ∀ x, x ∈ cx.fx → x ∈ fx) (h3 : EX cx g s.m w g1 s1.m w1) (h4 : s.m.nb ≤ s1.m.nb) (h5 : ∀ k, g1.dom k → g.dom k ∨ s.m.nb ≤ k) (h6 : s1.n = s.n)
    (h : Post T ⟨fx, cx.yc⟩ lo g1 s1 w1 Q e a2 w2) : Post T cx lo g s w Q e a2 w2 := by
  obtain ⟨s', fx', ds, g', k1, k2, k3, k4, k5, k6, k7⟩ := h
  exact ⟨s', fx', ds, g', fun x hx => k1 x (h1 x hx), k2, h3.trans (k3.cx rfl), Nat.le_trans h4 k4, fun k hk => by
    rcases k5 k hk with h | h
    · exact h5 k h
    · exact .inr (Nat.le_trans h4 h), k6.trans h6, k7⟩
def PW (T : Tab) (P : Program) (Y : Nat → YS) (c : Code) (Q : Exit → St → Prop) (s : St) : Prop :=
  ∀ (r : Option Nat) (n : Nat) (cx : Cx) (lo : Nat) (ds : List Nat) (g : Gh) (a : Act) (w : World), (∀ l, r = some l → ∃ rec, (l, Obj.loop rec) ∈ cx.fx) → YOK T P Y cx g w → FR T cx lo ds g s a w →
    c.wpIn (FW r) n P (Post T cx lo g s w Q) a w
def seqK (F : St → Prop) (Q : Exit → St → Prop) : Exit → St → Prop
  | .normal, s => F s
  | e, s => Q e s
def blockK (id : Nat) (Q : Exit → St → Prop) : Exit → St → Prop
  | .exit id', s => if id' = id then Q .normal s else Q (.exit id') s
  | e, s => Q e s
def St.reserve (s : St) (k : Nat) : St := ⟨s.n, s.env, ⟨s.m.nb + k, s.m.bx, s.m.ys⟩⟩
section
variable {T : Tab} {P : Program} {Y : Nat → YS}
theorem FR.post {cx lo ds g s a w} (h : FR T cx lo ds g s a w) {Q : Exit → St → Prop} {e : Exit} (hq : Q e s) : Post T cx lo g s w Q e a w :=
  ⟨s, cx.fx, ds, g, fun _ h => h, h, EX.refl _ _ _ _, Nat.le_refl _, fun _ h => .inl h, rfl, hq⟩
theorem FR.fx_keep {cx lo ds g s a w g' s' a' w'} (h : FR T cx lo ds g s a w) (hs : RS T cx g' s' a' w') (he : EX cx g s.m w g' s'.m w') (hd : a'.defers = a.defers) : FR T cx lo ds g' s' a' w' :=
  ⟨hs, hd.trans h.df, h.dx, h.nd, Nat.le_trans h.lo he.size⟩
theorem RS.reserve {cx g s a w} (h : RS T cx g s a w) (k : Nat) : RS T cx g (s.reserve k) a w :=
  ⟨⟨h.mr.pin, h.mr.base, h.mr.box, h.mr.np, h.mr.inj, h.mr.fresh, h.mr.fix, h.mr.ys, h.mr.glob⟩, fun j hj => Nat.lt_of_lt_of_le (h.dl j hj) (Nat.le_add_right _ _), h.env, h.sz⟩
theorem EX.nb {cx g m w g' m' w'} (h : EX cx g m w g' m' w') {nb nb' : Nat} {ys ys' : Option Code} : EX cx g ⟨nb, m.bx, ys⟩ w g' ⟨nb', m'.bx, ys'⟩ w' :=
  ⟨h.gx, h.size, h.os, h.tape, h.output, h.same, h.pn, h.bn⟩
theorem PW.mono {c : Code} {Q Q' : Exit → St → Prop} {s : St} (h : PW T P Y c Q s) (hq : ∀ e s', Q e s' → Q' e s') : PW T P Y c Q' s :=
  fun r n cx lo ds g a w hr hy hf => wpIn_mono (h r n cx lo ds g a w hr hy hf) fun e _ _ hp => hp.mono (hq e)
theorem wpIn_loopG {σ : Type} {F : Fence} {n : Nat} {c : Code} {Q : Exit → Act → World → Prop} {a : Act} {w : World} (I : σ → Act → World → Prop) (μ : σ → Nat) {x : σ} (h₀ : I x a w)
    (round : ∀ x a w, I x a w → c.wpIn F n P (Exit.then (fun a' w' => ∃ x', I x' a' w' ∧ μ x' < μ x) Q) a w) : (Code.loop c).wpIn F n P Q a w := by
  intro b k cs hro hb hr
  have key : ∀ j x a w, μ x = j → I x a w →
      ∃ e a' w', Q e a' w' ∧ ArrivesIn (Machine.fenced P F) P (lone (b.atR a (.code c :: .inLoop c :: k)) cs w) b k cs e a' w' := by
    intro j
    induction j using Nat.strongRecOn with
    | _ j ih =>
      intro x a w hn hI
      obtain ⟨e, a₁, w₁, hq, harr⟩ := round x a w hI b (.inLoop c :: k) cs hro hb hr
      cases e with
      | normal =>
        obtain ⟨x', hI₁, hlt⟩ := hq
        obtain ⟨e₂, a₂, w₂, hq₂, harr₂⟩ := ih (μ x') (hn ▸ hlt) x' a₁ w₁ rfl hI₁
        exact ⟨e₂, a₂, w₂, hq₂, .of_steps (StepsIn.trans harr (.one (fenced_calm hb hr rfl) stepR_inLoop)) harr₂⟩
      | exit id => exact ⟨_, a₁, w₁, hq, .pass (x := .inLoop c) rfl (fun _ _ => .inl (by simp)) harr⟩
      | goto l => exact ⟨_, a₁, w₁, hq, .pass (x := .inLoop c) rfl (fun _ _ => .inl (by simp)) harr⟩
      | ret => exact ⟨_, a₁, w₁, hq, .pass (x := .inLoop c) rfl (fun _ _ => .inl (by simp)) harr⟩
      | panic ch => exact ⟨_, a₁, w₁, hq, .pass (x := .inLoop c) rfl (fun _ _ => .inl (by simp)) harr⟩
      | outgrown => exact ⟨_, a₁, w₁, hq, .pass (x := .inLoop c) rfl (fun _ _ => .inl (by simp)) harr⟩
  obtain ⟨e, a', w', hq, harr⟩ := key _ x a w rfl h₀
  exact ⟨e, a', w', hq, .of_steps (.one (fenced_calm hb hr rfl) stepR_loop) harr⟩
theorem stepR_scope {P : Program} {b : Frame} {a : Act} {k : List Item} {cs : List Frame} {w : World} {c : Code} :
    step P (lone (b.atR a (.code (.scope c) :: k)) cs w) = .next (lone (b.atR a (.code c :: .inScope c :: k)) cs w) :=
  step_lone_go (by simp [stepG, stepG.exec, Frame.atR])
theorem stepR_inScope {P : Program} {b : Frame} {a : Act} {k : List Item} {cs : List Frame} {w : World} {c : Code} :
    step P (lone (b.atR a (.inScope c :: k)) cs w) = .next (lone (b.atR a k) cs w) :=
  step_lone_go (by simp [stepG, stepG.exec, Frame.atR])
theorem wpIn_scopeG {σ : Type} {F : Fence} {n : Nat} {c : Code} {Q : Exit → Act → World → Prop} {a : Act} {w : World} (J : Nat → σ → Act → World → Prop) (μ : Nat → σ → Nat)
    (first : c.wpIn F n P (fun e a w => match e with | .goto l => (findLabel c l).isSome = true ∧ ∃ x, J l x a w | e => Q e a w) a w)
    (pass : ∀ l rest x a w, findLabel c l = some rest → J l x a w → rest.wpIn F n P (fun e a' w' => match e with | .goto l' => (findLabel c l').isSome = true ∧ ∃ x', J l' x' a' w' ∧ μ l' x' < μ l x | e => Q e a' w') a w) :
    (Code.scope c).wpIn F n P Q a w := by
  intro b k cs hro hb hr
  have hx : ∀ id, exitTo id (.inScope c :: k) = exitTo id k := fun id => by simp [exitTo]
  have fin : ∀ (e : Exit) (a1 : Act) (w1 : World) (m : Machine), (∀ l, e ≠ .goto l) → Q e a1 w1 → ArrivesIn (Machine.fenced P F) P m b (.inScope c :: k) cs e a1 w1 → ∃ e a' w', Q e a' w' ∧ ArrivesIn (Machine.fenced P F) P m b k cs e a' w' := by
    intro e a1 w1 m hne hq harr
    cases e with
    | normal => exact ⟨.normal, a1, w1, hq, StepsIn.trans harr (.one (fenced_calm (fr := b.atR a1 (.inScope c :: k)) hb hr rfl) stepR_inScope)⟩
    | exit id => exact ⟨.exit id, a1, w1, hq, fun k' hk => harr.1 k' (by rw [hx]; exact hk), fun h1 h2 => harr.2 h1 (by rw [hx]; exact h2)⟩
    | goto l => exact absurd rfl (hne l)
    | ret => exact ⟨_, a1, w1, hq, harr⟩
    | panic ch => exact ⟨_, a1, w1, hq, harr⟩
    | outgrown => exact ⟨_, a1, w1, hq, harr⟩
  have hgo : ∀ l rest, findLabel c l = some rest → gotoIn l (.inScope c :: k) = some (.code rest :: .inScope c :: k) := fun l rest h => by simp [gotoIn, h]
  have key : ∀ j l rest x a w, μ l x = j → findLabel c l = some rest → J l x a w → ∃ e a' w', Q e a' w' ∧ ArrivesIn (Machine.fenced P F) P (lone (b.atR a (.code rest :: .inScope c :: k)) cs w) b k cs e a' w' := by
    intro j
    induction j using Nat.strongRecOn with
    | _ j ih =>
      intro l rest x a w hn hfl hJ
      obtain ⟨e, a₁, w₁, hq, harr⟩ := pass l rest x a w hfl hJ b (.inScope c :: k) cs hro hb hr
      cases e with
      | goto l' =>
        obtain ⟨hs, x', hJ', hlt⟩ := hq
        obtain ⟨rest', hr'⟩ := Option.isSome_iff_exists.1 hs
        obtain ⟨e₂, a₂, w₂, hq₂, harr₂⟩ := ih _ (hn ▸ hlt) l' rest' x' a₁ w₁ rfl hr' hJ'
        exact ⟨e₂, a₂, w₂, hq₂, .of_steps (harr.1 _ (hgo l' rest' hr')) harr₂⟩
      | normal => exact fin _ _ _ _ (by simp) hq harr
      | exit id => exact fin _ _ _ _ (by simp) hq harr
      | ret => exact fin _ _ _ _ (by simp) hq harr
      | panic ch => exact fin _ _ _ _ (by simp) hq harr
      | outgrown => exact fin _ _ _ _ (by simp) hq harr
  have h0 : (lone (b.atR a (.code (.scope c) :: k)) cs w).fenced P F := fenced_calm hb hr rfl
  obtain ⟨e, a₁, w₁, hq, harr⟩ := first b (.inScope c :: k) cs hro hb hr
  have back : (∃ e a' w', Q e a' w' ∧ ArrivesIn (Machine.fenced P F) P (lone (b.atR a (.code c :: .inScope c :: k)) cs w) b k cs e a' w') → ∃ e a' w', Q e a' w' ∧ ArrivesIn (Machine.fenced P F) P (lone (b.atR a (.code (.scope c) :: k)) cs w) b k cs e a' w' := by
    rintro ⟨e, a', w', h1, h2⟩; exact ⟨e, a', w', h1, .of_steps (.one h0 stepR_scope) h2⟩
  refine back ?_
  cases e with
  | goto l' =>
    obtain ⟨hs, x', hJ'⟩ := hq
    obtain ⟨rest', hr'⟩ := Option.isSome_iff_exists.1 hs
    obtain ⟨e₂, a₂, w₂, hq₂, harr₂⟩ := key _ l' rest' x' a₁ w₁ rfl hr' hJ'
    exact ⟨e₂, a₂, w₂, hq₂, .of_steps (harr.1 _ (hgo l' rest' hr')) harr₂⟩
  | normal => exact fin _ _ _ _ (by simp) hq harr
  | exit id => exact fin _ _ _ _ (by simp) hq harr
  | ret => exact fin _ _ _ _ (by simp) hq harr
  | panic ch => exact fin _ _ _ _ (by simp) hq harr
  | outgrown => exact fin _ _ _ _ (by simp) hq harr
end
end Go.Proofs.Ytcbhmedknbiffaa
