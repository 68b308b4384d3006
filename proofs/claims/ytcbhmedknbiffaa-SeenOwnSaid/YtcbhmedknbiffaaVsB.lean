/-
  The memory of the layer VS: boxes, what a world must be to bear them, what a step keeps.
-/
import Derived.Test.YtcbhmedknbiffaaVsA
import Derived.RangeFuncBox
namespace Go.Proofs.Ytcbhmedknbiffaa
open Go Go.RowKit
structure Mem where
  nb : Nat
  bx : Nat → Box
  ys : Option Code
abbrev Rec := LoopState → Option Code → Loop
structure Cx where
  fx : List (Nat × Obj)
  yc : Option (Nat × Rec)
inductive TK where
  | int (k : IntKind) | str | bool | slice (e : Nat) | arr (n e : Nat) | struct (fs : List (Nat × Nat)) | ptr (e : Nat) | map (k e : Nat) | func | other
  deriving Inhabited
structure TI where
  sz : Nat
  bytes : Nat
  kind : TK
  zero : List Value
instance : Inhabited TI := ⟨⟨0, 0, .other, []⟩⟩
structure Tab where
  ty : List TI
  glob : List (Nat × List Value)
def RC (g : Gh) (w : World) (sz : Nat) : List (List PV) → List Value → Prop
  | [], _ => True
  | e :: es, cs => e.length = sz ∧ ∃ c r, cs = c ++ r ∧ RL g w e c ∧ RC g w sz es r
def boxy : Obj → Bool
  | .cells .. => true
  | .map .. => true
  | _ => false
def BoxOK (g : Gh) (w : World) (G : GB) : Box → Prop
  | .mp kd es => G.off = 0 ∧ ∃ (ms : Array MapEntry) (ck : Nat), w.heap[G.b]? = some (.map ms ck) ∧ ms.toList.map (·.key) = es.map (fun e => Value.int kd e.1) ∧ RL g w (es.map (·.2)) (ms.toList.map (·.val))
  | .cells xs => G.off = 0 ∧ ∃ (cs : Array Value) (ty : Nat), w.heap[G.b]? = some (.cells cs ty (0, 0)) ∧ RL g w xs cs.toList
  | .row sz es => es.length ≤ G.cap ∧ G.cap ≤ maxLen ∧ (G.cap ≠ 0 → ∃ (cs : Array Value) (ty : Nat), w.heap[G.b]? = some (.cells cs ty (0, 0)) ∧ G.off + G.cap * sz ≤ cs.size ∧ RC g w sz es (cs.toList.drop G.off))
  | .dead => True
def Box.owns (cap : Nat) : Box → Bool
  | .cells _ => true
  | .row _ _ => cap != 0
  | .mp _ _ => true
  | .dead => false
def Owns (g : Gh) (m : Mem) (k : Nat) : Prop := g.dom k ∧ (m.bx k).owns (g.gb k).cap = true
def DL (g : Gh) (m : Mem) : Prop := ∀ k, g.dom k → k < m.nb
def GlobOK (T : Tab) (g : Gh) (w : World) : Prop := ∀ x, x ∈ T.glob → RM g w x.1 0 (x.2.map PV.v)
structure MR (T : Tab) (cx : Cx) (g : Gh) (m : Mem) (w : World) : Prop where
  pin : ∀ b o, g.p b o → b < w.heap.size
  base : g.base ≤ w.heap.size
  box : ∀ k, g.dom k → BoxOK g w (g.gb k) (m.bx k)
  np : ∀ k, Owns g m k → ∀ o, ¬ g.p (g.gb k).b o
  inj : ∀ k k', Owns g m k → Owns g m k' → (g.gb k).b = (g.gb k').b → k = k'
  fresh : ∀ k, Owns g m k → g.base ≤ (g.gb k).b
  fix : ∀ k o, (k, o) ∈ cx.fx → w.heap[k]? = some o ∧ boxy o = false ∧ (∀ l r, cx.yc = some (l, r) → k ≠ l)
  ys : ∀ l r, cx.yc = some (l, r) → w.heap[l]? = some (.loop (r (if m.ys.isNone then .ready else .done) m.ys))
  glob : GlobOK T g w
structure EX (cx : Cx) (g : Gh) (m : Mem) (w : World) (g' : Gh) (m' : Mem) (w' : World) : Prop where
  gx : GX g w g' w'
  size : w.heap.size ≤ w'.heap.size
  os : w'.os = w.os
  tape : w'.tape = w.tape
  output : w'.output = w.output
  same : ∀ k, k < w.heap.size → (∀ j, Owns g m j → (g.gb j).b ≠ k) → (∀ l r, cx.yc = some (l, r) → k ≠ l) → w'.heap[k]? = w.heap[k]?
  pn : ∀ b o, g'.p b o → g.p b o ∨ w.heap.size ≤ b ∨ ∃ j, Owns g m j ∧ (g.gb j).b = b
  bn : ∀ j, Owns g' m' j → w.heap.size ≤ (g'.gb j).b ∨ ∃ j0, Owns g m j0 ∧ (g.gb j0).b = (g'.gb j).b
theorem EX.refl (cx : Cx) (g : Gh) (m : Mem) (w : World) : EX cx g m w g m w :=
  ⟨GX.refl g w, Nat.le_refl _, rfl, rfl, rfl, fun _ _ _ _ => rfl, fun _ _ h => .inl h, fun j h => .inr ⟨j, h, rfl⟩⟩
theorem EX.trans {cx g m w g1 m1 w1 g2 m2 w2} (h : EX cx g m w g1 m1 w1) (k : EX cx g1 m1 w1 g2 m2 w2) : EX cx g m w g2 m2 w2 where
  gx := h.gx.trans k.gx
  size := Nat.le_trans h.size k.size
  os := k.os.trans h.os
  tape := k.tape.trans h.tape
  output := k.output.trans h.output
  same i hi ho hl := by
    refine (k.same i (Nat.lt_of_lt_of_le hi h.size) (fun j hj e => ?_) hl).trans (h.same i hi ho hl)
    rcases h.bn j hj with hb | ⟨j0, h0, e0⟩
    · omega
    · exact ho j0 h0 (e0.trans e)
  pn b o hp := by
    rcases k.pn b o hp with hp | hs | ⟨j, hj, e⟩
    · exact h.pn b o hp
    · exact .inr (.inl (Nat.le_trans h.size hs))
    · rcases h.bn j hj with hb | ⟨j0, h0, e0⟩
      · exact .inr (.inl (by omega))
      · exact .inr (.inr ⟨j0, h0, e0.trans e⟩)
  bn j hj := by
    rcases k.bn j hj with hb | ⟨j0, h0, e0⟩
    · exact .inl (Nat.le_trans h.size hb)
    · rcases h.bn j0 h0 with hb | ⟨j1, h1, e1⟩
      · exact .inl (by omega)
      · exact .inr ⟨j1, h1, e1.trans e0⟩
theorem EX.cx {cx cx' : Cx} {g m w g' m' w'} (h : EX cx g m w g' m' w') (e : cx'.yc = cx.yc) : EX cx' g m w g' m' w' :=
  ⟨h.gx, h.size, h.os, h.tape, h.output, fun k hk ho hl => h.same k hk ho (by rw [e] at hl; exact hl), h.pn, h.bn⟩
theorem RC.mono {g w g' w'} (h : GX g w g' w') : ∀ (es : List (List PV)) (sz : Nat) (cs : List Value), RC g w sz es cs → RC g' w' sz es cs
  | [], _, _, _ => by simp only [RC]
  | e :: es, sz, cs, hr => by
    simp only [RC] at hr ⊢
    obtain ⟨h1, c, r, h2, h3, h4⟩ := hr
    exact ⟨h1, c, r, h2, RL.mono h e c h3, RC.mono h es sz r h4⟩
theorem BoxOK.mono {g w g' w' G} {bx : Box} (h : GX g w g' w') (hs : bx.owns G.cap = true → w'.heap[G.b]? = w.heap[G.b]?) (hb : BoxOK g w G bx) : BoxOK g' w' G bx := by
  cases bx with
  | dead => trivial
  | mp kd es =>
    obtain ⟨h0, cs, ck, h1, h2, h3⟩ := hb
    exact ⟨h0, cs, ck, (hs rfl).trans h1, h2, RL.mono h _ _ h3⟩
  | cells xs =>
    obtain ⟨h0, cs, ty, h1, h2⟩ := hb
    exact ⟨h0, cs, ty, (hs rfl).trans h1, RL.mono h xs _ h2⟩
  | row sz es =>
    obtain ⟨h0, hm, h1⟩ := hb
    refine ⟨h0, hm, fun hc => ?_⟩
    obtain ⟨cs, ty, h2, h3, h4⟩ := h1 hc
    exact ⟨cs, ty, (hs (by simpa [Box.owns] using hc)).trans h2, h3, RC.mono h es sz _ h4⟩
theorem GlobOK.mono {T g w g' w'} (h : GX g w g' w') (hg : GlobOK T g w) : GlobOK T g' w' := fun x hx => RM.mono h _ _ _ (hg x hx)
theorem MR.cellsAt {T cx g m w k} (h : MR T cx g m w) (ho : Owns g m k) : ∃ o, w.heap[(g.gb k).b]? = some o ∧ boxy o = true := by
  obtain ⟨hk, ho⟩ := ho
  have hb := h.box k hk
  generalize m.bx k = bx at hb ho
  cases bx with
  | dead => simp [Box.owns] at ho
  | cells xs => obtain ⟨_, cs, ty, h1, _⟩ := hb; exact ⟨_, h1, rfl⟩
  | mp kd es => obtain ⟨_, ms, ck, h1, _⟩ := hb; exact ⟨_, h1, rfl⟩
  | row sz es =>
    obtain ⟨_, _, h1⟩ := hb
    obtain ⟨cs, ty, h2, _⟩ := h1 (by simpa [Box.owns] using ho)
    exact ⟨_, h2, rfl⟩
theorem MR.owns_block {T cx g m w k} (h : MR T cx g m w) (ho : Owns g m k) : (g.gb k).b < w.heap.size := by
  obtain ⟨o, h1, _⟩ := h.cellsAt ho
  exact (Array.getElem?_eq_some_iff.1 h1).1
theorem MR.not_owned {T cx g m w k o} (h : MR T cx g m w) (hk : w.heap[k]? = some o) (hc : boxy o = false) : ∀ j, Owns g m j → (g.gb j).b ≠ k := by
  intro j hj e
  obtain ⟨o', h1, h2⟩ := h.cellsAt hj
  rw [e] at h1; rw [hk] at h1; cases h1; rw [h2] at hc; cases hc
theorem MR.loop_ne {T cx g m w l r} (h : MR T cx g m w) (hy : cx.yc = some (l, r)) : ∀ j, Owns g m j → (g.gb j).b ≠ l :=
  h.not_owned (h.ys l r hy) rfl
theorem GX.of_heap {g w w'} (h : w'.heap = w.heap) : GX g w g w' :=
  ⟨fun _ _ h => h, rfl, fun _ h => h, fun _ _ => rfl, fun _ _ h => h, fun b o v _ hc => by simpa [World.cell?, h] using hc⟩
theorem MR.of_heap {T cx g m w w'} (h : MR T cx g m w) (e : w'.heap = w.heap) : MR T cx g m w' where
  pin b o hp := by rw [e]; exact h.pin b o hp
  base := by rw [e]; exact h.base
  box k hk := (h.box k hk).mono (.of_heap e) (fun _ => by rw [e])
  np := h.np
  inj := h.inj
  fresh := h.fresh
  fix k o hk := by rw [e]; exact h.fix k o hk
  ys l r hy := by rw [e]; exact h.ys l r hy
  glob := h.glob.mono (.of_heap e)
theorem EX.of_heap {cx g m w w'} (h : w'.heap = w.heap) (h1 : w'.os = w.os) (h2 : w'.tape = w.tape) (h3 : w'.output = w.output) : EX cx g m w g m w' :=
  ⟨.of_heap h, by rw [h]; exact Nat.le_refl _, h1, h2, h3, fun _ _ _ _ => by rw [h], fun _ _ h => .inl h, fun j h => .inr ⟨j, h, rfl⟩⟩
end Go.Proofs.Ytcbhmedknbiffaa
