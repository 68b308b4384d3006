/-
  The layer Ev: the evaluator is sound.
-/
import Derived.Test.YtcbhmedknbiffaaEvM
namespace Go.Proofs.Ytcbhmedknbiffaa
open Go Go.RowKit
section
variable {R : Type}
def SFok (X : Px R) : Prop := ∀ h S, X.sf h = some S → ∀ (ls : List Leaf) (K : List Leaf → Option R) (r : R), S.run ls K = some r → ∃ rs, K rs = some r ∧ SpecF X.T X.P h S.pa ls S.sr rs
def StOK (X : Px R) (a : Option (At R)) (C : Cut R) : Prop :=
  match a with
  | none => True
  | some a => (∀ ls, C.g 0 ls = none) ∧ ∀ n ls r, C.g (n + 1) ls = some r → ∃ s', encS C.sh n ls = some s' ∧ ev X a.d a.pth a.c a.y a.κ s' = some r
def CutsOK (X : Px R) (d : Nat) (pth : List Nat) (c : Code) (y : Option RI) (κ : EK R) : Prop :=
  ∀ f C, lkC X.cut (f.reverse ++ pth) = some C → StOK X (atc X f d pth c y κ) C
theorem CutsOK.child {X : Px R} {d d' pth pth' c c' y y' κ κ'} (h : CutsOK X d pth c y κ) (pre : List Nat) (hp : pth' = pre.reverse ++ pth) (ha : ∀ f, atc X (pre ++ f) d pth c y κ = atc X f d' pth' c' y' κ') : CutsOK X d' pth' c' y' κ' := by
  intro f C hc
  have := h (pre ++ f) C (by rw [List.reverse_append, List.append_assoc, ← hp]; exact hc)
  rwa [ha] at this
def YH (X : Px R) (y : Option RI) (Y : Nat → YS) (L : Nat → LO) (n : Nat) (out : List PF) : Prop :=
  match y with
  | none => True
  | some ri => ri.d < n ∧ ∃ c rest, out = c :: rest ∧ Y = oneY (L ri.d).l (upY (rY X.T X.P ⟨c.n, c.env, ⟨0, fun _ => .dead, none⟩⟩ ri.ps ri.asg ri.body))
theorem YH.mono {X : Px R} {y Y L L' n n' out} (h : YH X y Y L n out) (hn : n ≤ n') (hl : ∀ j, j < n → L' j = L j) : YH X y Y L' n' out := by
  cases y with
  | none => trivial
  | some ri =>
    obtain ⟨h1, c, rest, h2, h3⟩ := h
    exact ⟨Nat.lt_of_lt_of_le h1 hn, c, rest, h2, by rw [hl _ h1]; exact h3⟩
def PostX (B : Nat → Prop) (fu : Nat) (n : Nat) (L : Nat → LO) (κ : EK R) (r : R) (out : List PF) : Exit → St → Prop :=
  fun e p' => ∃ s' G', s'.fu ≤ fu ∧ (∀ j, j < n → G'.L j = L j) ∧ RelS B G' s' p' out ∧ κ e s' = some r
def EOK (X : Px R) (d N : Nat) : Prop :=
  ∀ (pth : List Nat) (c : Code) (y : Option RI) (κ : EK R) (s : XSt) (r : R), s.fu ≤ N → ev X d pth c y κ s = some r → CutsOK X d pth c y κ →
    ∀ (B : Nat → Prop) (G : Gn) (p : St) (out : List PF) (Y : Nat → YS), (∀ k, B k → k < p.m.nb) → YH X y Y G.L pth.length out → RelS B G s p out →
      PW X.T X.P Y c (PostX B s.fu pth.length G.L κ r out) p
theorem ReX.consX {G sh nx m xe e x} (h : ReX G sh nx m xe e) (d : Nat) (hr : RvX G sh nx m x (lk e d)) : ReX G sh nx m ((d, x) :: xe) e := by
  intro k
  simp only [lkX, nbeq]
  by_cases e' : d = k
  · subst e'; simpa using hr
  · have : (d == k) = false := by simpa using e'
    rw [this]; exact h k
theorem RelS.head {B : Nat → Prop} {G s p out} (h : RelS B G s p out) : ∃ f fs, s.fr = f :: fs ∧ f.n = p.n ∧ ReX G (shB s.m.bx) s.m.nx p.m f.env p.env ∧ RfX G (shB s.m.bx) s.m.nx p.m fs out := by
  obtain ⟨hf, _⟩ := h
  cases hfr : s.fr with
  | nil => rw [hfr] at hf; cases hf
  | cons f fs =>
    rw [hfr] at hf
    obtain ⟨e, r, h1, h2, h3, h4⟩ := hf
    cases h1
    exact ⟨f, fs, rfl, h2, h3, h4⟩
theorem RelS.mk' {B : Nat → Prop} {G : Gn} {f : Fr} {fs : List Fr} {xm : XM} {fu : Nat} {p : St} {out} (h1 : f.n = p.n) (h2 : ReX G (shB xm.bx) xm.nx p.m f.env p.env) (h3 : RfX G (shB xm.bx) xm.nx p.m fs out) (h4 : XRM G (fun k => k < p.m.nb ∧ ¬ B k) xm p.m) : RelS B G ⟨f :: fs, xm, fu⟩ p out :=
  ⟨⟨⟨p.n, p.env⟩, out, rfl, h1, h2, h3⟩, h4⟩
theorem RelS.put {B' : Nat → Prop} {G G' : Gn} {f : Fr} {fs : List Fr} {xm xm' : XM} {fu : Nat} {p : St} {out} {m' : Mem} {dst : Option Nat} {v : XV} {pv : PV} (h1 : f.n = p.n) (h2 : ReX G (shB xm.bx) xm.nx p.m f.env p.env) (h3 : RfX G (shB xm.bx) xm.nx p.m fs out)
    (hx : GXt G (shB xm.bx) xm.nx p.m G' (shB xm'.bx) xm'.nx m') (hm : XRM G' (fun k => k < m'.nb ∧ ¬ B' k) xm' m') (hv : RvX G' (shB xm'.bx) xm'.nx m' v pv) :
    RelS B' G' (XSt.put ⟨f :: fs, xm', fu⟩ dst v) (p.put dst pv m') out := by
  cases dst with
  | none => exact RelS.mk' (p := ⟨p.n, p.env, m'⟩) h1 (h2.mono hx) (RfX.mono hx h3) hm
  | some d => exact RelS.mk' (f := ⟨f.n, (d, v) :: f.env⟩) (p := ⟨p.n, (d, pv) :: p.env, m'⟩) h1 ((h2.mono hx).cons hv d) (RfX.mono hx h3) hm
theorem dst_ok {n : Nat} {d : Option Nat} (h : dstX n d = true) : dstOK n d = true := by
  cases d with
  | none => rfl
  | some d => simpa [dstX, dstOK, Nat.blt_eq] using h
theorem init_ok {G sh nx m} : ∀ {xs : List XV} {ps : List PV} (i : Nat), RlX G sh nx m xs ps → ReX G sh nx m (initX i xs) (initEnv i ps)
  | [], ps, i, h => by simp only [RlX] at h; subst h; intro k; simp only [initX, lkX, RvX]
  | x :: xs, ps, i, h => by
    simp only [RlX] at h; obtain ⟨p, r, rfl, h1, h2⟩ := h
    simp only [initX, initEnv]
    exact (init_ok (i + 1) h2).cons h1 i
theorem bind_ok {G sh nx m} : ∀ (ps : List Nat) {xs : List XV} {qs : List PV} {xe : List (Nat × XV)} {e : List (Nat × PV)}, RlX G sh nx m xs qs → ReX G sh nx m xe e → ReX G sh nx m (bindX ps xs xe) (bind ps qs e)
  | [], xs, qs, xe, e, _, h => by simp only [bindX, bind]; exact h
  | p :: ps, [], qs, xe, e, hl, h => by simp only [RlX] at hl; subst hl; simp only [bindX, bind]; exact h
  | p :: ps, x :: xs, qs, xe, e, hl, h => by
    simp only [RlX] at hl; obtain ⟨q, r, rfl, h1, h2⟩ := hl
    simp only [bindX, bind]
    exact bind_ok ps h2 (h.cons h1 p)
theorem resAllX_ok {T : Tab} {G A} {s : XSt} {p : St} {env : List (Nat × XV)} (hm : XRM G A s.m p.m) (he : ReX G (shB s.m.bx) s.m.nx p.m env p.env) : ∀ (rs : List ResultVar) {vs : List XV}, resXall T s env rs = some vs → ∃ pvs, resAll T p.m.bx p.env rs = some pvs ∧ RlX G (shB s.m.bx) s.m.nx p.m vs pvs
  | [], vs, h => by simp only [resXall, Option.some.injEq] at h; subst h; exact ⟨[], rfl, by simp only [RlX]⟩
  | r :: rs, vs, h => by
    simp only [resXall] at h
    split at h
    · rename_i v vs' e1 e2
      cases h
      obtain ⟨pvs, h1, h2⟩ := resAllX_ok hm he rs e2
      have : ∃ pv, resOne T p.m.bx p.env r = some pv ∧ RvX G (shB s.m.bx) s.m.nx p.m v pv := by
        cases r with
        | tmp t => simp only [resXone, Option.some.injEq] at e1; subst e1; exact ⟨_, rfl, he t⟩
        | cell a t =>
          simp only [resXone] at e1
          split at e1
          · rename_i k off hk
            split at e1
            · rename_i xs hl
              obtain ⟨ps, hb, hr⟩ := hm.cells hl
              have ha := he a
              rw [hk] at ha
              simp only [RvX] at ha
              obtain ⟨pv, k1, k2⟩ := ofCellsX_ok (hr.drop off) e1
              exact ⟨pv, by simp only [resOne, ha.2, cellsAt, hb]; exact k1, k2⟩
            · cases e1
          · cases e1
      obtain ⟨pv, k1, k2⟩ := this
      exact ⟨pv :: pvs, by simp only [resAll, k1, h1], by simp only [RlX]; exact ⟨pv, pvs, rfl, k2, h2⟩⟩
    · cases h
theorem resXV_ok {G sh nx m vs pvs} (h : RlX G sh nx m vs pvs) : RvX G sh nx m (resXV vs) (resPV pvs) := by
  match vs, pvs, h with
  | [], _, h => simp only [RlX] at h; subst h; simp only [resXV, resPV, RvX]; exact ⟨[], rfl, by simp only [RlX]⟩
  | [x], _, h => simp only [RlX] at h; obtain ⟨p, r, rfl, h1, rfl⟩ := h; exact h1
  | x :: x2 :: xs, _, h =>
    have h' := h
    simp only [RlX] at h; obtain ⟨p, r, rfl, h1, p2, r2, rfl, h2⟩ := h
    simp only [resXV, resPV, RvX]; exact ⟨_, rfl, h'⟩
end
end Go.Proofs.Ytcbhmedknbiffaa
