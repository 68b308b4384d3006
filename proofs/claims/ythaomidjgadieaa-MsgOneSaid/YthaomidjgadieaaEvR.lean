/-
  The layer Ev: a function's contract out of what it evaluates to.
-/
import Derived.Test.YthaomidjgadieaaEvQ
namespace Go.Proofs.Ythaomidjgadieaa
open Go Go.RowKit

def FUEL : Nat := 4611686018427387904

section
variable {R : Type}

/-! ### Leaves taken one by one -/

def gI (k : Int → List Leaf → Option R) : List Leaf → Option R
  | .i a :: r => k a r
  | _ => none
def gB (k : Bool → List Leaf → Option R) : List Leaf → Option R
  | .b a :: r => k a r
  | _ => none
def gS (k : ByteArray → List Leaf → Option R) : List Leaf → Option R
  | .s a :: r => k a r
  | _ => none
def gN (k : Nat → List Leaf → Option R) : List Leaf → Option R
  | .n a :: r => k a r
  | _ => none
def gL (cs : List CT) (k : List (DenL cs) → List Leaf → Option R) : List Leaf → Option R
  | .l _ l :: r => match castL cs l with
    | some l => k l r
    | none => none
  | _ => none
def gE (x : Option R) : List Leaf → Option R
  | [] => x
  | _ => none

theorem gI_ok {k : Int → List Leaf → Option R} {ls r} (h : gI k ls = some r) : ∃ a l, ls = .i a :: l ∧ k a l = some r := by
  unfold gI at h; split at h
  · exact ⟨_, _, rfl, h⟩
  · cases h
theorem gI4_ok {k : Int → Int → Int → Int → List Leaf → Option R} {ls r} (h : gI (fun a => gI (fun b => gI (fun c => gI (fun d => k a b c d)))) ls = some r) : ∃ a b c d l, ls = .i a :: .i b :: .i c :: .i d :: l ∧ k a b c d l = some r := by
  obtain ⟨a, _, rfl, h1⟩ := gI_ok h; obtain ⟨b, _, rfl, h2⟩ := gI_ok h1; obtain ⟨c, _, rfl, h3⟩ := gI_ok h2; obtain ⟨d, _, rfl, h4⟩ := gI_ok h3
  exact ⟨a, b, c, d, _, rfl, h4⟩
theorem gI8_ok {k : Int → Int → Int → Int → Int → Int → Int → Int → List Leaf → Option R} {ls r} (h : gI (fun a => gI (fun b => gI (fun c => gI (fun d => gI (fun e => gI (fun f => gI (fun g => gI (fun i => k a b c d e f g i)))))))) ls = some r) :
    ∃ a b c d e f g i l, ls = .i a :: .i b :: .i c :: .i d :: .i e :: .i f :: .i g :: .i i :: l ∧ k a b c d e f g i l = some r := by
  obtain ⟨a, b, c, d, _, rfl, h1⟩ := gI4_ok h; obtain ⟨e, f, g, i, _, rfl, h2⟩ := gI4_ok h1
  exact ⟨a, b, c, d, e, f, g, i, _, rfl, h2⟩
theorem gB_ok {k : Bool → List Leaf → Option R} {ls r} (h : gB k ls = some r) : ∃ a l, ls = .b a :: l ∧ k a l = some r := by
  unfold gB at h; split at h
  · exact ⟨_, _, rfl, h⟩
  · cases h
theorem gS_ok {k : ByteArray → List Leaf → Option R} {ls r} (h : gS k ls = some r) : ∃ a l, ls = .s a :: l ∧ k a l = some r := by
  unfold gS at h; split at h
  · exact ⟨_, _, rfl, h⟩
  · cases h
theorem gN_ok {k : Nat → List Leaf → Option R} {ls r} (h : gN k ls = some r) : ∃ a l, ls = .n a :: l ∧ k a l = some r := by
  unfold gN at h; split at h
  · exact ⟨_, _, rfl, h⟩
  · cases h
theorem gL_ok {cs : List CT} {k : List (DenL cs) → List Leaf → Option R} {ls r} (h : gL cs k ls = some r) : ∃ a l, ls = .l cs a :: l ∧ k a l = some r := by
  unfold gL at h; split at h
  · rename_i cs' l0 rr
    split at h
    · rename_i l1 hc
      obtain ⟨e, e'⟩ := castL_ok hc
      subst e
      replace e' : l0 = l1 := e'
      subst e'
      exact ⟨_, _, rfl, h⟩
    · cases h
  · cases h
theorem gE_ok {x : Option R} {ls r} (h : gE x ls = some r) : ls = [] ∧ x = some r := by
  unfold gE at h; split at h
  · exact ⟨rfl, h⟩
  · cases h

/-! ### Results -/

theorem decR1_ok {G A xm m x p} {v : VP} {bs : List BP} {ls : List Leaf} (h : XRM G A xm m) (hr : RvX G (shB xm.bx) xm.nx m x p) (hd : decR1 v bs x xm = some ls) (n : Nat) (hn : bs.length ≤ n) :
    ∃ x' bx G', encR1 v bs ls = some (x', bx) ∧ XRM G' A ⟨bx, n, m.ys⟩ m ∧ RvX G' (shB bx) n m x' p ∧ (G'.L 0).o = (G.L 0).o := by
  unfold decR1 at hd
  split at hd
  · rename_i l1 σ1 e1
    split at hd
    · rename_i l2 σ2 e2
      cases hok : σ2.ok bs.length with
      | false => rw [hok] at hd; cases hd
      | true =>
        rw [hok] at hd
        cases hd
        obtain ⟨h1, x', h2, h3⟩ := decV_ok h _ e1
        obtain ⟨k1, nb, k2, k3, k4⟩ := decB_ok h _ _ e2
        have m1 := xrm_of h rfl hok (fun j => (k3 j).imp id fun h => by omega) k4
        have r1 := h3 σ2 _ _ k1 (fits_of hok k4) _ hr
        have m2 : XRM (G2 G xm.bx σ2) A ⟨nb, n, m.ys⟩ m :=
          ⟨fun j => by
            by_cases hg : lkB nb j = .gone
            · simp only; rw [hg]; trivial
            · have hx : GXt (G2 G xm.bx σ2) (shB nb) bs.length m (G2 G xm.bx σ2) (shB nb) n m := ⟨hn, fun _ _ => rfl, fun _ _ => Iff.rfl, fun _ _ => .inr rfl, HX.refl _ _, rfl⟩
              exact BoxX.mono hx (m1.blt hg) (fun _ => rfl) (m1.box j), m1.al, m1.nh, m1.inj, m1.ha, m1.ys, fun j hj => m1.lt j (Nat.le_trans hn hj)⟩
        refine ⟨x', nb, G2 G xm.bx σ2, ?_, m2, ?_, rfl⟩
        · simp only [encR1, h2]
          have := k2 []
          rw [List.append_nil] at this
          rw [this]
        · exact RvX.mono (G := G2 G xm.bx σ2) (sh := shB nb) (nx := bs.length) (m := m) ⟨hn, fun _ _ => rfl, fun _ _ => Iff.rfl, fun _ _ => .inr rfl, HX.refl _ _, rfl⟩ _ _ r1
    · cases hd
  · cases hd

theorem decR_ok {G A xm m v p} {sr : RShape} {ls : List Leaf} (h : XRM G A xm m) (hr : RvX G (shB xm.bx) xm.nx m v p) (hd : decR sr v xm = some ls) :
    ∃ x bx G', encR sr ls = some (x, bx) ∧ XRM G' A ⟨bx, sr.bx.length, m.ys⟩ m ∧ RvX G' (shB bx) sr.bx.length m x p ∧ (G'.L 0).o = (G.L 0).o := by
  unfold decR at hd
  unfold encR
  split at hd
  · exact decR1_ok h hr hd _ (Nat.le_refl _)
  · split at hd
    · rename_i l1 h1
      cases hd
      simp only [cond_true]
      exact decR1_ok h hr h1 _ (Nat.le_refl _)
    · split at hd
      · rename_i l1 h1
        cases hd
        simp only [cond_false]
        exact decR1_ok (bs := []) h hr h1 _ (Nat.zero_le _)
      · cases hd

/-! ### Cuts -/

def mkCuts (f : Nat) (cs : List (List Nat × Cut R)) : List (List Nat × Cut R) := cs.map fun p => (p.1.reverse ++ [2 * f], p.2)

/-- The place of a cut in a function. -/
def atF (X : Px R) (d f : Nat) (K : XV → XSt → Option R) (p : List Nat) : Option (At R) :=
  match X.P.funcs[f]? with
  | none => none
  | some fn => match fn.body with
    | none => none
    | some c => atc X p d [2 * f] c none (retX X fn.results.toList K)

def evAt (X : Px R) (a : Option (At R)) (s : XSt) : Option R :=
  match a with
  | none => none
  | some a => ev X a.d a.pth a.c a.y a.κ s

/-- A cut's step, evaluated. -/
def stepF (X : Px R) (d f : Nat) (K : XV → XSt → Option R) (p : List Nat) (sh : Shape) (n : Nat) (ls : List Leaf) : Option R :=
  match encS sh n ls with
  | some s => evAt X (atF X d f K p) s
  | none => none

def CutOK (X : Px R) (d f : Nat) (K : XV → XSt → Option R) (p : List Nat) (C : Cut R) : Prop :=
  (∀ ls, C.g 0 ls = none) ∧ ∀ n ls r, C.g (n + 1) ls = some r → stepF X d f K p C.sh n ls = some r

/-- A function's entry, evaluated. -/
def entF (X : Px R) (d f : Nat) (pa : List VP) (K : XV → XSt → Option R) (n : Nat) (ls : List Leaf) : Option R :=
  match encVs pa ls with
  | some (xs, []) => inlX X (ev X d) [] f xs ⟨[], ⟨[], 0, none⟩, n⟩ none K
  | _ => none

/-- How a result is read. -/
def endK (sr : RShape) (toB : List Leaf → Option R) : XV → XSt → Option R := fun v s =>
  match decR sr v s.m with
  | some ls => toB ls
  | none => none

def AllCuts (X : Px R) (d f : Nat) (K : XV → XSt → Option R) : List (List Nat × Cut R) → Prop
  | [] => True
  | p :: r => CutOK X d f K p.1 p.2 ∧ AllCuts X d f K r

theorem AllCuts.get {X : Px R} {d f K} : ∀ {cs : List (List Nat × Cut R)} {p : List Nat × Cut R}, AllCuts X d f K cs → p ∈ cs → CutOK X d f K p.1 p.2
  | [], p, _, h => by simp at h
  | q :: r, p, ⟨h1, h2⟩, h => by
    rcases List.mem_cons.1 h with e | h
    · rw [e]; exact h1
    · exact AllCuts.get h2 h

/-- **A function's contract.** -/
theorem fun_ok {X : Px R} (hT : TOK X.T X.P) (hS : SFok X) (hmix : X.P.follows .mixedOrders = true) (f d : Nat) (cs : List (List Nat × Cut R)) (hcut : X.cut = mkCuts f cs) {pa : List VP} {sr : RShape} {toB : List Leaf → Option R} {ofB : R → List Leaf}
    (htoB : ∀ ls b, toB ls = some b → ls = ofB b) (hst : AllCuts X d f (endK sr toB) cs) {ls : List Leaf} {n : Nat} {b : R} (hev : entF X d f pa (endK sr toB) n ls = some b) : SpecF X.T X.P f pa ls sr (ofB b) := by
  unfold entF at hev
  split at hev
  · rename_i xs hxs
    have hcuts : ∀ fn c, X.P.funcs[f]? = some fn → fn.body = some c → CutsOK X d (2 * f :: []) c none (retX X fn.results.toList (endK sr toB)) := by
      intro fn c h1 h2 q C hC
      rw [hcut] at hC
      have hm := lkC_mem hC
      obtain ⟨p, hp, e⟩ := List.mem_map.1 hm
      have e1 : p.1 = q := by
        have := congrArg Prod.fst e
        simp only [List.append_cancel_right_eq] at this
        exact List.reverse_inj.1 this
      have e2 : p.2 = C := congrArg Prod.snd e
      obtain ⟨c1, c2⟩ := hst.get hp
      rw [e1, e2] at c2
      rw [e2] at c1
      have hat : atF X d f (endK sr toB) q = atc X q d [2 * f] c none (retX X fn.results.toList (endK sr toB)) := by simp only [atF, h1, h2]
      unfold StOK
      split
      · trivial
      · rename_i a ha
        refine ⟨c1, fun n' ls' r' hg => ?_⟩
        have := c2 n' ls' r' hg
        unfold stepF at this
        split at this
        · rename_i s' hs'
          rw [hat, ha] at this
          exact ⟨s', hs', this⟩
        · cases this
    refine ⟨?_, fun O xs' ps' hxs' hrel => ?_⟩
    · have hev' := hev
      unfold inlX at hev'
      split at hev'
      · cases hev'
      · rename_i fn h1
        split at hev'
        · cases hev'
        · rename_i c h2
          cases hname : (fn.name == "runtime.NumGoroutine") with
          | true => rw [hname] at hev'; cases hev'
          | false => exact enters_of h1 hname h2
    · rw [hxs] at hxs'
      cases hxs'
      have hm0 : XRM (gn0 O) (fun k => k < mem0.nb ∧ ¬ False) ⟨[], 0, none⟩ mem0 :=
        ⟨fun k => trivial, fun k ho => by simp [OwnX, lkB] at ho, fun k ho => by simp [OwnX, lkB] at ho, fun k k' ho => by simp [OwnX, lkB] at ho, fun k hk => hk.elim, rfl, fun k _ => rfl⟩
      have hrel' : RlX (gn0 O) (shB []) 0 mem0 xs ps' := hrel
      refine (inl_ok (Y := noY) hT (eok hT hS hmix n d) hev (Nat.le_refl _) hcuts (B := fun _ => False) (fun k h => h.elim) (y := none) (out := []) trivial rfl hrel' hm0).mono ?_
      rintro pv m' ⟨v, xm', fr', fu', G', _, kL, _, k4, k5, k6⟩
      unfold endK at k6
      split at k6
      · rename_i ls' hd
        have := htoB _ _ k6
        subst this
        obtain ⟨x, bx, G'', j1, j2, j3, j4⟩ := decR_ok k4 k5 hd
        exact ⟨x, bx, G'', j1, j2.more fun k hk => hk.1, j3, j4.trans (by rw [kL 0 (Nat.succ_pos _)]; rfl)⟩
      · cases k6
  · cases hev

/-! ### Sealed functions -/

def lkF : List (Nat × SF R) → Nat → Option (SF R)
  | [], _ => none
  | (k, s) :: r, f => bif Nat.beq k f then some s else lkF r f

def SFone (T : Tab) (P : Program) (f : Nat) (S : SF R) : Prop := ∀ (ls : List Leaf) (K : List Leaf → Option R) (r : R), S.run ls K = some r → ∃ rs, K rs = some r ∧ SpecF T P f S.pa ls S.sr rs

def SFall (T : Tab) (P : Program) : List (Nat × SF R) → Prop
  | [] => True
  | p :: r => SFone T P p.1 p.2 ∧ SFall T P r

theorem sfok_of {T : Tab} {P : Program} {l : List (Nat × SF R)} {cs : List (List Nat × Cut R)} {alt halt} (h : SFall T P l) : SFok (⟨T, P, lkF l, cs, alt, halt⟩ : Px R) := by
  intro f S hS
  have hS' : lkF l f = some S := hS
  clear hS
  induction l with
  | nil => cases hS'
  | cons p l ih =>
    obtain ⟨k, s⟩ := p
    simp only [lkF] at hS'
    cases hk : Nat.beq k f with
    | true =>
      rw [hk, cond_true] at hS'
      cases hS'
      have e := Nat.eq_of_beq_eq_true hk
      subst e
      exact h.1
    | false =>
      rw [hk, cond_false] at hS'
      exact ih h.2 hS'

end
end Go.Proofs.Ythaomidjgadieaa
