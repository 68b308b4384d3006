/-
  The layer Ev: a function's contract out of what it evaluates to.
-/
import Derived.Test.YtcbhmedknbiffaaEvQ
namespace Go.Proofs.Ytcbhmedknbiffaa
open Go Go.RowKit
def FUEL : Nat := 4611686018427387904
section
variable {R : Type}
inductive LT where
  | i | b | s | n
  | l (cs : List CT)
def LT.ty : LT → Type
  | .i => Int
  | .b => Bool
  | .s => ByteArray
  | .n => Nat
  | .l cs => List (DenL cs)
def LT.mk : (t : LT) → t.ty → Leaf
  | .i, x => .i x
  | .b, x => .b x
  | .s, x => .s x
  | .n, x => .n x
  | .l cs, x => .l cs x
def LT.un : (t : LT) → Leaf → Option t.ty
  | .i, x => match x with
    | .i a => some a
    | _ => none
  | .b, x => match x with
    | .b a => some a
    | _ => none
  | .s, x => match x with
    | .s a => some a
    | _ => none
  | .n, x => match x with
    | .n a => some a
    | _ => none
  | .l cs, x => match x with
    | .l _ a => castL cs a
    | _ => none
def Fn (R : Type) : List LT → Type
  | [] => R
  | t :: ts => t.ty → Fn R ts
def Tu : List LT → Type
  | [] => Unit
  | t :: ts => t.ty × Tu ts
def enT : (ts : List LT) → Tu ts → List Leaf
  | [], _ => []
  | t :: ts, (a, r) => t.mk a :: enT ts r
def apT : (ts : List LT) → Fn R ts → Tu ts → R
  | [], f, _ => f
  | _ :: ts, f, (a, r) => apT ts (f a) r
def EqT : (ts : List LT) → (Tu ts → R) → Fn R ts → Prop
  | [], f, g => f () = g
  | _ :: ts, f, g => ∀ a, EqT ts (fun r => f (a, r)) (g a)
theorem EqT.get : ∀ {ts : List LT} {f : Tu ts → R} {g : Fn R ts}, EqT ts f g → ∀ x : Tu ts, f x = apT ts g x
  | [], _, _, h, _ => h
  | _ :: _, _, _, h, (a, r) => EqT.get (h a) r
theorem LT.un_ok : ∀ {t : LT} {a : Leaf} {x : t.ty}, t.un a = some x → a = t.mk x
  | .i, .i _, _, h => congrArg Leaf.i (Option.some.inj h)
  | .b, .b _, _, h => congrArg Leaf.b (Option.some.inj h)
  | .s, .s _, _, h => congrArg Leaf.s (Option.some.inj h)
  | .n, .n _, _, h => congrArg Leaf.n (Option.some.inj h)
  | .l cs, .l cs' a, x, h => by
    obtain ⟨e, e'⟩ := castL_ok (show castL cs a = some x from h)
    subst e
    replace e' : a = x := e'
    subst e'
    rfl
  | .i, .b _, _, h => nomatch h
  | .i, .s _, _, h => nomatch h
  | .i, .n _, _, h => nomatch h
  | .i, .l _ _, _, h => nomatch h
  | .b, .i _, _, h => nomatch h
  | .b, .s _, _, h => nomatch h
  | .b, .n _, _, h => nomatch h
  | .b, .l _ _, _, h => nomatch h
  | .s, .i _, _, h => nomatch h
  | .s, .b _, _, h => nomatch h
  | .s, .n _, _, h => nomatch h
  | .s, .l _ _, _, h => nomatch h
  | .n, .i _, _, h => nomatch h
  | .n, .b _, _, h => nomatch h
  | .n, .s _, _, h => nomatch h
  | .n, .l _ _, _, h => nomatch h
  | .l _, .i _, _, h => nomatch h
  | .l _, .b _, _, h => nomatch h
  | .l _, .s _, _, h => nomatch h
  | .l _, .n _, _, h => nomatch h
def unA {S : Type} : (ts : List LT) → Fn S ts → List Leaf → Option S
  | [], f, ls => match ls with
    | [] => some f
    | _ => none
  | t :: ts, f, ls => match ls with
    | [] => none
    | a :: r => match t.un a with
      | some x => unA ts (f x) r
      | none => none
theorem unA_ok {S : Type} : ∀ {ts : List LT} {f : Fn S ts} {ls : List Leaf} {y : S}, unA ts f ls = some y → ∃ x, ls = enT ts x ∧ y = apT ts f x
  | [], f, ls, y, h => by
    simp only [unA] at h
    split at h
    · cases h; exact ⟨(), rfl, rfl⟩
    · cases h
  | t :: ts, f, ls, y, h => by
    simp only [unA] at h
    split at h
    · cases h
    · split at h
      · rename_i x hx
        obtain ⟨z, h1, h2⟩ := unA_ok h
        exact ⟨(x, z), by rw [h1, LT.un_ok hx]; rfl, h2⟩
      · cases h
structure RB (B : Type) (ts : List LT) where
  c : Fn B ts
  un : B → Tu ts
  ok : ∀ x, un (apT ts c x) = x
def toG {B : Type} {ts : List LT} (r : RB B ts) (ls : List Leaf) : Option B := unA ts r.c ls
def ofG {B : Type} {ts : List LT} (r : RB B ts) (y : B) : List Leaf := enT ts (r.un y)
theorem toG_ok {B : Type} {ts : List LT} (r : RB B ts) (ls : List Leaf) (b : B) (h : toG r ls = some b) : ls = ofG r b := by
  obtain ⟨x, h1, h2⟩ := unA_ok h
  unfold ofG
  rw [h2, r.ok]; exact h1
def runG {B : Type} {ts : List LT} (r : RB B ts) (pa : List VP) (ta : List LT) (sr : RShape) (dr : Bool) (F : Fn (Option B) ta) : SF R :=
  ⟨pa, sr, fun ls K => match unA ta F ls with
    | some o => Option.bind o fun y => K (ofG r y)
    | none => none, dr⟩
def cutG (sh : Shape) (ta : List LT) (F : Nat → Fn (Option R) ta) : Cut R :=
  ⟨sh, fun n ls => match unA ta (F n) ls with
    | some o => o
    | none => none⟩
theorem decR1_ok {G A xm m x p} {v : VP} {bs : List BP} {ls : List Leaf} (h : XRM G A xm m) (hr : RvX G (shB xm.bx) xm.nx m x p) (hd : decR1 v bs x xm = some ls) (n : Nat) (hn : bs.length ≤ n) :
    ∃ x' bx G', encR1 v bs ls = some (x', bx) ∧ XRM G' A ⟨bx, n, m.ys⟩ m ∧ RvX G' (shB bx) n m x' p ∧ (G'.L 0).o = (G.L 0).o := by
  unfold decR1 at hd
  split at hd
  · rename_i l1 σ1 e1
    split at hd
    · rename_i l2 σ2 e2
      cases hok : σ2.ok bs.length with
      | false => rw [hok] at hd; cases hd
      | true =>
        rw [hok] at hd
        cases hd
        obtain ⟨h1, x', h2, h3⟩ := decV_ok h _ e1
        obtain ⟨k1, nb, k2, k3, k4⟩ := decB_ok h _ _ e2
        have m1 := xrm_of h rfl hok (fun j => (k3 j).imp id fun h => by omega) k4
        have r1 := h3 σ2 _ _ k1 (fits_of hok k4) _ hr
        have m2 : XRM (G2 G xm.bx σ2) A ⟨nb, n, m.ys⟩ m :=
          ⟨fun j => by
            by_cases hg : lkB nb j = .gone
            · simp only; rw [hg]; trivial
            · have hx : GXt (G2 G xm.bx σ2) (shB nb) bs.length m (G2 G xm.bx σ2) (shB nb) n m := ⟨hn, fun _ _ => rfl, fun _ _ => Iff.rfl, fun _ _ => .inr rfl, HX.refl _ _, rfl, rfl⟩
              exact BoxX.mono hx (m1.blt hg) (fun _ => rfl) (m1.box j), m1.al, m1.nh, m1.inj, m1.ha, m1.ys, fun j hj => m1.lt j (Nat.le_trans hn hj), m1.pv⟩
        refine ⟨x', nb, G2 G xm.bx σ2, ?_, m2, ?_, rfl⟩
        · simp only [encR1, h2]
          have := k2 []
          rw [List.append_nil] at this
          rw [this]
        · exact RvX.mono (G := G2 G xm.bx σ2) (sh := shB nb) (nx := bs.length) (m := m) ⟨hn, fun _ _ => rfl, fun _ _ => Iff.rfl, fun _ _ => .inr rfl, HX.refl _ _, rfl, rfl⟩ _ _ r1
    · cases hd
  · cases hd
theorem decR_ok {G A xm m v p} {sr : RShape} {ls : List Leaf} (h : XRM G A xm m) (hr : RvX G (shB xm.bx) xm.nx m v p) (hd : decR sr v xm = some ls) :
    ∃ x bx G', encR sr ls = some (x, bx) ∧ XRM G' A ⟨bx, sr.bx.length, m.ys⟩ m ∧ RvX G' (shB bx) sr.bx.length m x p ∧ (G'.L 0).o = (G.L 0).o := by
  unfold decR at hd
  unfold encR
  split at hd
  · exact decR1_ok h hr hd _ (Nat.le_refl _)
  · split at hd
    · rename_i l1 h1
      cases hd
      simp only [cond_true]
      exact decR1_ok h hr h1 _ (Nat.le_refl _)
    · split at hd
      · rename_i l1 h1
        cases hd
        simp only [cond_false]
        exact decR1_ok (bs := []) h hr h1 _ (Nat.zero_le _)
      · cases hd
def mkCuts (f : Nat) (cs : List (List Nat × Cut R)) : List (List Nat × Cut R) := cs.map fun p => (p.1.reverse ++ [2 * f], p.2)
def atF (X : Px R) (d f : Nat) (K : XV → XSt → Option R) (p : List Nat) : Option (At R) :=
  match X.P.funcs[f]? with
  | none => none
  | some fn => match fn.body with
    | none => none
    | some c => atc X p d [2 * f] c none (retX X fn.results.toList K)
def evAt (X : Px R) (a : Option (At R)) (s : XSt) : Option R :=
  match a with
  | none => none
  | some a => ev X a.d a.pth a.c a.y a.κ s
def stepF (X : Px R) (d f : Nat) (K : XV → XSt → Option R) (p : List Nat) (sh : Shape) (n : Nat) (ls : List Leaf) : Option R :=
  match encS sh n ls with
  | some s => evAt X (atF X d f K p) s
  | none => none
def CutOK (X : Px R) (d f : Nat) (K : XV → XSt → Option R) (p : List Nat) (C : Cut R) : Prop :=
  (∀ ls, C.g 0 ls = none) ∧ ∀ n ls r, C.g (n + 1) ls = some r → stepF X d f K p C.sh n ls = some r
def entF (X : Px R) (d f : Nat) (pa : List VP) (K : XV → XSt → Option R) (n : Nat) (ls : List Leaf) : Option R :=
  match encVs pa ls with
  | some (xs, []) => inlX X (ev X d) [] f xs ⟨[], ⟨[], 0, none⟩, n⟩ none K
  | _ => none
def endK (sr : RShape) (toB : List Leaf → Option R) : XV → XSt → Option R := fun v s =>
  match decR sr v s.m with
  | some ls => toB ls
  | none => none
def AllCuts (X : Px R) (d f : Nat) (K : XV → XSt → Option R) : List (List Nat × Cut R) → Prop
  | [] => True
  | p :: r => CutOK X d f K p.1 p.2 ∧ AllCuts X d f K r
theorem AllCuts.get {X : Px R} {d f K} : ∀ {cs : List (List Nat × Cut R)} {p : List Nat × Cut R}, AllCuts X d f K cs → p ∈ cs → CutOK X d f K p.1 p.2
  | [], p, _, h => by simp at h
  | q :: r, p, ⟨h1, h2⟩, h => by
    rcases List.mem_cons.1 h with e | h
    · rw [e]; exact h1
    · exact AllCuts.get h2 h
theorem fun_ok {X : Px R} (hT : TOK X.T X.P) (hS : SFok X) (hmix : X.P.follows .mixedOrders = true) (f d : Nat) (cs : List (List Nat × Cut R)) (hcut : X.cut = mkCuts f cs) {pa : List VP} {sr : RShape} {toB : List Leaf → Option R} {ofB : R → List Leaf}
    (htoB : ∀ ls b, toB ls = some b → ls = ofB b) (hst : AllCuts X d f (endK sr toB) cs) {ls : List Leaf} {n : Nat} {b : R} (hev : entF X d f pa (endK sr toB) n ls = some b) : SpecF X.T X.P f pa ls sr (ofB b) := by
  unfold entF at hev
  split at hev
  · rename_i xs hxs
    have hcuts : ∀ fn c, X.P.funcs[f]? = some fn → fn.body = some c → CutsOK X d (2 * f :: []) c none (retX X fn.results.toList (endK sr toB)) := by
      intro fn c h1 h2 q C hC
      rw [hcut] at hC
      have hm := lkC_mem hC
      obtain ⟨p, hp, e⟩ := List.mem_map.1 hm
      have e1 : p.1 = q := by
        have := congrArg Prod.fst e
        simp only [List.append_cancel_right_eq] at this
        exact List.reverse_inj.1 this
      have e2 : p.2 = C := congrArg Prod.snd e
      obtain ⟨c1, c2⟩ := hst.get hp
      rw [e1, e2] at c2
      rw [e2] at c1
      have hat : atF X d f (endK sr toB) q = atc X q d [2 * f] c none (retX X fn.results.toList (endK sr toB)) := by simp only [atF, h1, h2]
      unfold StOK
      split
      · trivial
      · rename_i a ha
        refine ⟨c1, fun n' ls' r' hg => ?_⟩
        have := c2 n' ls' r' hg
        unfold stepF at this
        split at this
        · rename_i s' hs'
          rw [hat, ha] at this
          exact ⟨s', hs', this⟩
        · cases this
    refine ⟨?_, fun O xs' ps' hxs' hrel => ?_⟩
    · have hev' := hev
      unfold inlX at hev'
      split at hev'
      · cases hev'
      · rename_i fn h1
        split at hev'
        · cases hev'
        · rename_i c h2
          cases hname : (fn.name == "runtime.NumGoroutine") with
          | true => rw [hname] at hev'; cases hev'
          | false => exact enters_of h1 hname h2
    · rw [hxs] at hxs'
      cases hxs'
      have hm0 : XRM (gn0 O) (fun k => k < mem0.nb ∧ ¬ False) ⟨[], 0, none⟩ mem0 :=
        ⟨fun k => trivial, fun k ho => by simp [OwnX, lkB] at ho, fun k ho => by simp [OwnX, lkB] at ho, fun k k' ho => by simp [OwnX, lkB] at ho, fun k hk => hk.elim, rfl, fun k _ => rfl, fun b n hP => by cases hP⟩
      have hrel' : RlX (gn0 O) (shB []) 0 mem0 xs ps' := hrel
      refine (inl_ok (Y := noY) hT (eok hT hS hmix n d) hev (Nat.le_refl _) hcuts (B := fun _ => False) (fun k h => h.elim) (y := none) (out := []) trivial rfl hrel' hm0).mono ?_
      rintro pv m' ⟨v, xm', fr', fu', G', _, kL, _, k4, k5, k6⟩
      unfold endK at k6
      split at k6
      · rename_i ls' hd
        have := htoB _ _ k6
        subst this
        obtain ⟨x, bx, G'', j1, j2, j3, j4⟩ := decR_ok k4 k5 hd
        exact ⟨x, bx, G'', j1, j2.more fun k hk => hk.1, j3, j4.trans (by rw [kL 0 (Nat.succ_pos _)]; rfl)⟩
      · cases k6
  · cases hev
def lkF : List (Nat × SF R) → Nat → Option (SF R)
  | [], _ => none
  | (k, s) :: r, f => bif Nat.beq k f then some s else lkF r f
def SFone (T : Tab) (P : Program) (f : Nat) (S : SF R) : Prop := ∀ (ls : List Leaf) (K : List Leaf → Option R) (r : R), S.run ls K = some r → ∃ rs, K rs = some r ∧ SpecF T P f S.pa ls S.sr rs
def SFall (T : Tab) (P : Program) : List (Nat × SF R) → Prop
  | [] => True
  | p :: r => SFone T P p.1 p.2 ∧ SFall T P r
theorem sfok_of {T : Tab} {P : Program} {l : List (Nat × SF R)} {cs : List (List Nat × Cut R)} {alt halt pv} (h : SFall T P l) : SFok (⟨T, P, lkF l, cs, alt, halt, pv⟩ : Px R) := by
  intro f S hS
  have hS' : lkF l f = some S := hS
  clear hS
  induction l with
  | nil => cases hS'
  | cons p l ih =>
    obtain ⟨k, s⟩ := p
    simp only [lkF] at hS'
    cases hk : Nat.beq k f with
    | true =>
      rw [hk, cond_true] at hS'
      cases hS'
      have e := Nat.eq_of_beq_eq_true hk
      subst e
      exact h.1
    | false =>
      rw [hk, cond_false] at hS'
      exact ih h.2 hS'
theorem cutG_ok {X : Px R} {d f : Nat} {K : XV → XSt → Option R} {p : List Nat} {sh : Shape} {ta : List LT} {F : Nat → Fn (Option R) ta} (h0 : EqT ta (fun _ => none) (F 0)) (h : ∀ n, EqT ta (fun x => stepF X d f K p sh n (enT ta x)) (F (n + 1))) : CutOK X d f K p (cutG sh ta F) := by
  refine ⟨fun ls => ?_, fun n ls r hr => ?_⟩
  · simp only [cutG]
    split
    · rename_i o ho
      obtain ⟨x, _, e⟩ := unA_ok ho
      rw [e]; exact (h0.get x).symm
    · rfl
  · simp only [cutG] at hr
    split at hr
    · rename_i o ho
      obtain ⟨x, e1, e⟩ := unA_ok ho
      rw [e] at hr; rw [e1]
      exact ((h n).get x).trans hr
    · cases hr
def SpG (T : Tab) (P : Program) (f : Nat) {B : Type} {ts : List LT} (r : RB B ts) (pa : List VP) (ta : List LT) (sr : RShape) (F : Nat → Fn (Option B) ta) : Prop :=
  ∀ (n : Nat) (x : Tu ta) (y : B), apT ta (F n) x = some y → SpecF T P f pa (enT ta x) sr (ofG r y)
theorem spG {X : Px R} (hT : TOK X.T X.P) (hS : SFok X) (hmix : X.P.follows .mixedOrders = true) (f d : Nat) (cs : List (List Nat × Cut R)) (hcut : X.cut = mkCuts f cs) {ts : List LT} {r : RB R ts} {pa : List VP} {ta : List LT} {sr : RShape} {F : Nat → Fn (Option R) ta}
    (hst : AllCuts X d f (endK sr (toG r)) cs) (he : ∀ n, EqT ta (fun x => entF X d f pa (endK sr (toG r)) n (enT ta x)) (F n)) : SpG X.T X.P f r pa ta sr F :=
  fun n x _ h => fun_ok hT hS hmix f d cs hcut (toG_ok r) hst (((he n).get x).trans h)
theorem okG {T : Tab} {P : Program} {f : Nat} {B : Type} {ts : List LT} {r : RB B ts} {pa : List VP} {ta : List LT} {sr : RShape} {dr : Bool} {F : Nat → Fn (Option B) ta} (h : SpG T P f r pa ta sr F) : SFone T P f (runG r pa ta sr dr (F FUEL) : SF R) := by
  intro ls K z hz
  simp only [runG] at hz
  split at hz
  · rename_i o ho
    obtain ⟨y, k1, k2⟩ := Option.bind_eq_some_iff.1 hz
    obtain ⟨x, e1, e⟩ := unA_ok ho
    rw [e1]
    rw [e] at k1
    exact ⟨_, k2, h FUEL x y k1⟩
  · cases hz
end
end Go.Proofs.Ytcbhmedknbiffaa
