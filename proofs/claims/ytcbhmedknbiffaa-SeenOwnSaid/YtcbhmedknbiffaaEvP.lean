/-
  The layer Ev: regions.
-/
import Derived.Test.YtcbhmedknbiffaaEvO
namespace Go.Proofs.Ytcbhmedknbiffaa
open Go Go.RowKit
section
variable {R : Type} {X : Px R}
theorem beq2h (h : Nat) : Nat.beq (2 * h) 1 = false ∧ Nat.beq (2 * h) 3 = false ∧ 2 * h / 2 = h := by
  refine ⟨?_, ?_, by omega⟩
  · rw [nbeq, beq_eq_false_iff_ne]; omega
  · rw [nbeq, beq_eq_false_iff_ne]; omega
section
variable {G : Gn} {A : Nat → Prop} {xm : XM} {m : Mem}
abbrev GnF (G : Gn) (bx : List (Nat × XBox)) (k : Nat) : Gn := { G with H := fun j => G.H j ∨ (OwnX G bx k ∧ j = G.ι k) }
mutual
theorem frzV_ok {k fr cs l} (h : XRM G A xm m) (hl : lkB xm.bx k = .row fr cs l) {sh' : Sh} (hx : GXt G (shB xm.bx) xm.nx m (GnF G xm.bx k) sh' xm.nx m) :
    ∀ (x : XV) (p : PV), RvX G (shB xm.bx) xm.nx m x p → RvX (GnF G xm.bx k) sh' xm.nx m (frzV k fr cs l x) p
  | .row j, p, hr => by
    simp only [frzV]
    by_cases e : j = k
    · subst e
      simp only [nbeq, beq_self_eq_true, cond_true]
      obtain ⟨hk, hor⟩ := h.row hl hr
      simp only [RvX]
      rcases hor with ⟨hu, e, es, hb, hre⟩ | ⟨hu, e1, e2⟩
      · refine ⟨es, .inr (.inr ⟨_, 0, _, es, e, .inr ⟨own_row hl hu, rfl⟩, hb, by rw [hre.1]; omega, ?_⟩), hre.mono hx.hh id⟩
        rw [List.drop_zero, hre.1, List.take_length]
      · subst e1; exact ⟨[], .inr (.inl ⟨e2, rfl⟩), RdE.nil⟩
    · have : (j == k) = false := by simpa using e
      simp only [nbeq, this, cond_false]
      exact RvX.mono hx _ _ hr
  | .rsub j a n, p, hr => by
    simp only [frzV]
    by_cases e : j = k
    · subst e
      simp only [nbeq, beq_self_eq_true, cond_true]
      obtain ⟨hk, hor⟩ := h.rsub hl hr
      simp only [RvX]
      rcases hor with ⟨hu, e, hle, es, hb, hre⟩ | ⟨hu, e1, e2, e3⟩
      · exact ⟨(es.drop a).take n, .inr (.inr ⟨_, a, n, es, e, .inr ⟨own_row hl hu, rfl⟩, hb, by rw [← hre.1]; exact hle, rfl⟩), ((hre.drop a).take n).mono hx.hh id⟩
      · subst e1; subst e2; exact ⟨[], e3.slr, by simpa using RdE.nil⟩
    · have : (j == k) = false := by simpa using e
      simp only [nbeq, this, cond_false]
      exact RvX.mono hx _ _ hr
  | .agg xs, p, hr => by
    simp only [frzV, RvX] at hr ⊢; obtain ⟨ps, e, h2⟩ := hr; exact ⟨ps, e, frzVs_ok h hl hx xs ps h2⟩
  | .tup xs, p, hr => by
    simp only [frzV, RvX] at hr ⊢; obtain ⟨ps, e, h2⟩ := hr; exact ⟨ps, e, frzVs_ok h hl hx xs ps h2⟩
  | .ep xs, p, hr => by
    simp only [frzV, RvX] at hr ⊢; obtain ⟨ps, e, h2⟩ := hr; exact ⟨ps, e.mono hx.hh, frzVs_ok h hl hx xs ps h2⟩
  | .clos f xs, p, hr => by
    simp only [frzV, RvX] at hr ⊢; obtain ⟨ps, e, h2⟩ := hr; exact ⟨ps, e, frzVs_ok h hl hx xs ps h2⟩
  | .aep xs i w off, p, hr => by simp only [frzV]; exact RvX.mono hx _ _ hr
  | .any, p, hr => by simp only [frzV]; exact RvX.mono hx _ _ hr
  | .skip, p, hr => by simp only [frzV]; exact RvX.mono hx _ _ hr
  | .nil, p, hr => by simp only [frzV]; exact RvX.mono hx _ _ hr
  | .i _ _, p, hr => by simp only [frzV]; exact RvX.mono hx _ _ hr
  | .b _, p, hr => by simp only [frzV]; exact RvX.mono hx _ _ hr
  | .s _, p, hr => by simp only [frzV]; exact RvX.mono hx _ _ hr
  | .sl _ _ _, p, hr => by simp only [frzV]; exact RvX.mono hx _ _ hr
  | .ref _ _, p, hr => by simp only [frzV]; exact RvX.mono hx _ _ hr
  | .aref _ _ _ _, p, hr => by simp only [frzV]; exact RvX.mono hx _ _ hr
  | .rp _ _ _, p, hr => by simp only [frzV]; exact RvX.mono hx _ _ hr
  | .asl _ _ _ _, p, hr => by simp only [frzV]; exact RvX.mono hx _ _ hr
  | .yield _, p, hr => by simp only [frzV]; exact RvX.mono hx _ _ hr
  | .opq _, p, hr => by simp only [frzV]; exact RvX.mono hx _ _ hr
  | .mp _, p, hr => by simp only [frzV]; exact RvX.mono hx _ _ hr
  | .ui _, p, hr => by simp only [frzV]; exact RvX.mono hx _ _ hr
  | .nr _, p, hr => by simp only [frzV]; exact RvX.mono hx _ _ hr
  | .np _ _, p, hr => by simp only [frzV]; exact RvX.mono hx _ _ hr
theorem frzVs_ok {k fr cs l} (h : XRM G A xm m) (hl : lkB xm.bx k = .row fr cs l) {sh' : Sh} (hx : GXt G (shB xm.bx) xm.nx m (GnF G xm.bx k) sh' xm.nx m) :
    ∀ (xs : List XV) (ps : List PV), RlX G (shB xm.bx) xm.nx m xs ps → RlX (GnF G xm.bx k) sh' xm.nx m (frzVs k fr cs l xs) ps
  | [], _, hr => by simp only [frzVs, RlX] at hr ⊢; exact hr
  | x :: xs, _, hr => by
    simp only [frzVs, RlX] at hr ⊢
    obtain ⟨p, r, e, h1, h2⟩ := hr
    exact ⟨p, r, e, frzV_ok h hl hx x p h1, frzVs_ok h hl hx xs r h2⟩
end
theorem frzE_lk {k fr cs l} : ∀ (e : List (Nat × XV)) (j : Nat), lkX (frzE k fr cs l e) j = frzV k fr cs l (lkX e j)
  | [], j => by simp only [frzE, lkX, frzV]
  | (n, x) :: r, j => by
    simp only [frzE, lkX]
    cases Nat.beq n j with
    | true => rfl
    | false => exact frzE_lk r j
theorem frzP_fst {k fr cs l} : ∀ (es : List (Int × XV)), (frzP k fr cs l es).map (·.1) = es.map (·.1)
  | [] => rfl
  | (n, x) :: r => by simp only [frzP, List.map_cons, frzP_fst r]
theorem frzP_snd {k fr cs l} : ∀ (es : List (Int × XV)), (frzP k fr cs l es).map (·.2) = frzVs k fr cs l (es.map (·.2))
  | [] => rfl
  | (n, x) :: r => by simp only [frzP, List.map_cons, frzVs, frzP_snd r]
def frzX (k : Nat) (fr : Bool) (cs : List CT) (l : List (DenL cs)) : XBox → XBox
  | .cells xs => .cells (frzVs k fr cs l xs)
  | .mp kd es => .mp kd (frzP k fr cs l es)
  | .row fr' cs' l' => .row fr' cs' l'
  | .pv cs' ns => .pv cs' ns
  | .gone => .gone
theorem frzB_lk {k fr cs l} : ∀ (bx : List (Nat × XBox)) (j : Nat), lkB (frzB k fr cs l bx) j = if k = j then .gone else frzX k fr cs l (lkB bx j)
  | [], j => by simp only [frzB, lkB, frzX]; split <;> rfl
  | (n, b) :: r, j => by
    simp only [frzB, lkB, nbeq]
    by_cases e : n = j
    · subst e
      simp only [beq_self_eq_true, cond_true]
      by_cases e2 : k = n
      · subst e2
        rw [if_pos rfl]
        cases b <;> simp
      · rw [if_neg e2]
        have : (n == k) = false := by simpa using fun h => e2 h.symm
        cases b <;> simp only [frzX, this, cond_false]
    · have : (n == j) = false := by simpa using e
      rw [this, cond_false, cond_false]; exact frzB_lk r j
theorem frzB_sh {k fr cs l} (bx : List (Nat × XBox)) : shB (frzB k fr cs l bx) = shB (updB bx k .gone) := by
  funext j
  unfold shB
  rw [frzB_lk, lkB_upd]
  split
  · rfl
  · cases lkB bx j <;> rfl
theorem frzF_ok {k fr cs l} (h : XRM G A xm m) (hl : lkB xm.bx k = .row fr cs l) {sh' : Sh} (hx : GXt G (shB xm.bx) xm.nx m (GnF G xm.bx k) sh' xm.nx m) :
    ∀ {fs : List Fr} {es : List PF}, RfX G (shB xm.bx) xm.nx m fs es → RfX (GnF G xm.bx k) sh' xm.nx m (frzF k fr cs l fs) es
  | [], _, hr => hr
  | _ :: _, _, ⟨e, r, h1, h2, h3, h4⟩ => ⟨e, r, h1, h2, fun j => by rw [frzE_lk]; exact frzV_ok h hl hx _ _ (h3 j), frzF_ok h hl hx h4⟩
theorem frzS_ok {B : Nat → Prop} {s : XSt} {p : St} {out : List PF} (hs : RelS B G s p out) (k : Nat) :
    (∃ G', G'.L = G.L ∧ RelS B G' (frzS k s) p out) ∧ (frzS k s).fu = s.fu := by
  unfold frzS
  cases hl : lkB s.m.bx k with
  | gone => exact ⟨⟨G, rfl, hs⟩, rfl⟩
  | cells _ => exact ⟨⟨G, rfl, hs⟩, rfl⟩
  | mp _ _ => exact ⟨⟨G, rfl, hs⟩, rfl⟩
  | pv _ _ => exact ⟨⟨G, rfl, hs⟩, rfl⟩
  | row fr cs l =>
    refine ⟨?_, rfl⟩
    obtain ⟨hf, hm⟩ := hs
    have hk : k < s.m.nx := by
      rcases Nat.lt_or_ge k s.m.nx with h1 | h1
      · exact h1
      · rw [hm.lt k h1] at hl; cases hl
    obtain ⟨h1, hx⟩ := hm.forget k hk
    have esh := frzB_sh (k := k) (fr := fr) (cs := cs) (l := l) s.m.bx
    refine ⟨GnF G s.m.bx k, rfl, ?_, ?_⟩
    · show RfX _ (shB (frzB k fr cs l s.m.bx)) _ _ _ _
      rw [esh]; exact frzF_ok hm hl hx hf
    · have own : ∀ j, OwnX (GnF G s.m.bx k) (frzB k fr cs l s.m.bx) j → OwnX (GnF G s.m.bx k) (updB s.m.bx k .gone) j := by
        intro j ho
        unfold OwnX at ho ⊢
        rw [frzB_lk] at ho; rw [lkB_upd]
        by_cases e : k = j
        · rw [if_pos e] at ho; exact ho.elim
        · rw [if_neg e] at ho ⊢
          cases hb : lkB s.m.bx j <;> rw [hb] at ho <;> exact ho
      refine ⟨fun j => ?_, fun j ho => h1.al j (own j ho), fun j ho => h1.nh j (own j ho), fun j j' ho ho' => h1.inj j j' (own j ho) (own j' ho'), h1.ha, h1.ys, fun j hj => ?_, fun b n hP => ⟨(h1.pv b n hP).1, (h1.pv b n hP).2.1, fun j ho => (h1.pv b n hP).2.2.1 j (own j ho), (h1.pv b n hP).2.2.2⟩⟩
      · show BoxX _ (shB (frzB k fr cs l s.m.bx)) _ _ j (lkB (frzB k fr cs l s.m.bx) j)
        rw [esh, frzB_lk]
        by_cases e : k = j
        · rw [if_pos e]; trivial
        · rw [if_neg e]
          have hb := hm.box j
          have hb1 := h1.box j
          simp only [lkB_upd, if_neg e] at hb1
          cases hj : lkB s.m.bx j with
          | gone => trivial
          | cells xs =>
            rw [hj] at hb
            obtain ⟨ps, e1, e2⟩ := hb
            exact ⟨ps, e1, frzVs_ok hm hl hx _ _ e2⟩
          | mp kd es =>
            rw [hj] at hb
            obtain ⟨ps, e1, e2, e3⟩ := hb
            exact ⟨ps, e1, e2.trans (frzP_fst es).symm, by rw [frzP_snd]; exact frzVs_ok hm hl hx _ _ e3⟩
          | row fr' cs' l' => rw [hj] at hb1; exact hb1
          | pv _ _ => rw [hj] at hb1; exact hb1
      · show lkB (frzB k fr cs l s.m.bx) j = .gone
        rw [frzB_lk]
        split
        · rfl
        · rw [hm.lt j hj]; rfl
theorem frzL_ok {B : Nat → Prop} {p : St} {out : List PF} : ∀ (ks : List Nat) {G : Gn} {s : XSt}, RelS B G s p out → (∃ G', G'.L = G.L ∧ RelS B G' (frzL ks s) p out) ∧ (frzL ks s).fu = s.fu
  | [], G, s, hs => ⟨⟨G, rfl, hs⟩, rfl⟩
  | k :: ks, G, s, hs => by
    obtain ⟨⟨G1, e1, h1⟩, e2⟩ := frzS_ok hs k
    obtain ⟨⟨G2, e3, h2⟩, e4⟩ := frzL_ok ks h1
    exact ⟨⟨G2, e3.trans e1, h2⟩, e4.trans e2⟩
abbrev GnP (G : Gn) (P : Nat → Option Nat) : Gn := { G with P := P }
mutual
theorem RvX.growP {sh nx} {P : Nat → Option Nat} (hP : ∀ b n, G.P b = some n → P b = some n) : ∀ (x : XV) (p : PV), RvX G sh nx m x p → RvX (GnP G P) sh nx m x p
  | .any, _, _ => by simp only [RvX]
  | .skip, _, hr => by simp only [RvX] at hr ⊢; exact hr
  | .nil, _, hr => by simp only [RvX] at hr ⊢; exact hr
  | .i _ _, _, hr => by simp only [RvX] at hr ⊢; exact hr
  | .b _, _, hr => by simp only [RvX] at hr ⊢; exact hr
  | .s _, _, hr => by simp only [RvX] at hr ⊢; exact hr
  | .agg xs, _, hr => by simp only [RvX] at hr ⊢; obtain ⟨ps, e, hl⟩ := hr; exact ⟨ps, e, RlX.growP hP xs ps hl⟩
  | .tup xs, _, hr => by simp only [RvX] at hr ⊢; obtain ⟨ps, e, hl⟩ := hr; exact ⟨ps, e, RlX.growP hP xs ps hl⟩
  | .sl _ _ _, _, hr => by simp only [RvX] at hr ⊢; exact hr
  | .row _, _, hr => by simp only [RvX] at hr ⊢; exact hr
  | .rsub _ _ _, _, hr => by simp only [RvX] at hr ⊢; exact hr
  | .ref _ _, _, hr => by simp only [RvX] at hr ⊢; exact hr
  | .aref _ _ _ _, _, hr => by simp only [RvX] at hr ⊢; exact hr
  | .asl _ _ _ _, _, hr => by simp only [RvX] at hr ⊢; exact hr
  | .rp _ _ _, _, hr => by simp only [RvX] at hr ⊢; exact hr
  | .ep xs, _, hr => by simp only [RvX] at hr ⊢; obtain ⟨ps, e, hl⟩ := hr; exact ⟨ps, e, RlX.growP hP xs ps hl⟩
  | .aep xs _ _ _, _, hr => by simp only [RvX] at hr ⊢; obtain ⟨ps, e, hl⟩ := hr; exact ⟨ps, e, RlX.growP hP xs ps hl⟩
  | .clos _ xs, _, hr => by simp only [RvX] at hr ⊢; obtain ⟨ps, e, hl⟩ := hr; exact ⟨ps, e, RlX.growP hP xs ps hl⟩
  | .yield _, _, hr => by simp only [RvX] at hr ⊢; exact hr
  | .opq _, _, hr => by simp only [RvX] at hr ⊢; exact hr
  | .mp _, _, hr => by simp only [RvX] at hr ⊢; exact hr
  | .ui _, _, hr => by simp only [RvX] at hr ⊢; exact hr
  | .nr _, _, hr => by simp only [RvX] at hr ⊢; exact hr.mono hP
  | .np _ _, _, hr => by
    simp only [RvX] at hr ⊢; obtain ⟨b, h1, h2⟩ := hr; exact ⟨b, hP b _ h1, h2⟩
theorem RlX.growP {sh nx} {P : Nat → Option Nat} (hP : ∀ b n, G.P b = some n → P b = some n) : ∀ (xs : List XV) (ps : List PV), RlX G sh nx m xs ps → RlX (GnP G P) sh nx m xs ps
  | [], _, hr => by simp only [RlX] at hr ⊢; exact hr
  | x :: xs, _, hr => by
    simp only [RlX] at hr ⊢
    obtain ⟨p, r, e, h1, h2⟩ := hr
    exact ⟨p, r, e, RvX.growP hP x p h1, RlX.growP hP xs r h2⟩
end
theorem XRM.dropX (h : XRM G A xm m) (k : Nat) : XRM G A ⟨updB xm.bx k .gone, xm.nx, xm.ys⟩ m ∧ GXt G (shB xm.bx) xm.nx m G (shB (updB xm.bx k .gone)) xm.nx m := by
  have hx : GXt G (shB xm.bx) xm.nx m G (shB (updB xm.bx k .gone)) xm.nx m :=
    ⟨Nat.le_refl _, fun _ _ => rfl, fun _ _ => Iff.rfl, fun j _ => by
      rw [shB_upd]; split
      · exact .inl rfl
      · exact .inr rfl, HX.refl _ _, rfl, rfl⟩
  have own : ∀ j, OwnX G (updB xm.bx k .gone) j → OwnX G xm.bx j := by
    intro j ho
    by_cases e : k = j
    · subst e; unfold OwnX at ho; rw [lkB_upd, if_pos rfl] at ho; exact ho.elim
    · rw [OwnX.upd_ne e] at ho; exact ho
  refine ⟨⟨fun j => ?_, fun j ho => h.al j (own j ho), fun j ho => h.nh j (own j ho), fun j j' ho ho' e => h.inj j j' (own j ho) (own j' ho') e, h.ha, h.ys, fun j hj => ?_, fun b n hP => ?_⟩, hx⟩
  · simp only
    rw [lkB_upd]
    split
    · trivial
    · by_cases hg : lkB xm.bx j = .gone
      · rw [hg]; trivial
      · exact BoxX.mono hx (h.blt hg) (fun _ => rfl) (h.box j)
  · simp only; rw [lkB_upd]; split
    · rfl
    · exact h.lt j hj
  · obtain ⟨p1, p2, p3, p4⟩ := h.pv b n hP
    exact ⟨p1, p2, fun j ho => p3 j (own j ho), p4⟩
mutual
theorem prvV_ok {k nn} (h : XRM G A xm m) {fr : Bool} {l : List (DenL [.int .i64])} (hl : lkB xm.bx k = .row fr [.int .i64] l) (hnn : nn = ofN l.length) {P : Nat → Option Nat} (hP : ∀ b n, G.P b = some n → P b = some n) (hk : ¬ G.U k → P (G.ι k) = some l.length) {sh' : Sh} (hx : GXt G (shB xm.bx) xm.nx m G sh' xm.nx m) :
    ∀ (x : XV) (p : PV), RvX G (shB xm.bx) xm.nx m x p → RvX (GnP G P) sh' xm.nx m (prvV k nn x) p
  | .row j, p, hr => by
    simp only [prvV]
    by_cases e : j = k
    · subst e
      simp only [nbeq, beq_self_eq_true, cond_true]
      obtain ⟨_, hor⟩ := h.row hl hr
      simp only [RvX]
      rcases hor with ⟨hu, e, _⟩ | ⟨hu, e1, e2⟩
      · refine .inr ⟨G.ι j, ?_, by rw [hnn]; simp only [ofN]; omega, ?_⟩
        · rw [hnn]; exact hk hu
        · rw [hnn]; exact e
      · subst e1; exact .inl ⟨hnn, e2⟩
    · have : (j == k) = false := by simpa using e
      simp only [nbeq, this, cond_false]
      exact RvX.growP hP _ _ (RvX.mono hx _ _ hr)
  | .rsub j a n, p, hr => by
    simp only [prvV]
    by_cases e : j = k
    · subst e
      simp only [nbeq, beq_self_eq_true, cond_true]
      simp only [RvX]
    · have : (j == k) = false := by simpa using e
      simp only [nbeq, this, cond_false]
      exact RvX.growP hP _ _ (RvX.mono hx _ _ hr)
  | .agg xs, p, hr => by
    simp only [prvV, RvX] at hr ⊢; obtain ⟨ps, e, h2⟩ := hr; exact ⟨ps, e, prvVs_ok h hl hnn hP hk hx xs ps h2⟩
  | .tup xs, p, hr => by
    simp only [prvV, RvX] at hr ⊢; obtain ⟨ps, e, h2⟩ := hr; exact ⟨ps, e, prvVs_ok h hl hnn hP hk hx xs ps h2⟩
  | .ep xs, p, hr => by
    simp only [prvV, RvX] at hr ⊢; obtain ⟨ps, e, h2⟩ := hr; exact ⟨ps, e.mono hx.hh, prvVs_ok h hl hnn hP hk hx xs ps h2⟩
  | .clos f xs, p, hr => by
    simp only [prvV, RvX] at hr ⊢; obtain ⟨ps, e, h2⟩ := hr; exact ⟨ps, e, prvVs_ok h hl hnn hP hk hx xs ps h2⟩
  | .aep xs i w off, p, hr => by simp only [prvV]; exact RvX.growP hP _ _ (RvX.mono hx _ _ hr)
  | .any, p, hr => by simp only [prvV]; exact RvX.growP hP _ _ (RvX.mono hx _ _ hr)
  | .skip, p, hr => by simp only [prvV]; exact RvX.growP hP _ _ (RvX.mono hx _ _ hr)
  | .nil, p, hr => by simp only [prvV]; exact RvX.growP hP _ _ (RvX.mono hx _ _ hr)
  | .i _ _, p, hr => by simp only [prvV]; exact RvX.growP hP _ _ (RvX.mono hx _ _ hr)
  | .b _, p, hr => by simp only [prvV]; exact RvX.growP hP _ _ (RvX.mono hx _ _ hr)
  | .s _, p, hr => by simp only [prvV]; exact RvX.growP hP _ _ (RvX.mono hx _ _ hr)
  | .sl _ _ _, p, hr => by simp only [prvV]; exact RvX.growP hP _ _ (RvX.mono hx _ _ hr)
  | .ref _ _, p, hr => by simp only [prvV]; exact RvX.growP hP _ _ (RvX.mono hx _ _ hr)
  | .aref _ _ _ _, p, hr => by simp only [prvV]; exact RvX.growP hP _ _ (RvX.mono hx _ _ hr)
  | .rp _ _ _, p, hr => by simp only [prvV]; exact RvX.growP hP _ _ (RvX.mono hx _ _ hr)
  | .asl _ _ _ _, p, hr => by simp only [prvV]; exact RvX.growP hP _ _ (RvX.mono hx _ _ hr)
  | .yield _, p, hr => by simp only [prvV]; exact RvX.growP hP _ _ (RvX.mono hx _ _ hr)
  | .opq _, p, hr => by simp only [prvV]; exact RvX.growP hP _ _ (RvX.mono hx _ _ hr)
  | .mp _, p, hr => by simp only [prvV]; exact RvX.growP hP _ _ (RvX.mono hx _ _ hr)
  | .ui _, p, hr => by simp only [prvV]; exact RvX.growP hP _ _ (RvX.mono hx _ _ hr)
  | .nr _, p, hr => by simp only [prvV]; exact RvX.growP hP _ _ (RvX.mono hx _ _ hr)
  | .np _ _, p, hr => by simp only [prvV]; exact RvX.growP hP _ _ (RvX.mono hx _ _ hr)
theorem prvVs_ok {k nn} (h : XRM G A xm m) {fr : Bool} {l : List (DenL [.int .i64])} (hl : lkB xm.bx k = .row fr [.int .i64] l) (hnn : nn = ofN l.length) {P : Nat → Option Nat} (hP : ∀ b n, G.P b = some n → P b = some n) (hk : ¬ G.U k → P (G.ι k) = some l.length) {sh' : Sh} (hx : GXt G (shB xm.bx) xm.nx m G sh' xm.nx m) :
    ∀ (xs : List XV) (ps : List PV), RlX G (shB xm.bx) xm.nx m xs ps → RlX (GnP G P) sh' xm.nx m (prvVs k nn xs) ps
  | [], _, hr => by simp only [prvVs, RlX] at hr ⊢; exact hr
  | x :: xs, _, hr => by
    simp only [prvVs, RlX] at hr ⊢
    obtain ⟨p, r, e, h1, h2⟩ := hr
    exact ⟨p, r, e, prvV_ok h hl hnn hP hk hx x p h1, prvVs_ok h hl hnn hP hk hx xs r h2⟩
end
theorem prvE_lk {k nn} : ∀ (e : List (Nat × XV)) (j : Nat), lkX (prvE k nn e) j = prvV k nn (lkX e j)
  | [], j => by simp only [prvE, lkX, prvV]
  | (n, x) :: r, j => by
    simp only [prvE, lkX]
    cases Nat.beq n j with
    | true => rfl
    | false => exact prvE_lk r j
theorem prvP_fst {k nn} : ∀ (es : List (Int × XV)), (prvP k nn es).map (·.1) = es.map (·.1)
  | [] => rfl
  | (n, x) :: r => by simp only [prvP, List.map_cons, prvP_fst r]
theorem prvP_snd {k nn} : ∀ (es : List (Int × XV)), (prvP k nn es).map (·.2) = prvVs k nn (es.map (·.2))
  | [] => rfl
  | (n, x) :: r => by simp only [prvP, List.map_cons, prvVs, prvP_snd r]
def prvX (k : Nat) (nn : Int) : XBox → XBox
  | .cells xs => .cells (prvVs k nn xs)
  | .mp kd es => .mp kd (prvP k nn es)
  | .row fr' cs' l' => .row fr' cs' l'
  | .pv cs' ns => .pv cs' ns
  | .gone => .gone
theorem prvB_lk {k nn} : ∀ (bx : List (Nat × XBox)) (j : Nat), lkB (prvB k nn bx) j = if k = j then .gone else prvX k nn (lkB bx j)
  | [], j => by simp only [prvB, lkB, prvX]; split <;> rfl
  | (n, b) :: r, j => by
    simp only [prvB, lkB, nbeq]
    by_cases e : n = j
    · subst e
      simp only [beq_self_eq_true, cond_true]
      by_cases e2 : k = n
      · subst e2
        rw [if_pos rfl]
        cases b <;> simp
      · rw [if_neg e2]
        have : (n == k) = false := by simpa using fun h => e2 h.symm
        cases b <;> simp only [prvX, this, cond_false]
    · have : (n == j) = false := by simpa using e
      rw [this, cond_false, cond_false]; exact prvB_lk r j
theorem prvB_sh {k nn} (bx : List (Nat × XBox)) : shB (prvB k nn bx) = shB (updB bx k .gone) := by
  funext j
  unfold shB
  rw [prvB_lk, lkB_upd]
  split
  · rfl
  · cases lkB bx j <;> rfl
theorem prvF_ok {k nn} (h : XRM G A xm m) {fr : Bool} {l : List (DenL [.int .i64])} (hl : lkB xm.bx k = .row fr [.int .i64] l) (hnn : nn = ofN l.length) {P : Nat → Option Nat} (hP : ∀ b n, G.P b = some n → P b = some n) (hk : ¬ G.U k → P (G.ι k) = some l.length) {sh' : Sh} (hx : GXt G (shB xm.bx) xm.nx m G sh' xm.nx m) :
    ∀ {fs : List Fr} {es : List PF}, RfX G (shB xm.bx) xm.nx m fs es → RfX (GnP G P) sh' xm.nx m (prvF k nn fs) es
  | [], _, hr => hr
  | _ :: _, _, ⟨e, r, h1, h2, h3, h4⟩ => ⟨e, r, h1, h2, fun j => by rw [prvE_lk]; exact prvV_ok h hl hnn hP hk hx _ _ (h3 j), prvF_ok h hl hnn hP hk hx h4⟩
open Classical in
theorem prvS_ok {B : Nat → Prop} {s : XSt} {p : St} {out : List PF} (hs : RelS B G s p out) (k : Nat) :
    (∃ G', G'.L = G.L ∧ RelS B G' (prvS k s) p out) ∧ (prvS k s).fu = s.fu := by
  unfold prvS
  cases hl : lkB s.m.bx k with
  | gone => exact ⟨⟨G, rfl, hs⟩, rfl⟩
  | cells _ => exact ⟨⟨G, rfl, hs⟩, rfl⟩
  | mp _ _ => exact ⟨⟨G, rfl, hs⟩, rfl⟩
  | pv _ _ => exact ⟨⟨G, rfl, hs⟩, rfl⟩
  | row fr cs l =>
    simp only
    split
    · rename_i ecs _
      subst ecs
      refine ⟨?_, rfl⟩
      obtain ⟨hf, hm⟩ := hs
      have hk : k < s.m.nx := by
        rcases Nat.lt_or_ge k s.m.nx with h1 | h1
        · exact h1
        · rw [hm.lt k h1] at hl; cases hl
      obtain ⟨h1, hx⟩ := hm.dropX k
      have esh := prvB_sh (k := k) (nn := ofN l.length) s.m.bx
      -- what is private behind
      have hne : ∀ b n, G.P b = some n → ¬ (¬ G.U k ∧ b = G.ι k) := fun b n hb hh => (hm.pv b n hb).2.2.1 k (own_row hl hh.1) hh.2.symm
      obtain ⟨P, hPd⟩ : ∃ P : Nat → Option Nat, ∀ b, P b = if ¬ G.U k ∧ b = G.ι k then some l.length else G.P b := ⟨_, fun _ => rfl⟩
      have hP : ∀ b n, G.P b = some n → P b = some n := fun b n hb => by rw [hPd, if_neg (hne b n hb)]; exact hb
      have hPk : ¬ G.U k → P (G.ι k) = some l.length := fun hu => by rw [hPd, if_pos ⟨hu, rfl⟩]
      refine ⟨GnP G P, rfl, ?_, ?_⟩
      · show RfX _ (shB (prvB k (ofN l.length) s.m.bx)) _ _ _ _
        rw [esh]; exact prvF_ok hm hl rfl hP hPk hx hf
      · have own : ∀ j, OwnX (GnP G P) (prvB k (ofN l.length) s.m.bx) j → OwnX G s.m.bx j ∧ j ≠ k := by
          intro j ho
          unfold OwnX at ho ⊢
          rw [prvB_lk] at ho
          by_cases e : k = j
          · rw [if_pos e] at ho; exact ho.elim
          · rw [if_neg e] at ho
            refine ⟨?_, fun e' => e e'.symm⟩
            cases hb : lkB s.m.bx j <;> rw [hb] at ho <;> exact ho
        refine ⟨fun j => ?_, fun j ho => hm.al j (own j ho).1, fun j ho => hm.nh j (own j ho).1, fun j j' ho ho' => hm.inj j j' (own j ho).1 (own j' ho').1, hm.ha, hm.ys, fun j hj => ?_, fun b n hb => ?_⟩
        · show BoxX _ (shB (prvB k (ofN l.length) s.m.bx)) _ _ j (lkB (prvB k (ofN l.length) s.m.bx) j)
          rw [esh, prvB_lk]
          by_cases e : k = j
          · rw [if_pos e]; trivial
          · rw [if_neg e]
            have hb := hm.box j
            have hb1 := h1.box j
            simp only [lkB_upd, if_neg e] at hb1
            cases hj : lkB s.m.bx j with
            | gone => trivial
            | cells xs =>
              rw [hj] at hb
              obtain ⟨ps, e1, e2⟩ := hb
              exact ⟨ps, e1, prvVs_ok hm hl rfl hP hPk hx _ _ e2⟩
            | mp kd es =>
              rw [hj] at hb
              obtain ⟨ps, e1, e2, e3⟩ := hb
              exact ⟨ps, e1, e2.trans (prvP_fst es).symm, by rw [prvP_snd]; exact prvVs_ok hm hl rfl hP hPk hx _ _ e3⟩
            | row fr' cs' l' => rw [hj] at hb1; exact hb1
            | pv cs' ns =>
              rw [hj] at hb1
              rcases hb1 with h2 | ⟨hu, es, h2, h3⟩
              · exact .inl h2
              · exact .inr ⟨hu, es, h2, h3.mono hP⟩
        · show lkB (prvB k (ofN l.length) s.m.bx) j = .gone
          rw [prvB_lk]
          split
          · rfl
          · rw [hm.lt j hj]; rfl
        · have hb' : P b = some n := hb
          rw [hPd] at hb'
          split at hb'
          · rename_i hc
            obtain ⟨hu, rfl⟩ := hc
            cases hb'
            have ho := own_row hl hu
            refine ⟨hm.al k ho, hm.nh k ho, fun j ho' e => (own j ho').2 (hm.inj j k (own j ho').1 ho e), ?_⟩
            have hbx := hm.box k
            rw [hl] at hbx
            rcases hbx with ⟨hu', _⟩ | ⟨_, es, e1, e2⟩
            · exact absurd hu' hu
            · refine ⟨es, e1, e2.1.symm, fun e he => ?_⟩
              obtain ⟨i, hi, rfl⟩ := List.mem_iff_getElem.1 he
              have hi' : i < l.length := by rw [e2.1]; exact hi
              have := e2.2 i l[i] es[i] (List.getElem?_eq_getElem hi') (List.getElem?_eq_getElem hi)
              simp only [RdL, Rd] at this
              obtain ⟨q, hq, hq2⟩ := this
              subst hq2; exact ⟨_, hq⟩
          · obtain ⟨p1, p2, p3, p4⟩ := hm.pv b n hb'
            exact ⟨p1, p2, fun j ho => p3 j (own j ho).1, p4⟩
    · obtain ⟨h1, h2⟩ := frzS_ok hs k
      exact ⟨h1, h2⟩
theorem prvL_ok {B : Nat → Prop} {p : St} {out : List PF} : ∀ (ks : List Nat) {G : Gn} {s : XSt}, RelS B G s p out → (∃ G', G'.L = G.L ∧ RelS B G' (prvL ks s) p out) ∧ (prvL ks s).fu = s.fu
  | [], G, s, hs => ⟨⟨G, rfl, hs⟩, rfl⟩
  | k :: ks, G, s, hs => by
    obtain ⟨⟨G1, e1, h1⟩, e2⟩ := prvS_ok hs k
    obtain ⟨⟨G2, e3, h2⟩, e4⟩ := prvL_ok ks h1
    exact ⟨⟨G2, e3.trans e1, h2⟩, e4.trans e2⟩
theorem pre_ok {B : Nat → Prop} {s : XSt} {p : St} {out : List PF} {T : Tab} {pv : Bool} (o : Oper) (hs : RelS B G s p out) : ∃ G', G'.L = G.L ∧ RelS B G' (preX pv T o s) p out ∧ (preX pv T o s).fu = s.fu := by
  have same : ∃ G', G'.L = G.L ∧ RelS B G' s p out ∧ s.fu = s.fu := ⟨G, rfl, hs, rfl⟩
  unfold preX
  split
  · split
    · exact same
    · cases pv with
      | false =>
        obtain ⟨⟨G1, e1, h1⟩, e2⟩ := frzL_ok _ hs
        exact ⟨G1, e1, h1, e2⟩
      | true =>
        obtain ⟨⟨G1, e1, h1⟩, e2⟩ := prvL_ok _ hs
        exact ⟨G1, e1, h1, e2⟩
  · exact same
end
theorem xops_ok (hT : TOK X.T X.P) (hS : SFok X) {d N : Nat} (hE : EOK X d N) {y : Option RI} {pth : List Nat} {id : Nat} {ops : Array Oper} {κ : EK R} {nb0 : Nat} {B : Nat → Prop} (hB : ∀ k, B k → k < nb0) {r : R}
    (hcut : CutsOK X (d + 1) pth (.region id ops false) y κ) {out : List PF} {Y : Nat → YS} {fu0 : Nat} {L0 : Nat → LO} :
    ∀ (l : List Oper) (i : Nat) (s : XSt) (p : St) (G : Gn), ops.toList.drop i = l → xops X (ev X d) y false pth ops.toList (κ .normal) i l s = some r → s.fu ≤ N → s.fu ≤ fu0 → (∀ j, j < pth.length → G.L j = L0 j) → YH X y Y G.L pth.length out →
      RelS (Bi B nb0 ops.toList.length i) G s p out → nb0 + ops.toList.length ≤ p.m.nb → pops X.T X.P Y ops.toList nb0 (PostX B fu0 pth.length L0 κ r out .normal) i l p
  | [], i, s, p, G, hl, hr, hN, hfu, hL, hy, hs, hnb => by
    refine ⟨s, G, hfu, hL, ⟨hs.1, hs.2.more fun k hk => ⟨hk.1, fun hb => hk.2 (.inl hb)⟩⟩, hr⟩
  | o :: l, i, s, p, G, hl, hr, hN, hfu, hL, hy, hs, hnb => by
    simp only [xops] at hr
    obtain ⟨G, e1, hs, e2⟩ := pre_ok (T := X.T) (pv := X.pv) o hs
    rw [← e2] at hN hfu
    rw [← e1] at hy
    replace hL : ∀ j, j < pth.length → G.L j = L0 j := fun j hj => by rw [e1]; exact hL j hj
    clear e1 e2
    generalize preX X.pv X.T o s = s at hr hN hfu hs
    obtain ⟨f, fs, hfr, hfn, hre, hrf⟩ := hs.head
    have hoi : ops.toList[i]? = some o := by
      have := congrArg (fun l => l[0]?) hl
      simpa using this
    have hi : i < ops.toList.length := (List.getElem?_eq_some_iff.1 hoi).1
    have hl' : ops.toList.drop (i + 1) = l := by
      rw [← List.drop_drop, hl]; rfl
    have hcin : ∀ h fn c, X.P.funcs[h]? = some fn → fn.body = some c → CutsOK X d (2 * h :: i :: pth) c none (retX X fn.results.toList fun v s' => xops X (ev X d) y false pth ops.toList (κ .normal) (i + 1) l (s'.put o.dst v)) := by
      intro h fn c h1 h2
      refine hcut.child [i, 2 * h] rfl fun f => ?_
      obtain ⟨b1, b2, b3⟩ := beq2h h
      simp only [List.cons_append, List.nil_append, atc, hoi, b1, b2, b3, cond_false, h1, h2, hl']
    have hcy : ∀ ri, y = some ri → CutsOK X d (1 :: i :: pth) ri.asg none (asgX (ev X d (3 :: i :: pth) ri.body none (roundX fun t s' => xops X (ev X d) y false pth ops.toList (κ .normal) (i + 1) l (s'.put o.dst (.b t))))) ∧
        CutsOK X d (3 :: i :: pth) ri.body none (roundX fun t s' => xops X (ev X d) y false pth ops.toList (κ .normal) (i + 1) l (s'.put o.dst (.b t))) := by
      rintro ri rfl
      have b0 : Nat.beq 3 1 = false := rfl
      have b1 : Nat.beq 1 1 = true := rfl
      have b2 : Nat.beq 3 3 = true := rfl
      exact ⟨hcut.child [i, 1] rfl fun f => by simp only [List.cons_append, List.nil_append, atc, hoi, b1, cond_true, hl'],
        hcut.child [i, 3] rfl fun f => by simp only [List.cons_append, List.nil_append, atc, hoi, b0, b2, cond_false, cond_true, hl']⟩
    simp only [xopsA, hfr] at hr
    cases hdst : dstX f.n o.dst with
    | false => rw [hdst] at hr; cases hr
    | true =>
      rw [hdst, cond_true] at hr
      have run : ∀ (f2 : Fr) (s2 : XSt), s2.fr = f2 :: fs → s2.fu = s.fu → f2.n = f.n → RelS (Bi B nb0 ops.toList.length i) G s2 p out → xop1 X (ev X d) y false (i :: pth) f2.env o s2 (xops X (ev X d) y false pth ops.toList (κ .normal) (i + 1) l) = some r →
          pop1 X.T X.P Y (pops X.T X.P Y ops.toList nb0 (PostX B fu0 pth.length L0 κ r out .normal) (i + 1) l) (nb0 + i) o p := by
        intro f2 s2 hf2 hfu2 hn2 hs2 hr2
        refine xop1_ok hT hS hE hf2 hr2 (by rw [hfu2]; exact hN) (by rw [hn2]; exact hdst) hcin hcy hi hB hnb hy hs2 fun s' p' G' k1 k2 k3 k4 k5 => ?_
        exact xops_ok hT hS hE hB hcut l (i + 1) s' p' G' hl' k1 (Nat.le_trans k2 (by rw [hfu2]; exact hN)) (Nat.le_trans k2 (by rw [hfu2]; exact hfu)) (fun j hj => (k3 j hj).trans (hL j hj)) (hy.mono (Nat.le_refl _) k3) k4 k5
      have skip : ∀ (f2 : Fr) (s2 : XSt), s2.fr = f2 :: fs → s2.fu = s.fu → f2.n = f.n → RelS (Bi B nb0 ops.toList.length i) G s2 p out → xops X (ev X d) y false pth ops.toList (κ .normal) (i + 1) l (s2.put o.dst .skip) = some r →
          dstOK p.n o.dst = true ∧ pops X.T X.P Y ops.toList nb0 (PostX B fu0 pth.length L0 κ r out .normal) (i + 1) l (p.put o.dst (.v (.tuple #[])) p.m) := by
        intro f2 s2 hf2 hfu2 hn2 hs2 hr2
        refine ⟨by rw [← hfn]; exact dst_ok hdst, ?_⟩
        have hs3 := Bi.weak hs2
        obtain ⟨f3, fs3, e1, e2, e3, e4⟩ := hs3.head
        rw [hf2] at e1; cases e1
        have hput := RelS.put (dst := o.dst) (fu := s2.fu) (v := .skip) (pv := .v (.tuple #[])) e2 e3 e4 (GXt.refl _ _ _ _) hs3.2 (by simp only [RvX])
        rw [← hf2] at hput
        have hfu3 : (s2.put o.dst .skip).fu = s.fu := by rw [← hfu2]; cases o.dst <;> simp only [XSt.put, hf2]
        exact xops_ok hT hS hE hB hcut l (i + 1) _ _ G hl' hr2 (by rw [hfu3]; exact hN) (by rw [hfu3]; exact hfu) hL hy hput (by rw [st_put_m]; exact hnb)
      have lit : ∀ (d' : Nat) (t : Bool), lk p.env d' = .v (.bool t) → RelS (Bi B nb0 ops.toList.length i) G (s.put (some d') (.b t)) p out ∧ (s.put (some d') (.b t)).fr = ⟨f.n, (d', .b t) :: f.env⟩ :: fs ∧ (s.put (some d') (.b t)).fu = s.fu := by
        intro d' t ht
        have e1 : s.put (some d') (.b t) = ⟨⟨f.n, (d', .b t) :: f.env⟩ :: fs, s.m, s.fu⟩ := by simp only [XSt.put, hfr]
        rw [e1]
        exact ⟨RelS.mk' hfn (hre.consX d' (by simp only [RvX]; exact ht)) hrf hs.2, rfl, rfl⟩
      simp only [pops]
      cases hg : o.guard with
      | none =>
        rw [hg] at hr
        simp only [cond_false] at hr
        exact run f s hfr rfl rfl hs hr
      | some jw =>
        obtain ⟨j, want⟩ := jw
        rw [hg] at hr
        simp only at hr
        split at hr
        · cases hr
        · rename_i d' hd'
          simp only [gval, hd']
          have hk := hre d'
          split at hr
          · rename_i hx
            rw [hx] at hk
            simp only [RvX] at hk
            rw [hk]
            exact skip f s hfr rfl rfl hs hr
          · rename_i t hx
            rw [hx] at hk
            simp only [RvX] at hk
            rw [hk]
            simp only
            obtain ⟨l1, l2, l3⟩ := lit d' t hk
            cases want with
            | true =>
              simp only at hr
              cases t with
              | true => simp only [cond_true, cond_false] at hr; rw [if_pos rfl]; exact run _ _ l2 l3 rfl l1 hr
              | false => simp only [cond_false] at hr; rw [if_neg (by simp)]; exact skip _ _ l2 l3 rfl l1 hr
            | false =>
              simp only at hr
              cases t with
              | true => simp only [cond_true] at hr; rw [if_neg (by simp)]; exact skip _ _ l2 l3 rfl l1 hr
              | false => simp only [cond_false] at hr; rw [if_pos rfl]; exact run _ _ l2 l3 rfl l1 hr
          · cases hr
theorem keep_ok {G sh nx m xe e} (h : ReX G sh nx m xe e) (l : List Nat) : ReX G sh nx m (keepX xe l) (keepEnv e l) := by
  induction l with
  | nil => intro k; simp only [keepX, lkX, RvX]
  | cons j l ih =>
    intro k
    simp only [keepX, keepEnv, lkX, lk, nbeq]
    by_cases e' : j = k
    · subst e'; simp only [beq_self_eq_true, cond_true]; exact h j
    · have : (j == k) = false := by simpa using e'
      rw [this]; exact ih k
theorem lk_keep {e : List (Nat × PV)} {l : List Nat} {k : Nat} (h : k ∈ l) : lk (keepEnv e l) k = lk e k := by
  induction l with
  | nil => simp at h
  | cons j l ih =>
    simp only [keepEnv, lk]
    by_cases e' : j = k
    · subst e'; simp
    · have h1 : (j == k) = false := by simpa using e'
      rw [h1, cond_false]
      exact ih ((List.mem_cons.1 h).resolve_left (fun x => e' x.symm))
theorem lkB_mem : ∀ {bx : List (Nat × XBox)} {k : Nat}, lkB bx k ≠ .gone → ∃ v, (k, v) ∈ bx
  | [], k, h => by simp [lkB] at h
  | (k', v) :: r, k, h => by
    rw [lkB_cons] at h
    by_cases e : k' = k
    · subst e; exact ⟨v, List.mem_cons_self⟩
    · rw [if_neg e] at h
      obtain ⟨v', hv⟩ := lkB_mem h
      exact ⟨v', List.mem_cons_of_mem _ hv⟩
theorem keptB_ok {bx bx' : List (Nat × XBox)} (h : keptB bx bx' = true) {k : Nat} (hk : lkB bx k ≠ .gone) : lkB bx' k ≠ .gone := by
  obtain ⟨v, hv⟩ := lkB_mem hk
  have := List.all_eq_true.1 h _ hv
  intro e
  simp only [e] at this
  cases hb : lkB bx k with
  | gone => exact hk hb
  | _ => first | (rw [hb] at this; cases this) | cases this
theorem any_beq {ns : List Nat} {k : Nat} : (ns.any fun n => Nat.beq n k) = true ↔ k ∈ ns := by
  rw [List.any_eq_true]
  constructor
  · rintro ⟨n, hn, e⟩; rw [Nat.eq_of_beq_eq_true e] at hn; exact hn
  · intro hk; exact ⟨k, hk, Nat.beq_refl k⟩
theorem lkB_restr : ∀ (bx : List (Nat × XBox)) (ns : List Nat) (k : Nat), lkB (restrB bx ns) k = bif ns.any (fun n => Nat.beq n k) then lkB bx k else .gone
  | [], ns, k => by
    simp only [restrB, List.filter_nil, lkB]
    cases (ns.any fun n => Nat.beq n k) <;> rfl
  | (k', v) :: r, ns, k => by
    have ih := lkB_restr r ns k
    unfold restrB at ih ⊢
    rw [List.filter_cons]
    cases hk' : (ns.any fun n => Nat.beq n k') with
    | true =>
      simp only [if_true]
      rw [lkB_cons, lkB_cons, ih]
      by_cases e : k' = k
      · subst e; rw [if_pos rfl, if_pos rfl, hk']; rfl
      · rw [if_neg e, if_neg e]
    | false =>
      simp only [Bool.false_eq_true, if_false]
      rw [lkB_cons, ih]
      by_cases e : k' = k
      · subst e; rw [hk']; rfl
      · rw [if_neg e]
theorem XRM.restr {G A xm m} {ns : List Nat} {bx' : Nat → Box} (h : XRM G A xm m) (hb : ∀ b, ((G.H b ∨ G.P b ≠ none) ∨ ∃ k, k ∈ ns ∧ OwnX G xm.bx k ∧ G.ι k = b) → bx' b = m.bx b) :
    XRM G A ⟨restrB xm.bx ns, xm.nx, xm.ys⟩ ⟨m.nb, bx', m.ys⟩ ∧ GXt G (shB xm.bx) xm.nx m G (shB (restrB xm.bx ns)) xm.nx ⟨m.nb, bx', m.ys⟩ := by
  have hx : GXt G (shB xm.bx) xm.nx m G (shB (restrB xm.bx ns)) xm.nx ⟨m.nb, bx', m.ys⟩ :=
    ⟨Nat.le_refl _, fun _ _ => rfl, fun _ _ => Iff.rfl, fun k _ => by
      unfold shB; rw [lkB_restr]
      cases (ns.any fun n => Nat.beq n k) with
      | true => exact .inr rfl
      | false => exact .inl rfl, ⟨fun _ h => h, fun k hk => hb k (.inl (.inl hk))⟩, rfl, rfl⟩
  have own : ∀ k, OwnX G (restrB xm.bx ns) k → k ∈ ns ∧ OwnX G xm.bx k := by
    intro k ho
    unfold OwnX at ho
    rw [lkB_restr] at ho
    cases hk : (ns.any fun n => Nat.beq n k) with
    | true => rw [hk] at ho; exact ⟨any_beq.1 hk, ho⟩
    | false => rw [hk] at ho; exact ho.elim
  refine ⟨⟨fun k => ?_, fun k ho => h.al k (own k ho).2, fun k ho => h.nh k (own k ho).2, fun k k' ho ho' => h.inj k k' (own k ho).2 (own k' ho').2, h.ha, h.ys, fun k hk => ?_, fun b n hP => ⟨(h.pv b n hP).1, (h.pv b n hP).2.1, fun k ho => (h.pv b n hP).2.2.1 k (own k ho).2, by show PvB (bx' b) n; rw [hb b (.inl (.inr (by rw [hP]; simp)))]; exact (h.pv b n hP).2.2.2⟩⟩, hx⟩
  · simp only
    rw [lkB_restr]
    cases hk : (ns.any fun n => Nat.beq n k) with
    | false => trivial
    | true =>
      rw [cond_true]
      by_cases hg : lkB xm.bx k = .gone
      · rw [hg]; trivial
      · exact BoxX.mono hx (h.blt hg) (fun ho => hb _ (.inr ⟨k, any_beq.1 hk, ho, rfl⟩)) (h.box k)
  · simp only
    rw [lkB_restr, h.lt k hk]
    cases (ns.any fun n => Nat.beq n k) <;> rfl
theorem xnm1_ok {G A xm m x p} {l : List Nat} (h : XRM G A xm m) (hx : xnm1 xm.bx x = some l) (hr : RvX G (shB xm.bx) xm.nx m x p) (hrp : ∀ k i off, x = .rp k i off → ¬ G.U k) :
    ∀ b ∈ pnm p, (G.H b ∨ G.P b ≠ none) ∨ ∃ k, k ∈ l ∧ OwnX G xm.bx k ∧ G.ι k = b := by
  intro b hb
  unfold xnm1 at hx
  split at hx
  · rename_i k
    split at hx
    · rename_i fr cs l' hl
      cases hx
      obtain ⟨_, hor⟩ := h.row hl hr
      rcases hor with ⟨hu, e, _⟩ | ⟨_, _, e⟩
      · subst e; simp only [pnm, List.mem_singleton] at hb; exact .inr ⟨k, by simp, own_row hl hu, hb.symm⟩
      · subst e; simp [pnm] at hb
    · rename_i cs ns hl
      cases hx
      obtain ⟨_, hor⟩ := h.prow hl hr
      rcases hor with ⟨hu, e, _⟩ | ⟨_, _, e⟩
      · subst e; simp only [pnm, List.mem_singleton] at hb; exact .inr ⟨k, by simp, own_pv hl hu, hb.symm⟩
      · subst e; simp [pnm] at hb
    · cases hx
  · rename_i k i n
    split at hx
    · rename_i fr cs l' hl
      cases hx
      obtain ⟨_, hor⟩ := h.rsub hl hr
      rcases hor with ⟨hu, e, _⟩ | ⟨_, _, _, e⟩
      · subst e; simp only [pnm, List.mem_singleton] at hb; exact .inr ⟨k, by simp, own_row hl hu, hb.symm⟩
      · rw [NilR.pnm e] at hb; simp at hb
    · cases hx
  · rename_i k off
    split at hx
    · rename_i xs hl
      cases hx
      simp only [RvX] at hr
      rw [hr.2] at hb
      simp only [pnm, List.mem_singleton] at hb
      exact .inr ⟨k, by simp, own_cells hl, hb.symm⟩
    · cases hx
  · rename_i k off n i
    split at hx
    · rename_i xs hl
      cases hx
      simp only [RvX] at hr
      rw [hr.2] at hb
      simp only [pnm, List.mem_singleton] at hb
      exact .inr ⟨k, by simp, own_cells hl, hb.symm⟩
    · cases hx
  · rename_i k off sz n
    split at hx
    · rename_i xs hl
      cases hx
      simp only [RvX] at hr
      rw [hr.2] at hb
      simp only [pnm, List.mem_singleton] at hb
      exact .inr ⟨k, by simp, own_cells hl, hb.symm⟩
    · cases hx
  · rename_i k i off
    split at hx
    · rename_i fr cs l' hl
      cases hx
      simp only [RvX] at hr
      obtain ⟨_, w, e, _⟩ := hr
      subst e
      simp only [pnm, List.mem_singleton] at hb
      exact .inr ⟨k, by simp, own_row hl (hrp k i off rfl), hb.symm⟩
    · rename_i cs ns hl
      cases hx
      simp only [RvX] at hr
      obtain ⟨_, w, e, _⟩ := hr
      subst e
      simp only [pnm, List.mem_singleton] at hb
      exact .inr ⟨k, by simp, own_pv hl (hrp k i off rfl), hb.symm⟩
    · cases hx
  · cases hx
  · cases hx
  · cases hx
  · rename_i h1 h2 h3 h4 h5 h6 h7 h8 h9
    cases hx
    cases x with
    | any => exact (h7 rfl).elim
    | opq _ => exact (h8 _ rfl).elim
    | mp _ => exact (h9 _ rfl).elim
    | ui _ => simp only [RvX] at hr; obtain ⟨n, e⟩ := hr; subst e; simp [pnm] at hb
    | nr _ =>
      simp only [RvX] at hr
      rcases hr with ⟨_, e⟩ | ⟨b', hP, _, e⟩
      · subst e; simp [pnm] at hb
      · subst e; simp only [pnm, List.mem_singleton] at hb; subst hb; exact .inl (.inr (by rw [hP]; simp))
    | np _ _ =>
      simp only [RvX] at hr
      obtain ⟨b', hP, _, e⟩ := hr
      subst e; simp only [pnm, List.mem_singleton] at hb; subst hb; exact .inl (.inr (by rw [hP]; simp))
    | skip => simp only [RvX] at hr; subst hr; simp [pnm] at hb
    | nil => simp only [RvX] at hr; subst hr; simp [pnm] at hb
    | i _ _ => simp only [RvX] at hr; subst hr; simp [pnm] at hb
    | b _ => simp only [RvX] at hr; subst hr; simp [pnm] at hb
    | s _ => simp only [RvX] at hr; subst hr; simp [pnm] at hb
    | agg _ => simp only [RvX] at hr; obtain ⟨_, e, _⟩ := hr; subst e; simp [pnm] at hb
    | tup _ => simp only [RvX] at hr; obtain ⟨_, e, _⟩ := hr; subst e; simp [pnm] at hb
    | sl _ _ _ =>
      simp only [RvX] at hr
      obtain ⟨es, hs, _⟩ := hr
      rcases hs with ⟨f, e, _⟩ | ⟨e, _⟩ | ⟨k, i, n, es0, e, hH, _⟩
      · subst e; simp [pnm] at hb
      · subst e; simp [pnm] at hb
      · subst e; simp only [pnm, List.mem_singleton] at hb; subst hb; exact .inl (.inl hH)
    | row k => exact (h1 k rfl).elim
    | rsub k i n => exact (h2 k i n rfl).elim
    | ref k off => exact (h3 k off rfl).elim
    | aref k off n i => exact (h4 k off n i rfl).elim
    | asl k off sz n => exact (h5 k off sz n rfl).elim
    | rp k i off => exact (h6 k i off rfl).elim
    | ep _ =>
      simp only [RvX] at hr
      obtain ⟨ps, hs, _⟩ := hr
      rcases hs with ⟨f, e⟩ | ⟨k, sz, i, off, es0, e, h0, hH, _⟩
      · subst e; simp [pnm] at hb
      · subst h0; simp only [pnm, List.mem_singleton] at hb; subst hb; exact .inl (.inl hH)
    | aep _ _ _ _ =>
      simp only [RvX] at hr
      obtain ⟨ps, hs, _⟩ := hr
      rcases hs with ⟨f, e⟩ | ⟨k, sz, i, off, es0, e, h0, hH, _⟩
      · subst e; simp [pnm] at hb
      · subst h0; simp only [pnm, List.mem_singleton] at hb; subst hb; exact .inl (.inl hH)
    | clos _ _ => simp only [RvX] at hr; obtain ⟨_, e, _⟩ := hr; subst e; simp [pnm] at hb
    | yield _ => simp only [RvX] at hr; subst hr; simp [pnm] at hb
theorem store_own {T : Tab} {G A xm m t a x p side xm'} {l : List Nat} (h : XRM G A xm m) (hst : storeX T xm t a x = some (side, xm')) (hs : side = true) (hx : xnm1 xm.bx a = some l) (hnp : ∀ n i, a ≠ .np n i) (hr : RvX G (shB xm.bx) xm.nx m a p) :
    (∀ b ∈ pnm p, ∃ k, k ∈ l ∧ OwnX G xm.bx k ∧ G.ι k = b) ∧ ∀ k i off, a = .rp k i off → ¬ G.U k := by
  have hrp : ∀ k i off, a = .rp k i off → ¬ G.U k := by
    rintro k i off rfl
    unfold storeX at hst
    split at hst
    · cases hst
    · rename_i ys _
      cases hc : (Nat.beq ys.length (T.at t).sz && !Nat.beq (T.at t).sz 0) with
      | false => rw [hc] at hst; cases hst
      | true =>
        rw [hc, cond_true] at hst
        simp only at hst
        split at hst
        · rename_i fr cs l' hl
          cases hb : Nat.ble (off + ys.length) cs.length with
          | false => rw [hb] at hst; cases hst
          | true =>
            rw [hb, cond_true] at hst
            split at hst
            · split at hst
              · cases hst
                exact (h.real hl (nlt_ok hs)).1
              · cases hst
            · cases hst
        · rename_i cs ns hl
          split at hst
          · rename_i kd y _ _
            cases hk0 : intK kd y with
            | false => rw [hk0] at hst; cases hst
            | true => rw [hk0] at hst; cases hst; exact (h.preal hl (nlt_ok hs)).1
          · cases hst
        · cases hst
  refine ⟨fun b hb => ?_, hrp⟩
  rcases xnm1_ok h hx hr hrp b hb with hH | h'
  · exfalso
    unfold storeX at hst
    split at hst
    · cases hst
    · rename_i ys _
      cases hc : (Nat.beq ys.length (T.at t).sz && !Nat.beq (T.at t).sz 0) with
      | false => rw [hc] at hst; cases hst
      | true =>
        rw [hc, cond_true] at hst
        have own : ∀ k, OwnX G xm.bx k → b = G.ι k → False := fun k ho e => hH.elim (fun hH => h.nh k ho (e ▸ hH)) fun hH => by
          cases hP : G.P b with
          | none => exact hH hP
          | some n => exact (h.pv b n hP).2.2.1 k ho e.symm
        split at hst
        · rename_i k off
          split at hst
          · rename_i xs hl
            simp only [RvX] at hr
            rw [hr.2] at hb
            simp only [pnm, List.mem_singleton] at hb
            exact own k (own_cells hl) hb
          · cases hst
        · rename_i k off n i
          simp only [xnm1] at hx
          split at hx
          · rename_i xs hl
            simp only [RvX] at hr
            rw [hr.2] at hb
            simp only [pnm, List.mem_singleton] at hb
            exact own k (own_cells hl) hb
          · cases hx
        · rename_i k i off
          split at hst
          · rename_i fr cs l' hl
            simp only [RvX] at hr
            obtain ⟨_, w, e, _⟩ := hr
            subst e
            simp only [pnm, List.mem_singleton] at hb
            exact own k (own_row hl (hrp k i off rfl)) hb
          · rename_i cs ns hl
            simp only [RvX] at hr
            obtain ⟨_, w, e, _⟩ := hr
            subst e
            simp only [pnm, List.mem_singleton] at hb
            exact own k (own_pv hl (hrp k i off rfl)) hb
          · cases hst
        · exact hnp _ _ rfl
        · cases hst
  · exact h'
theorem load_real {T : Tab} {G A xm m t k i off side v} (h : XRM G A xm m) (hx : loadX T xm.bx t (.rp k i off) = some (side, v)) (hs : side = true) : ¬ G.U k := by
  unfold loadX at hx
  simp only at hx
  split at hx
  · rename_i fr cs l hl
    split at hx
    · cases hx; exact (h.real hl (nlt_ok hs)).1
    · cases hx
  · rename_i cs ns hl
    cases hc : (Nat.beq (T.at t).sz 0 || (T.at t).kind.isAgg) with
    | true => rw [hc] at hx; cases hx
    | false =>
      rw [hc, cond_false] at hx
      split at hx
      · cases hx; exact (h.preal hl (nlt_ok hs)).1
      · cases hx; exact (h.preal hl (nlt_ok hs)).1
      · cases hx
  · cases hx
theorem srcX_rp {m : List (Nat × XBox)} {k i off : Nat} : ∀ {cs : List CT}, srcX m cs (.rp k i off) = none
  | [] => rfl
  | [c] => by cases c <;> rfl
  | c :: _ :: _ => by cases c <;> rfl
theorem fpX_ok {T : Tab} {G A xm m} {ρ : Operand → XV} {ρ' : Operand → PV} {op : Op} {side : Bool} {v : XV} {xm' : XM} {Rs Ws : List Nat} (h : XRM G A xm m) (hρ : ∀ x, RvX G (shB xm.bx) xm.nx m (ρ x) (ρ' x))
    (hx : xop T ρ xm op = some (side, v, xm')) (hs : side = true) (hf : fpX ρ xm.bx op = some (Rs, Ws)) :
    (∀ b ∈ fpV ρ' op, (G.H b ∨ G.P b ≠ none) ∨ ∃ k, (k ∈ Rs ∨ k ∈ Ws) ∧ OwnX G xm.bx k ∧ G.ι k = b) ∧ ∀ b ∈ wpV ρ' op, (pvN ∈ Ws ∧ (G.H b ∨ G.P b ≠ none)) ∨ ∃ k, k ∈ Ws ∧ OwnX G xm.bx k ∧ G.ι k = b := by
  have triv : fpV ρ' op = [] → wpV ρ' op = [] → (∀ b ∈ fpV ρ' op, (G.H b ∨ G.P b ≠ none) ∨ ∃ k, (k ∈ Rs ∨ k ∈ Ws) ∧ OwnX G xm.bx k ∧ G.ι k = b) ∧ ∀ b ∈ wpV ρ' op, (pvN ∈ Ws ∧ (G.H b ∨ G.P b ≠ none)) ∨ ∃ k, k ∈ Ws ∧ OwnX G xm.bx k ∧ G.ι k = b := by
    intro e1 e2; rw [e1, e2]; exact ⟨fun b hb => by simp at hb, fun b hb => by simp at hb⟩
  cases op <;> try exact triv rfl rfl
  case insert => cases hf
  case lookup => cases hf
  case load t a =>
    simp only [fpX] at hf
    split at hf
    · rename_i l hl
      cases hf
      simp only [xop] at hx
      obtain ⟨h1, _⟩ := px_some hx
      refine ⟨fun b hb => ?_, fun b hb => by simp [wpV] at hb⟩
      simp only [fpV] at hb
      rcases xnm1_ok h hl (hρ a) (fun k i off e => by rw [e] at h1; exact load_real h h1 hs) b hb with h2 | ⟨k, h2, h3, h4⟩
      · exact .inl h2
      · exact .inr ⟨k, .inl h2, h3, h4⟩
    · cases hf
  case store t a y =>
    simp only [fpX] at hf
    split at hf
    · rename_i n i ha
      cases hf
      have hr := hρ a
      rw [ha] at hr
      simp only [RvX] at hr
      obtain ⟨b0, hP, _, e⟩ := hr
      have hb0 : ∀ b ∈ pnm (ρ' a), G.H b ∨ G.P b ≠ none := by
        intro b hb
        rw [e] at hb
        simp only [pnm, List.mem_singleton] at hb
        subst hb; exact .inr (by rw [hP]; simp)
      exact ⟨fun b hb => .inl (hb0 b hb), fun b hb => .inl ⟨by simp, hb0 b hb⟩⟩
    · rename_i hnp
      split at hf
      · rename_i l hl
        cases hf
        simp only [xop] at hx
        split at hx
        · rename_i b m' hst
          cases hx
          have := (store_own h hst hs hl (fun n i e => hnp n i e) (hρ a)).1
          refine ⟨fun b hb => ?_, fun b hb => .inr (this b hb)⟩
          obtain ⟨k, h2, h3, h4⟩ := this b hb
          exact .inr ⟨k, .inr h2, h3, h4⟩
        · cases hx
      · cases hf
  case slice t y lo hi mx =>
    refine ⟨fun b hb => ?_, fun b hb => by simp [wpV] at hb⟩
    simp only [fpV] at hb
    have hr := hρ y
    simp only [xop] at hx
    split at hx
    · cases hx
    · obtain ⟨h1, _⟩ := px_some hx
      simp only [fpX] at hf
      have pr : ∀ {p : PV}, b ∈ pnmR p → b ∈ pnm p := by intro p hp; cases p <;> first | exact hp | (simp [pnmR] at hp)
      unfold sliceX at h1
      split at h1
      · split at h1
        · split at h1
          · rename_i k hy
            rw [hy] at hf hr
            cases hf
            split at h1
            · rename_i fr cs' l' hl
              rcases xnm1_ok h (x := .row k) (by simp only [xnm1, hl]; rfl) hr (fun _ _ _ e => by cases e) b (pr hb) with h2 | ⟨k, h2, h3, h4⟩
              · exact .inl h2
              · exact .inr ⟨k, .inl h2, h3, h4⟩
            · cases h1
          · rename_i k i n hy
            rw [hy] at hf hr
            cases hf
            split at h1
            · rename_i fr cs' l' hl
              rcases xnm1_ok h (x := .rsub k i n) (by simp only [xnm1, hl]; rfl) hr (fun _ _ _ e => by cases e) b (pr hb) with h2 | ⟨k, h2, h3, h4⟩
              · exact .inl h2
              · exact .inr ⟨k, .inl h2, h3, h4⟩
            · cases h1
          · rename_i fr cs' l' hy
            rw [hy] at hr
            rcases xnm1_ok h (x := .sl fr cs' l') rfl hr (fun _ _ _ e => by cases e) b (pr hb) with h2 | ⟨k, h2, h3, h4⟩
            · exact .inl h2
            · simp at h2
          · rename_i hy
            rw [hy] at hr
            simp only [RvX] at hr
            rw [hr] at hb
            simp [pnmR] at hb
          · cases h1
        · cases h1
      · split at h1
        · rename_i k off hy
          rw [hy] at hr
          simp only [RvX] at hr
          rw [hr.2] at hb
          simp [pnmR] at hb
        · cases h1
      · split at h1
        · rename_i b' hy
          rw [hy] at hr
          simp only [RvX] at hr
          rw [hr] at hb
          simp [pnmR] at hb
        · cases h1
      · cases h1
  case call c =>
    cases hc : c.callee with
    | builtin b =>
      cases b with
      | append =>
        simp only [fpX, hc] at hf
        split at hf
        · rename_i x y hxy
          split at hf
          · rename_i la lb h1 h2
            cases hf
            simp only [xop, hc, hxy] at hx
            have happ : ∃ e, appendX T xm e (ρ x) (ρ y) = some (side, v, xm') := by
              split at hx
              · rename_i t t' x0 y0 ht e
                cases e
                cases hb : Nat.beq t t' with
                | false => rw [hb] at hx; cases hx
                | true =>
                  rw [hb, cond_true] at hx
                  split at hx
                  · exact ⟨_, hx⟩
                  · cases hx
              · cases hx
            obtain ⟨e, happ⟩ := happ
            have hnr : ∀ z k i off, ρ z = .rp k i off → (z = x ∨ z = y) → False := by
              intro z k i off hz hzz
              unfold appendX at happ
              split at happ
              · cases happ
              · rename_i cs _
                split at happ
                · rcases hzz with rfl | rfl
                  · rw [hz] at happ
                    unfold appendP at happ
                    split at happ
                    · split at happ
                      · split at happ
                        · cases happ
                        · cases happ
                      · cases happ
                    · cases happ
                  · rw [hz] at happ; cases happ
                · rename_i sy fy ly hye
                  rcases hzz with rfl | rfl
                  · rw [hz] at happ; cases happ
                  · rw [hz] at hye
                    rw [srcX_rp] at hye; cases hye
            have hx1 := xnm1_ok h h1 (hρ x) (fun k i off e => (hnr x k i off e (.inl rfl)).elim)
            have hy1 := xnm1_ok h h2 (hρ y) (fun k i off e => (hnr y k i off e (.inr rfl)).elim)
            have hxo : ∀ b ∈ pnm (ρ' x), ∃ k, k ∈ Ws ∧ OwnX G xm.bx k ∧ G.ι k = b := by
              intro b hb
              have hr := hρ x
              unfold appendX at happ
              split at happ
              · cases happ
              · split at happ
                · unfold appendP at happ
                  split at happ
                  · split at happ
                    · split at happ
                      · split at happ
                        · rename_i hxn
                          rw [hxn] at hr
                          simp only [RvX] at hr
                          rw [hr] at hb
                          simp [pnm] at hb
                        · rename_i k hxn
                          split at happ
                          · rename_i cs' ns' hl
                            rw [hxn] at hr h1
                            simp only [xnm1, hl] at h1
                            cases h1
                            obtain ⟨_, hor⟩ := h.prow hl hr
                            rcases hor with ⟨hu, e, _⟩ | ⟨_, _, e⟩
                            · rw [e] at hb; simp only [pnm, List.mem_singleton] at hb; exact ⟨k, by simp, own_pv hl hu, hb.symm⟩
                            · rw [e] at hb; simp [pnm] at hb
                          · cases happ
                        · cases happ
                      · cases happ
                    · cases happ
                  · cases happ
                · split at happ
                  · rename_i hxn
                    rw [hxn] at hr
                    simp only [RvX] at hr
                    rw [hr] at hb
                    simp [pnm] at hb
                  · rename_i k hxn
                    split at happ
                    · rename_i fr cs' l' hl
                      rw [hxn] at hr h1
                      simp only [xnm1, hl] at h1
                      cases h1
                      obtain ⟨_, hor⟩ := h.row hl hr
                      rcases hor with ⟨hu, e, _⟩ | ⟨_, _, e⟩
                      · rw [e] at hb; simp only [pnm, List.mem_singleton] at hb; exact ⟨k, by simp, own_row hl hu, hb.symm⟩
                      · rw [e] at hb; simp [pnm] at hb
                    · cases happ
                  · rename_i k i n hxn
                    split at happ
                    · rename_i fr cs' l' hl
                      rw [hxn] at hr h1
                      simp only [xnm1, hl] at h1
                      cases h1
                      obtain ⟨_, hor⟩ := h.rsub hl hr
                      rcases hor with ⟨hu, e, _⟩ | ⟨_, _, _, e⟩
                      · rw [e] at hb; simp only [pnm, List.mem_singleton] at hb; exact ⟨k, by simp, own_row hl hu, hb.symm⟩
                      · rw [NilR.pnm e] at hb; simp at hb
                    · cases happ
                  · cases happ
            refine ⟨fun b hb => ?_, fun b hb => ?_⟩
            · simp only [fpV, hc, hxy, List.mem_append] at hb
              rcases hb with hb | hb
              · obtain ⟨k, h3, h4, h5⟩ := hxo b hb
                exact .inr ⟨k, .inr h3, h4, h5⟩
              · rcases hy1 b hb with h3 | ⟨k, h3, h4, h5⟩
                · exact .inl h3
                · exact .inr ⟨k, .inl h3, h4, h5⟩
            · simp only [wpV, hc, hxy] at hb
              exact .inr (hxo b hb)
          · cases hf
        · cases hf
      | clear => simp only [fpX, hc] at hf; cases hf
      | _ => exact triv (by simp only [fpV, hc]) (by simp only [wpV, hc])
    | _ => exact triv (by simp only [fpV, hc]) (by simp only [wpV, hc])
theorem mk_new {T : Tab} {ρ : Operand → XV} {m m' : XM} {op : Op} {side v} (hm : mkOp op = true) (h : xop T ρ m op = some (side, v, m')) : m.nx < m'.nx := by
  cases op with
  | box t x =>
    simp only [xop] at h
    split at h
    · cases h; exact Nat.lt_succ_self _
    · cases h
  | alloc e =>
    simp only [xop] at h
    cases hc : Nat.beq (T.at e).sz 0 with
    | true => rw [hc] at h; cases h
    | false => rw [hc] at h; cases h; exact Nat.lt_succ_self _
  | buildSlice t len ps =>
    simp only [xop] at h
    split at h
    · rename_i e hk
      split at h
      · cases hc : ((T.at e).kind.isFunc && Nat.ble (len * (T.at e).sz) 16777216) with
        | false => rw [hc] at h; cases h
        | true =>
          rw [hc, cond_true] at h
          split at h
          · cases h; exact Nat.lt_succ_self _
          · cases h
      · cases hc : Nat.ble (len * (T.at e).sz) 16777216 with
        | false => rw [hc] at h; cases h
        | true =>
          rw [hc, cond_true] at h
          split at h
          · cases h
          · rename_i xs _
            cases hb : Nat.beq xs.length (len * (T.at e).sz) with
            | false => rw [hb] at h; cases h
            | true =>
              rw [hb, cond_true] at h
              split at h
              · cases h; exact Nat.lt_succ_self _
              · split at h
                · cases h; exact Nat.lt_succ_self _
                · cases h
    · cases h
  | makeMap t r =>
    simp only [xop] at h
    split at h
    · split at h
      · cases h; exact Nat.lt_succ_self _
      · cases h
    · cases h
  | makeSlice t l c =>
    simp only [xop] at h
    split at h
    · split at h
      · cases h
      · split at h
        · cases h; exact Nat.lt_succ_self _
        · cases h
    · cases h
  | call c =>
    simp only [mkOp] at hm
    split at hm
    · rename_i hc
      simp only [xop, hc] at h
      split at h
      · rename_i t t' x y _ _
        cases hb : Nat.beq t t' with
        | false => rw [hb] at h; cases h
        | true =>
          rw [hb, cond_true] at h
          split at h
          · unfold appendX at h
            split at h
            · cases h
            · split at h
              · unfold appendP at h
                split at h
                · split at h
                  · split at h
                    · split at h
                      · cases h; exact Nat.lt_succ_self _
                      · split at h
                        · split at h
                          · cases h; exact Nat.lt_succ_self _
                          · cases h
                        · cases h
                      · cases h
                    · cases h
                  · cases h
                · cases h
              · split at h
                · cases h; exact Nat.lt_succ_self _
                · split at h
                  · split at h
                    · cases h; exact Nat.lt_succ_self _
                    · cases h
                  · cases h
                · split at h
                  · split at h
                    · cases h; exact Nat.lt_succ_self _
                    · cases h
                  · cases h
                · cases h
          · cases h
      · cases h
    · cases hm
  | _ => cases hm
structure EverOK (G : Gn) (xm : XM) (E H0 : Nat → Prop) (nb0 len i : Nat) : Prop where
  lt : ∀ k, E k → k < xm.nx
  inj : ∀ k k', E k → E k' → G.ι k = G.ι k' → k = k'
  h0 : ∀ k, E k → ¬ H0 (G.ι k)
  new : ∀ k l, E k → i ≤ l → l < len → G.ι k ≠ nb0 + l
  own : ∀ k, OwnX G xm.bx k → E k
  hh : ∀ b, (G.H b ∨ G.P b ≠ none) ↔ H0 b
structure RecOK (G : Gn) (E H0 : Nat → Prop) (a : List Nat × List Nat) (r : LF) : Prop where
  w : ∀ b ∈ keys r.ws, (pvN ∈ a.2 ∧ H0 b) ∨ ∃ k, k ∈ a.2 ∧ E k ∧ G.ι k = b
  v : ∀ b, r.V b → H0 b ∨ ∃ k, (k ∈ a.1 ∨ k ∈ a.2) ∧ E k ∧ G.ι k = b
theorem RecOK.mono {G G' : Gn} {nx : Nat} {E E' H0 : Nat → Prop} {a r} (h : RecOK G E H0 a r) (hlt : ∀ k, E k → k < nx) (hi : ∀ k, k < nx → G'.ι k = G.ι k) (he : ∀ k, E k → E' k) : RecOK G' E' H0 a r :=
  ⟨fun b hb => by
    rcases h.w b hb with h1 | ⟨k, h1, h2, h3⟩
    · exact .inl h1
    · exact .inr ⟨k, h1, he k h2, (hi k (hlt k h2)).trans h3⟩, fun b hb => by
    rcases h.v b hb with h1 | ⟨k, h1, h2, h3⟩
    · exact .inl h1
    · exact .inr ⟨k, h1, he k h2, (hi k (hlt k h2)).trans h3⟩⟩
theorem EverOK.next {G G' : Gn} {xm xm' : XM} {m m' : Mem} {A : Nat → Prop} {E H0 : Nat → Prop} {nb0 len i : Nat} {ap : Bool} (h : EverOK G xm E H0 nb0 len i) (hi : i < len) (hm : XRM G A xm m) (hA : ¬ A (nb0 + i)) (hx : GXt G (shB xm.bx) xm.nx m G' (shB xm'.bx) xm'.nx m') (hm' : XRM G' (fun k => A k ∨ k = nb0 + i) xm' m')
    (hn : NewOK ap G xm (nb0 + i) G' xm') (hk : (ap || keptB xm.bx xm'.bx) = true) : EverOK G' xm' (fun k => E k ∨ (xm.nx ≤ k ∧ k < xm'.nx)) H0 nb0 len (i + 1) where
  lt k hk := by
    rcases hk with h1 | h1
    · exact Nat.lt_of_lt_of_le (h.lt k h1) hx.hn
    · exact h1.2
  inj k k' hk hk' e := by
    have hle := hn.le
    rcases hk with h1 | h1 <;> rcases hk' with h2 | h2
    · rw [hx.hi k (h.lt k h1), hx.hi k' (h.lt k' h2)] at e; exact h.inj k k' h1 h2 e
    · rw [hx.hi k (h.lt k h1), hn.nw k' h2.1 h2.2] at e; exact absurd e (h.new k i h1 (Nat.le_refl _) hi)
    · rw [hx.hi k' (h.lt k' h2), hn.nw k h1.1 h1.2] at e; exact absurd e.symm (h.new k' i h2 (Nat.le_refl _) hi)
    · omega
  h0 k hk hh := by
    rcases hk with h1 | h1
    · rw [hx.hi k (h.lt k h1)] at hh; exact h.h0 k h1 hh
    · rw [hn.nw k h1.1 h1.2] at hh; exact ((h.hh _).2 hh).elim (fun hh => hA (hm.ha _ hh)) fun hh => by
        cases hP : G.P (nb0 + i) with
        | none => exact hh hP
        | some n => exact hA (hm.pv _ n hP).1
  new k l hk hl hlen e := by
    rcases hk with h1 | h1
    · rw [hx.hi k (h.lt k h1)] at e; exact h.new k l h1 (by omega) hlen e
    · rw [hn.nw k h1.1 h1.2] at e; omega
  own k ho := by
    have hlt := OwnX.lt hm' ho
    rcases Nat.lt_or_ge k xm.nx with h1 | h1
    · refine .inl (h.own k ?_)
      unfold OwnX at ho ⊢
      have hs := hx.hs k h1
      have hu := hx.hu k h1
      unfold shB shp at hs
      cases hb' : lkB xm'.bx k with
      | gone => rw [hb'] at ho; exact ho.elim
      | cells xs =>
        rw [hb'] at hs
        cases hb : lkB xm.bx k with
        | gone => rw [hb] at hs; rcases hs with hs | hs <;> simp at hs
        | cells ys => trivial
        | mp _ _ => trivial
        | row _ _ _ => rw [hb] at hs; rcases hs with hs | hs <;> simp at hs
        | pv _ _ => rw [hb] at hs; rcases hs with hs | hs <;> simp at hs
      | mp _ _ =>
        rw [hb'] at hs
        cases hb : lkB xm.bx k with
        | gone => rw [hb] at hs; rcases hs with hs | hs <;> simp at hs
        | cells ys => trivial
        | mp _ _ => trivial
        | row _ _ _ => rw [hb] at hs; rcases hs with hs | hs <;> simp at hs
        | pv _ _ => rw [hb] at hs; rcases hs with hs | hs <;> simp at hs
      | pv cs ns =>
        rw [hb'] at hs ho
        cases hb : lkB xm.bx k with
        | gone => rw [hb] at hs; rcases hs with hs | hs <;> simp at hs
        | mp _ _ => rw [hb] at hs; rcases hs with hs | hs <;> simp at hs
        | cells ys => rw [hb] at hs; rcases hs with hs | hs <;> simp at hs
        | row _ _ _ => exact fun x => ho (hu.2 x)
        | pv _ _ => exact fun x => ho (hu.2 x)
      | row fr cs l =>
        rw [hb'] at hs ho
        cases hb : lkB xm.bx k with
        | gone => rw [hb] at hs; rcases hs with hs | hs <;> simp at hs
        | mp _ _ => rw [hb] at hs; rcases hs with hs | hs <;> simp at hs
        | cells ys => rw [hb] at hs; rcases hs with hs | hs <;> simp at hs
        | row _ _ _ => exact fun x => ho (hu.2 x)
        | pv _ _ => exact fun x => ho (hu.2 x)
    · exact .inr ⟨h1, hlt⟩
  hh b := by
    constructor
    · intro hb
      rcases hb with hb | hb
      · rcases hn.hd b hb with h1 | ⟨h1, k, h2, h3⟩
        · exact (h.hh b).1 (.inl h1)
        · rw [h1, Bool.false_or] at hk
          exact absurd h3 (keptB_ok hk h2)
      · rw [hx.hp] at hb; exact (h.hh b).1 (.inr hb)
    · intro hb
      rcases (h.hh b).2 hb with hb | hb
      · exact .inl (hx.hh.h b hb)
      · exact .inr (by rw [hx.hp]; exact hb)
theorem zipIdx_all {α : Type} {l : List α} {p : α × Nat → Bool} (h : l.zipIdx.all p = true) {i : Nat} {a : α} (hi : l[i]? = some a) : p (a, i) = true :=
  List.all_eq_true.1 h (a, i) (List.mem_zipIdx_iff_getElem?.2 hi)
theorem disj_ok {a b : List Nat} (h : disj a b = true) {k : Nat} (h1 : k ∈ a) (h2 : k ∈ b) : False := by
  have := List.all_eq_true.1 h k h1
  have hb : (b.any fun y => Nat.beq k y) = true := List.any_eq_true.2 ⟨k, h2, Nat.beq_refl k⟩
  rw [hb] at this; cases this
theorem behX_ok {all : List Oper} : ∀ (d : Nat) (o : Oper) (i : Nat), behX all d o i = true → Behind all o i
  | 0, _, _, h => by cases h
  | d + 1, o, i, h => by
    unfold behX at h
    rcases Bool.or_eq_true_iff.1 h with h | h
    · exact .one h
    · obtain ⟨e, _, h2⟩ := List.any_eq_true.1 h
      obtain ⟨h3, h4⟩ := Bool.and_eq_true_iff.1 h2
      split at h4
      · rename_i o' ho'
        exact .more h3 ho' (behX_ok d o' i h4)
      · cases h4
theorem apartX_ok {all : List Oper} {acc : List (List Nat × List Nat)} {ps : List LF} {G : Gn} {xm : XM} {E H0 : Nat → Prop} {nb0 len i : Nat} (h : apartX all acc = true) (hlen : acc.length = ps.length) (he : EverOK G xm E H0 nb0 len i)
    (hr : ∀ (j : Nat) (a : List Nat × List Nat) (x : LF), acc[j]? = some a → ps[j]? = some x → RecOK G E H0 a x) : apart all ps := by
  intro i j oi oj ri rj hij hoi hoj hri hrj b hb ht
  have get : ∀ {j : Nat} {x : LF}, ps[j]? = some x → ∃ a, acc[j]? = some a := fun {j x} hx => by
    have : j < acc.length := by rw [hlen]; exact (List.getElem?_eq_some_iff.1 hx).1
    exact ⟨acc[j], List.getElem?_eq_getElem this⟩
  obtain ⟨ai, hai⟩ := get hri
  obtain ⟨aj, haj⟩ := get hrj
  -- what is written is apart from what is touched, or kept in order
  have hne : ai.2 ≠ [] := by
    intro e
    rcases (hr i ai ri hai hri).w b hb with ⟨k1, _⟩ | ⟨k, k1, _⟩ <;> rw [e] at k1 <;> simp at k1
  have hda : (disj ai.2 (aj.1 ++ aj.2) && disj ai.2 [pvN]) = true → False := by
    intro hd
    have hd1 := and_l hd
    have hd2 := and_r hd
    rcases (hr i ai ri hai hri).w b hb with ⟨k1, _⟩ | ⟨k, k1, k2, k3⟩
    · exact disj_ok hd2 k1 (by simp)
    · rcases ht with ht | ht
      · rcases (hr j aj rj haj hrj).v b ht with h0 | ⟨k', j1, j2, j3⟩
        · exact he.h0 k k2 (k3 ▸ h0)
        · have := he.inj k k' k2 j2 (k3.trans j3.symm)
          subst this
          exact disj_ok hd1 k1 (List.mem_append.2 j1)
      · rcases (hr j aj rj haj hrj).w b ht with ⟨_, h0⟩ | ⟨k', j1, j2, j3⟩
        · exact he.h0 k k2 (k3 ▸ h0)
        · have := he.inj k k' k2 j2 (k3.trans j3.symm)
          subst this
          exact disj_ok hd1 k1 (List.mem_append_right _ j1)
  have h1 := zipIdx_all h hai
  simp only [Bool.or_eq_true] at h1
  rcases h1 with h1 | h1
  · exact absurd (List.isEmpty_iff.1 h1) hne
  · have h2 := zipIdx_all h1 haj
    simp only [Bool.or_eq_true] at h2
    rcases h2 with (h2 | h2) | h2
    · exact absurd (Nat.eq_of_beq_eq_true h2) hij
    · exact (hda h2).elim
    · unfold ordX at h2
      rw [hoi, hoj] at h2
      simp only at h2
      refine ⟨fun hlt => ?_, fun hlt => ?_⟩
      · have : Nat.blt i j = true := by simpa [Nat.blt_eq] using hlt
        rw [this] at h2; exact behX_ok _ _ _ h2
      · have : Nat.blt i j = false := by
          cases hb : Nat.blt i j with
          | false => rfl
          | true => have : i < j := by simpa [Nat.blt_eq] using hb
                    omega
        rw [this] at h2; exact behX_ok _ _ _ h2
theorem xlops_ok (hS : SFok X) {all : List Oper} {K : XSt → Option R} {nb0 nb : Nat} {ys : Option Code} {B : Nat → Prop} (hB : ∀ k, B k → k < nb0) {r : R} {out : List PF} {Y : Nat → YS} {fu0 : Nat} {L0 : Nat → LO} {n : Nat} {H0 : Nat → Prop}
    (hnb : nb0 + all.length ≤ nb) :
    ∀ (l : List Oper) (i : Nat) (acc : List (List Nat × List Nat)) (ps : List LF) (s : XSt) (env : List (Nat × PV)) (bx : Nat → Box) (G : Gn) (E : Nat → Prop), all.drop i = l → acc.length = ps.length → xlops X all K i l acc s = some r → s.fu ≤ fu0 → G.L = L0 →
      RelS (Bi B nb0 all.length i) G s ⟨n, env, ⟨nb, bx, ys⟩⟩ out → EverOK G s.m E H0 nb0 all.length i → (∀ (j : Nat) (a : List Nat × List Nat) (x : LF), acc[j]? = some a → ps[j]? = some x → RecOK G E H0 a x) →
      ∃ rs : List LF, rs.length = l.length ∧ (∀ (j : Nat) (o : Oper) (x : LF), l[j]? = some o → rs[j]? = some x → lfact X.T X.P Y all n nb ys nb0 (i + j) o (envAt env l (rs.map LF.v) j) (bxAt bx rs j) x) ∧ apart all (ps ++ rs) ∧
        ∃ s' G', s'.fu ≤ fu0 ∧ G'.L = L0 ∧ RelS B G' s' ⟨n, envAt env l (rs.map LF.v) l.length, ⟨nb, bxAt bx rs l.length, ys⟩⟩ out ∧ K s' = some r
  | [], i, acc, ps, s, env, bx, G, E, hl, hal, hr, hfu, hL, hs, he, hrec => by
    simp only [xlops] at hr
    cases hap : apartX all acc with
    | false => rw [hap] at hr; cases hr
    | true =>
      rw [hap, cond_true] at hr
      refine ⟨[], rfl, fun j o x hj => by simp at hj, ?_, s, G, hfu, hL, ⟨hs.1, hs.2.more fun k hk => ⟨hk.1, fun hb => hk.2 (.inl hb)⟩⟩, hr⟩
      rw [List.append_nil]
      exact apartX_ok hap hal he hrec
  | o :: l, i, acc, ps, s, env, bx, G, E, hl, hal, hr, hfu, hL, hs, he, hrec => by
    obtain ⟨f, fs, hfr, hfn, hre, hrf⟩ := hs.head
    have hoi : all[i]? = some o := by
      have := congrArg (fun l => l[0]?) hl
      simpa using this
    have hi : i < all.length := (List.getElem?_eq_some_iff.1 hoi).1
    have hl' : all.drop (i + 1) = l := by
      rw [← List.drop_drop, hl]; rfl
    simp only [xlops, hfr] at hr
    cases hdst : dstX f.n o.dst with
    | false => rw [hdst] at hr; cases hr
    | true =>
      rw [hdst, cond_true] at hr
      have hdst' : dstOK n o.dst = true := by rw [← show f.n = n from hfn]; exact dst_ok hdst
      -- the operations behind this one
      have next : ∀ (f2 : Fr) (s2 : XSt) (G2 : Gn) (v : XV) (E2 : Nat → Prop) (a : List Nat × List Nat) (x : LF), s2.fr = f2 :: fs → s2.fu ≤ fu0 → G2.L = L0 → RelS (Bi B nb0 all.length (i + 1)) G2 s2 ⟨n, env, ⟨nb, setBs bx x.ws, ys⟩⟩ out → RvX G2 (shB s2.m.bx) s2.m.nx ⟨nb, setBs bx x.ws, ys⟩ v x.v →
          xlops X all K (i + 1) l (acc ++ [a]) (s2.put o.dst v) = some r → EverOK G2 s2.m E2 H0 nb0 all.length (i + 1) → (∀ (j : Nat) (a : List Nat × List Nat) (x : LF), acc[j]? = some a → ps[j]? = some x → RecOK G2 E2 H0 a x) → RecOK G2 E2 H0 a x →
          lfact X.T X.P Y all n nb ys nb0 i o env bx x →
          ∃ rs : List LF, rs.length = (o :: l).length ∧ (∀ (j : Nat) (o' : Oper) (x : LF), (o :: l)[j]? = some o' → rs[j]? = some x → lfact X.T X.P Y all n nb ys nb0 (i + j) o' (envAt env (o :: l) (rs.map LF.v) j) (bxAt bx rs j) x) ∧ apart all (ps ++ rs) ∧
            ∃ s' G', s'.fu ≤ fu0 ∧ G'.L = L0 ∧ RelS B G' s' ⟨n, envAt env (o :: l) (rs.map LF.v) (o :: l).length, ⟨nb, bxAt bx rs (o :: l).length, ys⟩⟩ out ∧ K s' = some r := by
        intro f2 s2 G2 v E2 a x hf2 hfu2 hL2 hs2 hv hr2 he2 hrec2 hra hfact
        obtain ⟨f3, fs3, e1, e2, e3, e4⟩ := hs2.head
        rw [hf2] at e1; cases e1
        have hput := RelS.put (dst := o.dst) (fu := s2.fu) (v := v) (pv := x.v) e2 e3 e4 (GXt.refl _ _ _ _) hs2.2 hv
        rw [← hf2] at hput
        have hfu3 : (s2.put o.dst v).fu ≤ fu0 := by cases o.dst <;> simp only [XSt.put, hf2] <;> exact hfu2
        have hm3 : (s2.put o.dst v).m = s2.m := by cases o.dst <;> simp only [XSt.put, hf2]
        have hp : St.put ⟨n, env, ⟨nb, setBs bx x.ws, ys⟩⟩ o.dst x.v ⟨nb, setBs bx x.ws, ys⟩ = ⟨n, eput env o.dst x.v, ⟨nb, setBs bx x.ws, ys⟩⟩ := by cases o.dst <;> rfl
        rw [hp] at hput
        obtain ⟨rs, r1, r2, r3, r4⟩ := xlops_ok hS hB hnb l (i + 1) (acc ++ [a]) (ps ++ [x]) _ _ _ G2 E2 hl' (by simp [hal]) hr2 hfu3 hL2 hput (by rw [hm3]; exact he2) (fun j a' x' ha hx => by
          by_cases hj : j < acc.length
          · rw [List.getElem?_append_left hj] at ha
            rw [List.getElem?_append_left (by rw [← hal]; exact hj)] at hx
            exact hrec2 j a' x' ha hx
          · rw [List.getElem?_append_right (by omega)] at ha
            rw [List.getElem?_append_right (by omega), ← hal] at hx
            cases hj' : j - acc.length with
            | zero =>
              rw [hj'] at ha hx
              simp only [List.getElem?_cons_zero, Option.some.injEq] at ha hx
              subst ha; subst hx; exact hra
            | succ j' => rw [hj'] at ha; simp at ha)
        refine ⟨x :: rs, by simp [r1], fun j o' x' hj hx => ?_, by rw [List.append_assoc] at r3; exact r3, r4⟩
        cases j with
        | zero => simp only [List.getElem?_cons_zero, Option.some.injEq] at hj hx; subst hj; subst hx; exact hfact
        | succ j =>
          simp only [List.getElem?_cons_succ] at hj hx
          have := r2 j o' x' hj hx
          rw [show i + (j + 1) = i + 1 + j by omega]
          exact this
      have hn : ¬ (nb0 + i < nb ∧ ¬ Bi B nb0 all.length i (nb0 + i)) := fun h => h.2 (.inr ⟨Nat.le_refl _, by omega⟩)
      -- an operation that is carried out
      have run : ∀ (f2 : Fr) (s2 : XSt), s2.fr = f2 :: fs → s2.fu = s.fu → s2.m = s.m → RelS (Bi B nb0 all.length i) G s2 ⟨n, env, ⟨nb, bx, ys⟩⟩ out →
          (∀ x : LF, (∀ bx' : Nat → Box, (∀ b, x.V b → bx' b = bx b) → lop X.T X.P Y ⟨nb, bx', ys⟩ (nb0 + i) o (qenv all env o) x.v x.ws) → lfact X.T X.P Y all n nb ys nb0 i o env bx x) →
          xlop1 X (keepX f2.env (opTmps o.op ++ glook all o)) o s2 (fun R W s' => xlops X all K (i + 1) l (acc ++ [(R, W)]) s') = some r →
          ∃ rs : List LF, rs.length = (o :: l).length ∧ (∀ (j : Nat) (o' : Oper) (x : LF), (o :: l)[j]? = some o' → rs[j]? = some x → lfact X.T X.P Y all n nb ys nb0 (i + j) o' (envAt env (o :: l) (rs.map LF.v) j) (bxAt bx rs j) x) ∧ apart all (ps ++ rs) ∧
            ∃ s' G', s'.fu ≤ fu0 ∧ G'.L = L0 ∧ RelS B G' s' ⟨n, envAt env (o :: l) (rs.map LF.v) (o :: l).length, ⟨nb, bxAt bx rs (o :: l).length, ys⟩⟩ out ∧ K s' = some r := by
        intro f2 s2 hf2 hfu2 hm2 hs2 hfc hr2
        obtain ⟨f3, fs3, e1, e2, e3, e4⟩ := hs2.head
        rw [hf2] at e1; cases e1
        have hkeep : ReX G (shB s2.m.bx) s2.m.nx ⟨nb, bx, ys⟩ (keepX f2.env (opTmps o.op ++ glook all o)) (qenv all env o) := keep_ok e3 _
        have he2 : EverOK G s2.m E H0 nb0 all.length i := by rw [hm2]; exact he
        unfold xlop1 at hr2
        split at hr2
        · rename_i g args ats hop
          have hg := xev_ok (T := X.T) hkeep g
          rw [hop] at hg
          split at hr2
          · rename_i h caps hge
            rw [hop] at hge
            rw [hge] at hg
            simp only [RvX] at hg
            obtain ⟨cps, hgp, hcap⟩ := hg
            have hal := (RlX.mapρ (fun x => xev_ok (T := X.T) hkeep x) args.toList).append hcap
            rw [hop] at hal
            split at hr2
            · rename_i S hSf
              split at hr2
              · rename_i ls os hv
                rw [hop] at hv
                cases hdr : S.dr with
                | true =>
                  rw [hdr, cond_true] at hr2
                  cases hble : Nat.ble S.sr.bx.length 1 with
                  | false => rw [hble] at hr2; cases hr2
                  | true =>
                  rw [hble, cond_true] at hr2
                  obtain ⟨rs, hK, hsp⟩ := hS h S hSf ls _ r hr2
                  obtain ⟨v, xm', hc, hK⟩ := resX_ok hK
                  obtain ⟨pv, ws, k0, k1, k2⟩ := call_nm (Y := Y) (nb0 + i) nb (args.toList.map (peval X.T (qenv all env o)) ++ cps) hsp (Nat.le_of_ble_eq_true hble) hc
                  cases hkp : keptB s2.m.bx xm'.bx with
                  | false => rw [hkp] at hK; cases hK
                  | true =>
                  rw [hkp, cond_true] at hK
                  have hos := views_opq S.pa hv hal
                  obtain ⟨G', q1, q2, q3, q4⟩ := k1 G _ _ rfl hs2.2 hn hos
                  have hen := he2.next (ap := false) hi hs2.2 hn q3 q1 q4 (by rw [hkp]; rfl)
                  have hm3 : XRM G' (fun k => k < nb ∧ ¬ Bi B nb0 all.length (i + 1) k) xm' ⟨nb, setBs bx ws, ys⟩ := by
                    refine q1.more fun k hk => ?_
                    rcases hk with ⟨h1, h2⟩ | rfl
                    · exact ⟨h1, fun hb => h2 (hb.imp id fun h => ⟨by omega, h.2⟩)⟩
                    · refine ⟨by omega, ?_⟩
                      rintro (h | h)
                      · have := hB _ h; omega
                      · omega
                  have hs3 : RelS (Bi B nb0 all.length (i + 1)) G' ⟨s2.fr, xm', s2.fu⟩ ⟨n, env, ⟨nb, setBs bx ws, ys⟩⟩ out := ⟨RfX.mono q3 hs2.1, hm3⟩
                  obtain ⟨ns, hns⟩ : ∃ ns, ns = xnmsL (args.toList.map (xev X.T (keepX f2.env (opTmps (.call ⟨.value g, args, ats⟩) ++ glook all o))) ++ caps) := ⟨_, rfl⟩
                  have hns' : xnmsL (args.toList.map (xev X.T (keepX f2.env (opTmps o.op ++ glook all o))) ++ caps) = ns := by rw [hop, hns]
                  rw [← hns] at hv
                  rw [hns'] at hK
                  refine next f2 ⟨s2.fr, xm', s2.fu⟩ G' v (fun k => E k ∨ (s2.m.nx ≤ k ∧ k < xm'.nx)) (ns, newNm s2.m xm') ⟨pv, ws, fun b => H0 b ∨ ∃ k, k ∈ ns ∧ OwnX G s2.m.bx k ∧ G.ι k = b⟩ hf2 (by rw [hfu2]; exact hfu) (by rw [q3.hl]; exact hL) hs3 q2 hK hen
                    (fun j a x ha hx => (hrec j a x ha hx).mono he2.lt q3.hi fun k hk => .inl hk) ⟨fun b hb => ?_, fun b hb => ?_⟩ (hfc _ fun bx' hbx' => ?_)
                  · obtain ⟨rfl, hlt⟩ := k0 b hb
                    refine .inr ⟨s2.m.nx, ?_, .inr ⟨Nat.le_refl _, hlt⟩, q4.nw _ (Nat.le_refl _) hlt⟩
                    have : Nat.blt s2.m.nx xm'.nx = true := by simpa [Nat.blt_eq] using hlt
                    simp [newNm, this]
                  · rcases hb with h1 | ⟨k, h1, h2, h3⟩
                    · exact .inl h1
                    · have := he2.own k h2
                      exact .inr ⟨k, .inl h1, .inl this, (q3.hi k (he2.lt k this)).trans h3⟩
                  · unfold lop
                    rw [hop]
                    simp only
                    rw [hgp]
                    obtain ⟨m1, m2⟩ := hs2.2.restr (ns := ns) (bx' := bx') fun b hb => hbx' b (by
                      rcases hb with h1 | h1
                      · exact .inl ((he2.hh b).1 h1)
                      · exact .inr h1)
                    exact k2 G _ _ _ _ rfl m1 (RlX.mono m2 _ _ hal) hv
                | false =>
                rw [hdr, cond_false] at hr2
                obtain ⟨rs, hK, hsp⟩ := hS h S hSf ls _ r hr2
                obtain ⟨v, xm', hc, hK⟩ := resX_ok hK
                obtain ⟨rfl, pv, k1, k2⟩ := call_ice' (Y := Y) nb (args.toList.map (peval X.T (qenv all env o)) ++ cps) hsp hc
                have hos := views_opq S.pa hv hal
                obtain ⟨ns, hns⟩ : ∃ ns, ns = xnmsL (args.toList.map (xev X.T (keepX f2.env (opTmps (.call ⟨.value g, args, ats⟩) ++ glook all o))) ++ caps) := ⟨_, rfl⟩
                have hns' : xnmsL (args.toList.map (xev X.T (keepX f2.env (opTmps o.op ++ glook all o))) ++ caps) = ns := by rw [hop, hns]
                rw [← hns] at hv
                rw [hns'] at hK
                refine next f2 ⟨s2.fr, s2.m, s2.fu⟩ G v E (ns, []) ⟨pv, [], fun b => H0 b ∨ ∃ k, k ∈ ns ∧ OwnX G s2.m.bx k ∧ G.ι k = b⟩ hf2 (by rw [hfu2]; exact hfu) hL (Bi.weak hs2) (k1 _ _ _ _ hos) hK
                  ⟨he2.lt, he2.inj, he2.h0, fun k l hk hl => he2.new k l hk (by omega), he2.own, he2.hh⟩ hrec ⟨fun b hb => by simp [keys] at hb, fun b hb => ?_⟩ (hfc _ fun bx' hbx' => ?_)
                · rcases hb with h1 | ⟨k, h1, h2, h3⟩
                  · exact .inl h1
                  · exact .inr ⟨k, .inl h1, he2.own k h2, h3⟩
                · unfold lop
                  rw [hop]
                  simp only
                  rw [hgp]
                  refine SpecM.toN ?_
                  obtain ⟨m1, m2⟩ := hs2.2.restr (ns := ns) (bx' := bx') fun b hb => hbx' b (by
                    rcases hb with h1 | h1
                    · exact .inl ((he2.hh b).1 h1)
                    · exact .inr h1)
                  exact k2 G _ _ _ _ rfl m1 (RlX.mono m2 _ _ hal) hv
              · cases hr2
            · cases hr2
          · cases hr2
        · rename_i hnc
          split at hr2
          · rename_i side v m' Rs Ws hop hfp
            cases hsd : side with
            | false => rw [hsd] at hr2; cases hr2
            | true =>
              rw [hsd] at hr2 hop
              rw [cond_true] at hr2
              cases hkp : (isApp o.op || keptB s2.m.bx m'.bx) with
              | false => rw [hkp] at hr2; cases hr2
              | true =>
                rw [hkp, cond_true] at hr2
                obtain ⟨G', sideP, pv, ws, k1, k2, k3, k4, k5, k6⟩ := xop_ok hs2.2 (fun x => xev_ok (T := X.T) hkeep x) hn hop rfl
                obtain ⟨p1, p2⟩ := fpX_ok hs2.2 (fun x => xev_ok (T := X.T) hkeep x) hop rfl hfp
                have hen := he2.next hi hs2.2 hn k5 k3 k6 hkp
                have hm3 : XRM G' (fun k => k < nb ∧ ¬ Bi B nb0 all.length (i + 1) k) m' ⟨nb, setBs bx ws, ys⟩ := by
                  refine k3.more fun k hk => ?_
                  rcases hk with ⟨h1, h2⟩ | rfl
                  · exact ⟨h1, fun hb => h2 (hb.imp id fun h => ⟨by omega, h.2⟩)⟩
                  · refine ⟨by omega, ?_⟩
                    rintro (h | h)
                    · have := hB _ h; omega
                    · omega
                have hs3 : RelS (Bi B nb0 all.length (i + 1)) G' ⟨s2.fr, m', s2.fu⟩ ⟨n, env, ⟨nb, setBs bx ws, ys⟩⟩ out := ⟨RfX.mono k5 hs2.1, hm3⟩
                refine next f2 ⟨s2.fr, m', s2.fu⟩ G' v (fun k => E k ∨ (s2.m.nx ≤ k ∧ k < m'.nx)) (Rs, Ws ++ newNm s2.m m') ⟨pv, ws, fun b => H0 b ∨ ∃ k, (k ∈ Rs ∨ k ∈ Ws) ∧ OwnX G s2.m.bx k ∧ G.ι k = b⟩ hf2 (by rw [hfu2]; exact hfu) (by rw [k5.hl]; exact hL) hs3 k4 hr2 hen
                  (fun j a x ha hx => (hrec j a x ha hx).mono he2.lt k5.hi fun k hk => .inl hk) ⟨fun b hb => ?_, fun b hb => ?_⟩ (hfc _ fun bx' hbx' => ?_)
                · rcases popv_keys k1 b hb with ⟨rfl, hmk⟩ | hw
                  · have hlt := mk_new hmk hop
                    refine .inr ⟨s2.m.nx, ?_, .inr ⟨Nat.le_refl _, hlt⟩, k6.nw _ (Nat.le_refl _) hlt⟩
                    have : Nat.blt s2.m.nx m'.nx = true := by simpa [Nat.blt_eq] using hlt
                    simp [newNm, this]
                  · rcases p2 b hw with ⟨h1, h2⟩ | ⟨k, h1, h2, h3⟩
                    · exact .inl ⟨List.mem_append_left _ h1, (he2.hh b).1 h2⟩
                    · have := he2.own k h2
                      exact .inr ⟨k, List.mem_append_left _ h1, .inl this, (k5.hi k (he2.lt k this)).trans h3⟩
                · rcases hb with h1 | ⟨k, h1, h2, h3⟩
                  · exact .inl h1
                  · have := he2.own k h2
                    exact .inr ⟨k, h1.imp id (List.mem_append_left _), .inl this, (k5.hi k (he2.lt k this)).trans h3⟩
                · have hag : popv X.T (peval X.T (qenv all env o)) bx' (nb0 + i) o.op = some (sideP, pv, ws) := by
                    rw [popv_agree (bx := bx) fun b hb => hbx' b (by
                      rcases p1 b hb with h1 | h1
                      · exact .inl ((he2.hh b).1 h1)
                      · exact .inr h1)]
                    exact k1
                  unfold lop
                  split
                  · rename_i g args ats hop2; exact (hnc g args ats hop2).elim
                  · exact ⟨sideP, hag, k2⟩
          · cases hr2
      have lit : ∀ (d' : Nat) (t : Bool), lk env d' = .v (.bool t) → RelS (Bi B nb0 all.length i) G (s.put (some d') (.b t)) ⟨n, env, ⟨nb, bx, ys⟩⟩ out ∧ (s.put (some d') (.b t)).fr = ⟨f.n, (d', .b t) :: f.env⟩ :: fs ∧ (s.put (some d') (.b t)).fu = s.fu ∧ (s.put (some d') (.b t)).m = s.m := by
        intro d' t ht
        have e1 : s.put (some d') (.b t) = ⟨⟨f.n, (d', .b t) :: f.env⟩ :: fs, s.m, s.fu⟩ := by simp only [XSt.put, hfr]
        rw [e1]
        exact ⟨RelS.mk' hfn (hre.consX d' (by simp only [RvX]; exact ht)) hrf hs.2, rfl, rfl, rfl⟩
      have skip : ∀ (f2 : Fr) (s2 : XSt), s2.fr = f2 :: fs → s2.fu = s.fu → s2.m = s.m → RelS (Bi B nb0 all.length i) G s2 ⟨n, env, ⟨nb, bx, ys⟩⟩ out → lfact X.T X.P Y all n nb ys nb0 i o env bx ⟨.v (.tuple #[]), [], fun _ => False⟩ →
          xlops X all K (i + 1) l (acc ++ [([], [])]) (s2.put o.dst .skip) = some r →
          ∃ rs : List LF, rs.length = (o :: l).length ∧ (∀ (j : Nat) (o' : Oper) (x : LF), (o :: l)[j]? = some o' → rs[j]? = some x → lfact X.T X.P Y all n nb ys nb0 (i + j) o' (envAt env (o :: l) (rs.map LF.v) j) (bxAt bx rs j) x) ∧ apart all (ps ++ rs) ∧
            ∃ s' G', s'.fu ≤ fu0 ∧ G'.L = L0 ∧ RelS B G' s' ⟨n, envAt env (o :: l) (rs.map LF.v) (o :: l).length, ⟨nb, bxAt bx rs (o :: l).length, ys⟩⟩ out ∧ K s' = some r := fun f2 s2 hf2 hfu2 hm2 hs2 hfact hr2 =>
        next f2 s2 G .skip E ([], []) ⟨.v (.tuple #[]), [], fun _ => False⟩ hf2 (by rw [hfu2]; exact hfu) hL (Bi.weak hs2) (by simp only [RvX]) hr2
          (by rw [hm2]; exact ⟨he.lt, he.inj, he.h0, fun k l hk hl => he.new k l hk (by omega), he.own, he.hh⟩) hrec ⟨fun b hb => by simp [keys] at hb, fun b hb => hb.elim⟩ hfact
      cases hg : o.guard with
      | none =>
        rw [hg] at hr
        simp only at hr
        exact run f s hfr rfl rfl hs (fun x hx => ⟨hdst', by rw [hg]; exact hx⟩) hr
      | some jw =>
        obtain ⟨j, want⟩ := jw
        rw [hg] at hr
        simp only at hr
        split at hr
        · cases hr
        · rename_i d' hd'
          have hk := hre d'
          have hlk : lk (qenv all env o) d' = lk env d' := by
            unfold qenv
            refine lk_keep (List.mem_append_right _ ?_)
            simp only [glook, hg, hd', List.mem_singleton]
          have hgv : ∀ b, (match lk env d' with
              | .v (.bool b) => some (some b)
              | .v (.tuple _) => some none
              | _ => none) = some b → gval all (qenv all env o) j = some b := by
            intro b hb
            simp only [gval, hd', hlk]
            exact hb
          split at hr
          · rename_i hx
            rw [hx] at hk
            simp only [RvX] at hk
            have h1 := hgv none (by rw [hk])
            exact skip f s hfr rfl rfl hs ⟨hdst', by rw [hg]; simp only [h1]; rw [if_neg (by simp)]; first | exact ⟨rfl, rfl⟩ | exact ⟨trivial, trivial⟩ | trivial⟩ hr
          · rename_i t hx
            rw [hx] at hk
            simp only [RvX] at hk
            obtain ⟨l1, l2, l3, l4⟩ := lit d' t hk
            have h1 := hgv (some t) (by rw [hk])
            have frun : t = want → ∀ x : LF, (∀ bx' : Nat → Box, (∀ b, x.V b → bx' b = bx b) → lop X.T X.P Y ⟨nb, bx', ys⟩ (nb0 + i) o (qenv all env o) x.v x.ws) → lfact X.T X.P Y all n nb ys nb0 i o env bx x := by
              intro e x hx
              exact ⟨hdst', by rw [hg]; simp only [h1]; rw [if_pos (by rw [e])]; exact hx⟩
            have fskip : t ≠ want → lfact X.T X.P Y all n nb ys nb0 i o env bx ⟨.v (.tuple #[]), [], fun _ => False⟩ := by
              intro e
              exact ⟨hdst', by rw [hg]; simp only [h1]; rw [if_neg (by simpa using e)]; first | exact ⟨rfl, rfl⟩ | exact ⟨trivial, trivial⟩ | trivial⟩
            cases want with
            | true =>
              simp only at hr
              cases t with
              | true => simp only [cond_true] at hr; exact run _ _ l2 l3 l4 l1 (frun rfl) hr
              | false => simp only [cond_false] at hr; exact skip _ _ l2 l3 l4 l1 (fskip (by simp)) hr
            | false =>
              simp only at hr
              cases t with
              | true => simp only [cond_true] at hr; exact skip _ _ l2 l3 l4 l1 (fskip (by simp)) hr
              | false => simp only [cond_false] at hr; exact run _ _ l2 l3 l4 l1 (frun rfl) hr
          · cases hr
end
end Go.Proofs.Ytcbhmedknbiffaa
