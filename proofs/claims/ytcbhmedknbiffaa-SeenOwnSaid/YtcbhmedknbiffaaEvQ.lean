/-
  The layer Ev: all code.
-/
import Derived.Test.YtcbhmedknbiffaaEvV
namespace Go.Proofs.Ytcbhmedknbiffaa
open Go Go.RowKit
def Gn.setL (G : Gn) (d L : Nat) : Gn := { G with L := fun j => if j = d then ⟨L, (G.L j).o⟩ else G.L j }
section
variable {G : Gn} {sh : Sh} {nx : Nat} {m : Mem} {d L : Nat}
mutual
theorem ny_ok : ∀ (x : XV) (p : PV), nyV d x = true → RvX G sh nx m x p → RvX (G.setL d L) sh nx m x p
  | .any, _, _, _ => by simp only [RvX]
  | .skip, _, _, h => by simp only [RvX] at h ⊢; exact h
  | .nil, _, _, h => by simp only [RvX] at h ⊢; exact h
  | .i _ _, _, _, h => by simp only [RvX] at h ⊢; exact h
  | .b _, _, _, h => by simp only [RvX] at h ⊢; exact h
  | .s _, _, _, h => by simp only [RvX] at h ⊢; exact h
  | .agg xs, _, hn, h => by simp only [nyV] at hn; simp only [RvX] at h ⊢; obtain ⟨ps, e, hl⟩ := h; exact ⟨ps, e, nys_ok xs ps hn hl⟩
  | .tup xs, _, hn, h => by simp only [nyV] at hn; simp only [RvX] at h ⊢; obtain ⟨ps, e, hl⟩ := h; exact ⟨ps, e, nys_ok xs ps hn hl⟩
  | .sl _ _ _, _, _, h => by simp only [RvX] at h ⊢; exact h
  | .row _, _, _, h => by simp only [RvX] at h ⊢; exact h
  | .rsub _ _ _, _, _, h => by simp only [RvX] at h ⊢; exact h
  | .ref _ _, _, _, h => by simp only [RvX] at h ⊢; exact h
  | .aref _ _ _ _, _, _, h => by simp only [RvX] at h ⊢; exact h
  | .asl _ _ _ _, _, _, h => by simp only [RvX] at h ⊢; exact h
  | .rp _ _ _, _, _, h => by simp only [RvX] at h ⊢; exact h
  | .ep xs, _, hn, h => by simp only [nyV] at hn; simp only [RvX] at h ⊢; obtain ⟨ps, e, hl⟩ := h; exact ⟨ps, e, nys_ok xs ps hn hl⟩
  | .aep xs _ _ _, _, hn, h => by simp only [nyV] at hn; simp only [RvX] at h ⊢; obtain ⟨ps, e, hl⟩ := h; exact ⟨ps, e, nys_ok xs ps hn hl⟩
  | .clos _ xs, _, hn, h => by simp only [nyV] at hn; simp only [RvX] at h ⊢; obtain ⟨ps, e, hl⟩ := h; exact ⟨ps, e, nys_ok xs ps hn hl⟩
  | .yield d', _, hn, h => by
    simp only [nyV, nbeq, Bool.not_eq_true', beq_eq_false_iff_ne, ne_eq] at hn
    simp only [RvX, Gn.setL] at h ⊢
    rw [if_neg (fun e => hn e.symm)]; exact h
  | .opq j, _, _, h => by
    simp only [RvX, Gn.setL] at h ⊢
    split <;> exact h
  | .mp _, _, _, h => by simp only [RvX] at h ⊢; exact h
  | .ui _, _, _, h => by simp only [RvX] at h ⊢; exact h
  | .nr _, _, _, h => by simp only [RvX] at h ⊢; exact h
  | .np _ _, _, _, h => by simp only [RvX] at h ⊢; exact h
theorem nys_ok : ∀ (xs : List XV) (ps : List PV), nyVs d xs = true → RlX G sh nx m xs ps → RlX (G.setL d L) sh nx m xs ps
  | [], _, _, h => by simp only [RlX] at h ⊢; exact h
  | x :: xs, _, hn, h => by
    simp only [nyVs, Bool.and_eq_true] at hn
    simp only [RlX] at h ⊢
    obtain ⟨p, r, e, h1, h2⟩ := h
    exact ⟨p, r, e, ny_ok x p hn.1 h1, nys_ok xs r hn.2 h2⟩
end
theorem nye_ok : ∀ {xe : List (Nat × XV)} {e : List (Nat × PV)}, nyE d xe = true → ReX G sh nx m xe e → ReX (G.setL d L) sh nx m xe e := by
  intro xe e hn h k
  have : ∀ (l : List (Nat × XV)), nyE d l = true → nyV d (lkX l k) = true := by
    intro l
    induction l with
    | nil => intro _; rfl
    | cons q l ih =>
      intro hq
      obtain ⟨j, x⟩ := q
      simp only [nyE, Bool.and_eq_true] at hq
      simp only [lkX]
      cases Nat.beq j k with
      | true => exact hq.1
      | false => exact ih hq.2
  exact ny_ok _ _ (this xe hn) (h k)
theorem nyb_ok : ∀ {bx : List (Nat × XBox)} {k : Nat} {xs : List XV}, nyB d bx = true → lkB bx k = .cells xs → nyVs d xs = true
  | [], k, xs, _, h => by simp [lkB] at h
  | (j, b) :: r, k, xs, hn, h => by
    rw [lkB_cons] at h
    cases b with
    | gone => simp only [nyB] at hn; split at h; cases h; exact nyb_ok hn h
    | mp kd es => simp only [nyB, Bool.and_eq_true] at hn; split at h; cases h; exact nyb_ok hn.2 h
    | row fr cs l => simp only [nyB] at hn; split at h; cases h; exact nyb_ok hn h
    | pv _ _ => simp only [nyB] at hn; split at h; cases h; exact nyb_ok hn h
    | cells ys =>
      simp only [nyB, Bool.and_eq_true] at hn
      split at h
      · cases h; exact hn.1
      · exact nyb_ok hn.2 h
theorem nym_ok : ∀ {bx : List (Nat × XBox)} {k : Nat} {kd : IntKind} {es : List (Int × XV)}, nyB d bx = true → lkB bx k = .mp kd es → nyVs d (es.map (·.2)) = true
  | [], k, _, _, _, h => by simp [lkB] at h
  | (j, b) :: r, k, kd, es, hn, h => by
    rw [lkB_cons] at h
    cases b with
    | gone => simp only [nyB] at hn; split at h; cases h; exact nym_ok hn h
    | row fr cs l => simp only [nyB] at hn; split at h; cases h; exact nym_ok hn h
    | pv _ _ => simp only [nyB] at hn; split at h; cases h; exact nym_ok hn h
    | cells ys => simp only [nyB, Bool.and_eq_true] at hn; split at h; cases h; exact nym_ok hn.2 h
    | mp kd' es' =>
      simp only [nyB, Bool.and_eq_true] at hn
      split at h
      · cases h; exact hn.1
      · exact nym_ok hn.2 h
theorem nys_rel {B : Nat → Prop} {G : Gn} {s : XSt} {p : St} {out : List PF} {d L : Nat} (hn : nyS d s = true) (h : RelS B G s p out) : RelS B (G.setL d L) s p out := by
  unfold nyS at hn
  rw [Bool.and_eq_true, List.all_eq_true] at hn
  obtain ⟨h1, h2⟩ := hn
  obtain ⟨hf, hm⟩ := h
  refine ⟨?_, ⟨fun k => ?_, hm.al, hm.nh, hm.inj, hm.ha, hm.ys, hm.lt, hm.pv⟩⟩
  · have key : ∀ (fs : List Fr) (es : List PF), (∀ f ∈ fs, nyE d f.env = true) → RfX G (shB s.m.bx) s.m.nx p.m fs es → RfX (G.setL d L) (shB s.m.bx) s.m.nx p.m fs es := by
      intro fs
      induction fs with
      | nil => intro es _ h; exact h
      | cons f fs ih =>
        rintro es hh ⟨e, r, j1, j2, j3, j4⟩
        exact ⟨e, r, j1, j2, nye_ok (hh f (by simp)) j3, ih r (fun f' hf' => hh f' (by simp [hf'])) j4⟩
    exact key _ _ h1 hf
  · have hb := hm.box k
    cases hl : lkB s.m.bx k with
    | gone => trivial
    | cells xs =>
      rw [hl] at hb
      obtain ⟨ps, e, hr⟩ := hb
      exact ⟨ps, e, nys_ok xs ps (nyb_ok h2 hl) hr⟩
    | mp kd es =>
      rw [hl] at hb
      obtain ⟨ps, e, hk, hr⟩ := hb
      exact ⟨ps, e, hk, nys_ok _ _ (nym_ok h2 hl) hr⟩
    | row fr cs l =>
      rw [hl] at hb
      exact hb
    | pv cs ns =>
      rw [hl] at hb
      exact hb
theorem rY_eq {T : Tab} {P : Program} {p : St} {ps : List Nat} {asg body : Code} (h : p.m.ys = none) : rY T P p ps asg body = rY T P ⟨p.n, p.env, ⟨0, fun _ => .dead, none⟩⟩ ps asg body := by
  funext args m K
  simp only [rY, h]
end
section
variable {R : Type} {X : Px R}
theorem PostX.weak {B : Nat → Prop} {fu fu' n n' : Nat} {L L' : Nat → LO} {κ κ' : EK R} {r : R} {out : List PF} {e : Exit} {p : St} (h : PostX B fu n L κ r out e p) (hfu : fu ≤ fu') (hn : n' ≤ n) (hl : ∀ j, j < n' → L j = L' j) (hk : ∀ s, κ e s = some r → κ' e s = some r) : PostX B fu' n' L' κ' r out e p := by
  obtain ⟨s', G', h1, h2, h3, h4⟩ := h
  exact ⟨s', G', Nat.le_trans h1 hfu, fun j hj => (h2 j (Nat.lt_of_lt_of_le hj hn)).trans (hl j hj), h3, hk _ h4⟩
theorem cut_ok {_d : Nat} {pth : List Nat} {s : XSt} {r : R} {B : Nat → Prop} {G : Gn} {p : St} {out : List PF} {a : At R} (hr : cutX X pth s = some r) (hs : RelS B G s p out) (hst : ∀ C, lkC X.cut pth = some C → StOK X (some a) C) :
    ∃ n s2 G2, s.fu = n + 1 ∧ s2.fu = n ∧ G2.L = G.L ∧ RelS B G2 s2 p out ∧ ev X a.d a.pth a.c a.y a.κ s2 = some r := by
  unfold cutX at hr
  split at hr
  · rename_i C hC
    obtain ⟨h0, h1⟩ := hst C hC
    split at hr
    · rename_i ls hls
      cases hfu : s.fu with
      | zero => rw [hfu, h0] at hr; cases hr
      | succ n =>
        rw [hfu] at hr
        obtain ⟨s', e1, e2⟩ := h1 n ls r hr
        obtain ⟨fs, bx, k1, G2, k2, k3⟩ := dec_ok hs hls
        rw [k1] at e1
        cases e1
        exact ⟨n, _, G2, rfl, rfl, k2, k3 n, e2⟩
    · cases hr
  · cases hr
theorem eqL_ok : ∀ {a b : List Nat}, eqL a b = true → a = b
  | [], [], _ => rfl
  | x :: a, y :: b, h => by
    simp only [eqL, Bool.and_eq_true] at h
    rw [Nat.eq_of_beq_eq_true h.1, eqL_ok h.2]
  | [], _ :: _, h => by simp [eqL] at h
  | _ :: _, [], h => by simp [eqL] at h
theorem lkC_mem : ∀ {cs : List (List Nat × Cut R)} {k : List Nat} {C : Cut R}, lkC cs k = some C → (k, C) ∈ cs
  | [], k, C, h => by simp [lkC] at h
  | (k', c) :: r, k, C, h => by
    simp only [lkC] at h
    cases he : eqL k' k with
    | true => rw [he, cond_true] at h; cases h; rw [eqL_ok he]; exact List.mem_cons_self
    | false => rw [he, cond_false] at h; exact List.mem_cons_of_mem _ (lkC_mem h)
theorem eok (hT : TOK X.T X.P) (hS : SFok X) (hmix : X.P.follows .mixedOrders = true) (N : Nat) : ∀ d, EOK X d N := by
  induction N using Nat.strongRecOn with
  | _ N ihN =>
  intro d
  induction d using Nat.strongRecOn with
  | _ d ihD =>
  cases d with
  | zero => intro pth c y κ s r _ hr; cases hr
  | succ d =>
  have ihd := ihD d (Nat.lt_succ_self d)
  intro pth c
  induction c generalizing pth with
  | skip =>
    intro y κ s r hN hr hcut B G p out Y hB hy hs
    exact pw_skip ⟨s, G, Nat.le_refl _, fun _ _ => rfl, hs, hr⟩
  | label l =>
    intro y κ s r hN hr hcut B G p out Y hB hy hs
    exact pw_label ⟨s, G, Nat.le_refl _, fun _ _ => rfl, hs, hr⟩
  | exit id =>
    intro y κ s r hN hr hcut B G p out Y hB hy hs
    exact pw_exit ⟨s, G, Nat.le_refl _, fun _ _ => rfl, hs, hr⟩
  | goto l =>
    intro y κ s r hN hr hcut B G p out Y hB hy hs
    exact pw_goto ⟨s, G, Nat.le_refl _, fun _ _ => rfl, hs, hr⟩
  | ret =>
    intro y κ s r hN hr hcut B G p out Y hB hy hs
    exact pw_ret ⟨s, G, Nat.le_refl _, fun _ _ => rfl, hs, hr⟩
  | refuse w =>
    intro y κ s r hN hr
    cases hr
  | region id ops draw =>
    intro y κ s r hN hr hcut B G p out Y hB hy hs
    cases draw with
    | false =>
      refine pw_region hT ?_
      have hr' : xops X (ev X d) y false pth ops.toList (κ .normal) 0 ops.toList s = some r := hr
      refine xops_ok hT hS ihd (nb0 := p.m.nb) (B := B) (L0 := G.L) hB hcut ops.toList 0 s _ G rfl hr' hN (Nat.le_refl _) (fun _ _ => rfl) hy ?_ (Nat.le_refl _)
      refine ⟨RfX.mono (GXt.same (m := p.m) (m' := (p.reserve ops.toList.length).m) rfl) hs.1, ?_⟩
      have := hs.2.same (m' := (p.reserve ops.toList.length).m) (A' := fun k => k < (p.reserve ops.toList.length).m.nb ∧ ¬ Bi B p.m.nb ops.toList.length 0 k) (ys := s.m.ys) rfl hs.2.ys (fun k hk => ⟨Nat.lt_of_lt_of_le hk.1 (Nat.le_add_right _ _), ?_⟩)
      · exact this
      · rintro (h | ⟨h, _⟩)
        · exact hk.2 h
        · have := hk.1; omega
    | true =>
      obtain ⟨f, fs, hfr, hfn, hre, hrf⟩ := hs.head
      have hr' : (bif qchk ops.toList then (match s.fr with
        | [] => none
        | f :: _ => match bigAt X f.env 0 ops.toList with
          | none => xlops X ops.toList (κ .normal) 0 ops.toList [] s
          | some (b, ob) => xbig X (ev X d) pth ops.toList b ob (vX X f.env ops.toList b ob 0 ops.toList) κ s) else none) = some r := hr
      cases hq : qchk ops.toList with
      | false => rw [hq] at hr'; cases hr'
      | true =>
        rw [hq, cond_true, hfr] at hr'
        simp only at hr'
        cases hbig : bigAt X f.env 0 ops.toList with
        | some bo =>
          obtain ⟨b, ob⟩ := bo
          rw [hbig] at hr'
          simp only at hr'
          obtain ⟨j, hj, hob⟩ := bigAt_spec _ _ hbig
          rw [Nat.zero_add] at hj
          subst hj
          exact xbig_ok hT hmix ihd hB hq hob hr' hN (fun h fn c h1 h2 => hcut.child [b, 2 * h] rfl fun f => by
            simp only [List.cons_append, List.nil_append, atc, hob, (beq2h h).2.2, h1, h2]) hs
        | none =>
        rw [hbig] at hr'
        simp only at hr'
        have hrel : RelS (Bi B p.m.nb ops.toList.length 0) G s ⟨p.n, p.env, ⟨p.m.nb + ops.toList.length, p.m.bx, p.m.ys⟩⟩ out := by
          refine ⟨RfX.mono (GXt.same (m := p.m) (m' := ⟨p.m.nb + ops.toList.length, p.m.bx, p.m.ys⟩) rfl) hs.1, ?_⟩
          have := hs.2.same (m' := ⟨p.m.nb + ops.toList.length, p.m.bx, p.m.ys⟩) (A' := fun k => k < p.m.nb + ops.toList.length ∧ ¬ Bi B p.m.nb ops.toList.length 0 k) (ys := s.m.ys) rfl hs.2.ys (fun k hk => ⟨Nat.lt_of_lt_of_le hk.1 (Nat.le_add_right _ _), ?_⟩)
          · exact this
          · rintro (h | ⟨h, _⟩)
            · exact hk.2 h
            · have := hk.1; omega
        have hev : EverOK G s.m (OwnX G s.m.bx) (fun b => G.H b ∨ G.P b ≠ none) p.m.nb ops.toList.length 0 :=
          ⟨fun k hk => OwnX.lt hs.2 hk, fun k k' => hs.2.inj k k', fun k hk hh => hh.elim (hs.2.nh k hk) fun hh => by
            cases hP : G.P (G.ι k) with
            | none => exact hh hP
            | some n => exact (hs.2.pv _ n hP).2.2.1 k hk rfl, fun k l hk _ _ e => by have := (hs.2.al k hk).1; omega, fun k hk => hk, fun b => Iff.rfl⟩
        obtain ⟨rs, r1, r2, r3, s', G', h1, h2, h3, h4⟩ := xlops_ok (Y := Y) hS (nb0 := p.m.nb) (B := B) hB (n := p.n) (L0 := G.L) (H0 := fun b => G.H b ∨ G.P b ≠ none) (Nat.le_refl _) ops.toList 0 [] [] s p.env p.m.bx G _ rfl rfl hr' (Nat.le_refl _) rfl hrel hev (fun j a x ha => by simp at ha)
        exact pw_loud hT hmix hq r1 (fun i o x ho hx => by have := r2 i o x ho hx; rwa [Nat.zero_add] at this) (by simpa using r3) ⟨s', G', h1, fun j _ => by rw [h2], h3, h4⟩
  | seq a b iha ihb =>
    intro y κ s r hN hr hcut B G p out Y hB hy hs
    have hca : CutsOK X (d + 1) (0 :: pth) a y (seqX (ev X (d + 1) (1 :: pth) b y κ) κ) := hcut.child [0] rfl fun f => rfl
    have hcb : CutsOK X (d + 1) (1 :: pth) b y κ := hcut.child [1] rfl fun f => rfl
    have ha := iha (0 :: pth) y _ s r hN hr hca B G p out Y hB (hy.mono (Nat.le_succ _) fun _ _ => rfl) hs
    refine pw_seq (ha.withNb.mono fun e p' hp => ?_)
    obtain ⟨hp, hnb⟩ := hp
    cases e with
    | normal =>
      obtain ⟨s', G', h1, h2, h3, h4⟩ := hp
      have hb := ihb (1 :: pth) y κ s' r (Nat.le_trans h1 hN) h4 hcb B G' p' out Y (fun k hk => Nat.lt_of_lt_of_le (hB k hk) hnb) (hy.mono (Nat.le_succ _) fun j hj => h2 j (Nat.lt_succ_of_lt hj)) h3
      exact hb.mono fun e2 p2 hp2 => hp2.weak h1 (Nat.le_succ _) (fun j hj => h2 j (Nat.lt_succ_of_lt hj)) fun _ h => h
    | _ => exact hp.weak (Nat.le_refl _) (Nat.le_succ _) (fun _ _ => rfl) fun _ h => h
  | cond c a b iha ihb =>
    intro y κ s r hN hr hcut B G p out Y hB hy hs
    obtain ⟨f, fs, hfr, hfn, hre, hrf⟩ := hs.head
    have hr' : (match s.fr with
      | [] => none
      | f :: _ => match xev X.T f.env c with
        | .b t => bif t then evc X (ev X d) (0 :: pth) a y κ s else evc X (ev X d) (1 :: pth) b y κ s
        | _ => none) = some r := hr
    rw [hfr] at hr'
    simp only at hr'
    have hc := xev_ok (T := X.T) hre c
    split at hr'
    · rename_i t ht
      rw [ht] at hc
      simp only [RvX] at hc
      refine pw_cond hc (fun e => ?_) (fun e => ?_)
      · subst e
        have := iha (0 :: pth) y κ s r hN hr' (hcut.child [0] rfl fun f => rfl) B G p out Y hB (hy.mono (Nat.le_succ _) fun _ _ => rfl) hs
        exact this.mono fun e2 p2 hp2 => hp2.weak (Nat.le_refl _) (Nat.le_succ _) (fun _ _ => rfl) fun _ h => h
      · subst e
        have := ihb (1 :: pth) y κ s r hN hr' (hcut.child [1] rfl fun f => rfl) B G p out Y hB (hy.mono (Nat.le_succ _) fun _ _ => rfl) hs
        exact this.mono fun e2 p2 hp2 => hp2.weak (Nat.le_refl _) (Nat.le_succ _) (fun _ _ => rfl) fun _ h => h
    · cases hr'
  | block id b ihb =>
    intro y κ s r hN hr hcut B G p out Y hB hy hs
    have := ihb (0 :: pth) y (blockX id κ) s r hN hr (hcut.child [0] rfl fun f => rfl) B G p out Y hB (hy.mono (Nat.le_succ _) fun _ _ => rfl) hs
    refine pw_block (this.mono fun e p2 hp2 => ?_)
    cases e with
    | exit id' =>
      simp only [blockK]
      split
      · rename_i e
        obtain ⟨s', G', h1, h2, h3, h4⟩ := hp2
        refine ⟨s', G', h1, fun j hj => h2 j (Nat.lt_succ_of_lt hj), h3, ?_⟩
        simp only [blockX, nbeq, e, beq_self_eq_true, cond_true] at h4
        exact h4
      · rename_i e
        obtain ⟨s', G', h1, h2, h3, h4⟩ := hp2
        refine ⟨s', G', h1, fun j hj => h2 j (Nat.lt_succ_of_lt hj), h3, ?_⟩
        have : (id' == id) = false := by simpa using e
        simp only [blockX, nbeq, this, cond_false] at h4
        exact h4
    | _ => exact hp2.weak (Nat.le_refl _) (Nat.le_succ _) (fun _ _ => rfl) fun _ h => h
  | loop b ihb =>
    intro y κ s r hN hr hcut B G p out Y hB hy hs
    have hr0 : (match lkC X.cut pth with
      | some _ => cutX X pth s
      | none => evc X (ev X d) (0 :: pth) b y (unrX X (ev X d) pth b y κ) s) = some r := hr
    cases hlk : lkC X.cut pth with
    | none =>
      have hrun : ∀ (q : List Nat) (x : Nat) (s' : XSt), lkC X.cut q = none → ev X x q (.loop b) y κ s' = some r → ∃ x', x = x' + 1 ∧ ev X (x' + 1) (0 :: q) b y (unrX X (ev X x') q b y κ) s' = some r := by
        intro q x s' hq h
        cases x with
        | zero => cases h
        | succ x' =>
          have h0 : (match lkC X.cut q with
            | some _ => cutX X q s'
            | none => evc X (ev X x') (0 :: q) b y (unrX X (ev X x') q b y κ) s') = some r := h
          rw [hq] at h0
          exact ⟨x', rfl, h0⟩
      refine pw_loopG (σ := Nat) (fun x p' => p.m.nb ≤ p'.m.nb ∧ x ≤ d + 1 ∧ ∃ q s' G', pth.length ≤ q.length ∧ lkC X.cut q = none ∧ CutsOK X x q (.loop b) y κ ∧ s'.fu ≤ s.fu ∧ (∀ j, j < pth.length → G'.L j = G.L j) ∧ RelS B G' s' p' out ∧ ev X x q (.loop b) y κ s' = some r) id (d + 1) ⟨Nat.le_refl _, Nat.le_refl _, pth, s, G, Nat.le_refl _, hlk, hcut, Nat.le_refl _, fun _ _ => rfl, hs, hr⟩ ?_
      rintro x p' ⟨hnb, hx, q, s', G', hq, hqn, hqc, hfu, hL, hs', hr2⟩
      obtain ⟨x', rfl, hr3⟩ := hrun q x s' hqn hr2
      have hB' : ∀ k, B k → k < p'.m.nb := fun k hk => Nat.lt_of_lt_of_le (hB k hk) hnb
      have hy2 : YH X y Y G'.L (0 :: q).length out := hy.mono (Nat.le_succ_of_le hq) fun j hj => hL j hj
      have hcb : CutsOK X (x' + 1) (0 :: q) b y (unrX X (ev X x') q b y κ) := hqc.child [0] rfl fun f => by
        show (match lkC X.cut q with
          | some _ => atc X f (x' + 1) (0 :: q) b y (loopX X q κ)
          | none => atc X f (x' + 1) (0 :: q) b y (unrX X (ev X x') q b y κ)) = _
        rw [hqn]
      have hcn : CutsOK X x' (5 :: q) (.loop b) y κ := hqc.child [5] rfl fun f => rfl
      have hbody : PW X.T X.P Y b (PostX B s'.fu (0 :: q).length G'.L (unrX X (ev X x') q b y κ) r out) p' := by
        rcases Nat.lt_or_ge x' d with h | h
        · exact ihD (x' + 1) (by omega) (0 :: q) b y _ s' r (Nat.le_trans hfu hN) hr3 hcb B G' p' out Y hB' hy2 hs'
        · have e : x' = d := by omega
          subst e
          exact ihb (0 :: q) y _ s' r (Nat.le_trans hfu hN) hr3 hcb B G' p' out Y hB' hy2 hs'
      refine hbody.withNb.mono fun e p2 hp2 => ?_
      obtain ⟨hp2, hnb2⟩ := hp2
      cases e with
      | normal =>
        obtain ⟨s3, G3, h1, h2, h3, h4⟩ := hp2
        have h4' : (match lkC X.cut (5 :: q) with
          | some _ => none
          | none => ev X x' (5 :: q) (.loop b) y κ s3) = some r := h4
        split at h4'
        · cases h4'
        · rename_i hn5
          exact ⟨x', ⟨Nat.le_trans hnb hnb2, by omega, 5 :: q, s3, G3, Nat.le_succ_of_le hq, hn5, hcn, Nat.le_trans h1 hfu, fun j hj => (h2 j (Nat.lt_of_lt_of_le hj (Nat.le_succ_of_le hq))).trans (hL j hj), h3, h4'⟩, Nat.lt_succ_self x'⟩
      | _ => exact hp2.weak hfu (Nat.le_succ_of_le hq) (fun j hj => hL j hj) fun _ h => h
    | some C0 =>
    rw [hlk] at hr0
    have hr' : cutX X pth s = some r := hr0
    have hst : ∀ C, lkC X.cut pth = some C → StOK X (some ⟨d + 1, 0 :: pth, b, y, loopX X pth κ⟩) C := fun C hC => hcut [] C hC
    have hcb : CutsOK X (d + 1) (0 :: pth) b y (loopX X pth κ) := hcut.child [0] rfl fun f => by
      show (match lkC X.cut pth with
        | some _ => atc X f (d + 1) (0 :: pth) b y (loopX X pth κ)
        | none => atc X f (d + 1) (0 :: pth) b y (unrX X (ev X d) pth b y κ)) = _
      rw [hlk]
    refine pw_loopG (σ := Nat) (fun n p' => p.m.nb ≤ p'.m.nb ∧ ∃ s' G', s'.fu = n ∧ n ≤ s.fu ∧ (∀ j, j < pth.length → G'.L j = G.L j) ∧ RelS B G' s' p' out ∧ cutX X pth s' = some r) id s.fu ⟨Nat.le_refl _, s, G, rfl, Nat.le_refl _, fun _ _ => rfl, hs, hr'⟩ ?_
    rintro n p' ⟨hnb, s', G', hfu, hle, hL, hs', hr2⟩
    obtain ⟨n', s2, G2, e1, e2, e3, e4, e5⟩ := cut_ok (_d := d + 1) hr2 hs' hst
    have hlt : n' < N := by omega
    have hB' : ∀ k, B k → k < p'.m.nb := fun k hk => Nat.lt_of_lt_of_le (hB k hk) hnb
    have hy2 : YH X y Y G2.L (0 :: pth).length out := hy.mono (Nat.le_succ _) fun j hj => by rw [e3]; exact hL j hj
    refine ((ihN n' hlt (d + 1)) (0 :: pth) b y _ s2 r (by omega) e5 hcb B G2 p' out Y hB' hy2 e4).withNb.mono fun e p2 hp2 => ?_
    obtain ⟨hp2, hnb2⟩ := hp2
    cases e with
    | normal =>
      obtain ⟨s3, G3, h1, h2, h3, h4⟩ := hp2
      exact ⟨s3.fu, ⟨Nat.le_trans hnb hnb2, s3, G3, rfl, by omega, fun j hj => (h2 j (Nat.lt_succ_of_lt hj)).trans (by rw [e3]; exact hL j hj), h3, h4⟩, by simp only [id]; omega⟩
    | _ => exact hp2.weak (by omega) (Nat.le_succ _) (fun j hj => by rw [e3]; exact hL j hj) fun _ h => h
  | scope c ihc =>
    intro y κ s r hN hr hcut B G p out Y hB hy hs
    have hcc : CutsOK X (d + 1) (0 :: pth) c y (labX X pth c κ) := hcut.child [0] rfl fun f => rfl
    refine pw_scopeG (σ := Nat) (fun l n p' => p.m.nb ≤ p'.m.nb ∧ ∃ s' G', s'.fu = n ∧ n ≤ s.fu ∧ (∀ j, j < pth.length → G'.L j = G.L j) ∧ RelS B G' s' p' out ∧ cutX X ((l + 10) :: pth) s' = some r) id ?_ ?_
    · refine (ihc (0 :: pth) y _ s r hN hr hcc B G p out Y hB (hy.mono (Nat.le_succ _) fun _ _ => rfl) hs).withNb.mono fun e p2 hp2 => ?_
      obtain ⟨hp2, hnb2⟩ := hp2
      cases e with
      | goto l =>
        obtain ⟨s3, G3, h1, h2, h3, h4⟩ := hp2
        simp only [labX] at h4
        split at h4
        · rename_i rest hrest
          exact ⟨by rw [hrest]; rfl, s3.fu, hnb2, s3, G3, rfl, h1, fun j hj => h2 j (Nat.lt_succ_of_lt hj), h3, h4⟩
        · cases h4
      | _ => exact hp2.weak (Nat.le_refl _) (Nat.le_succ _) (fun _ _ => rfl) fun _ h => h
    · rintro l rest n p' hfl ⟨hnb, s', G', hfu, hle, hL, hs', hr2⟩
      have hl9 : l + 9 - 9 = l := by omega
      have hst : ∀ C, lkC X.cut ((l + 10) :: pth) = some C → StOK X (some ⟨d + 1, 0 :: (l + 10) :: pth, rest, y, labX X pth c κ⟩) C := fun C hC => by
        have := hcut [l + 10] C hC
        simp only [atc, hl9, hfl] at this
        exact this
      have hcr : CutsOK X (d + 1) (0 :: (l + 10) :: pth) rest y (labX X pth c κ) := hcut.child [l + 10, 0] rfl fun f => by
        simp only [List.cons_append, List.nil_append, atc, hl9, hfl]
      obtain ⟨n', s2, G2, e1, e2, e3, e4, e5⟩ := cut_ok (_d := d + 1) hr2 hs' hst
      have hlt : n' < N := by omega
      have hB' : ∀ k, B k → k < p'.m.nb := fun k hk => Nat.lt_of_lt_of_le (hB k hk) hnb
      have hy2 : YH X y Y G2.L (0 :: (l + 10) :: pth).length out := hy.mono (by simp only [List.length_cons]; omega) fun j hj => by rw [e3]; exact hL j hj
      refine ((ihN n' hlt (d + 1)) (0 :: (l + 10) :: pth) rest y _ s2 r (by omega) e5 hcr B G2 p' out Y hB' hy2 e4).withNb.mono fun e p2 hp2 => ?_
      obtain ⟨hp2, hnb2⟩ := hp2
      have hlen : pth.length ≤ (0 :: (l + 10) :: pth).length := by simp only [List.length_cons]; omega
      cases e with
      | goto l' =>
        obtain ⟨s3, G3, h1, h2, h3, h4⟩ := hp2
        simp only [labX] at h4
        split at h4
        · rename_i rest' hrest'
          exact ⟨by rw [hrest']; rfl, s3.fu, ⟨Nat.le_trans hnb hnb2, s3, G3, rfl, by omega, fun j hj => (h2 j (Nat.lt_of_lt_of_le hj hlen)).trans (by rw [e3]; exact hL j hj), h3, h4⟩, by simp only [id]; omega⟩
        · cases h4
      | _ => exact hp2.weak (by omega) hlen (fun j hj => by rw [e3]; exact hL j hj) fun _ h => h
  | rangeFunc g ps asg body iha ihb =>
    intro y κ s r hN hr hcut B G p out Y hB hy hs
    obtain ⟨f, fs, hfr, hfn, hre, hrf⟩ := hs.head
    have hr' : (match s.m.ys with
      | some _ => none
      | none => match s.fr with
        | [] => none
        | f :: _ => match xev X.T f.env g with
          | .clos h caps => bif nyS pth.length s then inlX X (ev X d) pth h (.yield pth.length :: caps) s (some ⟨pth.length, ps.toList, asg, body⟩) (endX κ) else none
          | _ => none) = some r := hr
    split at hr'
    · cases hr'
    · rename_i hys
      rw [hfr] at hr'
      simp only at hr'
      split at hr'
      · rename_i h caps hge
        cases hny : nyS pth.length s with
        | false => rw [hny] at hr'; cases hr'
        | true =>
          rw [hny, cond_true] at hr'
          have hg := xev_ok (T := X.T) hre g
          rw [hge] at hg
          simp only [RvX] at hg
          obtain ⟨cps, hgp, hcap⟩ := hg
          have hpys : p.m.ys = none := by rw [hs.2.ys, hys]
          refine pw_range hgp fun L => ?_
          have hsL := nys_rel (L := L) hny hs
          have hgL := xev_ok (T := X.T) (hsL.head.choose_spec.choose_spec.2.2.1) g
          have hcapL : RlX (G.setL pth.length L) (shB s.m.bx) s.m.nx p.m caps cps := by
            obtain ⟨f', fs', e1, e2, e3, e4⟩ := hsL.head
            rw [hfr] at e1; cases e1
            have := xev_ok (T := X.T) e3 g
            rw [hge, hgp] at this
            simp only [RvX] at this
            obtain ⟨ps', e5, e6⟩ := this
            cases e5; exact e6
          have hm0 : (⟨p.m.nb, p.m.bx, none⟩ : Mem) = p.m := by rw [← hpys]
          rw [hm0, rY_eq hpys]
          have hargs : RlX (G.setL pth.length L) (shB s.m.bx) s.m.nx p.m (.yield pth.length :: caps) (.yield L :: cps) := by
            simp only [RlX]
            exact ⟨_, _, rfl, by simp only [RvX, Gn.setL, if_true], hcapL⟩
          have hyh : YH X (some ⟨pth.length, ps.toList, asg, body⟩) (oneY L (upY (rY X.T X.P ⟨p.n, p.env, ⟨0, fun _ => .dead, none⟩⟩ ps.toList asg body))) (G.setL pth.length L).L (pth.length + 1) (⟨p.n, p.env⟩ :: out) :=
            ⟨Nat.lt_succ_self _, ⟨p.n, p.env⟩, out, rfl, by simp only [Gn.setL, if_true]⟩
          have hci : ∀ fn c, X.P.funcs[h]? = some fn → fn.body = some c → CutsOK X d (2 * h :: pth) c (some ⟨pth.length, ps.toList, asg, body⟩) (retX X fn.results.toList (endX κ)) := fun fn c h1 h2 =>
            hcut.child [2 * h] rfl fun f => by
              simp only [List.cons_append, List.nil_append, atc, (beq2h h).2.2, h1, h2]
          refine (inl_ok hT ihd hr' hN hci (aps := .yield L :: cps) hB hyh hsL.1 hargs hsL.2).mono ?_
          rintro pv m' ⟨v, xm', fr', fu', G', k1, k2, k3, k4, _, k6⟩
          cases fr' with
          | nil => cases k3
          | cons f2 fs2 =>
            obtain ⟨e, rr, j1, j2, j3, j4⟩ := k3
            cases j1
            have hLj : ∀ j, j < pth.length → G'.L j = G.L j := fun j hj => (k2 j (Nat.lt_succ_of_lt hj)).trans (by simp only [Gn.setL]; rw [if_neg (by omega)])
            have hfin : ∀ (e : Exit), κ e ⟨f2 :: fs2, ⟨xm'.bx, xm'.nx, none⟩, fu'⟩ = some r → PostX B s.fu pth.length G.L κ r out e ⟨p.n, p.env, ⟨m'.nb, m'.bx, p.m.ys⟩⟩ := by
              intro e hk
              have hx : GXt G' (shB xm'.bx) xm'.nx m' G' (shB xm'.bx) xm'.nx ⟨m'.nb, m'.bx, p.m.ys⟩ := GXt.same rfl
              exact ⟨⟨f2 :: fs2, ⟨xm'.bx, xm'.nx, none⟩, fu'⟩, G', k1, hLj, RelS.mk' (p := ⟨p.n, p.env, ⟨m'.nb, m'.bx, p.m.ys⟩⟩) j2 (j3.mono hx) (RfX.mono hx j4) (k4.same rfl hpys fun _ h => h), hk⟩
            have hys' := k4.ys
            unfold rend
            unfold endX at k6
            simp only at k6
            rw [hys']
            cases hyy : xm'.ys with
            | none =>
              rw [hyy] at k6
              have hxm : xm' = ⟨xm'.bx, xm'.nx, none⟩ := by rw [← hyy]
              rw [hxm] at k6
              exact hfin .normal k6
            | some c =>
              rw [hyy] at k6
              cases c with
              | ret => exact hfin .ret k6
              | exit id => exact hfin (.exit id) k6
              | goto l => exact hfin (.goto l) k6
              | _ => cases k6
      · cases hr'
end
end Go.Proofs.Ytcbhmedknbiffaa
