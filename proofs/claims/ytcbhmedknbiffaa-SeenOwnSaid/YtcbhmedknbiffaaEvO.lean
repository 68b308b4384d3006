/-
  The layer Ev: a region's operations, in the text's order.
-/
import Derived.Test.YtcbhmedknbiffaaEvN
namespace Go.Proofs.Ytcbhmedknbiffaa
open Go Go.RowKit
section
variable {R : Type} {X : Px R}
theorem SpecM.withNb {T : Tab} {P : Program} {Y : Nat → YS} {f args m Q} (h : SpecM T P Y f args m Q) : SpecM T P Y f args m (fun r m' => Q r m' ∧ m.nb ≤ m'.nb) :=
  ⟨h.1, fun cx g w us hy hm hd hl => (h.2 cx g w us hy hm hd hl).mono fun _ _ ⟨u, r, g', m', he, hr, ha, hQ⟩ => ⟨u, r, g', m', he, hr, ha, hQ, ha.2.2.1⟩⟩
theorem PW.withNb {T : Tab} {P : Program} {Y : Nat → YS} {c Q s} (h : PW T P Y c Q s) : PW T P Y c (fun e s' => Q e s' ∧ s.m.nb ≤ s'.m.nb) s :=
  fun r n cx lo ds g a w hr hy hf => wpIn_mono (h r n cx lo ds g a w hr hy hf) fun _e _a' _w' ⟨s', fx, ds', g', k1, k2, k3, k4, k5, k6, k7⟩ => ⟨s', fx, ds', g', k1, k2, k3, k4, k5, k6, k7, k4⟩
theorem GXt.same {G sh nx m m'} (h : m'.bx = m.bx) : GXt G sh nx m G sh nx m' := ⟨Nat.le_refl _, fun _ _ => rfl, fun _ _ => Iff.rfl, fun _ _ => .inr rfl, ⟨fun _ h => h, fun _ _ => by rw [h]⟩, rfl, rfl⟩
theorem XRM.same {G : Gn} {A A' : Nat → Prop} {xm : XM} {m m' : Mem} {ys : Option Code} (h : XRM G A xm m) (hb : m'.bx = m.bx) (hy : m'.ys = ys) (ha : ∀ k, A k → A' k) : XRM G A' ⟨xm.bx, xm.nx, ys⟩ m' :=
  ⟨fun k => by
    have hx : GXt G (shB xm.bx) xm.nx m G (shB xm.bx) xm.nx m' := .same hb
    by_cases hg : lkB xm.bx k = .gone
    · simp only; rw [hg]; trivial
    · have hk : k < xm.nx := by
        rcases Nat.lt_or_ge k xm.nx with h1 | h1
        · exact h1
        · exact absurd (h.lt k h1) hg
      exact BoxX.mono hx hk (fun _ => by rw [hb]) (h.box k), fun k ho => ha _ (h.al k ho), h.nh, h.inj, fun k hk => ha _ (h.ha k hk), hy, h.lt, fun b n hP => ⟨ha _ (h.pv b n hP).1, (h.pv b n hP).2.1, (h.pv b n hP).2.2.1, by rw [hb]; exact (h.pv b n hP).2.2.2⟩⟩
theorem inl_ok (hT : TOK X.T X.P) {d N : Nat} (hE : EOK X d N) {pth : List Nat} {h : Nat} {args : List XV} {s : XSt} {y : Option RI} {K : XV → XSt → Option R} {r : R} {Y : Nat → YS}
    (hr : inlX X (ev X d) pth h args s y K = some r) (hfu : s.fu ≤ N)
    (hcut : ∀ fn c, X.P.funcs[h]? = some fn → fn.body = some c → CutsOK X d (2 * h :: pth) c y (retX X fn.results.toList K))
    {B : Nat → Prop} {G : Gn} {m : Mem} {aps : List PV} {out : List PF} (hB : ∀ k, B k → k < m.nb) (hy : YH X y Y G.L (pth.length + 1) out)
    (hf : RfX G (shB s.m.bx) s.m.nx m s.fr out) (ha : RlX G (shB s.m.bx) s.m.nx m args aps) (hm : XRM G (fun k => k < m.nb ∧ ¬ B k) s.m m) :
    SpecM X.T X.P Y h aps m (fun pv m' => ∃ v xm' fr' fu' G', fu' ≤ s.fu ∧ (∀ j, j < pth.length + 1 → G'.L j = G.L j) ∧ RfX G' (shB xm'.bx) xm'.nx m' fr' out ∧ XRM G' (fun k => k < m'.nb ∧ ¬ B k) xm' m' ∧ RvX G' (shB xm'.bx) xm'.nx m' v pv ∧ K v ⟨fr', xm', fu'⟩ = some r) := by
  unfold inlX at hr
  split at hr
  · cases hr
  · rename_i fn hfn
    split at hr
    · cases hr
    · rename_i c hb
      cases hname : (fn.name == "runtime.NumGoroutine") with
      | true => rw [hname] at hr; cases hr
      | false =>
        rw [hname, cond_false] at hr
        refine specM_pw hT hfn hname hb ?_
        have hlen : args.length = aps.length := ha.length
        have hrel : RelS B G ⟨⟨args.length + (fn.ntmps - args.length), initX 0 args⟩ :: s.fr, s.m, s.fu⟩ ⟨aps.length + (fn.ntmps - aps.length), initEnv 0 aps, m⟩ out :=
          RelS.mk' (by rw [hlen]) (init_ok 0 ha) hf hm
        have := hE _ c y _ ⟨⟨args.length + (fn.ntmps - args.length), initX 0 args⟩ :: s.fr, s.m, s.fu⟩ r hfu hr (hcut fn c hfn hb) B G ⟨aps.length + (fn.ntmps - aps.length), initEnv 0 aps, m⟩ out Y hB hy hrel
        refine this.mono fun e p' hp => ?_
        obtain ⟨s', G', h1, h2, h3, h4⟩ := hp
        have fin : ∀ (fr : List Fr), s'.fr = fr → (match fr with
            | [] => none
            | f :: rr => match resXall X.T s' f.env fn.results.toList with
              | some vs => K (resXV vs) ⟨rr, s'.m, s'.fu⟩
              | none => none) = some r → retR X.T fn.results.toList (fun pv m' => ∃ v xm' fr' fu' G', fu' ≤ s.fu ∧ (∀ j, j < pth.length + 1 → G'.L j = G.L j) ∧ RfX G' (shB xm'.bx) xm'.nx m' fr' out ∧ XRM G' (fun k => k < m'.nb ∧ ¬ B k) xm' m' ∧ RvX G' (shB xm'.bx) xm'.nx m' v pv ∧ K v ⟨fr', xm', fu'⟩ = some r) p' := by
          intro fr hfr hk
          obtain ⟨f, fs, e1, e2, e3, e4⟩ := h3.head
          rw [e1] at hfr
          subst hfr
          simp only at hk
          split at hk
          · rename_i vs hvs
            obtain ⟨pvs, k1, k2⟩ := resAllX_ok h3.2 e3 _ hvs
            unfold retR
            rw [k1]
            exact ⟨resXV vs, s'.m, fs, s'.fu, G', h1, h2, e4, h3.2, resXV_ok k2, hk⟩
          · cases hk
        cases e with
        | normal => exact fin _ rfl h4
        | ret => exact fin _ rfl h4
        | _ => cases h4
def Bi (B : Nat → Prop) (nb0 len i : Nat) : Nat → Prop := fun k => B k ∨ (nb0 + i ≤ k ∧ k < nb0 + len)
theorem Bi.weak {B G nb0 len i s p out} (h : RelS (Bi B nb0 len i) G s p out) : RelS (Bi B nb0 len (i + 1)) G s p out :=
  ⟨h.1, h.2.more fun k hk => ⟨hk.1, fun hb => hk.2 (hb.imp id fun h => ⟨by omega, h.2⟩)⟩⟩
theorem nilX_ok {T : Tab} {G A xm m} {ρ : Operand → XV} {ρ' : Operand → PV} {op : Op} {ct cf : Bool} (h : XRM G A xm m) (hρ : ∀ x, RvX G (shB xm.bx) xm.nx m (ρ x) (ρ' x)) (hn : nilX T ρ xm.bx op = some (ct, cf)) :
    ∃ ok, nilCmp T ρ' op = some ok ∧ (ok true → ct = true) ∧ (ok false → cf = true) := by
  unfold nilX at hn
  split at hn
  · rename_i t x y yt
    have hx := hρ x
    have hy := hρ y
    split at hn
    · rename_i e hk hky
      rw [hky] at hy
      simp only [RvX] at hy
      split at hn
      · rename_i hkx
        cases hn
        rw [hkx] at hx
        simp only [RvX] at hx
        exact ⟨fun b => b = true, by simp only [nilCmp, hk, hx, hy], fun _ => rfl, fun h => h.symm ▸ rfl⟩
      · rename_i fr cs l hkx
        cases hn
        rw [hkx] at hx
        simp only [RvX] at hx
        obtain ⟨es, h1, h2⟩ := hx
        have hl : es = [] → l.isEmpty = true := fun e => by
          have := h2.1
          rw [e] at this
          rw [List.eq_nil_of_length_eq_zero this]; rfl
        rcases h1 with ⟨f, e1, _⟩ | ⟨e1, e2⟩ | ⟨k, i, n, es0, e1, _, _, hle, e2⟩
        · exact ⟨fun b => b = true → es = [], by simp only [nilCmp, hk, e1, hy], fun h => hl (h rfl), fun _ => rfl⟩
        · exact ⟨fun b => b = true, by simp only [nilCmp, hk, e1, hy], fun _ => hl e2, fun _ => rfl⟩
        · refine ⟨fun b => b = true → n = 0, by simp only [nilCmp, hk, e1, hy], fun h => hl ?_, fun _ => rfl⟩
          rw [e2, h rfl, List.take_zero]
      · rename_i k hkx
        split at hn
        · rename_i fr cs l hl
          cases hn
          rw [hkx] at hx
          obtain ⟨_, hor⟩ := h.row hl hx
          rcases hor with ⟨hu, e1, _⟩ | ⟨hu, e1, e2⟩
          · refine ⟨fun b => b = true → l.length = 0, by simp only [nilCmp, hk, e1, hy], fun h => ?_, fun _ => rfl⟩
            rw [List.eq_nil_of_length_eq_zero (h rfl)]; rfl
          · exact ⟨fun b => b = true, by simp only [nilCmp, hk, e2, hy], fun _ => by rw [e1]; rfl, fun _ => rfl⟩
        · cases hn
      · cases hn
    · cases hn
  · cases hn
theorem xop1_ok (hT : TOK X.T X.P) (hS : SFok X) {d N : Nat} (hE : EOK X d N) {y : Option RI} {pth : List Nat} {i : Nat} {o : Oper} {s : XSt} {Kx : XSt → Option R} {r : R} {f : Fr} {fs : List Fr} (hfr : s.fr = f :: fs)
    (hr : xop1 X (ev X d) y false (i :: pth) f.env o s Kx = some r) (hfu : s.fu ≤ N) (hdst : dstX f.n o.dst = true)
    (hcin : ∀ h fn c, X.P.funcs[h]? = some fn → fn.body = some c → CutsOK X d (2 * h :: i :: pth) c none (retX X fn.results.toList fun v s' => Kx (s'.put o.dst v)))
    (hcy : ∀ ri, y = some ri → CutsOK X d (1 :: i :: pth) ri.asg none (asgX (ev X d (3 :: i :: pth) ri.body none (roundX fun t s' => Kx (s'.put o.dst (.b t))))) ∧ CutsOK X d (3 :: i :: pth) ri.body none (roundX fun t s' => Kx (s'.put o.dst (.b t))))
    {B : Nat → Prop} {nb0 len : Nat} (hi : i < len) {G : Gn} {p : St} {out : List PF} {Y : Nat → YS} (hB : ∀ k, B k → k < nb0) (hnb : nb0 + len ≤ p.m.nb) (hy : YH X y Y G.L pth.length out) (hs : RelS (Bi B nb0 len i) G s p out)
    {F : St → Prop} (hF : ∀ s' p' G', Kx s' = some r → s'.fu ≤ s.fu → (∀ j, j < pth.length → G'.L j = G.L j) → RelS (Bi B nb0 len (i + 1)) G' s' p' out → nb0 + len ≤ p'.m.nb → F p') :
    pop1 X.T X.P Y F (nb0 + i) o p := by
  obtain ⟨f', fs', e1, hfn, hre, hrf⟩ := hs.head
  rw [hfr] at e1
  cases e1
  have hdst' : dstOK p.n o.dst = true := by rw [← hfn]; exact dst_ok hdst
  have hB' : ∀ k, Bi B nb0 len (i + 1) k → k < p.m.nb := fun k hk => by
    rcases hk with h | h
    · have := hB k h; omega
    · omega
  have hs1 := Bi.weak hs
  have hargs : ∀ l : List Operand, RlX G (shB s.m.bx) s.m.nx p.m (l.map (xev X.T f.env)) (l.map (peval X.T p.env)) := RlX.mapρ fun x => xev_ok hre x
  unfold xop1 at hr
  unfold pop1
  split at hr
  · rename_i g args ats hop
    rw [hop]
    simp only
    have hg := xev_ok (T := X.T) hre g
    unfold popC
    split at hr
    · rename_i h caps hge
      rw [hge] at hg
      simp only [RvX] at hg
      obtain ⟨cps, hgp, hcap⟩ := hg
      rw [hgp]
      refine ⟨hdst', ?_⟩
      have hal := (hargs args.toList).append hcap
      unfold callX at hr
      split at hr
      · rename_i S hSf
        split at hr
        · rename_i ls os hv
          obtain ⟨rs, hK, hsp⟩ := hS h S hSf ls _ r hr
          obtain ⟨v, xm', hc, hK⟩ := resX_ok hK
          refine (call_own (Y := Y) hsp hB' hs1.2 hal hv hc).withNb.mono fun pv m' hq => ?_
          obtain ⟨⟨G', k1, k2, k3⟩, knb⟩ := hq
          refine hF _ (p.put o.dst pv m') G' hK ?_ (fun j _ => by rw [k3.hl]) ?_ ?_
          · cases o.dst <;> simp only [XSt.put, hfr] <;> exact Nat.le_refl _
          · have := RelS.put (dst := o.dst) (fu := s.fu) hfn hre hrf k3 k1 k2
            rw [← hfr] at this; exact this
          · rw [st_put_m]; omega
        · cases hr
      · simp only [cond_false] at hr
        refine (inl_ok (Y := Y) hT hE hr hfu (fun fn c h1 h2 => hcin h fn c h1 h2) hB' (y := none) trivial hs1.1 hal hs1.2).withNb.mono fun pv m' hq => ?_
        obtain ⟨⟨v, xm', fr', fu', G', k1, k2, k3, k4, k5, k6⟩, knb⟩ := hq
        cases fr' with
        | nil => cases k3
        | cons f2 fs2 =>
          obtain ⟨e, rr, j1, j2, j3, j4⟩ := k3
          cases j1
          refine hF _ (p.put o.dst pv m') G' k6 ?_ (fun j hj => k2 j (by simp only [List.length_cons]; omega)) ?_ ?_
          · cases o.dst <;> exact k1
          · exact RelS.put (p := ⟨p.n, p.env, m'⟩) (dst := o.dst) (fu := fu') (f := f2) (fs := fs2) (xm := xm') j2 j3 j4 (GXt.refl _ _ _ _) k4 k5
          · rw [st_put_m]; omega
    · rename_i d' hge
      rw [hge] at hg
      simp only [RvX] at hg
      rw [hg]
      refine ⟨hdst', ?_⟩
      simp only [cond_false] at hr
      unfold yldX at hr
      split at hr
      · cases hr
      · rename_i ri
        split at hr
        · cases hr
        · rename_i hys
          rw [hfr] at hr
          split at hr
          · rename_i it c rest hfs
            cases hcond : (Nat.beq d' ri.d && Nat.beq (List.map (xev X.T f.env) args.toList).length ri.ps.length && ri.ps.all (fun p => Nat.blt p c.n)) with
            | false => rw [hcond] at hr; cases hr
            | true =>
              rw [hcond, cond_true] at hr
              cases hfs
              have c1 := Nat.eq_of_beq_eq_true (and_l (and_l hcond))
              have c2 := Nat.eq_of_beq_eq_true (and_r (and_l hcond))
              have c3 := and_r hcond
              obtain ⟨hd, cP, restP, hout, hY⟩ := hy
              subst hout
              obtain ⟨e, rr, j1, j2, j3, j4⟩ := hrf
              cases j1
              have hal := hargs args.toList
              have hpys : p.m.ys = none := by rw [hs.2.ys, hys]
              rw [hY, c1]
              refine ⟨rfl, _, ?_, fun _ _ h => h⟩
              refine ⟨hpys, ?_, ?_, ?_⟩
              · rw [← hal.length]; exact c2
              · rw [List.all_eq_true] at c3 ⊢
                intro q hq
                have := c3 q hq
                rw [← j2]; simpa [Nat.blt_eq] using this
              · obtain ⟨hcA, hcB⟩ := hcy ri rfl
                have hm0 : (⟨p.m.nb, p.m.bx, none⟩ : Mem) = p.m := by rw [← hpys]
                rw [hm0]
                have hrel : RelS (Bi B nb0 len (i + 1)) G ⟨⟨c.n, bindX ri.ps (args.toList.map (xev X.T f.env)) c.env⟩ :: f :: c :: rest, s.m, s.fu⟩ ⟨cP.n, bind ri.ps (args.toList.map (peval X.T p.env)) cP.env, p.m⟩ (⟨p.n, p.env⟩ :: cP :: restP) :=
                  RelS.mk' j2 (bind_ok ri.ps hal j3) ⟨_, _, rfl, hfn, hre, _, _, rfl, j2, j3, j4⟩ hs1.2
                refine (hE (1 :: i :: pth) ri.asg none _ ⟨⟨c.n, bindX ri.ps (args.toList.map (xev X.T f.env)) c.env⟩ :: f :: c :: rest, s.m, s.fu⟩ r hfu hr hcA _ G ⟨cP.n, bind ri.ps (args.toList.map (peval X.T p.env)) cP.env, p.m⟩ _ noY hB' trivial hrel).withNb.mono fun ex p1 hp1 => ?_
                obtain ⟨⟨s1, G1, a1, a2, a3, a4⟩, anb⟩ := hp1
                cases ex with
                | normal =>
                  have hB1 : ∀ k, Bi B nb0 len (i + 1) k → k < p1.m.nb := fun k hk => Nat.lt_of_lt_of_le (hB' k hk) anb
                  refine (hE (3 :: i :: pth) ri.body none _ s1 r (Nat.le_trans a1 hfu) a4 hcB _ G1 p1 _ noY hB1 trivial a3).withNb.mono fun ex2 p2 hp2 => ?_
                  obtain ⟨⟨s2, G2', b1, b2, b3, b4⟩, bnb⟩ := hp2
                  have fin : ∀ ys : Option Code, popX ys (fun t s' => Kx (s'.put o.dst (.b t))) s2 = some r → kyl F p o.dst ys ⟨p2.m.nb, p2.m.bx, ys⟩ := by
                    intro ys hk
                    obtain ⟨b3f, b3m⟩ := b3
                    unfold popX at hk
                    split at hk
                    · cases hk
                    · rename_i f0 r0 e0
                      rw [e0] at b3f
                      obtain ⟨e, rr, i1, i2, i3, i4⟩ := b3f
                      cases i1
                      cases r0 with
                      | nil => cases i4
                      | cons f3 r3 =>
                        obtain ⟨e, rr, l1, l2, l3, l4⟩ := i4
                        cases l1
                        unfold kyl
                        refine hF _ _ G2' hk ?_ (fun j hj => ?_) ?_ ?_
                        · cases o.dst <;> exact Nat.le_trans b1 a1
                        · have h1 := b2 j (by simp only [List.length_cons]; omega)
                          have h2 := a2 j (by simp only [List.length_cons]; omega)
                          exact h1.trans h2
                        · have hx : GXt G2' (shB s2.m.bx) s2.m.nx p2.m G2' (shB s2.m.bx) s2.m.nx ⟨p2.m.nb, p2.m.bx, ys⟩ := GXt.same rfl
                          exact RelS.put (p := ⟨p.n, p.env, p2.m⟩) (dst := o.dst) (f := f3) (fs := r3) (xm := s2.m) l2 l3 l4 hx (b3m.same rfl rfl fun _ h => h) (by simp only [RvX])
                        · rw [st_put_m]; show nb0 + len ≤ p2.m.nb; have : p.m.nb ≤ p1.m.nb := anb; omega
                  cases ex2 with
                  | normal => exact fin none b4
                  | ret => exact fin (some .ret) b4
                  | exit id => exact fin (some (.exit id)) b4
                  | goto l => exact fin (some (.goto l)) b4
                  | panic ch => cases b4
                  | outgrown => cases b4
                | _ => cases a4
          · cases hr
    · cases hr
  · rename_i hnc
    split at hr
    · rename_i side v m' hop
      cases hsd : side with
      | false => rw [hsd] at hr; cases hr
      | true =>
        rw [hsd] at hr hop
        simp only [cond_true, Bool.false_and, cond_false] at hr
        have hn : ¬ (p.m.nb > nb0 + i ∧ ¬ Bi B nb0 len i (nb0 + i)) := fun h => h.2 (.inr ⟨Nat.le_refl _, by omega⟩)
        obtain ⟨G', sideP, pv, ws, k1, k2, k3, k4, k5, k6⟩ := xop_ok hs.2 (fun x => xev_ok hre x) hn hop rfl
        have hpe : popE X.T F (nb0 + i) o p := by
          unfold popE
          rw [k1]
          refine ⟨k2, hdst', hF _ _ G' hr ?_ (fun j _ => by rw [k5.hl]) ?_ ?_⟩
          · cases o.dst <;> simp only [XSt.put, hfr] <;> exact Nat.le_refl _
          · have hm2 : XRM G' (fun k => k < (⟨p.m.nb, setBs p.m.bx ws, p.m.ys⟩ : Mem).nb ∧ ¬ Bi B nb0 len (i + 1) k) m' ⟨p.m.nb, setBs p.m.bx ws, p.m.ys⟩ := by
              refine k3.more fun k hk => ?_
              rcases hk with ⟨h1, h2⟩ | rfl
              · exact ⟨h1, fun hb => h2 (hb.imp id fun h => ⟨by omega, h.2⟩)⟩
              · refine ⟨by show nb0 + i < p.m.nb; omega, ?_⟩
                rintro (h | h)
                · have := hB _ h; omega
                · omega
            have := RelS.put (dst := o.dst) (fu := s.fu) hfn hre hrf k5 hm2 k4
            rw [← hfr] at this; exact this
          · rw [st_put_m]; exact hnb
        split
        · rename_i g args ats hop2; exact (hnc g args ats hop2).elim
        · exact hpe
    · rw [cond_false] at hr
      split at hr
      · rename_i ct cf hnx
        obtain ⟨ok, n1, n2, n3⟩ := nilX_ok hs.2 (fun x => xev_ok hre x) hnx
        have both : ∀ b, ok b → Kx (s.put o.dst (.b b)) = some r := by
          intro b hb
          cases cf with
          | true =>
            rw [cond_true] at hr
            cases ct with
            | true =>
              rw [cond_true] at hr
              obtain ⟨a1, a2⟩ := X.alt_ok _ _ _ hr
              cases b
              · exact a2
              · exact a1
            | false =>
              rw [cond_false] at hr
              cases b
              · exact hr
              · exact absurd (n2 hb) (by simp)
          | false =>
            rw [cond_false] at hr
            cases b
            · exact absurd (n3 hb) (by simp)
            · exact hr
        have hpe : popE X.T F (nb0 + i) o p := by
          unfold popE
          rw [nilCmp_popv n1]
          simp only [n1]
          refine ⟨hdst', fun b hb => hF _ _ G (both b hb) ?_ (fun _ _ => rfl) ?_ ?_⟩
          · cases o.dst <;> simp only [XSt.put, hfr] <;> exact Nat.le_refl _
          · have := RelS.put (dst := o.dst) (fu := s.fu) (v := .b b) (pv := .v (.bool b)) hfn hre hrf (GXt.refl _ _ _ _) hs1.2 (by simp only [RvX])
            rw [← hfr] at this; exact this
          · rw [st_put_m]; exact hnb
        split
        · rename_i g args ats hop2; exact (hnc g args ats hop2).elim
        · exact hpe
      · cases hr
end
end Go.Proofs.Ytcbhmedknbiffaa
