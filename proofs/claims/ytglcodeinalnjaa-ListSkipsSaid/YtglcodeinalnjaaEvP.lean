/-
  The layer Ev: regions.
-/
import Derived.Test.YtglcodeinalnjaaEvO
namespace Go.Proofs.Ytglcodeinalnjaa
open Go Go.RowKit

theorem pure1_ws {x : Option (Prop × PV)} {a b ws} (h : pure1 x = some (a, b, ws)) : ws = [] := by
  unfold pure1 at h
  obtain ⟨y, _, e⟩ := Option.map_eq_some_iff.1 h
  cases e; rfl
theorem pure2_ws {x : Option PV} {a b ws} (h : pure2 x = some (a, b, ws)) : ws = [] := by
  unfold pure2 at h
  obtain ⟨y, _, e⟩ := Option.map_eq_some_iff.1 h
  cases e; rfl

theorem quiet_ws {T : Tab} {ρ : Operand → PV} {bx : Nat → Box} {nm : Nat} {op : Op} {a b ws} (hq : quietOp op = true) (h : popv T ρ bx nm op = some (a, b, ws)) : ws = [] := by
  cases op with
  | move x => simp only [popv, Option.some.injEq, Prod.mk.injEq] at h; exact h.2.2.symm
  | assign x => simp only [popv, Option.some.injEq, Prod.mk.injEq] at h; exact h.2.2.symm
  | pick c x y => simp only [popv] at h; split at h <;> cases h; rfl
  | load t x => simp only [popv] at h; split at h; exact pure2_ws h; cases h
  | binOp op t x y t' => simp only [popv] at h; split at h; exact pure1_ws h; (split at h; exact pure1_ws h; cases h); exact pure1_ws h
  | unOp op t x => simp only [popv] at h; exact pure2_ws h
  | nilCheck x => simp only [popv] at h; split at h <;> cases h <;> rfl
  | convert s t x => simp only [popv] at h; split at h <;> cases h; rfl
  | slice t x lo hi mx => simp only [popv] at h; split at h; cases h; exact pure1_ws h
  | fieldAddr t x f => simp only [popv] at h; split at h; (split at h <;> cases h <;> rfl); cases h
  | field t x f => simp only [popv] at h; split at h; (split at h; exact pure2_ws h; cases h); cases h
  | indexAddr t x ix => simp only [popv] at h; split at h; exact pure1_ws h; cases h
  | index t x ix =>
    simp only [popv] at h
    split at h
    · obtain ⟨y, _, e⟩ := Option.map_eq_some_iff.1 h; cases e; rfl
    · cases h; rfl
    · cases h
  | extract x i => simp only [popv] at h; split at h; exact pure2_ws h; cases h
  | build t ps => simp only [popv] at h; split at h; cases h; exact pure2_ws h
  | call c =>
    simp only [quietOp] at hq
    simp only [popv] at h
    split at hq
    · rename_i hc
      rw [hc] at h
      simp only at h
      split at h
      · split at h
        · split at h
          · cases h; rfl
          · cases h
        · cases h; rfl
        · cases h; rfl
        · cases h
      · cases h
    · rename_i hc
      rw [hc] at h
      simp only at h
      split at h
      · split at h
        · cases h; rfl
        · cases h
      · cases h
    · rename_i hc
      rw [hc] at h
      simp only at h
      split at h
      · split at h
        · cases h; rfl
        · cases h
      · cases h
    · cases hq
  | _ => cases hq

theorem quiet_xm {T : Tab} {ρ : Operand → XV} {m m' : XM} {op : Op} {a b} (hq : quietOp op = true) (h : xop T ρ m op = some (a, b, m')) : m' = m := by
  cases op with
  | move x => simp only [xop, Option.some.injEq, Prod.mk.injEq] at h; exact h.2.2.symm
  | assign x => simp only [xop, Option.some.injEq, Prod.mk.injEq] at h; exact h.2.2.symm
  | pick c x y => simp only [xop] at h; split at h <;> cases h; rfl
  | load t x => simp only [xop] at h; exact (px_some h).2
  | binOp op t x y t' => simp only [xop] at h; exact (px_some h).2
  | unOp op t x => simp only [xop] at h; exact (py_some h).2.2
  | nilCheck x => simp only [xop] at h; split at h <;> cases h <;> rfl
  | convert s t x => simp only [xop] at h; split at h <;> cases h; rfl
  | slice t x lo hi mx => simp only [xop] at h; split at h; cases h; exact (px_some h).2
  | fieldAddr t x f => simp only [xop] at h; split at h; (split at h <;> cases h <;> rfl); cases h
  | field t x f => simp only [xop] at h; split at h; (split at h; exact (py_some h).2.2; cases h); cases h
  | indexAddr t x ix => simp only [xop] at h; split at h; exact (px_some h).2; cases h
  | index t x ix =>
    simp only [xop] at h
    split at h
    · rename_i n e xs _ _ _
      cases hc : (Nat.beq (T.at e).sz 1 && !(T.at e).kind.isAgg && Nat.ble n xs.length) with
      | false => rw [hc] at h; cases h
      | true =>
        rw [hc, cond_true] at h
        split at h
        · cases h; rfl
        · cases h
    · cases h; rfl
    · cases h
  | extract x i => simp only [xop] at h; split at h; exact (py_some h).2.2; cases h
  | build t ps =>
    simp only [xop] at h
    cases hc : (T.at t).kind.isAgg with
    | false => rw [hc] at h; cases h
    | true =>
      rw [hc, cond_true] at h
      split at h
      · cases h; rfl
      · cases h
  | call c =>
    simp only [quietOp] at hq
    simp only [xop] at h
    split at hq
    · rename_i hc
      rw [hc] at h
      simp only at h
      split at h
      · split at h
        · cases h; rfl
        · cases h
      · cases h
    · rename_i hc
      rw [hc] at h
      simp only at h
      split at h
      · split at h
        · cases h; rfl
        · cases h
      · cases h
    · rename_i hc
      rw [hc] at h
      simp only at h
      split at h
      · split at h
        · cases h; rfl
        · cases h
      · cases h
    · cases hq
  | _ => cases hq

section
variable {R : Type} {X : Px R}

theorem beq2h (h : Nat) : Nat.beq (2 * h) 1 = false ∧ Nat.beq (2 * h) 3 = false ∧ 2 * h / 2 = h := by
  refine ⟨?_, ?_, by omega⟩
  · rw [nbeq, beq_eq_false_iff_ne]; omega
  · rw [nbeq, beq_eq_false_iff_ne]; omega

/-- A region's operations in the text's order. -/
theorem xops_ok (hT : TOK X.T X.P) (hS : SFok X) {d N : Nat} (hE : EOK X d N) {y : Option RI} {pth : List Nat} {id : Nat} {ops : Array Oper} {κ : EK R} {nb0 : Nat} {B : Nat → Prop} (hB : ∀ k, B k → k < nb0) {r : R}
    (hcut : CutsOK X (d + 1) pth (.region id ops false) y κ) {out : List PF} {Y : Nat → YS} {fu0 : Nat} {L0 : Nat → Nat} :
    ∀ (l : List Oper) (i : Nat) (s : XSt) (p : St) (G : Gn), ops.toList.drop i = l → xops X (ev X d) y false pth ops.toList (κ .normal) i l s = some r → s.fu ≤ N → s.fu ≤ fu0 → (∀ j, j < pth.length → G.L j = L0 j) → YH X y Y G.L pth.length out →
      RelS (Bi B nb0 ops.toList.length i) G s p out → nb0 + ops.toList.length ≤ p.m.nb → pops X.T X.P Y ops.toList nb0 (PostX B fu0 pth.length L0 κ r out .normal) i l p
  | [], i, s, p, G, hl, hr, hN, hfu, hL, hy, hs, hnb => by
    refine ⟨s, G, hfu, hL, ⟨hs.1, hs.2.more fun k hk => ⟨hk.1, fun hb => hk.2 (.inl hb)⟩⟩, hr⟩
  | o :: l, i, s, p, G, hl, hr, hN, hfu, hL, hy, hs, hnb => by
    obtain ⟨f, fs, hfr, hfn, hre, hrf⟩ := hs.head
    have hoi : ops.toList[i]? = some o := by
      have := congrArg (fun l => l[0]?) hl
      simpa using this
    have hi : i < ops.toList.length := (List.getElem?_eq_some_iff.1 hoi).1
    have hl' : ops.toList.drop (i + 1) = l := by
      rw [← List.drop_drop, hl]; rfl
    have hcin : ∀ h fn c, X.P.funcs[h]? = some fn → fn.body = some c → CutsOK X d (2 * h :: i :: pth) c none (retX X fn.results.toList fun v s' => xops X (ev X d) y false pth ops.toList (κ .normal) (i + 1) l (s'.put o.dst v)) := by
      intro h fn c h1 h2
      refine hcut.child [i, 2 * h] rfl fun f => ?_
      obtain ⟨b1, b2, b3⟩ := beq2h h
      simp only [List.cons_append, List.nil_append, atc, hoi, b1, b2, b3, cond_false, h1, h2, hl']
    have hcy : ∀ ri, y = some ri → CutsOK X d (1 :: i :: pth) ri.asg none (asgX (ev X d (3 :: i :: pth) ri.body none (roundX fun t s' => xops X (ev X d) y false pth ops.toList (κ .normal) (i + 1) l (s'.put o.dst (.b t))))) ∧
        CutsOK X d (3 :: i :: pth) ri.body none (roundX fun t s' => xops X (ev X d) y false pth ops.toList (κ .normal) (i + 1) l (s'.put o.dst (.b t))) := by
      rintro ri rfl
      have b0 : Nat.beq 3 1 = false := rfl
      have b1 : Nat.beq 1 1 = true := rfl
      have b2 : Nat.beq 3 3 = true := rfl
      exact ⟨hcut.child [i, 1] rfl fun f => by simp only [List.cons_append, List.nil_append, atc, hoi, b1, cond_true, hl'],
        hcut.child [i, 3] rfl fun f => by simp only [List.cons_append, List.nil_append, atc, hoi, b0, b2, cond_false, cond_true, hl']⟩
    simp only [xops, hfr] at hr
    cases hdst : dstX f.n o.dst with
    | false => rw [hdst] at hr; cases hr
    | true =>
      rw [hdst, cond_true] at hr
      have run : ∀ (f2 : Fr) (s2 : XSt), s2.fr = f2 :: fs → s2.fu = s.fu → f2.n = f.n → RelS (Bi B nb0 ops.toList.length i) G s2 p out → xop1 X (ev X d) y false (i :: pth) f2.env o s2 (xops X (ev X d) y false pth ops.toList (κ .normal) (i + 1) l) = some r →
          pop1 X.T X.P Y (pops X.T X.P Y ops.toList nb0 (PostX B fu0 pth.length L0 κ r out .normal) (i + 1) l) (nb0 + i) o p := by
        intro f2 s2 hf2 hfu2 hn2 hs2 hr2
        refine xop1_ok hT hS hE hf2 hr2 (by rw [hfu2]; exact hN) (by rw [hn2]; exact hdst) hcin hcy hi hB hnb hy hs2 fun s' p' G' k1 k2 k3 k4 k5 => ?_
        exact xops_ok hT hS hE hB hcut l (i + 1) s' p' G' hl' k1 (Nat.le_trans k2 (by rw [hfu2]; exact hN)) (Nat.le_trans k2 (by rw [hfu2]; exact hfu)) (fun j hj => (k3 j hj).trans (hL j hj)) (hy.mono (Nat.le_refl _) k3) k4 k5
      have skip : ∀ (f2 : Fr) (s2 : XSt), s2.fr = f2 :: fs → s2.fu = s.fu → f2.n = f.n → RelS (Bi B nb0 ops.toList.length i) G s2 p out → xops X (ev X d) y false pth ops.toList (κ .normal) (i + 1) l (s2.put o.dst .skip) = some r →
          dstOK p.n o.dst = true ∧ pops X.T X.P Y ops.toList nb0 (PostX B fu0 pth.length L0 κ r out .normal) (i + 1) l (p.put o.dst (.v (.tuple #[])) p.m) := by
        intro f2 s2 hf2 hfu2 hn2 hs2 hr2
        refine ⟨by rw [← hfn]; exact dst_ok hdst, ?_⟩
        have hs3 := Bi.weak hs2
        obtain ⟨f3, fs3, e1, e2, e3, e4⟩ := hs3.head
        rw [hf2] at e1; cases e1
        have hput := RelS.put (dst := o.dst) (fu := s2.fu) (v := .skip) (pv := .v (.tuple #[])) e2 e3 e4 (GXt.refl _ _ _ _) hs3.2 (by simp only [RvX])
        rw [← hf2] at hput
        have hfu3 : (s2.put o.dst .skip).fu = s.fu := by rw [← hfu2]; cases o.dst <;> simp only [XSt.put, hf2]
        exact xops_ok hT hS hE hB hcut l (i + 1) _ _ G hl' hr2 (by rw [hfu3]; exact hN) (by rw [hfu3]; exact hfu) hL hy hput (by rw [st_put_m]; exact hnb)
      have lit : ∀ (d' : Nat) (t : Bool), lk p.env d' = .v (.bool t) → RelS (Bi B nb0 ops.toList.length i) G (s.put (some d') (.b t)) p out ∧ (s.put (some d') (.b t)).fr = ⟨f.n, (d', .b t) :: f.env⟩ :: fs ∧ (s.put (some d') (.b t)).fu = s.fu := by
        intro d' t ht
        have e1 : s.put (some d') (.b t) = ⟨⟨f.n, (d', .b t) :: f.env⟩ :: fs, s.m, s.fu⟩ := by simp only [XSt.put, hfr]
        rw [e1]
        exact ⟨RelS.mk' hfn (hre.consX d' (by simp only [RvX]; exact ht)) hrf hs.2, rfl, rfl⟩
      simp only [pops]
      cases hg : o.guard with
      | none =>
        rw [hg] at hr
        simp only [cond_false] at hr
        exact run f s hfr rfl rfl hs hr
      | some jw =>
        obtain ⟨j, want⟩ := jw
        rw [hg] at hr
        simp only at hr
        split at hr
        · cases hr
        · rename_i d' hd'
          simp only [gval, hd']
          have hk := hre d'
          split at hr
          · rename_i hx
            rw [hx] at hk
            simp only [RvX] at hk
            rw [hk]
            exact skip f s hfr rfl rfl hs hr
          · rename_i t hx
            rw [hx] at hk
            simp only [RvX] at hk
            rw [hk]
            simp only
            obtain ⟨l1, l2, l3⟩ := lit d' t hk
            cases want with
            | true =>
              simp only at hr
              cases t with
              | true => simp only [cond_true, cond_false] at hr; rw [if_pos rfl]; exact run _ _ l2 l3 rfl l1 hr
              | false => simp only [cond_false] at hr; rw [if_neg (by simp)]; exact skip _ _ l2 l3 rfl l1 hr
            | false =>
              simp only at hr
              cases t with
              | true => simp only [cond_true] at hr; rw [if_neg (by simp)]; exact skip _ _ l2 l3 rfl l1 hr
              | false => simp only [cond_false] at hr; rw [if_pos rfl]; exact run _ _ l2 l3 rfl l1 hr
          · cases hr

theorem keep_ok {G sh nx m xe e} (h : ReX G sh nx m xe e) (l : List Nat) : ReX G sh nx m (keepX xe l) (keepEnv e l) := by
  induction l with
  | nil => intro k; simp only [keepX, lkX, RvX]
  | cons j l ih =>
    intro k
    simp only [keepX, keepEnv, lkX, lk, nbeq]
    by_cases e' : j = k
    · subst e'; simp only [beq_self_eq_true, cond_true]; exact h j
    · have : (j == k) = false := by simpa using e'
      rw [this]; exact ih k

theorem lk_keep {e : List (Nat × PV)} {l : List Nat} {k : Nat} (h : k ∈ l) : lk (keepEnv e l) k = lk e k := by
  induction l with
  | nil => simp at h
  | cons j l ih =>
    simp only [keepEnv, lk]
    by_cases e' : j = k
    · subst e'; simp
    · have h1 : (j == k) = false := by simpa using e'
      rw [h1, cond_false]
      exact ih ((List.mem_cons.1 h).resolve_left (fun x => e' x.symm))

def qPost (B : Nat → Prop) (fu : Nat) (L : Nat → Nat) (K : XSt → Option R) (r : R) (out : List PF) (n : Nat) (m : Mem) : List (Nat × PV) → Prop :=
  fun env => ∃ s' G', s'.fu ≤ fu ∧ G'.L = L ∧ RelS B G' s' ⟨n, env, m⟩ out ∧ K s' = some r

/-- A region that draws its order. -/
theorem xqops_ok (hS : SFok X) {e : Ev R} {y : Option RI} {pth : List Nat} {all : List Oper} {K : XSt → Option R} {nb0 : Nat} {B : Nat → Prop} (hB : ∀ k, B k → k < nb0) {r : R} {out : List PF} {Y : Nat → YS} {fu0 : Nat} {L0 : Nat → Nat} {n : Nat} {m : Mem}
    (hnb : nb0 + all.length ≤ m.nb) :
    ∀ (l : List Oper) (i : Nat) (s : XSt) (env : List (Nat × PV)) (G : Gn), all.drop i = l → xops X e y true pth all K i l s = some r → s.fu ≤ fu0 → G.L = L0 → RelS (Bi B nb0 all.length i) G s ⟨n, env, m⟩ out →
      qops X.T X.P Y all n m nb0 (qPost B fu0 L0 K r out n m) i l env
  | [], i, s, env, G, hl, hr, hfu, hL, hs => ⟨s, G, hfu, hL, ⟨hs.1, hs.2.more fun k hk => ⟨hk.1, fun hb => hk.2 (.inl hb)⟩⟩, hr⟩
  | o :: l, i, s, env, G, hl, hr, hfu, hL, hs => by
    obtain ⟨f, fs, hfr, hfn, hre, hrf⟩ := hs.head
    have hoi : all[i]? = some o := by
      have := congrArg (fun l => l[0]?) hl
      simpa using this
    have hi : i < all.length := (List.getElem?_eq_some_iff.1 hoi).1
    have hl' : all.drop (i + 1) = l := by
      rw [← List.drop_drop, hl]; rfl
    simp only [xops, hfr] at hr
    cases hdst : dstX f.n o.dst with
    | false => rw [hdst] at hr; cases hr
    | true =>
      rw [hdst, cond_true] at hr
      have hdst' : dstOK n o.dst = true := by rw [← show f.n = n from hfn]; exact dst_ok hdst
      have next : ∀ (f2 : Fr) (s2 : XSt) (G2 : Gn) (v : XV) (pv : PV), s2.fr = f2 :: fs → s2.fu ≤ fu0 → G2.L = L0 → RelS (Bi B nb0 all.length (i + 1)) G2 s2 ⟨n, env, m⟩ out → RvX G2 (shB s2.m.bx) s2.m.nx m v pv → xops X e y true pth all K (i + 1) l (s2.put o.dst v) = some r →
          qops X.T X.P Y all n m nb0 (qPost B fu0 L0 K r out n m) (i + 1) l (eput env o.dst pv) := by
        intro f2 s2 G2 v pv hf2 hfu2 hL2 hs2 hv hr2
        obtain ⟨f3, fs3, e1, e2, e3, e4⟩ := hs2.head
        rw [hf2] at e1; cases e1
        have hput := RelS.put (dst := o.dst) (fu := s2.fu) (v := v) (pv := pv) e2 e3 e4 (GXt.refl _ _ _ _) hs2.2 hv
        rw [← hf2] at hput
        have hfu3 : (s2.put o.dst v).fu ≤ fu0 := by cases o.dst <;> simp only [XSt.put, hf2] <;> exact hfu2
        have hp : St.put ⟨n, env, m⟩ o.dst pv m = ⟨n, eput env o.dst pv, m⟩ := by cases o.dst <;> rfl
        rw [hp] at hput
        exact xqops_ok hS hB hnb l (i + 1) _ _ G2 hl' hr2 hfu3 hL2 hput
      have run : ∀ (f2 : Fr) (s2 : XSt), s2.fr = f2 :: fs → s2.fu = s.fu → RelS (Bi B nb0 all.length i) G s2 ⟨n, env, m⟩ out → xop1 X e y true (i :: pth) (keepX f2.env (opTmps o.op ++ glook all o)) o s2 (xops X e y true pth all K (i + 1) l) = some r →
          qop1 X.T X.P Y m (nb0 + i) o (qenv all env o) (qnx (qops X.T X.P Y all n m nb0 (qPost B fu0 L0 K r out n m) (i + 1) l) env o.dst) := by
        intro f2 s2 hf2 hfu2 hs2 hr2
        obtain ⟨f3, fs3, e1, e2, e3, e4⟩ := hs2.head
        rw [hf2] at e1; cases e1
        have hkeep : ReX G (shB s2.m.bx) s2.m.nx m (keepX f2.env (opTmps o.op ++ glook all o)) (qenv all env o) := keep_ok e3 _
        unfold xop1 at hr2
        unfold qop1
        split at hr2
        · rename_i g args ats hop
          rw [hop]
          simp only
          have hg := xev_ok (T := X.T) hkeep g
          rw [hop] at hg
          split at hr2
          · rename_i h caps hge
            rw [hop] at hge
            rw [hge] at hg
            simp only [RvX] at hg
            obtain ⟨cps, hgp, hcap⟩ := hg
            rw [hgp]
            simp only
            have hal := (RlX.mapρ (fun x => xev_ok (T := X.T) hkeep x) args.toList).append hcap
            rw [hop] at hal
            unfold callX at hr2
            split at hr2
            · rename_i S hSf
              split at hr2
              · rename_i ls hv
                obtain ⟨rs, hK, hsp⟩ := hS h S hSf ls _ r hr2
                split at hK
                · rename_i v xm' hc
                  rw [hop] at hv
                  obtain ⟨rfl, pv, k1, k2⟩ := call_ice (Y := Y) hsp hs2.2 hal hv hc
                  refine ⟨pv, k1, ?_⟩
                  exact next f2 ⟨s2.fr, s2.m, s2.fu⟩ G v pv hf2 (by rw [hfu2]; exact hfu) hL (Bi.weak hs2) k2 hK
                · cases hK
              · cases hr2
            · cases hr2
          · cases hr2
          · cases hr2
        · rename_i hnc
          split at hr2
          · rename_i side v m' hop
            cases hsd : side with
            | false => rw [hsd] at hr2; cases hr2
            | true =>
              rw [hsd] at hr2 hop
              rw [cond_true] at hr2
              cases hq : quietOp o.op with
              | false => rw [hq] at hr2; cases hr2
              | true =>
                rw [hq] at hr2
                simp only [Bool.not_true, Bool.and_false, cond_false] at hr2
                have hxm := quiet_xm hq hop
                subst hxm
                have hn : ¬ (m.nb > nb0 + i ∧ ¬ Bi B nb0 all.length i (nb0 + i)) := fun h => h.2 (.inr ⟨Nat.le_refl _, by omega⟩)
                obtain ⟨G', sideP, pv, ws, k1, k2, k3, k4, k5⟩ := xop_ok hs2.2 (fun x => xev_ok (T := X.T) hkeep x) hn hop rfl
                have hws := quiet_ws hq k1
                subst hws
                have hm2 : XRM G' (fun k => k < m.nb ∧ ¬ Bi B nb0 all.length (i + 1) k) s2.m m := by
                  refine k3.more fun k hk => ?_
                  rcases hk with ⟨h1, h2⟩ | rfl
                  · exact ⟨h1, fun hb => h2 (hb.imp id fun h => ⟨by omega, h.2⟩)⟩
                  · refine ⟨by omega, ?_⟩
                    rintro (h | h)
                    · have := hB _ h; omega
                    · omega
                have hs3 : RelS (Bi B nb0 all.length (i + 1)) G' s2 ⟨n, env, m⟩ out := ⟨RfX.mono k5 hs2.1, hm2⟩
                split
                · rename_i g args ats hop2; exact (hnc g args ats hop2).elim
                · rw [k1]
                  exact ⟨k2, next f2 ⟨s2.fr, s2.m, s2.fu⟩ G' v pv hf2 (by rw [hfu2]; exact hfu) (by rw [k5.hl]; exact hL) hs3 k4 hr2⟩
          · cases hr2
      have lit : ∀ (d' : Nat) (t : Bool), lk env d' = .v (.bool t) → RelS (Bi B nb0 all.length i) G (s.put (some d') (.b t)) ⟨n, env, m⟩ out ∧ (s.put (some d') (.b t)).fr = ⟨f.n, (d', .b t) :: f.env⟩ :: fs ∧ (s.put (some d') (.b t)).fu = s.fu := by
        intro d' t ht
        have e1 : s.put (some d') (.b t) = ⟨⟨f.n, (d', .b t) :: f.env⟩ :: fs, s.m, s.fu⟩ := by simp only [XSt.put, hfr]
        rw [e1]
        exact ⟨RelS.mk' hfn (hre.consX d' (by simp only [RvX]; exact ht)) hrf hs.2, rfl, rfl⟩
      have skip : ∀ (f2 : Fr) (s2 : XSt), s2.fr = f2 :: fs → s2.fu = s.fu → RelS (Bi B nb0 all.length i) G s2 ⟨n, env, m⟩ out → xops X e y true pth all K (i + 1) l (s2.put o.dst .skip) = some r →
          qops X.T X.P Y all n m nb0 (qPost B fu0 L0 K r out n m) (i + 1) l (eput env o.dst (.v (.tuple #[]))) := fun f2 s2 hf2 hfu2 hs2 hr2 =>
        next f2 s2 G .skip _ hf2 (by rw [hfu2]; exact hfu) hL (Bi.weak hs2) (by simp only [RvX]) hr2
      simp only [qops]
      refine ⟨hdst', ?_⟩
      cases hg : o.guard with
      | none =>
        rw [hg] at hr
        simp only [cond_true] at hr
        exact run f s hfr rfl hs hr
      | some jw =>
        obtain ⟨j, want⟩ := jw
        rw [hg] at hr
        simp only at hr
        split at hr
        · cases hr
        · rename_i d' hd'
          have hk := hre d'
          have hlk : lk (qenv all env o) d' = lk env d' := by
            unfold qenv
            refine lk_keep (List.mem_append_right _ ?_)
            simp only [glook, hg, hd', List.mem_singleton]
          simp only [gval, hd', hlk]
          split at hr
          · rename_i hx
            rw [hx] at hk
            simp only [RvX] at hk
            rw [hk]
            exact skip f s hfr rfl hs hr
          · rename_i t hx
            rw [hx] at hk
            simp only [RvX] at hk
            rw [hk]
            simp only
            obtain ⟨l1, l2, l3⟩ := lit d' t hk
            cases want with
            | true =>
              simp only at hr
              cases t with
              | true => simp only [cond_true] at hr; rw [if_pos rfl]; exact run _ _ l2 l3 l1 hr
              | false => simp only [cond_false] at hr; rw [if_neg (by simp)]; exact skip _ _ l2 l3 l1 hr
            | false =>
              simp only at hr
              cases t with
              | true => simp only [cond_true] at hr; rw [if_neg (by simp)]; exact skip _ _ l2 l3 l1 hr
              | false => simp only [cond_true, cond_false] at hr; rw [if_pos rfl]; exact run _ _ l2 l3 l1 hr
          · cases hr

theorem qop1_mono {T : Tab} {P : Program} {Y : Nat → YS} {m : Mem} {nm : Nat} {o : Oper} {env : List (Nat × PV)} {F F' : PV → Prop} (hF : ∀ v, F v → F' v) (h : qop1 T P Y m nm o env F) : qop1 T P Y m nm o env F' := by
  unfold qop1 at h ⊢
  split at h
  · split at h
    · obtain ⟨r, h1, h2⟩ := h; exact ⟨r, h1, hF r h2⟩
    · exact h.elim
  · split at h
    · exact ⟨h.1, hF _ h.2⟩
    · exact h.elim

theorem qops_mono {T : Tab} {P : Program} {Y : Nat → YS} {all : List Oper} {n : Nat} {m : Mem} {nb0 : Nat} {K K' : List (Nat × PV) → Prop} (hK : ∀ env, K env → K' env) :
    ∀ (i : Nat) (l : List Oper) (env : List (Nat × PV)), qops T P Y all n m nb0 K i l env → qops T P Y all n m nb0 K' i l env
  | _, [], env, h => hK env h
  | i, o :: l, env, h => by
    simp only [qops] at h ⊢
    refine ⟨h.1, ?_⟩
    have h2 := h.2
    cases hg : o.guard with
    | none => rw [hg] at h2; exact qop1_mono (fun v hv => qops_mono hK (i + 1) l _ hv) h2
    | some jw =>
      obtain ⟨j, want⟩ := jw
      rw [hg] at h2
      simp only at h2 ⊢
      split
      · rename_i b hb
        rw [hb] at h2
        simp only at h2
        split
        · rename_i e; rw [if_pos e] at h2; exact qop1_mono (fun v hv => qops_mono hK (i + 1) l _ hv) h2
        · rename_i e; rw [if_neg e] at h2; exact qops_mono hK (i + 1) l _ h2
      · rename_i hb; rw [hb] at h2; exact h2

end
end Go.Proofs.Ytglcodeinalnjaa
