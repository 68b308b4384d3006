/-
  The layer Ev: a region that draws its order and walks through one call.
-/
import Derived.Test.YtcbhmedknbiffaaEvP
namespace Go.Proofs.Ytcbhmedknbiffaa
open Go Go.RowKit
theorem quiet_same {T : Tab} {ρ : Operand → XV} {m m' : XM} {op : Op} {side : Bool} {v : XV} (hq : quietOp op = true) (hx : xop T ρ m op = some (side, v, m')) : m' = m := by
  cases op <;> (try (simp only [quietOp, Bool.false_eq_true] at hq; done)) <;> simp only [xop] at hx
  case move => cases hx; rfl
  case assign => cases hx; rfl
  case pick => split at hx <;> cases hx; rfl
  case load => exact (px_some hx).2
  case binOp => exact (px_some hx).2
  case unOp => exact (py_some hx).2.2
  case nilCheck => split at hx <;> cases hx <;> rfl
  case convert => split at hx <;> cases hx; rfl
  case slice => split at hx; cases hx; exact (px_some hx).2
  case fieldAddr => split at hx; (split at hx <;> cases hx <;> rfl); cases hx
  case field => split at hx; (split at hx; exact (py_some hx).2.2; cases hx); cases hx
  case indexAddr => split at hx; exact (px_some hx).2; cases hx
  case index =>
    split at hx
    · rename_i i n e xs _ _ _
      cases hb : (Nat.beq (T.at e).sz 1 && !(T.at e).kind.isAgg && Nat.ble n xs.length) with
      | false => rw [hb] at hx; cases hx
      | true => rw [hb, cond_true] at hx; split at hx <;> cases hx; rfl
    · cases hx; rfl
    · cases hx
  case extract => split at hx; exact (py_some hx).2.2; cases hx
  case build t ps =>
    cases ha : (T.at t).kind.isAgg with
    | false => rw [ha] at hx; cases hx
    | true => rw [ha, cond_true] at hx; split at hx <;> cases hx; rfl
  case call c =>
    simp only [quietOp] at hq
    split at hq <;> rename_i hc <;> (try rw [hc] at hx) <;> (try (cases hq; done)) <;> simp only at hx
    · split at hx
      · split at hx <;> cases hx; rfl
      · cases hx
    · split at hx
      · split at hx <;> cases hx; rfl
      · cases hx
    · split at hx
      · split at hx <;> cases hx; rfl
      · cases hx
theorem quiet_ws {T : Tab} {ρ' : Operand → PV} {bx : Nat → Box} {nm : Nat} {op : Op} {a : Prop} {v : PV} {ws : List (Nat × Box)} (hq : quietOp op = true) (h : popv T ρ' bx nm op = some (a, v, ws)) : ws = [] := by
  have key : mkOp op = false ∧ wpV ρ' op = [] := by
    cases op <;> (try (simp only [quietOp, Bool.false_eq_true] at hq; done)) <;> (try exact ⟨rfl, rfl⟩)
    case call c =>
      simp only [quietOp] at hq
      split at hq <;> rename_i hc <;> (try (cases hq; done)) <;> exact ⟨by simp only [mkOp, hc], by simp only [wpV, hc]⟩
  cases ws with
  | nil => rfl
  | cons w ws =>
    rcases popv_keys h w.1 (by simp [keys]) with ⟨_, h1⟩ | h1
    · rw [key.1] at h1; cases h1
    · rw [key.2] at h1; simp at h1
section
variable {R : Type}
theorem lookK_ok {G : Gn} {sh : Sh} {nx : Nat} {m : Mem} {n : Int} {ok : Bool} {K : XV → Option R} {r : R} : ∀ {es : List (Int × XV)} {ps : List (Int × PV)}, ps.map (·.1) = es.map (·.1) → RlX G sh nx m (es.map (·.2)) (ps.map (·.2)) → lookK n ok K es = some r →
    ∃ v, K v = some r ∧ RvX G sh nx m v (lookV ps n ok)
  | [], ps, hk, _, h => by
    have : ps = [] := by simpa using hk
    subst this
    refine ⟨_, h, ?_⟩
    unfold lookV
    cases ok
    · simp only [lookE, Bool.false_eq_true, if_false, cond_false, RvX]
    · simp only [lookE, if_true, cond_true, RvX, RlX]
      exact ⟨_, rfl, _, _, rfl, trivial, _, _, rfl, rfl, rfl⟩
  | (k, x) :: es, [], hk, _, _ => by simp at hk
  | (k, x) :: es, (k', p) :: ps, hk, hl, h => by
    simp only [List.map_cons, List.cons.injEq] at hk
    obtain ⟨hk1, hk2⟩ := hk
    subst hk1
    simp only [List.map_cons, RlX, List.cons.injEq] at hl
    obtain ⟨p', r', ⟨rfl, rfl⟩, h1, h2⟩ := hl
    simp only [lookK] at h
    by_cases e : n = k'
    · subst e
      have hb : ieq n n = true := by simp [ieq]
      rw [hb, cond_true] at h
      refine ⟨_, h, ?_⟩
      unfold lookV
      cases ok
      · simp only [lookE, if_true, Bool.false_eq_true, if_false, cond_false]; exact h1
      · simp only [lookE, if_true, cond_true, RvX, RlX]
        exact ⟨_, rfl, _, _, rfl, h1, _, _, rfl, rfl, rfl⟩
    · have hb : ieq n k' = false := by simpa [ieq] using e
      rw [hb, cond_false] at h
      obtain ⟨v, h3, h4⟩ := lookK_ok hk2 h2 h
      refine ⟨v, h3, ?_⟩
      unfold lookV at h4 ⊢
      simp only [lookE, if_neg e]
      exact h4
variable {X : Px R}
theorem xq1_ok {G : Gn} {A : Nat → Prop} {xm : XM} {m : Mem} {xe : List (Nat × XV)} {e : List (Nat × PV)} {op : Op} {K : XV → Option R} {r : R} {nm : Nat} (h : XRM G A xm m) (he : ReX G (shB xm.bx) xm.nx m xe e) (hn : ¬ A nm) (hx : xq1 X xe xm op K = some r) :
    ∃ v pv, K v = some r ∧ RvX G (shB xm.bx) xm.nx m v pv ∧ ∃ side : Prop, popv X.T (peval X.T e) m.bx nm op = some (side, pv, []) ∧ side := by
  unfold xq1 at hx
  split at hx
  · rename_i t a k ok
    split at hx
    · rename_i b kd n kt et ha hk hkt
      split at hx
      · rename_i kd1 kd2 es hkt2 hbx
        split at hx
        · rename_i e1 e2 _ _
          subst e1; subst e2
          have h1 := xev_ok (T := X.T) he a
          have h2 := xev_ok (T := X.T) he k
          rw [ha] at h1; rw [hk] at h2
          simp only [RvX] at h1 h2
          have hb := h.box b
          rw [hbx] at hb
          simp only [BoxX] at hb
          obtain ⟨ps, hpb, hkeys, hvals⟩ := hb
          rw [nbeq] at hx
          by_cases hz : (X.T.at et).sz = 0
          · have : ((X.T.at et).sz == 0) = true := by simpa using hz
            rw [this] at hx; cases hx
          · have hb0 : ((X.T.at et).sz == 0) = false := by simpa using hz
            rw [hb0, cond_false] at hx
            obtain ⟨v, h3, h4⟩ := lookK_ok hkeys hvals hx
            exact ⟨v, _, h3, h4, True, by simp only [popv, h1.2, h2, hkt, hkt2, hpb, hz, ne_eq, not_false_eq_true, and_self, if_true], trivial⟩
        · cases hx
      · cases hx
    · cases hx
  · rename_i hnl
    cases hq : quietOp op with
    | false => rw [hq] at hx; cases hx
    | true =>
      rw [hq, cond_true] at hx
      split at hx
      · rename_i side v m' hop
        cases side with
        | false => cases hx
        | true =>
          rw [cond_true] at hx
          obtain rfl := quiet_same hq hop
          obtain ⟨G', sideP, pv, ws, k1, k2, k3, k4, k5, k6⟩ := xop_ok h (fun x => xev_ok (T := X.T) he x) hn hop rfl
          obtain rfl := quiet_ws hq k1
          refine ⟨v, pv, hx, ?_, sideP, k1, k2⟩
          have back : GXt G' (shB m'.bx) m'.nx m G (shB m'.bx) m'.nx m :=
            ⟨Nat.le_refl _, fun k hk => (k5.hi k hk).symm, fun k hk => (k5.hu k hk).symm, fun _ _ => .inr rfl, ⟨fun k hk => by
              rcases k6.hd k hk with h1 | ⟨_, j, h1, h2⟩
              · exact h1
              · exact absurd h2 h1, fun _ _ => rfl⟩, k5.hl.symm, k5.hp.symm⟩
          have k4' : RvX G' (shB m'.bx) m'.nx m v pv := k4
          exact k4'.mono back
      · cases hx
def qAt (sel : Nat → Bool) : List (Nat × PV) → Nat → List Oper → List PV → Nat → List (Nat × PV)
  | env, _, _, _, 0 => env
  | env, i, o :: l, v :: vs, j + 1 => qAt sel (bif sel i then eput env o.dst v else env) (i + 1) l vs j
  | env, _, _, _, _ + 1 => env
theorem qAt_none {sel : Nat → Bool} {k : Nat} : ∀ (l : List Oper) (vs : List PV) (env : List (Nat × PV)) (i j : Nat), (∀ j' o, j' < j → l[j']? = some o → sel (i + j') = true → o.dst ≠ some k) → lk (qAt sel env i l vs j) k = lk env k
  | _, _, _, _, 0, _ => by simp only [qAt]
  | [], _, _, _, j + 1, _ => by simp only [qAt]
  | o :: l, [], env, i, j + 1, _ => by simp only [qAt]
  | o :: l, v :: vs, env, i, j + 1, h => by
    simp only [qAt]
    rw [qAt_none l vs _ (i + 1) j fun j' o' hj' ho' hs => h (j' + 1) o' (by omega) (by simpa using ho') (by rw [show i + (j' + 1) = i + 1 + j' by omega]; exact hs)]
    cases hs : sel i with
    | false => rfl
    | true => rw [cond_true, lk_eput, if_neg (h 0 o (by omega) rfl (by rw [Nat.add_zero]; exact hs))]
theorem qAt_some {sel : Nat → Bool} {k : Nat} : ∀ (l : List Oper) (vs : List PV) (env : List (Nat × PV)) (i j j' : Nat) (o : Oper) (v : PV), vs.length = l.length → j' < j → l[j']? = some o → sel (i + j') = true → o.dst = some k → vs[j']? = some v →
    (∀ i' o', i' ≠ j' → l[i']? = some o' → o'.dst ≠ some k) → lk (qAt sel env i l vs j) k = v
  | _, _, _, _, 0, _, _, _, _, h, _, _, _, _, _ => by omega
  | [], _, _, _, j + 1, _, _, _, _, _, h, _, _, _, _ => by simp at h
  | o :: l, [], env, i, j + 1, _, _, _, h, _, _, _, _, _, _ => by simp at h
  | o :: l, v :: vs, env, i, j + 1, j', o1, v1, hlen, hj, ho, hs, hd, hv, hu => by
    simp only [qAt]
    cases j' with
    | zero =>
      simp only [List.getElem?_cons_zero, Option.some.injEq] at ho hv
      subst ho; subst hv
      rw [Nat.add_zero] at hs
      rw [qAt_none l vs _ (i + 1) j fun j' o' _ ho' _ => hu (j' + 1) o' (by omega) (by simpa using ho'), hs, cond_true, lk_eput, if_pos hd]
    | succ j' =>
      exact qAt_some l vs _ (i + 1) j j' o1 v1 (by simpa using hlen) (by omega) (by simpa using ho) (by rw [show i + 1 + j' = i + (j' + 1) by omega]; exact hs) hd (by simpa using hv) (fun i' o' hne ho' => hu (i' + 1) o' (by omega) (by simpa using ho'))
theorem xqs_ok {all : List Oper} {sel : Nat → Bool} {chk : Nat → Oper → List (Nat × XV) → Bool} {K : XSt → Option R} {nb0 n : Nat} {r : R} {out : List PF} {B : Nat → Prop} {G : Gn} {m : Mem} (hB : ∀ i, sel i = true → i < all.length → ¬ (nb0 + i < m.nb ∧ ¬ B (nb0 + i))) :
    ∀ (l : List Oper) (i : Nat) (s : XSt) (env : List (Nat × PV)), all.drop i = l → xqs X all sel chk K i l s = some r → RelS B G s ⟨n, env, m⟩ out →
      ∃ vs : List PV, vs.length = l.length ∧ (∀ (j : Nat) (o : Oper) (v : PV), l[j]? = some o → vs[j]? = some v → sel (i + j) = true → efact X.T all n m.bx nb0 (i + j) o (qAt sel env i l vs j) v ∧
        ∃ xe, ReX G (shB s.m.bx) s.m.nx m xe (qenv all (qAt sel env i l vs j) o) ∧ chk (i + j) o xe = true) ∧
        ∃ s', s'.m = s.m ∧ s'.fu = s.fu ∧ RelS B G s' ⟨n, qAt sel env i l vs l.length, m⟩ out ∧ K s' = some r
  | [], i, s, env, hl, hr, hs => ⟨[], rfl, fun j o v hj => by simp at hj, s, rfl, rfl, hs, hr⟩
  | o :: l, i, s, env, hl, hr, hs => by
    obtain ⟨f, fs, hfr, hfn, hre, hrf⟩ := hs.head
    have hoi : all[i]? = some o := by
      have := congrArg (fun l => l[0]?) hl
      simpa using this
    have hi : i < all.length := (List.getElem?_eq_some_iff.1 hoi).1
    have hl' : all.drop (i + 1) = l := by
      rw [← List.drop_drop, hl]; rfl
    simp only [xqs] at hr
    cases hsel : sel i with
    | false =>
      rw [hsel, cond_false] at hr
      obtain ⟨vs, h1, h2, h3⟩ := xqs_ok hB l (i + 1) s env hl' hr hs
      refine ⟨.any :: vs, by simp [h1], fun j o' v hj hv hsj => ?_, ?_⟩
      · cases j with
        | zero => rw [Nat.add_zero, hsel] at hsj; cases hsj
        | succ j =>
          simp only [List.getElem?_cons_succ] at hj hv
          rw [show i + (j + 1) = i + 1 + j by omega] at hsj ⊢
          have := h2 j o' v hj hv hsj
          simpa only [qAt, hsel, cond_false] using this
      · simpa only [List.length_cons, qAt, hsel, cond_false] using h3
    | true =>
      rw [hsel, cond_true, hfr] at hr
      simp only at hr
      cases hc : (dstX f.n o.dst && o.guard.isNone && chk i o (keepX f.env (opTmps o.op ++ glook all o))) with
      | false => rw [hc] at hr; cases hr
      | true =>
        rw [hc, cond_true] at hr
        have hc1 := and_l (and_l hc)
        have hc2 := and_r (and_l hc)
        have hc3 := and_r hc
        have hdst' : dstOK n o.dst = true := by rw [← show f.n = n from hfn]; exact dst_ok hc1
        have hgd : o.guard = none := Option.isNone_iff_eq_none.1 hc2
        have hkeep : ReX G (shB s.m.bx) s.m.nx m (keepX f.env (opTmps o.op ++ glook all o)) (qenv all env o) := keep_ok hre _
        obtain ⟨v, pv, k1, k2, k3⟩ := xq1_ok hs.2 hkeep (hB i hsel hi) hr
        have hput := RelS.put (p := ⟨n, env, m⟩) (dst := o.dst) (fu := s.fu) hfn hre hrf (GXt.refl _ _ _ _) hs.2 k2
        rw [← hfr] at hput
        have hp : St.put ⟨n, env, m⟩ o.dst pv m = ⟨n, eput env o.dst pv, m⟩ := by cases o.dst <;> rfl
        rw [hp] at hput
        have hm3 : (s.put o.dst v).m = s.m := by cases o.dst <;> simp only [XSt.put, hfr]
        have hfu3 : (s.put o.dst v).fu = s.fu := by cases o.dst <;> simp only [XSt.put, hfr]
        obtain ⟨vs, h1, h2, s', h3, h4, h5, h6⟩ := xqs_ok hB l (i + 1) _ _ hl' k1 hput
        refine ⟨pv :: vs, by simp [h1], fun j o' v' hj hv hsj => ?_, s', h3.trans hm3, h4.trans hfu3, by simpa only [List.length_cons, qAt, hsel, cond_true] using h5, h6⟩
        cases j with
        | zero =>
          simp only [List.getElem?_cons_zero, Option.some.injEq] at hj hv
          subst hj; subst hv
          refine ⟨⟨hdst', hgd, ?_⟩, keepX f.env (opTmps o.op ++ glook all o), ?_, ?_⟩
          · simpa only [qAt, Nat.add_zero] using k3
          · simpa only [qAt] using hkeep
          · exact hc3
        | succ j =>
          simp only [List.getElem?_cons_succ] at hj hv
          rw [show i + (j + 1) = i + 1 + j by omega] at hsj ⊢
          have := h2 j o' v' hj hv hsj
          rw [hm3] at this
          simpa only [qAt, hsel, cond_true] using this
theorem aX_self (all : List Oper) (b : Nat) : aX all b b = false := by
  unfold aX
  split
  · rw [Nat.beq_refl]; rfl
  · rfl
theorem chkA_spec {all : List Oper} {b : Nat} (h : chkA all b = true) {i : Nat} {o : Oper} (ho : all[i]? = some o) :
    ((i = b ∨ aX all b i = true) → ∀ e ∈ o.after, Region.binds .any e = true → aX all b e.on = true) ∧ (i ≠ b → aX all b i = false → b < i ∧ ∃ e ∈ o.after, Region.binds .any e = true ∧ aX all b e.on = false) := by
  have h1 := zipIdx_all h ho
  simp only at h1
  cases hc : (Nat.beq i b || aX all b i) with
  | true =>
    rw [hc, cond_true] at h1
    refine ⟨fun _ e he hb => ?_, fun hne ha => ?_⟩
    · have := List.all_eq_true.1 h1 e (Array.mem_toList_iff.2 he)
      simpa [hb] using this
    · rw [ha, Bool.or_false] at hc
      exact absurd (Nat.eq_of_beq_eq_true hc) hne
  | false =>
    rw [hc, cond_false] at h1
    rw [Bool.or_eq_false_iff] at hc
    refine ⟨fun hor => ?_, fun _ _ => ?_⟩
    · rcases hor with e | e
      · subst e; rw [Nat.beq_refl] at hc; cases hc.1
      · rw [hc.2] at e; cases e
    · have h2 := and_l h1
      obtain ⟨e, he, h3⟩ := List.any_eq_true.1 (and_r h1)
      refine ⟨by simpa [Nat.blt_eq] using h2, e, Array.mem_toList_iff.1 he, and_l h3, by simpa using and_r h3⟩
theorem bigAt_spec {X : Px R} {env : List (Nat × XV)} {b : Nat} {ob : Oper} : ∀ (l : List Oper) (i : Nat), bigAt X env i l = some (b, ob) → ∃ j, b = i + j ∧ l[j]? = some ob
  | [], i, h => by cases h
  | o :: l, i, h => by
    simp only [bigAt] at h
    cases hb : isBigX X env o with
    | true => rw [hb, cond_true] at h; cases h; exact ⟨0, rfl, rfl⟩
    | false =>
      rw [hb, cond_false] at h
      obtain ⟨j, h1, h2⟩ := bigAt_spec l (i + 1) h
      exact ⟨j + 1, by omega, by simpa using h2⟩
theorem late_fp {X : Px R} {G : Gn} {sh : Sh} {nx : Nat} {m : Mem} {xe : List (Nat × XV)} {e : List (Nat × PV)} {kV : Option Nat} {op : Op} (he : ReX G sh nx m xe e) (h : lateX X kV xe op = true) : ∀ k ∈ fpV (peval X.T e) op, kV.map G.ι = some k := by
  intro k hk
  cases op <;> simp only [lateX, Bool.false_eq_true] at h <;> (try (simp [fpV] at hk; done))
  rename_i t a
  have ha := xev_ok (T := X.T) he a
  split at h
  · rename_i k1 off k2 hxa
    rw [hxa] at ha
    simp only [RvX] at ha
    obtain rfl := Nat.eq_of_beq_eq_true h
    simp only [fpV, ha.2, pnm, List.mem_singleton] at hk
    rw [hk]; rfl
  · cases h
def shN : Option (Option (Nat × Nat)) → Option (Nat × Nat)
  | some (some p) => some p
  | _ => none
mutual
theorem RvX.sh {G : Gn} {sh sh' : Sh} {nx : Nat} {m : Mem} (h : ∀ k, shN (sh k) = shN (sh' k)) : ∀ (x : XV) (p : PV), RvX G sh nx m x p → RvX G sh' nx m x p
  | .any, _, _ => by simp only [RvX]
  | .skip, _, hr => by simp only [RvX] at hr ⊢; exact hr
  | .nil, _, hr => by simp only [RvX] at hr ⊢; exact hr
  | .i _ _, _, hr => by simp only [RvX] at hr ⊢; exact hr
  | .b _, _, hr => by simp only [RvX] at hr ⊢; exact hr
  | .s _, _, hr => by simp only [RvX] at hr ⊢; exact hr
  | .agg xs, _, hr => by simp only [RvX] at hr ⊢; obtain ⟨ps, e, hl⟩ := hr; exact ⟨ps, e, RlX.sh h xs ps hl⟩
  | .tup xs, _, hr => by simp only [RvX] at hr ⊢; obtain ⟨ps, e, hl⟩ := hr; exact ⟨ps, e, RlX.sh h xs ps hl⟩
  | .sl _ _ _, _, hr => by simp only [RvX] at hr ⊢; exact hr
  | .row k, p, hr => by
    simp only [RvX] at hr ⊢
    refine ⟨hr.1, hr.2.1, ?_⟩
    have h1 := hr.2.2
    have h2 := h k
    split
    · rename_i w n e
      rw [e] at h2
      split at h1
      · rename_i w' n' e'; rw [e'] at h2; cases h2; exact h1
      · rename_i hne
        exfalso
        cases hk : sh k with
        | none => rw [hk] at h2; cases h2
        | some z => cases z with
          | none => rw [hk] at h2; cases h2
          | some q => exact hne q.1 q.2 hk
    · trivial
  | .rsub k i n, p, hr => by
    simp only [RvX] at hr ⊢
    refine ⟨hr.1, hr.2.1, ?_⟩
    have h1 := hr.2.2
    have h2 := h k
    split
    · rename_i w n e
      rw [e] at h2
      split at h1
      · rename_i w' n' e'; rw [e'] at h2; cases h2; exact h1
      · rename_i hne
        exfalso
        cases hk : sh k with
        | none => rw [hk] at h2; cases h2
        | some z => cases z with
          | none => rw [hk] at h2; cases h2
          | some q => exact hne q.1 q.2 hk
    · trivial
  | .ref _ _, _, hr => by simp only [RvX] at hr ⊢; exact hr
  | .aref _ _ _ _, _, hr => by simp only [RvX] at hr ⊢; exact hr
  | .asl _ _ _ _, _, hr => by simp only [RvX] at hr ⊢; exact hr
  | .rp k i off, p, hr => by
    simp only [RvX] at hr ⊢
    obtain ⟨h1, w, h3, h4⟩ := hr
    refine ⟨h1, w, h3, ?_⟩
    have h2 := h k
    split
    · rename_i w' n e
      rw [e] at h2
      split at h4
      · rename_i w2 n2 e'; rw [e'] at h2; cases h2; exact h4
      · rename_i hne
        exfalso
        cases hk : sh k with
        | none => rw [hk] at h2; cases h2
        | some z => cases z with
          | none => rw [hk] at h2; cases h2
          | some q => exact hne q.1 q.2 hk
    · trivial
  | .ep xs, _, hr => by simp only [RvX] at hr ⊢; obtain ⟨ps, e, hl⟩ := hr; exact ⟨ps, e, RlX.sh h xs ps hl⟩
  | .aep xs _ _ _, _, hr => by simp only [RvX] at hr ⊢; obtain ⟨ps, e, hl⟩ := hr; exact ⟨ps, e, RlX.sh h xs ps hl⟩
  | .clos _ xs, _, hr => by simp only [RvX] at hr ⊢; obtain ⟨ps, e, hl⟩ := hr; exact ⟨ps, e, RlX.sh h xs ps hl⟩
  | .yield _, _, hr => by simp only [RvX] at hr ⊢; exact hr
  | .opq _, _, hr => by simp only [RvX] at hr ⊢; exact hr
  | .mp _, _, hr => by simp only [RvX] at hr ⊢; exact hr
  | .ui _, _, hr => by simp only [RvX] at hr ⊢; exact hr
  | .nr _, _, hr => by simp only [RvX] at hr ⊢; exact hr
  | .np _ _, _, hr => by simp only [RvX] at hr ⊢; exact hr
theorem RlX.sh {G : Gn} {sh sh' : Sh} {nx : Nat} {m : Mem} (h : ∀ k, shN (sh k) = shN (sh' k)) : ∀ (xs : List XV) (ps : List PV), RlX G sh nx m xs ps → RlX G sh' nx m xs ps
  | [], _, hr => by simp only [RlX] at hr ⊢; exact hr
  | x :: xs, _, hr => by
    simp only [RlX] at hr ⊢
    obtain ⟨p, r, e, h1, h2⟩ := hr
    exact ⟨p, r, e, RvX.sh h x p h1, RlX.sh h xs r h2⟩
end
theorem RfX.sh {G : Gn} {sh sh' : Sh} {nx : Nat} {m : Mem} (h : ∀ k, shN (sh k) = shN (sh' k)) : ∀ (fs : List Fr) (es : List PF), RfX G sh nx m fs es → RfX G sh' nx m fs es
  | [], _, hr => hr
  | _ :: fs, _, ⟨e, r, h1, h2, h3, h4⟩ => ⟨e, r, h1, h2, fun k => RvX.sh h _ _ (h3 k), RfX.sh h fs r h4⟩
theorem XRM.less {G : Gn} {A A' : Nat → Prop} {xm : XM} {m : Mem} (h : XRM G A xm m) (h1 : ∀ k, OwnX G xm.bx k → A' (G.ι k)) (h2 : ∀ k, G.H k → A' k) (h3 : ∀ b n, G.P b = some n → A' b) : XRM G A' xm m := ⟨h.box, h1, h.nh, h.inj, h2, h.ys, h.lt, fun b n hP => ⟨h3 b n hP, (h.pv b n hP).2⟩⟩
theorem XRM.relay {G : Gn} {A A' : Nat → Prop} {xm : XM} {m : Mem} {k nb : Nat} {xs : List XV} {ps : List PV} (h : XRM G A xm m) (hk : k < xm.nx) (hg : lkB xm.bx k = .gone) (hA : ∀ j, A j → A' j ∧ j ≠ G.ι k) (hAk : A' (G.ι k)) (hr : RlX G (shB xm.bx) xm.nx m xs ps) :
    XRM G A' (xm.upd k (.cells xs)) ⟨nb, setB m.bx (G.ι k) (.cells ps), m.ys⟩ ∧ GXt G (shB xm.bx) xm.nx m G (shB xm.bx) xm.nx ⟨nb, setB m.bx (G.ι k) (.cells ps), m.ys⟩ ∧ ∀ j, shN (shB xm.bx j) = shN (shB (updB xm.bx k (.cells xs)) j) := by
  have hx : GXt G (shB xm.bx) xm.nx m G (shB xm.bx) xm.nx ⟨nb, setB m.bx (G.ι k) (.cells ps), m.ys⟩ :=
    ⟨Nat.le_refl _, fun _ _ => rfl, fun _ _ => Iff.rfl, fun _ _ => .inr rfl, ⟨fun _ h => h, fun j hj => setB_old _ _ (hA j (h.ha j hj)).2⟩, rfl, rfl⟩
  have hsh : ∀ j, shN (shB xm.bx j) = shN (shB (updB xm.bx k (.cells xs)) j) := by
    intro j
    rw [shB_upd]
    by_cases e : k = j
    · subst e; rw [if_pos rfl]; unfold shB; rw [hg]; rfl
    · rw [if_neg e]
  have own : ∀ j, OwnX G (updB xm.bx k (.cells xs)) j → j = k ∨ (j ≠ k ∧ OwnX G xm.bx j) := by
    intro j ho
    by_cases e : k = j
    · exact .inl e.symm
    · rw [OwnX.upd_ne e] at ho; exact .inr ⟨fun e' => e e'.symm, ho⟩
  have away : ∀ j, OwnX G xm.bx j → G.ι j ≠ G.ι k := fun j ho => (hA _ (h.al j ho)).2
  refine ⟨⟨fun j => ?_, fun j ho => ?_, fun j ho hh => ?_, fun j j' ho ho' e => ?_, fun j hj => (hA j (h.ha j hj)).1, h.ys, fun j hj => ?_, fun b n hP => ?_⟩, hx, hsh⟩
  · simp only [XM.upd]
    rw [lkB_upd]
    by_cases e : k = j
    · subst e
      rw [if_pos rfl]
      simp only [BoxX]
      exact ⟨ps, setB_new _ _ _, RlX.sh hsh _ _ (RlX.mono hx _ _ hr)⟩
    · rw [if_neg e]
      have hb := h.box j
      cases hl : lkB xm.bx j with
      | gone => trivial
      | cells ys =>
        rw [hl] at hb
        have hj := away j (own_cells hl)
        obtain ⟨qs, e1, e2⟩ := hb
        exact ⟨qs, (setB_old _ _ hj).trans e1, RlX.sh hsh _ _ (RlX.mono hx _ _ e2)⟩
      | mp kd es =>
        rw [hl] at hb
        have hj := away j (own_mp hl)
        obtain ⟨qs, e1, e2, e3⟩ := hb
        exact ⟨qs, (setB_old _ _ hj).trans e1, e2, RlX.sh hsh _ _ (RlX.mono hx _ _ e3)⟩
      | pv cs ns =>
        rw [hl] at hb
        rcases hb with hb | ⟨hu, qs, e1, e2⟩
        · exact .inl hb
        · exact .inr ⟨hu, qs, (setB_old _ _ (away j (own_pv hl hu))).trans e1, e2⟩
      | row fr cs l =>
        rw [hl] at hb
        rcases hb with hb | ⟨hu, es, e1, e2⟩
        · exact .inl hb
        · have hj := away j (own_row hl hu)
          exact .inr ⟨hu, es, (setB_old _ _ hj).trans e1, e2.mono hx.hh id⟩
  · rcases own j ho with e | ⟨_, ho'⟩
    · rw [e]; exact hAk
    · exact (hA _ (h.al j ho')).1
  · rcases own j ho with e | ⟨_, ho'⟩
    · rw [e] at hh; exact (hA _ (h.ha _ hh)).2 rfl
    · exact h.nh j ho' hh
  · rcases own j ho with e1 | ⟨_, h1⟩ <;> rcases own j' ho' with e2 | ⟨_, h2⟩
    · rw [e1, e2]
    · rw [e1] at e; exact absurd e.symm (away j' h2)
    · rw [e2] at e; exact absurd e (away j h1)
    · exact h.inj j j' h1 h2 e
  · simp only [XM.upd] at hj ⊢
    rw [lkB_upd, if_neg (by omega)]; exact h.lt j hj
  · obtain ⟨p1, p2, p3, p4⟩ := h.pv b n hP
    refine ⟨(hA b p1).1, p2, fun j ho => ?_, by show PvB (setB m.bx (G.ι k) _ b) n; rw [setB_old _ _ (hA b p1).2]; exact p4⟩
    rcases own j ho with e | ⟨_, ho'⟩
    · rw [e]; exact fun e => (hA b p1).2 e.symm
    · exact p3 j ho'
theorem xbigN_ok (hT : TOK X.T X.P) (hmix : X.P.follows .mixedOrders = true) {d N : Nat} (hE : EOK X d N) {pth : List Nat} {id : Nat} {ops : Array Oper} {κ : EK R} {s : XSt} {p : St} {G : Gn} {B : Nat → Prop} {out : List PF} {Y : Nat → YS} {r : R} {b : Nat} {ob : Oper} {kV : Option Nat}
    (hmw : mwAt ops.toList = none) (hB : ∀ k, B k → k < p.m.nb) (hq : qchk ops.toList = true) (hbo : ops.toList[b]? = some ob) (hr : xbig X (ev X d) pth ops.toList b ob kV κ s = some r) (hN : s.fu ≤ N)
    (hcut : ∀ h fn c, X.P.funcs[h]? = some fn → fn.body = some c → CutsOK X d (2 * h :: b :: pth) c none (retX X fn.results.toList (bigK X ops.toList b κ ob.dst)))
    (hs : RelS B G s p out) : PW X.T X.P Y (.region id ops true) (PostX B s.fu pth.length G.L κ r out) p := by
  obtain ⟨f, fs, hfr, hfn, hre, hrf⟩ := hs.head
  obtain ⟨all, hall⟩ : ∃ all, all = ops.toList := ⟨_, rfl⟩
  rw [← hall] at hr hcut hbo hq hmw
  have hrel : RelS (Bi B p.m.nb all.length 0) G s ⟨p.n, p.env, ⟨p.m.nb + all.length, p.m.bx, p.m.ys⟩⟩ out := by
    refine ⟨RfX.mono (GXt.same (m := p.m) (m' := ⟨p.m.nb + all.length, p.m.bx, p.m.ys⟩) rfl) hs.1, ?_⟩
    have := hs.2.same (m' := ⟨p.m.nb + all.length, p.m.bx, p.m.ys⟩) (A' := fun k => k < p.m.nb + all.length ∧ ¬ Bi B p.m.nb all.length 0 k) (ys := s.m.ys) rfl hs.2.ys (fun k hk => ⟨Nat.lt_of_lt_of_le hk.1 (Nat.le_add_right _ _), ?_⟩)
    · exact this
    · rintro (h | ⟨h, _⟩)
      · exact hk.2 h
      · have := hk.1; omega
  have hBn : ∀ (m : Mem) (B' : Nat → Prop), (∀ k, Bi B p.m.nb all.length 0 k → B' k) → ∀ i, i < all.length → ¬ (p.m.nb + i < m.nb ∧ ¬ B' (p.m.nb + i)) := fun m B' hb i hi h => h.2 (hb _ (.inr ⟨by omega, by omega⟩))
  unfold xbig at hr
  rw [hfr] at hr
  simp only [hmw] at hr
  cases hc : (chkA all b && dstX f.n ob.dst && ob.guard.isNone) with
  | false => rw [hc] at hr; cases hr
  | true =>
  rw [hc, cond_true] at hr
  have hck := and_l (and_l hc)
  have hdst : dstOK p.n ob.dst = true := by rw [← hfn]; exact dst_ok (and_r (and_l hc))
  have hgd : ob.guard = none := Option.isNone_iff_eq_none.1 (and_r hc)
  obtain ⟨vs, hvl, hvf, s1, e1, e2, hs1, hr1⟩ := xqs_ok (fun i _ => hBn _ _ (fun _ h => h) i) all 0 s p.env rfl hr hrel
  obtain ⟨EA, hEA⟩ : ∃ EA, EA = qAt (aX all b) p.env 0 all vs all.length := ⟨_, rfl⟩
  rw [← hEA] at hs1
  obtain ⟨f1, fs1, hfr1, hfn1, hre1, hrf1⟩ := hs1.head
  have hbl : b < all.length := (List.getElem?_eq_some_iff.1 hbo).1
  have get : ∀ {i : Nat}, i < all.length → all[i]? = some (all[i]!) := fun {i} hi => by rw [List.getElem?_eq_getElem hi]; simp [hi]
  have uniq : ∀ {i j k : Nat} {oi oj : Oper}, all[i]? = some oi → all[j]? = some oj → oi.dst = some k → oj.dst = some k → i = j := by
    intro i j k oi oj hi hj h1 h2
    by_cases e : i = j
    · exact e
    · exact absurd h1 (qchk_uniq hq hi hj e h2)
  have aLt : ∀ {i : Nat}, aX all b i = true → i < all.length := by
    intro i hi
    unfold aX at hi
    split at hi
    · rename_i o ho; exact (List.getElem?_eq_some_iff.1 ho).1
    · cases hi
  -- what an operation that is not behind the call finds
  have fitA : ∀ (i : Nat) (o : Oper) (J : Nat), all[i]? = some o → (i = b ∨ aX all b i = true) → i ≤ J → (i = b → J = all.length) → (i ≠ b → J = i) → Fit all vs p.env (qAt (aX all b) p.env 0 all vs J) i o := by
    intro i o J ho hor hiJ hJb hJi k hk
    refine ⟨fun j oj v hji hoj hd hv => ?_, fun hno => ?_⟩
    · obtain ⟨e, he, hon, hb⟩ := edgeTo_spec ((qchk_pair hq ho hoj hd hk).1 hji)
      have := (chkA_spec hck ho).1 hor e he hb
      rw [hon] at this
      exact qAt_some all vs p.env 0 J j oj v hvl (by omega) hoj (by rw [Nat.zero_add]; exact this) hd hv fun i' o' hne ho' hd' => hne (uniq ho' hoj hd' hd)
    · refine qAt_none all vs p.env 0 J fun j oj hjJ hoj hs hd => ?_
      rw [Nat.zero_add] at hs
      by_cases hji : j < i
      · exact hno j oj hji hoj hd
      · by_cases e : i = b
        · rcases Nat.lt_or_ge i j with h1 | h1
          · obtain ⟨e1, he1, hon, hb1⟩ := edgeTo_spec ((qchk_pair hq ho hoj hd hk).2 h1)
            have := (chkA_spec hck hoj).1 (.inr hs) e1 he1 hb1
            rw [hon, e, aX_self] at this; cases this
          · have : j = i := by omega
            rw [this, e, aX_self] at hs; cases hs
        · have := hJi e; omega
  unfold bigC at hr1
  rw [hfr1] at hr1
  simp only at hr1
  split at hr1
  rotate_left
  · cases hr1
  rename_i g args ats hop
  have hkB : ReX G (shB s1.m.bx) s1.m.nx ⟨p.m.nb + all.length, p.m.bx, p.m.ys⟩ (keepX f1.env (opTmps ob.op ++ glook all ob)) (qenv all EA ob) := keep_ok hre1 _
  split at hr1
  rotate_left
  · cases hr1
  rename_i h caps hge
  split at hr1
  rotate_left
  · cases hr1
  rename_i s2 hsp
  have hg := xev_ok (T := X.T) hkB g
  rw [hge] at hg
  simp only [RvX] at hg
  obtain ⟨cps, hgp, hcap⟩ := hg
  have hal := (RlX.mapρ (fun x => xev_ok (T := X.T) hkB x) args.toList).append hcap
  -- the operations behind the call
  have tail : ∀ (pv : PV) (m2 : Mem) (f2 : Fr) (fs2 : List Fr) (xm2 : XM) (fu2 : Nat) (G2 : Gn) (v : XV), RelS (Bi B p.m.nb all.length 0) G2 ⟨f2 :: fs2, xm2, fu2⟩ ⟨p.n, EA, m2⟩ out → RvX G2 (shB xm2.bx) xm2.nx m2 v pv →
      xqs X all (tX all b) (fun _ _ _ => true) (κ .normal) 0 all (XSt.put ⟨f2 :: fs2, xm2, fu2⟩ ob.dst v) = some r → fu2 ≤ s.fu → (∀ j, j < pth.length → G2.L j = G.L j) →
      ∃ vs2 EF, vs2.length = all.length ∧ vs2[b]? = some pv ∧ (∀ i, aX all b i = true → vs2[i]? = vs[i]?) ∧
        (∀ i o v, aX all b i = false → i ≠ b → all[i]? = some o → vs2[i]? = some v → ∃ E, Fit all vs2 p.env E i o ∧ efact X.T all p.n m2.bx p.m.nb i o E v) ∧ Fin all vs2 p.env EF ∧ PostX B s.fu pth.length G.L κ r out .normal ⟨p.n, EF, m2⟩ := by
    intro pv m2 f2 fs2 xm2 fu2 G2 v hr2 hv hx hfu hL
    obtain ⟨f3, fs3, j1, j2, j3, j4⟩ := hr2.head
    cases j1
    have hput := RelS.put (p := ⟨p.n, EA, m2⟩) (dst := ob.dst) (fu := fu2) j2 j3 j4 (GXt.refl _ _ _ _) hr2.2 hv
    obtain ⟨E0, hE0⟩ : ∃ E0, E0 = eput EA ob.dst pv := ⟨_, rfl⟩
    have hp : St.put ⟨p.n, EA, m2⟩ ob.dst pv m2 = ⟨p.n, E0, m2⟩ := by rw [hE0]; cases ob.dst <;> rfl
    rw [hp] at hput
    obtain ⟨vt, t1, t2, s', t3, t4, t5, t6⟩ := xqs_ok (fun i _ => hBn _ _ (fun _ h => h) i) all 0 _ E0 rfl hx hput
    obtain ⟨vs2, hvs2⟩ : ∃ vs2 : List PV, vs2 = (List.range all.length).map fun i => bif aX all b i then vs.getD i .any else bif Nat.beq i b then pv else vt.getD i .any := ⟨_, rfl⟩
    have hl2 : vs2.length = all.length := by rw [hvs2]; simp
    have hget : ∀ i, i < all.length → vs2[i]? = some (bif aX all b i then vs.getD i .any else bif Nat.beq i b then pv else vt.getD i .any) := fun i hi => by rw [hvs2]; simp [hi]
    have getB : vs2[b]? = some pv := by rw [hget b hbl, aX_self, Nat.beq_refl]; rfl
    have getA : ∀ i, aX all b i = true → vs2[i]? = vs[i]? := fun i hi => by
      have := aLt hi
      rw [hget i this, hi, cond_true, List.getElem?_eq_getElem (by rw [hvl]; exact this)]
      simp [List.getD, hvl, this]
    have getT : ∀ i, i < all.length → aX all b i = false → i ≠ b → vs2[i]? = vt[i]? := fun i hi ha hne => by
      have hb : Nat.beq i b = false := by rw [nbeq, beq_eq_false_iff_ne]; exact hne
      rw [hget i hi, ha, cond_false, hb, cond_false, List.getElem?_eq_getElem (by rw [t1]; exact hi)]
      simp [List.getD, t1, hi]
    -- a slot that some operation writes
    have slot : ∀ (J : Nat) (k j : Nat) (oj : Oper) (v : PV), all[j]? = some oj → oj.dst = some k → vs2[j]? = some v → (tX all b j = true → j < J) → lk (qAt (tX all b) E0 0 all vt J) k = v := by
      intro J k j oj v hoj hd hv hJ
      have hjl : j < all.length := (List.getElem?_eq_some_iff.1 hoj).1
      have un : ∀ i' o', i' ≠ j → all[i']? = some o' → o'.dst ≠ some k := fun i' o' hne ho' hd' => hne (uniq ho' hoj hd' hd)
      by_cases ht : tX all b j = true
      · have h1 : aX all b j = false ∧ j ≠ b := by
          unfold tX at ht
          rw [Bool.and_eq_true] at ht
          refine ⟨by simpa using ht.2, fun e => ?_⟩
          subst e; rw [Nat.beq_refl] at ht; cases ht.1
        rw [getT j hjl h1.1 h1.2] at hv
        exact qAt_some all vt E0 0 J j oj v t1 (hJ ht) hoj (by rw [Nat.zero_add]; exact ht) hd hv un
      · rw [qAt_none all vt E0 0 J fun j' o' _ ho' hs' hd' => ht (by rw [Nat.zero_add] at hs'; rw [uniq hoj ho' hd hd']; exact hs')]
        rw [hE0, lk_eput]
        by_cases e : j = b
        · subst e
          rw [hbo] at hoj; cases hoj
          rw [if_pos hd]
          rw [getB] at hv; cases hv; rfl
        · rw [if_neg (un b ob (fun e' => e e'.symm) hbo)]
          have ha : aX all b j = true := by
            cases ha : aX all b j with
            | true => rfl
            | false =>
              exfalso
              apply ht
              unfold tX
              have hb : Nat.beq j b = false := by rw [nbeq, beq_eq_false_iff_ne]; exact e
              rw [ha, hb]; rfl
          rw [getA j ha] at hv
          rw [hEA]
          exact qAt_some all vs p.env 0 all.length j oj v hvl hjl hoj (by rw [Nat.zero_add]; exact ha) hd hv un
    -- a slot that none writes
    have slot0 : ∀ (J : Nat) (k : Nat), (∀ j oj, all[j]? = some oj → oj.dst = some k → (tX all b j = true → J ≤ j) ∧ j ≠ b ∧ aX all b j = false) → lk (qAt (tX all b) E0 0 all vt J) k = lk p.env k := by
      intro J k hno
      rw [qAt_none all vt E0 0 J fun j oj hjJ hoj hs' hd => by
        rw [Nat.zero_add] at hs'
        have := (hno j oj hoj hd).1 hs'; omega]
      rw [hE0, lk_eput, if_neg fun hd => (hno b ob hbo hd).2.1 rfl, hEA]
      exact qAt_none all vs p.env 0 all.length fun j oj _ hoj hs' hd => by
        rw [Nat.zero_add, (hno j oj hoj hd).2.2] at hs'; cases hs'
    refine ⟨vs2, qAt (tX all b) E0 0 all vt all.length, hl2, getB, getA, fun i o v ha hne ho hv => ?_, fun k => ⟨fun j oj v hoj hd hv => slot _ k j oj v hoj hd hv fun _ => (List.getElem?_eq_some_iff.1 hoj).1, fun hno => slot0 _ k fun j oj hoj hd => absurd hd (hno j oj hoj)⟩, s', G2, by rw [t4]; cases ob.dst <;> exact hfu, hL, ⟨t5.1, t5.2.more fun k hk => ⟨hk.1, fun hb => hk.2 (.inl hb)⟩⟩, t6⟩
    have hi : i < all.length := (List.getElem?_eq_some_iff.1 ho).1
    have ht : tX all b i = true := by
      unfold tX
      have hb : Nat.beq i b = false := by rw [nbeq, beq_eq_false_iff_ne]; exact hne
      rw [ha, hb]; rfl
    obtain ⟨hbi, _⟩ := (chkA_spec hck ho).2 hne ha
    rw [getT i hi ha hne] at hv
    have := (t2 i o v ho hv (by rw [Nat.zero_add]; exact ht)).1
    rw [Nat.zero_add] at this
    refine ⟨_, fun k hk => ⟨fun j oj v hji hoj hd hv => slot _ k j oj v hoj hd hv fun _ => hji, fun hno => slot0 _ k fun j oj hoj hd => ?_⟩, this⟩
    have hij : i ≤ j := by
      rcases Nat.lt_or_ge j i with h1 | h1
      · exact absurd hd (hno j oj h1 hoj)
      · exact h1
    refine ⟨fun _ => hij, fun e => by omega, ?_⟩
    cases haj : aX all b j with
    | false => rfl
    | true =>
      exfalso
      rcases Nat.lt_or_ge i j with h1 | h1
      · obtain ⟨e1, he1, hon, hb1⟩ := edgeTo_spec ((qchk_pair hq ho hoj hd hk).2 h1)
        have := (chkA_spec hck hoj).1 (.inr haj) e1 he1 hb1
        rw [hon, ha] at this; cases this
      · have : j = i := by omega
        rw [this, ha] at haj; cases haj
  subst hall
  refine pw_big hT hmix (A := aX ops.toList b) (vs := vs) (kV := kV.map G.ι) (EB := EA) hq hbo hop hgd hgp hdst hvl (aX_self _ _) ?_ ?_ ?_ ?_
  · intro i o ha hne ho
    exact ((chkA_spec hck ho).2 hne ha).2
  · rw [hEA]; exact fitA b ob _ hbo (.inl rfl) (Nat.le_of_lt hbl) (fun _ => rfl) (fun h => absurd rfl h)
  · intro i o v ha ho hv
    have hne : i ≠ b := fun e => by rw [e, aX_self] at ha; cases ha
    obtain ⟨k1, xe, k2, k3⟩ := hvf i o v ho hv (by rw [Nat.zero_add]; exact ha)
    rw [Nat.zero_add] at k1 k3
    refine ⟨_, fitA i o i ho (.inr ha) (Nat.le_refl _) (fun e => absurd e hne) (fun _ => rfl), k1, ?_⟩
    rcases Bool.or_eq_true_iff.1 k3 with h1 | h1
    · exact .inl (behX_ok _ _ _ h1)
    · exact .inr ⟨late_fp k2 h1, (chkA_spec hck ho).1 (.inr ha)⟩
  · -- the call
    have hAl := fun k => hs1.2.al k
    have hN1 : s2.fu ≤ N := by
      unfold spillX at hsp
      rw [hfr1] at hsp
      simp only at hsp
      split at hsp
      · cases hsp; rw [e2]; exact hN
      · split at hsp
        · cases hsp; rw [e2]; exact hN
        · cases hsp
    have hfu1 : s2.fu = s.fu := by
      unfold spillX at hsp
      rw [hfr1] at hsp
      simp only at hsp
      split at hsp
      · cases hsp; exact e2
      · split at hsp
        · cases hsp; exact e2
        · cases hsp
    -- the slots without what was kept there
    have drop : ∀ (G' : Gn) (sh' : Sh) (nx' : Nat) (m' : Mem) (f2 : Fr) (sp : PV), f2.n = p.n → ReX G' sh' nx' m' f2.env ((p.n, sp) :: EA) → ReX G' sh' nx' m' ((f2.n, .any) :: f2.env) EA := by
      intro G' sh' nx' m' f2 sp h1 h2 k
      simp only [lkX, nbeq]
      by_cases e : f2.n = k
      · subst e; simp only [beq_self_eq_true, cond_true, RvX]
      · have hb : (f2.n == k) = false := by simpa using e
        rw [hb, cond_false]
        have := h2 k
        have hb2 : (p.n == k) = false := by rw [← h1]; exact hb
        simpa only [lk, hb2, cond_false] using this
    unfold spillX at hsp
    rw [hfr1] at hsp
    simp only at hsp
    cases kV with
    | none =>
      simp only [Option.some.injEq] at hsp
      subst hsp
      have hrf2 : RfX G (shB s1.m.bx) s1.m.nx ⟨p.m.nb + ops.toList.length, p.m.bx, p.m.ys⟩ (⟨f1.n, (f1.n, .b false) :: f1.env⟩ :: fs1) (⟨p.n, (p.n, .v (.bool false)) :: EA⟩ :: out) :=
        ⟨_, _, rfl, hfn1, by
          have hfn1' : f1.n = p.n := hfn1
          simp only [hfn1']
          exact hre1.cons (by simp only [RvX]) p.n, hrf1⟩
      refine (inl_ok (Y := Y) hT hE hr1 hN1 (fun fn c h1 h2 => hcut h fn c h1 h2) (B := Bi B p.m.nb ops.toList.length 0) (fun k hk => by
        rcases hk with h1 | h1
        · have := hB k h1; show k < p.m.nb + ops.toList.length; omega
        · exact h1.2) (y := none) trivial hrf2 hal hs1.2).mono ?_
      rintro pv m' ⟨v, xm', fr', fu', G', k1, k2, k3, k4, k5, k6⟩
      refine ⟨fun k hk => (by cases hk), ?_⟩
      cases fr' with
      | nil => cases k3
      | cons f2 fs2 =>
        obtain ⟨e, rr, j1, j2, j3, j4⟩ := k3
        cases j1
        have j2' : f2.n = p.n := j2
        have hsl := j3 f2.n
        have hlk : lk ((p.n, PV.v (.bool false)) :: EA) f2.n = .v (.bool false) := by rw [j2']; simp [lk]
        rw [hlk] at hsl
        unfold bigK at k6
        simp only [bigT, hmw] at k6
        split at k6
        · rename_i hx
          rw [hx] at hsl
          simp only [RvX] at hsl
          obtain ⟨_, e, _⟩ := hsl
          cases e
        · exact tail pv m' _ fs2 xm' fu' G' v (RelS.mk' (p := ⟨p.n, EA, m'⟩) (f := ⟨f2.n, (f2.n, .any) :: f2.env⟩) j2' (drop _ _ _ _ f2 _ j2' j3) j4 k4) k5 k6 (by rw [← e2]; exact k1) (fun j hj => k2 j (by simp only [List.length_cons]; omega))
        · cases k6
    | some k =>
      simp only at hsp
      split at hsp
      rotate_left
      · cases hsp
      rename_i xs hxs
      simp only [Option.some.injEq] at hsp
      subst hsp
      have hown : OwnX G s1.m.bx k := own_cells hxs
      obtain ⟨ps, hps, hxps⟩ := hs1.2.cells hxs
      have hkl := OwnX.lt hs1.2 hown
      have hAk := hs1.2.al k hown
      obtain ⟨z1, z2⟩ := hs1.2.set (b := .gone) (pb := .dead) (nb := p.m.nb + ops.toList.length) hown (.inl rfl) trivial
      have ownz : ∀ j, OwnX G (updB s1.m.bx k .gone) j → j ≠ k ∧ OwnX G s1.m.bx j := by
        intro j ho
        by_cases e : k = j
        · subst e; unfold OwnX at ho; rw [lkB_upd, if_pos rfl] at ho; exact ho.elim
        · rw [OwnX.upd_ne e] at ho; exact ⟨fun e' => e e'.symm, ho⟩
      have z3 := z1.less (A' := fun j => j < p.m.nb + ops.toList.length ∧ ¬ (Bi B p.m.nb ops.toList.length 0 j ∨ j = G.ι k)) (fun j ho => by
        obtain ⟨h1, h2⟩ := ownz j ho
        have := hs1.2.al j h2
        refine ⟨this.1, ?_⟩
        rintro (h3 | h3)
        · exact this.2 h3
        · exact h1 (hs1.2.inj j k h2 hown h3)) (fun j hj => by
        have := hs1.2.ha j hj
        refine ⟨this.1, ?_⟩
        rintro (h3 | h3)
        · exact this.2 h3
        · exact hs1.2.nh k hown (h3 ▸ hj)) (fun b n hP => by
        obtain ⟨p1, p2, p3, p4⟩ := hs1.2.pv b n hP
        refine ⟨p1.1, ?_⟩
        rintro (h3 | h3)
        · exact p1.2 h3
        · exact p3 k hown h3.symm)
      have hrf2 : RfX G (shB (updB s1.m.bx k .gone)) s1.m.nx ⟨p.m.nb + ops.toList.length, setB p.m.bx (G.ι k) .dead, p.m.ys⟩ (⟨f1.n, (f1.n, .tup [.ref k 0, .agg xs]) :: f1.env⟩ :: fs1) (⟨p.n, (p.n, .tup [.ref (G.ι k) 0, .agg ps]) :: EA⟩ :: out) :=
        ⟨_, _, rfl, hfn1, by
          have hfn1' : f1.n = p.n := hfn1
          simp only [hfn1']
          refine (hre1.mono z2).cons ?_ p.n
          simp only [RvX, RlX]
          exact ⟨_, rfl, _, _, rfl, ⟨hkl, rfl⟩, _, _, rfl, ⟨ps, rfl, RlX.mono z2 _ _ hxps⟩, rfl⟩, RfX.mono z2 hrf1⟩
      refine (SpecM.frame (k := G.ι k) hAk.1 (inl_ok (Y := Y) hT hE hr1 hN1 (fun fn c h1 h2 => hcut h fn c h1 h2) (B := fun j => Bi B p.m.nb ops.toList.length 0 j ∨ j = G.ι k) (m := ⟨p.m.nb + ops.toList.length, setB p.m.bx (G.ι k) .dead, p.m.ys⟩) (fun j hj => by
        rcases hj with (h1 | h1) | h1
        · have := hB j h1; show j < p.m.nb + ops.toList.length; omega
        · exact h1.2
        · rw [h1]; exact hAk.1) (y := none) trivial hrf2 (RlX.mono z2 _ _ hal) z3).withNb).mono ?_
      rintro pv m2 ⟨m', rfl, ⟨v, xm', fr', fu', G', k1, k2, k3, k4, k5, k6⟩, knb⟩
      refine ⟨fun j hj => ?_, ?_⟩
      · simp only [Option.map_some, Option.some.injEq] at hj
        subst hj
        exact setB_new _ _ _
      cases fr' with
      | nil => cases k3
      | cons f2 fs2 =>
        obtain ⟨e, rr, j1, j2, j3, j4⟩ := k3
        cases j1
        have j2' : f2.n = p.n := j2
        have hsl := j3 f2.n
        have hlk : lk ((p.n, PV.tup [.ref (G.ι k) 0, .agg ps]) :: EA) f2.n = .tup [.ref (G.ι k) 0, .agg ps] := by rw [j2']; simp [lk]
        rw [hlk] at hsl
        unfold bigK at k6
        simp only [bigT, hmw] at k6
        split at k6
        · rename_i k2' o2 xs2 hx
          rw [hx] at hsl
          simp only [RvX, RlX, PV.tup.injEq] at hsl
          obtain ⟨qs, hqs, q1, r1, e1', ⟨h1, h2⟩, q2, r2, e2', ⟨ps2, e3, h3⟩, e4⟩ := hsl
          subst hqs
          simp only [List.cons.injEq] at e1'
          obtain ⟨rfl, rfl⟩ := e1'
          simp only [List.cons.injEq] at e2'
          obtain ⟨rfl, rfl⟩ := e2'
          simp only [PV.agg.injEq] at e3
          subst e3
          have hι : G'.ι k2' = G.ι k := by injection h2 with h5 _; exact h5.symm
          split at k6
          rotate_left
          · cases k6
          rename_i hgone
          have hbx : p.m.bx (G.ι k) = .cells ps := hps
          obtain ⟨y1, y2, y3⟩ := k4.relay (A' := fun j => j < m'.nb ∧ ¬ Bi B p.m.nb ops.toList.length 0 j) (nb := m'.nb) h1 hgone (fun j hj => ⟨⟨hj.1, fun hb => hj.2 (.inl hb)⟩, fun e => hj.2 (.inr (by rw [e]; exact hι))⟩) (by
            rw [hι]
            exact ⟨Nat.lt_of_lt_of_le hAk.1 knb, hAk.2⟩) h3
          rw [hι] at y1 y2
          rw [← hbx] at y1 y2
          have rel : RelS (Bi B p.m.nb ops.toList.length 0) G' ⟨⟨f2.n, (f2.n, .any) :: f2.env⟩ :: fs2, xm'.upd k2' (.cells xs2), fu'⟩ ⟨p.n, EA, ⟨m'.nb, setB m'.bx (G.ι k) (p.m.bx (G.ι k)), m'.ys⟩⟩ out :=
            RelS.mk' (p := ⟨p.n, EA, ⟨m'.nb, setB m'.bx (G.ι k) (p.m.bx (G.ι k)), m'.ys⟩⟩) (f := ⟨f2.n, (f2.n, .any) :: f2.env⟩) j2' (fun q => RvX.sh y3 _ _ ((drop _ _ _ _ f2 _ j2' (j3.mono y2)) q)) (RfX.sh y3 _ _ (RfX.mono y2 j4)) y1
          exact tail pv _ _ fs2 _ fu' G' v rel (RvX.sh y3 _ _ (k5.mono y2)) k6 (by rw [← e2]; exact k1) (fun j hj => k2 j (by simp only [List.length_cons]; omega))
        · rename_i hx
          rw [hx] at hsl
          simp only [RvX] at hsl
          cases hsl
        · cases k6
end
end Go.Proofs.Ytcbhmedknbiffaa
