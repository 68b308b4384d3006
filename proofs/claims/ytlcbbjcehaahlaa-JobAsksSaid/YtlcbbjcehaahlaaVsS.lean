/-
  The layer VS: a region that draws its order and only reads, calls what is sealed.
-/
import Derived.Test.YtlcbbjcehaahlaaVsR
import Derived.OrdersIn
namespace Go.Proofs.Ytlcbbjcehaahlaa
open Go Go.RowKit

def otmp : Operand → List Nat
  | .tmp t => [t]
  | _ => []
def otmps : List Operand → List Nat
  | [] => []
  | x :: xs => otmp x ++ otmps xs
def opTmps : Op → List Nat
  | .move x => otmp x
  | .assign x => otmp x
  | .pick c a b => otmp c ++ (otmp a ++ otmp b)
  | .load _ a => otmp a
  | .binOp _ _ x y _ => otmp x ++ otmp y
  | .unOp _ _ x => otmp x
  | .indexAddr _ x i => otmp x ++ otmp i
  | .index _ x i => otmp x ++ otmp i
  | .fieldAddr _ x _ => otmp x
  | .field _ x _ => otmp x
  | .extract x _ => otmp x
  | .nilCheck x => otmp x
  | .convert _ _ x => otmp x
  | .call ⟨.value f, args, _⟩ => otmp f ++ otmps args.toList
  | .call ⟨.builtin _, args, _⟩ => otmps args.toList
  | op => otmps op.operands.toList
def glook (all : List Oper) (o : Oper) : List Nat :=
  match o.guard with
  | none => []
  | some (j, _) => match (all[j]?).bind (·.dst) with
    | some d => [d]
    | none => []

def qenv (all : List Oper) (env : List (Nat × PV)) (o : Oper) : List (Nat × PV) := keepEnv env (opTmps o.op ++ glook all o)

/-! ### The check: edges where slots are shared -/

def edgeTo (o : Oper) (j : Nat) : Bool := o.after.toList.any fun e => e.on == j && Region.binds .any e
def qchkPair (all : List Oper) (i : Nat) (oi : Oper) (j : Nat) (oj : Oper) : Bool :=
  match oj.dst with
  | none => true
  | some d => (!(opTmps oi.op ++ glook all oi).contains d || (if j < i then edgeTo oi j else if i < j then edgeTo oj i else true)) && (i == j || oi.dst != some d)
def qchk (all : List Oper) : Bool :=
  all.zipIdx.all fun x => (x.1.after.toList.all fun e => !Region.binds .any e || decide (e.on < x.2)) && all.zipIdx.all fun y => qchkPair all x.2 x.1 y.2 y.1

/-! ### The pure walk -/

def qcall (T : Tab) (P : Program) (Y : Nat → YS) (f : Nat) (args : List PV) (m : Mem) (F : PV → Prop) : Prop :=
  ∃ r, SpecM T P Y f args m (fun r' m' => m' = m ∧ r' = r) ∧ F r

def qop1 (T : Tab) (P : Program) (Y : Nat → YS) (m : Mem) (nm : Nat) (o : Oper) (env : List (Nat × PV)) (F : PV → Prop) : Prop :=
  match o.op with
  | .call ⟨.value f, args, _⟩ => (match peval T env f with
    | .clos g caps => qcall T P Y g (args.toList.map (peval T env) ++ caps) m F
    | _ => False)
  | op => match popv T (peval T env) m.bx nm op with
    | some (side, v, []) => side ∧ F v
    | _ => False

def eput (env : List (Nat × PV)) (d : Option Nat) (v : PV) : List (Nat × PV) :=
  match d with
  | none => env
  | some d => (d, v) :: env

def qnx (G : List (Nat × PV) → Prop) (env : List (Nat × PV)) (d : Option Nat) (v : PV) : Prop := G (eput env d v)

def qops (T : Tab) (P : Program) (Y : Nat → YS) (all : List Oper) (n : Nat) (m : Mem) (nb0 : Nat) (K : List (Nat × PV) → Prop) : Nat → List Oper → List (Nat × PV) → Prop
  | _, [], env => K env
  | i, o :: r, env => dstOK n o.dst = true ∧ match o.guard with
    | none => qop1 T P Y m (nb0 + i) o (qenv all env o) (qnx (qops T P Y all n m nb0 K (i + 1) r) env o.dst)
    | some (j, want) => match gval all (qenv all env o) j with
      | some b => if b = some want then qop1 T P Y m (nb0 + i) o (qenv all env o) (qnx (qops T P Y all n m nb0 K (i + 1) r) env o.dst) else qops T P Y all n m nb0 K (i + 1) r (eput env o.dst (.v (.tuple #[])))
      | none => False

def qK (Q : Exit → St → Prop) (n : Nat) (m : Mem) (env : List (Nat × PV)) : Prop := Q .normal ⟨n, env, m⟩

/-! ### It is sound -/

section
variable {T : Tab} {P : Program} {Y : Nat → YS}

def qfact (T : Tab) (P : Program) (Y : Nat → YS) (all : List Oper) (n : Nat) (m : Mem) (nb0 i : Nat) (o : Oper) (env : List (Nat × PV)) (v : PV) : Prop :=
  dstOK n o.dst = true ∧ match o.guard with
    | none => qop1 T P Y m (nb0 + i) o (qenv all env o) (· = v)
    | some (j, want) => match gval all (qenv all env o) j with
      | some b => if b = some want then qop1 T P Y m (nb0 + i) o (qenv all env o) (· = v) else v = .v (.tuple #[])
      | none => False

theorem qop1_val {m nm o env} {F : PV → Prop} (h : qop1 T P Y m nm o env F) : ∃ v, F v ∧ qop1 T P Y m nm o env (· = v) := by
  unfold qop1 at h ⊢
  split at h
  · split at h
    · obtain ⟨r, h1, h2⟩ := h
      exact ⟨r, h2, ⟨r, h1, rfl⟩⟩
    · exact h.elim
  · rename_i hnc
    split at h
    · rename_i side v hx
      exact ⟨v, h.2, ⟨h.1, rfl⟩⟩
    · exact h.elim

def envAt : List (Nat × PV) → List Oper → List PV → Nat → List (Nat × PV)
  | env, _, _, 0 => env
  | env, o :: l, v :: vs, j + 1 => envAt (eput env o.dst v) l vs j
  | env, _, _, _ + 1 => env

theorem qops_run {all n m nb0 K} : ∀ (l : List Oper) (i : Nat) (env : List (Nat × PV)), qops T P Y all n m nb0 K i l env →
    ∃ vs : List PV, vs.length = l.length ∧ (∀ j o v, l[j]? = some o → vs[j]? = some v → qfact T P Y all n m nb0 (i + j) o (envAt env l vs j) v) ∧ K (envAt env l vs l.length)
  | [], i, env, h => ⟨[], rfl, fun j o v hj => by simp at hj, h⟩
  | o :: l, i, env, h => by
    obtain ⟨hd, h⟩ := h
    have key : ∀ v, qfact T P Y all n m nb0 i o env v → qops T P Y all n m nb0 K (i + 1) l (eput env o.dst v) → ∃ vs : List PV, vs.length = (o :: l).length ∧ (∀ j o' v, (o :: l)[j]? = some o' → vs[j]? = some v → qfact T P Y all n m nb0 (i + j) o' (envAt env (o :: l) vs j) v) ∧ K (envAt env (o :: l) vs (o :: l).length) := by
      intro v hv hn
      obtain ⟨vs, h1, h2, h3⟩ := qops_run l (i + 1) _ hn
      refine ⟨v :: vs, by simp [h1], fun j o' v' hj hv' => ?_, h3⟩
      cases j with
      | zero => simp only [List.getElem?_cons_zero, Option.some.injEq] at hj hv'; subst hj; subst hv'; exact hv
      | succ j => simp only [List.getElem?_cons_succ] at hj hv'; have := h2 j o' v' hj hv'; rw [show i + (j + 1) = i + 1 + j by omega]; exact this
    cases hg : o.guard with
    | none =>
      rw [hg] at h
      obtain ⟨v, hF, hv⟩ := qop1_val h
      exact key v ⟨hd, by rw [hg]; exact hv⟩ hF
    | some jw =>
      obtain ⟨j, want⟩ := jw
      rw [hg] at h
      simp only at h
      cases hgv : gval all (qenv all env o) j with
      | none => rw [hgv] at h; exact h.elim
      | some b =>
        rw [hgv] at h
        simp only at h
        by_cases hb : b = some want
        · rw [if_pos hb] at h
          obtain ⟨v, hF, hv⟩ := qop1_val h
          exact key v ⟨hd, by rw [hg]; simp only [hgv]; rw [if_pos hb]; exact hv⟩ hF
        · rw [if_neg hb] at h
          exact key (.v (.tuple #[])) ⟨hd, by rw [hg]; simp only [hgv]; rw [if_neg hb]; trivial⟩ h

theorem lk_eput (env : List (Nat × PV)) (d : Option Nat) (v : PV) (k : Nat) : lk (eput env d v) k = if d = some k then v else lk env k := by
  cases d with
  | none => simp [eput]
  | some d =>
    simp only [eput, lk]
    by_cases e : d = k
    · subst e; simp
    · have : (d == k) = false := by simpa using e
      simp [this, e]

theorem lk_envAt_none : ∀ (l : List Oper) (vs : List PV) (env : List (Nat × PV)) (j k : Nat), vs.length = l.length → (∀ i o, i < j → l[i]? = some o → o.dst ≠ some k) → lk (envAt env l vs j) k = lk env k
  | _, _, _, 0, _, _, _ => by simp only [envAt]
  | [], _, _, j + 1, _, _, _ => by simp only [envAt]
  | o :: l, [], env, j + 1, k, h, _ => by simp at h
  | o :: l, v :: vs, env, j + 1, k, h, hn => by
    simp only [envAt]
    rw [lk_envAt_none l vs _ j k (by simpa using h) (fun i o' hi ho => hn (i + 1) o' (by omega) (by simpa using ho)), lk_eput, if_neg (hn 0 o (by omega) rfl)]

theorem lk_envAt_some : ∀ (l : List Oper) (vs : List PV) (env : List (Nat × PV)) (j k i : Nat) (o : Oper) (v : PV), vs.length = l.length → i < j → l[i]? = some o → o.dst = some k → vs[i]? = some v →
    (∀ i' o', i' ≠ i → l[i']? = some o' → o'.dst ≠ some k) → lk (envAt env l vs j) k = v
  | _, _, _, 0, _, _, _, _, _, h, _, _, _, _ => by omega
  | [], _, _, j + 1, _, i, _, _, _, _, h, _, _, _ => by simp at h
  | o :: l, [], env, j + 1, k, _, _, _, h, _, _, _, _, _ => by simp at h
  | o :: l, v :: vs, env, j + 1, k, i, o1, v1, h, hi, ho, hd, hv, hn => by
    simp only [envAt]
    cases i with
    | zero =>
      simp only [List.getElem?_cons_zero, Option.some.injEq] at ho hv
      subst ho; subst hv
      rw [lk_envAt_none l vs _ j k (by simpa using h) (fun i o' _ ho => hn (i + 1) o' (by omega) (by simpa using ho)), lk_eput, if_pos hd]
    | succ i =>
      exact lk_envAt_some l vs _ j k i o1 v1 (by simpa using h) (by omega) (by simpa using ho) hd (by simpa using hv) (fun i' o' hne ho' => hn (i' + 1) o' (by omega) (by simpa using ho'))

theorem countP_less {p q : Nat → Bool} {i : Nat} : ∀ {l : List Nat}, (∀ x, q x = true → p x = true) → i ∈ l → p i = true → q i = false → l.countP q < l.countP p
  | [], _, h, _, _ => by simp at h
  | x :: l, hpq, h, hp, hq => by
    have hle : l.countP q ≤ l.countP p := List.countP_mono_left fun x _ hx => hpq x hx
    simp only [List.countP_cons]
    by_cases e : x = i
    · subst e; rw [hp, hq]; simp; omega
    · have := countP_less hpq ((List.mem_cons.1 h).resolve_left (Ne.symm e)) hp hq
      cases hqx : q x with
      | false => simp; omega
      | true => rw [hpq x hqx]; simp; omega

theorem mem_keep {env : List (Nat × PV)} {l : List Nat} {k : Nat} : lk (keepEnv env l) k = .any ∨ (k ∈ l ∧ lk (keepEnv env l) k = lk env k) := by
  induction l with
  | nil => exact .inl rfl
  | cons j l ih =>
    simp only [keepEnv, lk]
    by_cases e : j = k
    · subst e; right; exact ⟨by simp, by simp⟩
    · have : (j == k) = false := by simpa using e
      rw [this]
      rcases ih with h | ⟨h1, h2⟩
      · exact .inl h
      · exact .inr ⟨by simp [h1], h2⟩

theorem qchk_spec {all : List Oper} (h : qchk all = true) {i : Nat} {oi : Oper} (hi : all[i]? = some oi) :
    (∀ e ∈ oi.after, Region.binds .any e = true → e.on < i) ∧ ∀ (j : Nat) (oj : Oper), all[j]? = some oj → qchkPair all i oi j oj = true := by
  have h1 := List.all_eq_true.1 h (oi, i) (List.mem_zipIdx_iff_getElem?.2 hi)
  simp only [Bool.and_eq_true] at h1
  obtain ⟨h1, h2⟩ := h1
  refine ⟨fun e he hb => ?_, fun j oj hj => List.all_eq_true.1 h2 (oj, j) (List.mem_zipIdx_iff_getElem?.2 hj)⟩
  have := List.all_eq_true.1 h1 e (Array.mem_toList_iff.2 he)
  simpa [hb] using this

theorem qchk_pair {all : List Oper} (h : qchk all = true) {i j d : Nat} {oi oj : Oper} (hi : all[i]? = some oi) (hj : all[j]? = some oj) (hd : oj.dst = some d) (hl : d ∈ opTmps oi.op ++ glook all oi) :
    (j < i → edgeTo oi j = true) ∧ (i < j → edgeTo oj i = true) := by
  have := (qchk_spec h hi).2 j oj hj
  have hc : (opTmps oi.op ++ glook all oi).contains d = true := List.contains_iff_mem.2 hl
  simp only [qchkPair, hd, hc, Bool.not_true, Bool.false_or, Bool.and_eq_true] at this
  refine ⟨fun hlt => ?_, fun hlt => ?_⟩
  · have h1 := this.1; rw [if_pos hlt] at h1; exact h1
  · have h1 := this.1; rw [if_neg (by omega), if_pos hlt] at h1; exact h1

theorem qchk_uniq {all : List Oper} (h : qchk all = true) {i j d : Nat} {oi oj : Oper} (hi : all[i]? = some oi) (hj : all[j]? = some oj) (hne : i ≠ j) (hd : oj.dst = some d) : oi.dst ≠ some d := by
  have := (qchk_spec h hi).2 j oj hj
  simp only [qchkPair, hd, Bool.and_eq_true, Bool.or_eq_true] at this
  rcases this.2 with h1 | h1
  · exact absurd (by simpa using h1) hne
  · simpa using h1

theorem edgeTo_spec {o : Oper} {j : Nat} (h : edgeTo o j = true) : ∃ e ∈ o.after, e.on = j ∧ Region.binds .any e = true := by
  obtain ⟨e, he, hb⟩ := List.any_eq_true.1 h
  simp only [Bool.and_eq_true, beq_iff_eq] at hb
  exact ⟨e, Array.mem_toList_iff.1 he, hb⟩

theorem put_getD {a : Act} {d : Option Nat} {u : Value} {k : Nat} (h : d ≠ some k) : (a.put d u).tmps.getD k undef = a.tmps.getD k undef := by
  cases d with
  | none => rfl
  | some d =>
    have : d ≠ k := fun e => h (by rw [e])
    simp [Act.put, Array.getD_eq_getD_getElem?, Array.getElem?_setIfInBounds_ne this]

theorem put_getD_same {a : Act} {d n : Nat} {u : Value} (hs : a.tmps.size = n) (h : dstOK n (some d) = true) : (a.put (some d) u).tmps.getD d undef = u := by
  simp only [dstOK, decide_eq_true_eq] at h
  simp [Act.put, Array.getD_eq_getD_getElem?, hs, h]

theorem quiet_go (hT : TOK T P) {cx : Cx} {ops : Array Oper} {vs : List PV} {env0 : List (Nat × PV)} {n nb0 : Nat} {m : Mem} (hlen : vs.length = ops.toList.length) (hchk : qchk ops.toList = true)
    (hf : ∀ i o v, ops.toList[i]? = some o → vs[i]? = some v → qfact T P Y ops.toList n m nb0 i o (envAt env0 ops.toList vs i) v) (hnb : nb0 + ops.size ≤ m.nb) {r : Option Nat} {nn : Nat} {Q : Exit → Act → World → Prop} :
    ∀ (fuel : Nat) (listed : Array Bool) (g : Gh) (a : Act) (w : World), YOK T P Y cx g w → listed.size = ops.size → (List.range ops.size).countP (fun j => !listed.getD j true) ≤ fuel →
      (∀ j o, listed.getD j false = true → ops[j]? = some o → ∀ e ∈ o.after, Region.binds .any e = true → listed.getD e.on false = true) →
      MR T cx g m w → DL g m → a.tmps.size = n → (∀ k, g.dom k → k < nb0 ∨ (∃ i, i < ops.size ∧ listed.getD i false = true ∧ k = nb0 + i) ∨ nb0 + ops.size ≤ k) →
      (∀ i o v d, listed.getD i false = true → ops[i]? = some o → vs[i]? = some v → o.dst = some d → RV g w v (a.tmps.getD d undef)) →
      (∀ k, (∀ i o, listed.getD i false = true → ops[i]? = some o → o.dst ≠ some k) → RV g w (lk env0 k) (a.tmps.getD k undef)) →
      (∀ g' a' w', MR T cx g' m w' → DL g' m → EnvOK g' w' (envAt env0 ops.toList vs ops.toList.length) a' → a'.tmps.size = n → EX cx g m w g' m w' → (∀ k, g'.dom k → g.dom k ∨ nb0 ≤ k) → a'.defers = a.defers → Q .normal a' w') →
      wpAnyIn (FW r) nn P .any ops Q fuel listed a w := by
  have hget : ∀ i, ops.toList[i]? = ops[i]? := fun i => by rw [Array.getElem?_toList]
  have hval : ∀ i, i < ops.size → ∃ v, vs[i]? = some v := fun i hi => by
    have : i < vs.length := by rw [hlen]; simpa using hi
    exact ⟨vs[i], List.getElem?_eq_getElem this⟩
  have allL : ∀ listed : Array Bool, listed.size = ops.size → Region.ready .any ops listed = [] → ∀ i, i < ops.size → listed.getD i false = true := by
    intro listed hsz hr i
    induction i using Nat.strongRecOn with
    | _ i ih =>
      intro hi
      cases hl : listed.getD i true with
      | true => simpa [Array.getD, hsz, hi] using hl
      | false =>
        exfalso
        have ho : ops[i]? = some ops[i] := Array.getElem?_eq_getElem hi
        have : i ∈ Region.ready .any ops listed := mem_ready.2 ⟨hl, ops[i], ho, fun e he hb => by
          have hlt := (qchk_spec hchk ((hget i).trans ho)).1 e he hb
          exact ih e.on hlt (by omega)⟩
        rw [hr] at this; simp at this
  -- the slots that an operation looks at
  have look : ∀ (listed : Array Bool) (g : Gh) (a : Act) (w : World), listed.size = ops.size →
      (∀ j o, listed.getD j false = true → ops[j]? = some o → ∀ e ∈ o.after, Region.binds .any e = true → listed.getD e.on false = true) →
      (∀ i o v d, listed.getD i false = true → ops[i]? = some o → vs[i]? = some v → o.dst = some d → RV g w v (a.tmps.getD d undef)) →
      (∀ k, (∀ i o, listed.getD i false = true → ops[i]? = some o → o.dst ≠ some k) → RV g w (lk env0 k) (a.tmps.getD k undef)) →
      ∀ (i : Nat) (o : Oper), ops[i]? = some o → listed.getD i false = false → (∀ e ∈ o.after, Region.binds .any e = true → listed.getD e.on false = true) →
      EnvOK g w (qenv ops.toList (envAt env0 ops.toList vs i) o) a := by
    intro listed g a w hsz hcl h1 h2 i o ho hun hed k
    rcases mem_keep (env := envAt env0 ops.toList vs i) (l := opTmps o.op ++ glook ops.toList o) (k := k) with e | ⟨hk, e⟩
    · unfold qenv; rw [e]; simp only [RV]
    · unfold qenv; rw [e]
      by_cases hex : ∃ (j : Nat) (oj : Oper), ops[j]? = some oj ∧ oj.dst = some k ∧ j < i
      · obtain ⟨j, oj, hoj, hdj, hji⟩ := hex
        obtain ⟨v, hv⟩ := hval j (Array.getElem?_eq_some_iff.1 hoj).1
        obtain ⟨e1, he1, hon, hb1⟩ := edgeTo_spec ((qchk_pair hchk ((hget i).trans ho) ((hget j).trans hoj) hdj hk).1 hji)
        have hl := hed e1 he1 hb1
        rw [hon] at hl
        rw [lk_envAt_some ops.toList vs env0 i k j oj v hlen hji ((hget j).trans hoj) hdj hv (fun i' o' hne ho' => qchk_uniq hchk ho' ((hget j).trans hoj) hne hdj)]
        exact h1 j oj v k hl hoj hv hdj
      · rw [lk_envAt_none ops.toList vs env0 i k hlen (fun j oj hji hoj hd => hex ⟨j, oj, (hget j).symm.trans hoj, hd, hji⟩)]
        refine h2 k fun j oj hlj hoj hd => ?_
        rcases Nat.lt_trichotomy j i with hlt | heq | hgt
        · exact hex ⟨j, oj, hoj, hd, hlt⟩
        · subst heq; rw [hun] at hlj; cases hlj
        · obtain ⟨e1, he1, hon, hb1⟩ := edgeTo_spec ((qchk_pair hchk ((hget i).trans ho) ((hget j).trans hoj) hd hk).2 hgt)
          have := hcl j oj hlj hoj e1 he1 hb1
          rw [hon, hun] at this; cases this
  -- all done
  have fin : ∀ (listed : Array Bool) (g : Gh) (a : Act) (w : World), (∀ i, i < ops.size → listed.getD i false = true) →
      (∀ i o v d, listed.getD i false = true → ops[i]? = some o → vs[i]? = some v → o.dst = some d → RV g w v (a.tmps.getD d undef)) →
      (∀ k, (∀ i o, listed.getD i false = true → ops[i]? = some o → o.dst ≠ some k) → RV g w (lk env0 k) (a.tmps.getD k undef)) → EnvOK g w (envAt env0 ops.toList vs ops.toList.length) a := by
    intro listed g a w hall h1 h2 k
    by_cases hex : ∃ (j : Nat) (oj : Oper), ops[j]? = some oj ∧ oj.dst = some k
    · obtain ⟨j, oj, hoj, hdj⟩ := hex
      have hj := (Array.getElem?_eq_some_iff.1 hoj).1
      obtain ⟨v, hv⟩ := hval j hj
      rw [lk_envAt_some ops.toList vs env0 _ k j oj v hlen (by simpa using hj) ((hget j).trans hoj) hdj hv (fun i' o' hne ho' => qchk_uniq hchk ho' ((hget j).trans hoj) hne hdj)]
      exact h1 j oj v k (hall j hj) hoj hv hdj
    · rw [lk_envAt_none ops.toList vs env0 _ k hlen (fun j oj _ hoj hd => hex ⟨j, oj, (hget j).symm.trans hoj, hd⟩)]
      exact h2 k fun j oj _ hoj hd => hex ⟨j, oj, hoj, hd⟩
  intro fuel
  induction fuel with
  | zero =>
    intro listed g a w hy hsz hcnt hcl hm hd hn hdom h1 h2 hq
    have hall : ∀ i, i < ops.size → listed.getD i false = true := fun i hi => by
      have h0 : (List.range ops.size).countP (fun j => !listed.getD j true) = 0 := by omega
      have := List.countP_eq_zero.1 h0 i (List.mem_range.2 hi)
      simpa [Array.getD, hsz, hi] using this
    refine ⟨?_, hq g a w hm hd (fin listed g a w hall h1 h2) hn (EX.refl _ _ _ _) (fun _ h => .inl h) rfl⟩
    cases hr : Region.ready .any ops listed with
    | nil => rfl
    | cons i l =>
      have : i ∈ Region.ready .any ops listed := by rw [hr]; simp
      obtain ⟨k1, o, ho, _⟩ := mem_ready.1 this
      have hi := (Array.getElem?_eq_some_iff.1 ho).1
      have h2 := hall i hi
      simp only [Array.getD, hsz, hi, dif_pos] at k1 h2
      rw [k1] at h2; cases h2
  | succ fuel ih =>
    intro listed g a w hy hsz hcnt hcl hm hd hn hdom h1 h2 hq
    refine ⟨fun hr => hq g a w hm hd (fin listed g a w (allL listed hsz hr) h1 h2) hn (EX.refl _ _ _ _) (fun _ h => .inl h) rfl, fun i hi => ?_⟩
    obtain ⟨hun, o, ho, hed⟩ := mem_ready.1 hi
    have hlt := (Array.getElem?_eq_some_iff.1 ho).1
    have hunf : listed.getD i false = false := by simpa [Array.getD, hsz, hlt] using hun
    obtain ⟨v, hv⟩ := hval i hlt
    obtain ⟨hdst, hfact⟩ := hf i o v ((hget i).trans ho) hv
    have henv := look listed g a w hsz hcl h1 h2 i o ho hunf hed
    have hnm : ¬ g.dom (nb0 + i) := fun hk => by
      rcases hdom _ hk with h | ⟨j, hj, hlj, e⟩ | h
      · omega
      · have : j = i := by omega
        subst this; rw [hunf] at hlj; cases hlj
      · omega
    have set_i : (listed.setIfInBounds i true).getD i false = true := by simp [Array.getD, hsz, hlt]
    have set_o : ∀ j, j ≠ i → (listed.setIfInBounds i true).getD j false = listed.getD j false := fun j hj => getD_set_ne false (Ne.symm hj)
    have set_cases : ∀ j, (listed.setIfInBounds i true).getD j false = true → j = i ∨ listed.getD j false = true := fun j hj => by
      by_cases e : j = i
      · exact .inl e
      · rw [set_o j e] at hj; exact .inr hj
    have next : ∀ u g' w', (∀ d, o.dst = some d → RV g' w' v u) → MR T cx g' m w' → DL g' m → EX cx g m w g' m w' → (∀ k, g'.dom k → g.dom k ∨ k = nb0 + i) → wpAnyIn (FW r) nn P .any ops Q fuel (listed.setIfInBounds i true) (a.put o.dst u) w' := by
      intro u g' w' hu hm' hd' hx' hdom'
      refine ih (listed.setIfInBounds i true) g' (a.put o.dst u) w' (hy.gx hx'.gx) (by simpa using hsz) ?_ ?_ hm' hd' (by rw [put_size]; exact hn) ?_ ?_ ?_ ?_
      · have := countP_less (p := fun j => !listed.getD j true) (q := fun j => !(listed.setIfInBounds i true).getD j true) (i := i) (l := List.range ops.size)
          (fun x hx => by
            by_cases e : x = i
            · subst e; simp [hun]
            · rw [getD_set_ne true (Ne.symm e)] at hx; exact hx) (List.mem_range.2 hlt) (by simp [hun]) (by simp [Array.getD, hsz, hlt])
        omega
      · intro j oj hj hoj e he hb
        by_cases ej : e.on = i
        · rw [ej]; exact set_i
        · rw [set_o _ ej]
          rcases set_cases j hj with rfl | hj'
          · rw [ho] at hoj; cases hoj; exact hed e he hb
          · exact hcl j oj hj' hoj e he hb
      · intro k hk
        rcases hdom' k hk with h | h
        · rcases hdom k h with h | ⟨j, hj, hlj, e⟩ | h
          · exact .inl h
          · exact .inr (.inl ⟨j, hj, getD_set_true hlj, e⟩)
          · exact .inr (.inr h)
        · exact .inr (.inl ⟨i, hlt, set_i, h⟩)
      · intro j oj vj d hj hoj hvj hdj
        rcases set_cases j hj with rfl | hj'
        · rw [ho] at hoj; cases hoj
          rw [hv] at hvj; cases hvj
          rw [hdj, put_getD_same hn (by rw [← hdj]; exact hdst)]; exact hu d hdj
        · by_cases e : j = i
          · subst e; rw [hunf] at hj'; cases hj'
          · rw [put_getD (qchk_uniq hchk ((hget i).trans ho) ((hget j).trans hoj) (Ne.symm e) hdj)]
            exact (h1 j oj vj d hj' hoj hvj hdj).mono hx'.gx
      · intro k hk
        rw [put_getD (hk i o set_i ho)]
        exact (h2 k fun j oj hj hoj => hk j oj (getD_set_true hj) hoj).mono hx'.gx
      · intro g2 a2 w2 j1 j2 j3 j4 j5 j6 j7
        refine hq g2 a2 w2 j1 j2 j3 j4 (hx'.trans j5) (fun k hk => ?_) (j7.trans (put_defers _ _ _))
        rcases j6 k hk with h | h
        · rcases hdom' k h with h | h
          · exact .inl h
          · exact .inr (by omega)
        · exact .inr h
    -- the operation
    have run : qop1 T P Y m (nb0 + i) o (qenv ops.toList (envAt env0 ops.toList vs i) o) (· = v) → o.wpIn (FW r) nn P a w (wpAnyIn (FW r) nn P .any ops Q fuel (listed.setIfInBounds i true)) Q := by
      intro hop
      have hs : RS T cx g ⟨n, qenv ops.toList (envAt env0 ops.toList vs i) o, m⟩ a w := ⟨hm, hd, henv, hn⟩
      refine pop1_ok (F := fun s' => s' = St.put ⟨n, qenv ops.toList (envAt env0 ops.toList vs i) o, m⟩ o.dst v m) hT hy hs hnm (by show nb0 + i < m.nb; omega) ?_ ?_
      · unfold qop1 at hop
        unfold pop1
        split at hop
        · split at hop
          · rename_i hop' _ _ _ hpe
            obtain ⟨rr, hsp, rfl⟩ := hop
            simp only [hop', popC, hpe]
            refine ⟨hdst, hsp.mono ?_⟩
            rintro r' m' ⟨rfl, rfl⟩
            rfl
          · exact hop.elim
        · rename_i hnc
          split at hop
          · rename_i side v' hpv
            obtain ⟨hside, rfl⟩ := hop
            have : popE T (fun s' => s' = St.put ⟨n, qenv ops.toList (envAt env0 ops.toList vs i) o, m⟩ o.dst v' m) (nb0 + i) o ⟨n, qenv ops.toList (envAt env0 ops.toList vs i) o, m⟩ := by
              unfold popE
              simp only [hpv]
              exact ⟨hside, hdst, rfl⟩
            split
            · rename_i f args ats hop2; exact (hnc f args ats hop2).elim
            · exact this
          · exact hop.elim
      · rintro s' g' a' w' hs' hx' hnb' hdom' hdf' hn' rfl ⟨u, v2, m2, rfl, hu, hs2⟩
        have hm2 : m2 = m ∧ (∀ d, o.dst = some d → v2 = v) := by
          cases hdd : o.dst with
          | none => rw [hdd] at hs2; simp only [St.put, St.mk.injEq] at hs2; exact ⟨hs2.2.2.symm, fun d hd => by cases hd⟩
          | some d => rw [hdd] at hs2; simp only [St.put, St.mk.injEq, List.cons.injEq, Prod.mk.injEq] at hs2; exact ⟨hs2.2.2.symm, fun _ _ => hs2.2.1.1.2.symm⟩
        have hmr := hs'.mr
        have hdl := hs'.dl
        rw [st_put_m] at hmr hdl hx' hnb'
        have hdm : ∀ k, g'.dom k → g.dom k ∨ k = nb0 + i := fun k hk => by
          rcases hdom' k hk with h | h | h
          · exact .inl h
          · exact .inr h
          · have := hdl k hk
            simp only at h
            omega
        exact next u g' w' (fun d hd => hm2.2 d hd ▸ hu) hmr hdl hx' hdm
    unfold wpOpIn
    simp only [ho]
    cases hg : o.guard with
    | none =>
      rw [hg] at hfact
      have : Region.wanted o (yielded ops a.tmps) = true := by simp [Region.wanted, hg]
      rw [if_pos this]
      exact run hfact
    | some jw =>
      obtain ⟨j, want⟩ := jw
      rw [hg] at hfact
      simp only at hfact
      cases hgv : gval ops.toList (qenv ops.toList (envAt env0 ops.toList vs i) o) j with
      | none => rw [hgv] at hfact; exact hfact.elim
      | some b =>
        rw [hgv] at hfact
        simp only at hfact
        have hyv := gval_ok henv hgv
        by_cases hb : b = some want
        · rw [if_pos hb] at hfact
          have : Region.wanted o (yielded ops a.tmps) = true := by simp [Region.wanted, hg, hyv, hb]
          rw [if_pos this]
          exact run hfact
        · rw [if_neg hb] at hfact
          subst hfact
          have : ¬ Region.wanted o (yielded ops a.tmps) = true := by simp [Region.wanted, hg, hyv, hb]
          rw [if_neg this]
          exact ⟨fun _ _ => trivial, next undef g w (fun _ _ => by simp only [RV, undef]) hm hd (EX.refl _ _ _ _) (fun _ h => .inl h)⟩

/-- **A region that draws its order.** -/
theorem pw_quiet (hT : TOK T P) (hmix : P.follows .mixedOrders = true) {id : Nat} {ops : Array Oper} {Q : Exit → St → Prop} {s : St} (hchk : qchk ops.toList = true)
    (h : qops T P Y ops.toList s.n ⟨s.m.nb + ops.toList.length, s.m.bx, s.m.ys⟩ s.m.nb (qK Q s.n ⟨s.m.nb + ops.toList.length, s.m.bx, s.m.ys⟩) 0 ops.toList s.env) : PW T P Y (.region id ops true) Q s := by
  intro r n cx lo ds g a w hr hy hf
  obtain ⟨vs, hlen, hfacts, hK⟩ := qops_run _ _ _ h
  refine wpIn_region_any hmix ?_
  have hw : (({ w with drawn := w.drawn + 1 } : World)).heap = w.heap := rfl
  have hex : EX cx g s.m w g ⟨s.m.nb + ops.toList.length, s.m.bx, s.m.ys⟩ { w with drawn := w.drawn + 1 } := (EX.of_heap (m := s.m) hw rfl rfl rfl).nb
  have hm0 : MR T cx g ⟨s.m.nb + ops.toList.length, s.m.bx, s.m.ys⟩ { w with drawn := w.drawn + 1 } := ((hf.rs.reserve ops.toList.length).mr).of_heap hw
  refine quiet_go hT hlen hchk (fun i o v ho hv => by have := hfacts i o v ho hv; rwa [Nat.zero_add] at this) (by simp) ops.size _ g a _ (hy.gx hex.gx) (by simp) ?_ ?_ hm0
    (fun k hk => Nat.lt_of_lt_of_le (hf.rs.dl k hk) (Nat.le_add_right _ _)) hf.rs.sz (fun k hk => .inl (hf.rs.dl k hk)) ?_ ?_ ?_
  · have := List.countP_le_length (p := fun j => !(Array.replicate ops.size false).getD j true) (l := List.range ops.size)
    simpa using this
  · intro j o hj
    exfalso
    simp only [Array.getD, Array.size_replicate] at hj
    split at hj <;> simp at hj
  · intro i o v d hj
    exfalso
    simp only [Array.getD, Array.size_replicate] at hj
    split at hj <;> simp at hj
  · intro k _
    exact (hf.rs.env k).mono hex.gx
  · intro g' a' w' j1 j2 j3 j4 j5 j6 j7
    have hx : EX cx g s.m w g' ⟨s.m.nb + ops.toList.length, s.m.bx, s.m.ys⟩ w' := hex.trans j5
    exact ⟨⟨s.n, envAt s.env ops.toList vs ops.toList.length, ⟨s.m.nb + ops.toList.length, s.m.bx, s.m.ys⟩⟩, cx.fx, ds, g', fun _ h => h, hf.fx_keep ⟨j1, j2, j3, j4⟩ hx j7, hx, Nat.le_add_right _ _, j6, rfl, hK⟩

end
end Go.Proofs.Ytlcbbjcehaahlaa
