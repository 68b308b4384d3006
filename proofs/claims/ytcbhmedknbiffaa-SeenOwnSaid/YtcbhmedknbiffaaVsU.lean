/-
  The layer VS: a region that draws its order, and that makes and writes memory, where the edges keep in order whatever touches the same.
-/
import Derived.Test.YtcbhmedknbiffaaVsS
namespace Go.Proofs.Ytcbhmedknbiffaa
open Go Go.RowKit
structure LF where
  v : PV
  ws : List (Nat × Box)
  V : Nat → Prop
def keys (ws : List (Nat × Box)) : List Nat := ws.map Prod.fst
def SpecN (T : Tab) (P : Program) (Y : Nat → YS) (nm f : Nat) (args : List PV) (m : Mem) (v : PV) (ws : List (Nat × Box)) : Prop :=
  Enters P f ∧ ∀ (cx : Cx) (g : Gh) (w : World) (us : List Value), YOK T P Y cx g w → MR T cx g m w → DL g m → RL g w args us → ¬ g.dom nm →
    Calls P f us.toArray w fun e w' => ∃ u g', e = .returned u ∧ RV g' w' v u ∧ MR T cx g' ⟨m.nb, setBs m.bx ws, m.ys⟩ w' ∧ (∀ k, g'.dom k → g.dom k ∨ k = nm) ∧ EX cx g m w g' ⟨m.nb, setBs m.bx ws, m.ys⟩ w'
theorem SpecM.toN {T : Tab} {P : Program} {Y : Nat → YS} {nm f : Nat} {args : List PV} {m : Mem} {v : PV} (h : SpecM T P Y f args m (fun r m' => m' = m ∧ r = v)) : SpecN T P Y nm f args m v [] := by
  refine ⟨h.1, fun cx g w us hy hm hd hl _ => (h.2 cx g w us hy hm hd hl).mono ?_⟩
  rintro e w' ⟨u, r, g', m', he, hr, ⟨h1, h2, h3, h4, h5⟩, rfl, rfl⟩
  exact ⟨u, g', he, hr, h1, fun k hk => (h4 k hk).imp id fun h6 => absurd (h2 k hk) (by omega), h5⟩
def lop (T : Tab) (P : Program) (Y : Nat → YS) (m : Mem) (nm : Nat) (o : Oper) (env : List (Nat × PV)) (v : PV) (ws : List (Nat × Box)) : Prop :=
  match o.op with
  | .call ⟨.value f, args, _⟩ => (match peval T env f with
    | .clos g caps => SpecN T P Y nm g (args.toList.map (peval T env) ++ caps) m v ws
    | _ => False)
  | op => ∃ side : Prop, popv T (peval T env) m.bx nm op = some (side, v, ws) ∧ side
def lfact (T : Tab) (P : Program) (Y : Nat → YS) (all : List Oper) (n nb : Nat) (ys : Option Code) (nb0 i : Nat) (o : Oper) (env : List (Nat × PV)) (bx : Nat → Box) (r : LF) : Prop :=
  dstOK n o.dst = true ∧ match o.guard with
    | none => ∀ bx' : Nat → Box, (∀ b, r.V b → bx' b = bx b) → lop T P Y ⟨nb, bx', ys⟩ (nb0 + i) o (qenv all env o) r.v r.ws
    | some (j, want) => match gval all (qenv all env o) j with
      | some b => if b = some want then ∀ bx' : Nat → Box, (∀ b, r.V b → bx' b = bx b) → lop T P Y ⟨nb, bx', ys⟩ (nb0 + i) o (qenv all env o) r.v r.ws else r.v = .v (.tuple #[]) ∧ r.ws = []
      | none => False
def bxOf (p : Nat → Bool) : (Nat → Box) → Nat → List LF → Nat → Box
  | bx, _, [] => bx
  | bx, i, r :: rs => bxOf p (bif p i then setBs bx r.ws else bx) (i + 1) rs
def bxAt : (Nat → Box) → List LF → Nat → Nat → Box
  | bx, _, 0 => bx
  | bx, r :: rs, j + 1 => bxAt (setBs bx r.ws) rs j
  | bx, [], _ + 1 => bx
theorem setBs_ne : ∀ {ws : List (Nat × Box)} {bx : Nat → Box} {b : Nat}, b ∉ keys ws → setBs bx ws b = bx b
  | [], _, _, _ => rfl
  | (k, x) :: ws, bx, b, h => by
    simp only [keys, List.map_cons, List.mem_cons, not_or] at h
    simp only [setBs]
    rw [setBs_ne (ws := ws) h.2]
    have : (b == k) = false := by simpa using h.1
    simp [setB, this]
theorem setBs_congr : ∀ {ws : List (Nat × Box)} {bx bx' : Nat → Box} {b : Nat}, bx b = bx' b → setBs bx ws b = setBs bx' ws b
  | [], _, _, _, h => h
  | (k, x) :: ws, bx, bx', b, h => by
    simp only [setBs]
    refine setBs_congr (ws := ws) ?_
    simp only [setB, h]
theorem setBs_eq : ∀ {ws : List (Nat × Box)} {bx bx' : Nat → Box} {b : Nat}, b ∈ keys ws → setBs bx ws b = setBs bx' ws b
  | [], _, _, _, h => by simp [keys] at h
  | (k, x) :: ws, bx, bx', b, h => by
    simp only [setBs]
    by_cases e : b = k
    · refine setBs_congr (ws := ws) ?_
      subst e; simp [setB]
    · have hb : b ∈ keys ws := by
        simp only [keys, List.map_cons, List.mem_cons] at h
        exact h.resolve_left e
      exact setBs_eq hb
theorem bxOf_agree {p q : Nat → Bool} {b : Nat} : ∀ {rs : List LF} {bx bx' : Nat → Box} {i : Nat}, bx b = bx' b → (∀ j r, rs[j]? = some r → b ∈ keys r.ws → p (i + j) = q (i + j)) → bxOf p bx i rs b = bxOf q bx' i rs b
  | [], bx, bx', i, h, _ => h
  | r :: rs, bx, bx', i, h, hj => by
    simp only [bxOf]
    refine bxOf_agree ?_ (fun j r' hr hb => by have := hj (j + 1) r' (by simpa using hr) hb; rw [show i + 1 + j = i + (j + 1) by omega]; exact this)
    by_cases hb : b ∈ keys r.ws
    · have := hj 0 r rfl hb
      rw [Nat.add_zero] at this
      rw [this]
      cases q i with
      | true => exact setBs_eq hb
      | false => exact h
    · cases p i <;> cases q i <;> simp only [cond_true, cond_false] <;> (try rw [setBs_ne hb]) <;> (try rw [setBs_ne hb]) <;> exact h
theorem bxOf_last {p : Nat → Bool} {b : Nat} {r0 : LF} : ∀ {rs : List LF} {bx bx' : Nat → Box} {i j0 : Nat}, rs[j0]? = some r0 → p (i + j0) = true → b ∈ keys r0.ws → (∀ j r, j0 < j → rs[j]? = some r → b ∈ keys r.ws → p (i + j) = false) → bxOf p bx i rs b = setBs bx' r0.ws b
  | [], _, _, _, _, h, _, _, _ => by simp at h
  | r :: rs, bx, bx', i, 0, h, hp, hb, hj => by
    simp only [List.getElem?_cons_zero, Option.some.injEq] at h
    subst h
    rw [Nat.add_zero] at hp
    simp only [bxOf, hp, cond_true]
    have : bxOf p (setBs bx r.ws) (i + 1) rs b = bxOf (fun _ => false) (setBs bx r.ws) (i + 1) rs b :=
      bxOf_agree rfl (fun j r' hr hb' => by have := hj (j + 1) r' (by omega) (by simpa using hr) hb'; rw [show i + 1 + j = i + (j + 1) by omega]; exact this)
    rw [this]
    have none : ∀ (rs : List LF) (bx : Nat → Box) (i : Nat), bxOf (fun _ => false) bx i rs = bx := by
      intro rs
      induction rs with
      | nil => intro bx i; rfl
      | cons r rs ih => intro bx i; simp only [bxOf, cond_false]; exact ih bx (i + 1)
    rw [none]
    exact setBs_eq hb
  | r :: rs, bx, bx', i, j0 + 1, h, hp, hb, hj => by
    simp only [List.getElem?_cons_succ] at h
    simp only [bxOf]
    exact bxOf_last h (by rw [show i + 1 + j0 = i + (j0 + 1) by omega]; exact hp) hb (fun j r' hlt hr hb' => by have := hj (j + 1) r' (by omega) (by simpa using hr) hb'; rw [show i + 1 + j = i + (j + 1) by omega]; exact this)
theorem bxOf_add {p q : Nat → Bool} {rs : List LF} {bx : Nat → Box} {i0 : Nat} {r0 : LF} (h0 : rs[i0]? = some r0) (hq : q i0 = true) (hpq : ∀ j, j ≠ i0 → q j = p j) (hp : p i0 = false)
    (hd : ∀ j r b, i0 < j → rs[j]? = some r → b ∈ keys r0.ws → b ∈ keys r.ws → p j = false) : bxOf q bx 0 rs = setBs (bxOf p bx 0 rs) r0.ws := by
  funext b
  by_cases hb : b ∈ keys r0.ws
  · exact bxOf_last h0 (by rw [Nat.zero_add]; exact hq) hb (fun j r hlt hr hb' => by rw [Nat.zero_add, hpq j (by omega)]; exact hd j r b hlt hr hb hb')
  · rw [setBs_ne hb]
    refine bxOf_agree rfl fun j r hr hb' => ?_
    rw [Nat.zero_add]
    by_cases e : j = i0
    · subst e; rw [h0] at hr; cases hr; exact absurd hb' hb
    · exact hpq j e
theorem bxAt_of {rs : List LF} : ∀ {bx : Nat → Box} {i j : Nat}, bxAt bx rs j = bxOf (fun k => decide (k < i + j)) bx i rs := by
  induction rs with
  | nil => intro bx i j; cases j <;> rfl
  | cons r rs ih =>
    intro bx i j
    cases j with
    | zero =>
      simp only [bxAt, bxOf]
      have h1 : decide (i < i + 0) = false := by simp
      rw [h1, cond_false]
      have : ∀ (rs : List LF) (bx : Nat → Box) (k : Nat), i ≤ k → bxOf (fun k => decide (k < i + 0)) bx k rs = bx := by
        intro rs
        induction rs with
        | nil => intro bx k _; rfl
        | cons r rs ih =>
          intro bx k hk
          simp only [bxOf]
          have : decide (k < i + 0) = false := by simp; omega
          rw [this, cond_false]; exact ih bx (k + 1) (by omega)
      exact (this rs bx (i + 1) (by omega)).symm
    | succ j =>
      simp only [bxAt, bxOf]
      have h1 : decide (i < i + (j + 1)) = true := by simp
      rw [h1, cond_true, ih (i := i + 1) (j := j)]
      congr 1
      funext k
      congr 2
      omega
section
variable {T : Tab} {P : Program} {Y : Nat → YS}
inductive Behind (all : List Oper) : Oper → Nat → Prop where
  | one {o : Oper} {i : Nat} : edgeTo o i = true → Behind all o i
  | more {o o' : Oper} {k i : Nat} : edgeTo o k = true → all[k]? = some o' → Behind all o' i → Behind all o i
theorem Behind.listed {ops : Array Oper} {listed : Array Bool} (hcl : ∀ j o, listed.getD j false = true → ops[j]? = some o → ∀ e ∈ o.after, Region.binds .any e = true → listed.getD e.on false = true) {o : Oper} {i : Nat} (h : Behind ops.toList o i) :
    (∀ e ∈ o.after, Region.binds .any e = true → listed.getD e.on false = true) → listed.getD i false = true := by
  induction h with
  | one h =>
    intro hed
    obtain ⟨e, he, hon, hb⟩ := edgeTo_spec h
    rw [← hon]; exact hed e he hb
  | more h hk _ ih =>
    intro hed
    obtain ⟨e, he, hon, hb⟩ := edgeTo_spec h
    have hl := hed e he hb
    rw [hon] at hl
    exact ih fun e' he' hb' => hcl _ _ hl (by rw [← Array.getElem?_toList]; exact hk) e' he' hb'
def apart (all : List Oper) (rs : List LF) : Prop :=
  ∀ i j oi oj ri rj, i ≠ j → all[i]? = some oi → all[j]? = some oj → rs[i]? = some ri → rs[j]? = some rj → ∀ b, b ∈ keys ri.ws → (rj.V b ∨ b ∈ keys rj.ws) → (i < j → Behind all oj i) ∧ (j < i → Behind all oi j)
theorem loud_go (hT : TOK T P) {cx : Cx} {ops : Array Oper} {rs : List LF} {env0 : List (Nat × PV)} {n nb0 nb : Nat} {bx0 : Nat → Box} {ys : Option Code} (hlen : rs.length = ops.toList.length) (hchk : qchk ops.toList = true)
    (hf : ∀ i o r, ops.toList[i]? = some o → rs[i]? = some r → lfact T P Y ops.toList n nb ys nb0 i o (envAt env0 ops.toList (rs.map LF.v) i) (bxOf (fun k => decide (k < i)) bx0 0 rs) r) (hap : apart ops.toList rs) (hnb : nb0 + ops.size ≤ nb) {r : Option Nat} {nn : Nat} {Q : Exit → Act → World → Prop} :
    ∀ (fuel : Nat) (listed : Array Bool) (g : Gh) (a : Act) (w : World), YOK T P Y cx g w → listed.size = ops.size → (List.range ops.size).countP (fun j => !listed.getD j true) ≤ fuel →
      (∀ j o, listed.getD j false = true → ops[j]? = some o → ∀ e ∈ o.after, Region.binds .any e = true → listed.getD e.on false = true) →
      MR T cx g ⟨nb, bxOf (fun k => listed.getD k false) bx0 0 rs, ys⟩ w → DL g ⟨nb, bxOf (fun k => listed.getD k false) bx0 0 rs, ys⟩ → a.tmps.size = n → (∀ k, g.dom k → k < nb0 ∨ (∃ i, i < ops.size ∧ listed.getD i false = true ∧ k = nb0 + i) ∨ nb0 + ops.size ≤ k) →
      (∀ i o v d, listed.getD i false = true → ops[i]? = some o → (rs.map LF.v)[i]? = some v → o.dst = some d → RV g w v (a.tmps.getD d undef)) →
      (∀ k, (∀ i o, listed.getD i false = true → ops[i]? = some o → o.dst ≠ some k) → RV g w (lk env0 k) (a.tmps.getD k undef)) →
      (∀ g' a' w', MR T cx g' ⟨nb, bxAt bx0 rs ops.toList.length, ys⟩ w' → DL g' ⟨nb, bxAt bx0 rs ops.toList.length, ys⟩ → EnvOK g' w' (envAt env0 ops.toList (rs.map LF.v) ops.toList.length) a' → a'.tmps.size = n → EX cx g ⟨nb, bxOf (fun k => listed.getD k false) bx0 0 rs, ys⟩ w g' ⟨nb, bxAt bx0 rs ops.toList.length, ys⟩ w' → (∀ k, g'.dom k → g.dom k ∨ nb0 ≤ k) → a'.defers = a.defers → Q .normal a' w') →
      wpAnyIn (FW r) nn P .any ops Q fuel listed a w := by
  have hget : ∀ i, ops.toList[i]? = ops[i]? := fun i => by rw [Array.getElem?_toList]
  have hvl : (rs.map LF.v).length = ops.toList.length := by rw [List.length_map]; exact hlen
  have hrec : ∀ i, i < ops.size → ∃ x, rs[i]? = some x := fun i hi => by
    have : i < rs.length := by rw [hlen]; simpa using hi
    exact ⟨rs[i], List.getElem?_eq_getElem this⟩
  have hval : ∀ i, i < ops.size → ∃ v, (rs.map LF.v)[i]? = some v := fun i hi => by
    obtain ⟨x, hx⟩ := hrec i hi
    exact ⟨x.v, by rw [List.getElem?_map, hx]; rfl⟩
  have allL : ∀ listed : Array Bool, listed.size = ops.size → Region.ready .any ops listed = [] → ∀ i, i < ops.size → listed.getD i false = true := by
    intro listed hsz hr i
    induction i using Nat.strongRecOn with
    | _ i ih =>
      intro hi
      cases hl : listed.getD i true with
      | true => simpa [Array.getD, hsz, hi] using hl
      | false =>
        exfalso
        have ho : ops[i]? = some ops[i] := Array.getElem?_eq_getElem hi
        have : i ∈ Region.ready .any ops listed := mem_ready.2 ⟨hl, ops[i], ho, fun e he hb => by
          have hlt := (qchk_spec hchk ((hget i).trans ho)).1 e he hb
          exact ih e.on hlt (by omega)⟩
        rw [hr] at this; simp at this
  -- the slots that an operation looks at
  have look : ∀ (listed : Array Bool) (g : Gh) (a : Act) (w : World), listed.size = ops.size →
      (∀ j o, listed.getD j false = true → ops[j]? = some o → ∀ e ∈ o.after, Region.binds .any e = true → listed.getD e.on false = true) →
      (∀ i o v d, listed.getD i false = true → ops[i]? = some o → (rs.map LF.v)[i]? = some v → o.dst = some d → RV g w v (a.tmps.getD d undef)) →
      (∀ k, (∀ i o, listed.getD i false = true → ops[i]? = some o → o.dst ≠ some k) → RV g w (lk env0 k) (a.tmps.getD k undef)) →
      ∀ (i : Nat) (o : Oper), ops[i]? = some o → listed.getD i false = false → (∀ e ∈ o.after, Region.binds .any e = true → listed.getD e.on false = true) →
      EnvOK g w (qenv ops.toList (envAt env0 ops.toList (rs.map LF.v) i) o) a := by
    intro listed g a w hsz hcl h1 h2 i o ho hun hed k
    rcases mem_keep (env := envAt env0 ops.toList (rs.map LF.v) i) (l := opTmps o.op ++ glook ops.toList o) (k := k) with e | ⟨hk, e⟩
    · unfold qenv; rw [e]; simp only [RV]
    · unfold qenv; rw [e]
      by_cases hex : ∃ (j : Nat) (oj : Oper), ops[j]? = some oj ∧ oj.dst = some k ∧ j < i
      · obtain ⟨j, oj, hoj, hdj, hji⟩ := hex
        obtain ⟨v, hv⟩ := hval j (Array.getElem?_eq_some_iff.1 hoj).1
        obtain ⟨e1, he1, hon, hb1⟩ := edgeTo_spec ((qchk_pair hchk ((hget i).trans ho) ((hget j).trans hoj) hdj hk).1 hji)
        have hl := hed e1 he1 hb1
        rw [hon] at hl
        rw [lk_envAt_some ops.toList (rs.map LF.v) env0 i k j oj v hvl hji ((hget j).trans hoj) hdj hv (fun i' o' hne ho' => qchk_uniq hchk ho' ((hget j).trans hoj) hne hdj)]
        exact h1 j oj v k hl hoj hv hdj
      · rw [lk_envAt_none ops.toList (rs.map LF.v) env0 i k hvl (fun j oj hji hoj hd => hex ⟨j, oj, (hget j).symm.trans hoj, hd, hji⟩)]
        refine h2 k fun j oj hlj hoj hd => ?_
        rcases Nat.lt_trichotomy j i with hlt | heq | hgt
        · exact hex ⟨j, oj, hoj, hd, hlt⟩
        · subst heq; rw [hun] at hlj; cases hlj
        · obtain ⟨e1, he1, hon, hb1⟩ := edgeTo_spec ((qchk_pair hchk ((hget i).trans ho) ((hget j).trans hoj) hd hk).2 hgt)
          have := hcl j oj hlj hoj e1 he1 hb1
          rw [hon, hun] at this; cases this
  -- all done
  have fin : ∀ (listed : Array Bool) (g : Gh) (a : Act) (w : World), (∀ i, i < ops.size → listed.getD i false = true) →
      (∀ i o v d, listed.getD i false = true → ops[i]? = some o → (rs.map LF.v)[i]? = some v → o.dst = some d → RV g w v (a.tmps.getD d undef)) →
      (∀ k, (∀ i o, listed.getD i false = true → ops[i]? = some o → o.dst ≠ some k) → RV g w (lk env0 k) (a.tmps.getD k undef)) → EnvOK g w (envAt env0 ops.toList (rs.map LF.v) ops.toList.length) a := by
    intro listed g a w hall h1 h2 k
    by_cases hex : ∃ (j : Nat) (oj : Oper), ops[j]? = some oj ∧ oj.dst = some k
    · obtain ⟨j, oj, hoj, hdj⟩ := hex
      have hj := (Array.getElem?_eq_some_iff.1 hoj).1
      obtain ⟨v, hv⟩ := hval j hj
      rw [lk_envAt_some ops.toList (rs.map LF.v) env0 _ k j oj v hvl (by simpa using hj) ((hget j).trans hoj) hdj hv (fun i' o' hne ho' => qchk_uniq hchk ho' ((hget j).trans hoj) hne hdj)]
      exact h1 j oj v k (hall j hj) hoj hv hdj
    · rw [lk_envAt_none ops.toList (rs.map LF.v) env0 _ k hvl (fun j oj _ hoj hd => hex ⟨j, oj, (hget j).symm.trans hoj, hd⟩)]
      exact h2 k fun j oj _ hoj hd => hex ⟨j, oj, hoj, hd⟩
  have finB : ∀ listed : Array Bool, (∀ i, i < ops.size → listed.getD i false = true) → bxOf (fun k => listed.getD k false) bx0 0 rs = bxAt bx0 rs ops.toList.length := by
    intro listed hall
    rw [bxAt_of (i := 0)]
    funext b
    refine bxOf_agree rfl fun j x hx _ => ?_
    have hj : j < rs.length := (List.getElem?_eq_some_iff.1 hx).1
    rw [hlen] at hj
    rw [Nat.zero_add, Nat.zero_add, hall j (by simpa using hj)]
    simpa using hj
  intro fuel
  induction fuel with
  | zero =>
    intro listed g a w hy hsz hcnt hcl hm hd hn hdom h1 h2 hq
    have hall : ∀ i, i < ops.size → listed.getD i false = true := fun i hi => by
      have h0 : (List.range ops.size).countP (fun j => !listed.getD j true) = 0 := by omega
      have := List.countP_eq_zero.1 h0 i (List.mem_range.2 hi)
      simpa [Array.getD, hsz, hi] using this
    refine ⟨?_, ?_⟩
    · cases hr : Region.ready .any ops listed with
      | nil => rfl
      | cons i l =>
        have : i ∈ Region.ready .any ops listed := by rw [hr]; simp
        obtain ⟨k1, o, ho, _⟩ := mem_ready.1 this
        have hi := (Array.getElem?_eq_some_iff.1 ho).1
        have h2 := hall i hi
        simp only [Array.getD, hsz, hi, dif_pos] at k1 h2
        rw [k1] at h2; cases h2
    · rw [finB listed hall] at hm hd hq
      exact hq g a w hm hd (fin listed g a w hall h1 h2) hn (EX.refl _ _ _ _) (fun _ h => .inl h) rfl
  | succ fuel ih =>
    intro listed g a w hy hsz hcnt hcl hm hd hn hdom h1 h2 hq
    refine ⟨fun hr => ?_, fun i hi => ?_⟩
    · have hall := allL listed hsz hr
      rw [finB listed hall] at hm hd hq
      exact hq g a w hm hd (fin listed g a w hall h1 h2) hn (EX.refl _ _ _ _) (fun _ h => .inl h) rfl
    obtain ⟨hun, o, ho, hed⟩ := mem_ready.1 hi
    have hlt := (Array.getElem?_eq_some_iff.1 ho).1
    have hunf : listed.getD i false = false := by simpa [Array.getD, hsz, hlt] using hun
    obtain ⟨x, hx⟩ := hrec i hlt
    have hv : (rs.map LF.v)[i]? = some x.v := by rw [List.getElem?_map, hx]; rfl
    obtain ⟨hdst, hfact⟩ := hf i o x ((hget i).trans ho) hx
    have henv := look listed g a w hsz hcl h1 h2 i o ho hunf hed
    have hnm : ¬ g.dom (nb0 + i) := fun hk => by
      rcases hdom _ hk with h | ⟨j, hj, hlj, e⟩ | h
      · omega
      · have : j = i := by omega
        subst this; rw [hunf] at hlj; cases hlj
      · omega
    have set_i : (listed.setIfInBounds i true).getD i false = true := by simp [Array.getD, hsz, hlt]
    have set_o : ∀ j, j ≠ i → (listed.setIfInBounds i true).getD j false = listed.getD j false := fun j hj => getD_set_ne false (Ne.symm hj)
    have set_cases : ∀ j, (listed.setIfInBounds i true).getD j false = true → j = i ∨ listed.getD j false = true := fun j hj => by
      by_cases e : j = i
      · exact .inl e
      · rw [set_o j e] at hj; exact .inr hj
    -- what touches the same as this one
    have later : ∀ j y b, i < j → rs[j]? = some y → (b ∈ keys x.ws ∧ (y.V b ∨ b ∈ keys y.ws)) ∨ (b ∈ keys y.ws ∧ (x.V b ∨ b ∈ keys x.ws)) → listed.getD j false = false := by
      intro j y b hij hy' hb
      cases hl : listed.getD j false with
      | false => rfl
      | true =>
        exfalso
        have hj : j < ops.size := by
          have := (List.getElem?_eq_some_iff.1 hy').1
          rw [hlen] at this; simpa using this
        have hoj : ops[j]? = some ops[j] := Array.getElem?_eq_getElem hj
        have hedge : Behind ops.toList ops[j] i := by
          rcases hb with ⟨b1, b2⟩ | ⟨b1, b2⟩
          · exact (hap i j o ops[j] x y (by omega) ((hget i).trans ho) ((hget j).trans hoj) hx hy' b b1 b2).1 hij
          · exact (hap j i ops[j] o y x (by omega) ((hget j).trans hoj) ((hget i).trans ho) hy' hx b b1 b2).2 hij
        have := hedge.listed hcl fun e1 he1 hb1 => hcl j ops[j] hl hoj e1 he1 hb1
        rw [hunf] at this; cases this
    have agree : ∀ b, x.V b → bxOf (fun k => listed.getD k false) bx0 0 rs b = bxOf (fun k => decide (k < i)) bx0 0 rs b := by
      intro b hb
      refine bxOf_agree rfl fun j y hy' hby => ?_
      rw [Nat.zero_add]
      rcases Nat.lt_trichotomy j i with hji | rfl | hij
      · have hj : j < ops.size := by omega
        have hoj : ops[j]? = some ops[j] := Array.getElem?_eq_getElem hj
        have := ((hap j i ops[j] o y x (by omega) ((hget j).trans hoj) ((hget i).trans ho) hy' hx b hby (.inl hb)).1 hji).listed hcl hed
        show listed.getD j false = decide (j < i)
        rw [this]; simp [hji]
      · show listed.getD j false = decide (j < j)
        rw [hunf]; simp
      · show listed.getD j false = decide (j < i)
        rw [later j y b hij hy' (.inr ⟨hby, .inl hb⟩)]
        simp; omega
    have addB : bxOf (fun k => (listed.setIfInBounds i true).getD k false) bx0 0 rs = setBs (bxOf (fun k => listed.getD k false) bx0 0 rs) x.ws :=
      bxOf_add hx set_i (fun j hj => set_o j hj) hunf (fun j y b hij hy' hb hb' => later j y b hij hy' (.inl ⟨hb, .inr hb'⟩))
    have next : ∀ u g' w', (∀ d, o.dst = some d → RV g' w' x.v u) → MR T cx g' ⟨nb, setBs (bxOf (fun k => listed.getD k false) bx0 0 rs) x.ws, ys⟩ w' → DL g' ⟨nb, setBs (bxOf (fun k => listed.getD k false) bx0 0 rs) x.ws, ys⟩ →
        EX cx g ⟨nb, bxOf (fun k => listed.getD k false) bx0 0 rs, ys⟩ w g' ⟨nb, setBs (bxOf (fun k => listed.getD k false) bx0 0 rs) x.ws, ys⟩ w' → (∀ k, g'.dom k → g.dom k ∨ k = nb0 + i) → wpAnyIn (FW r) nn P .any ops Q fuel (listed.setIfInBounds i true) (a.put o.dst u) w' := by
      intro u g' w' hu hm' hd' hx' hdom'
      refine ih (listed.setIfInBounds i true) g' (a.put o.dst u) w' (hy.gx hx'.gx) (by simpa using hsz) ?_ ?_ (by rw [addB]; exact hm') (by rw [addB]; exact hd') (by rw [put_size]; exact hn) ?_ ?_ ?_ ?_
      · have := countP_less (p := fun j => !listed.getD j true) (q := fun j => !(listed.setIfInBounds i true).getD j true) (i := i) (l := List.range ops.size)
          (fun x hx => by
            by_cases e : x = i
            · subst e; simp [hun]
            · rw [getD_set_ne true (Ne.symm e)] at hx; exact hx) (List.mem_range.2 hlt) (by simp [hun]) (by simp [Array.getD, hsz, hlt])
        omega
      · intro j oj hj hoj e he hb
        by_cases ej : e.on = i
        · rw [ej]; exact set_i
        · rw [set_o _ ej]
          rcases set_cases j hj with rfl | hj'
          · rw [ho] at hoj; cases hoj; exact hed e he hb
          · exact hcl j oj hj' hoj e he hb
      · intro k hk
        rcases hdom' k hk with h | h
        · rcases hdom k h with h | ⟨j, hj, hlj, e⟩ | h
          · exact .inl h
          · exact .inr (.inl ⟨j, hj, getD_set_true hlj, e⟩)
          · exact .inr (.inr h)
        · exact .inr (.inl ⟨i, hlt, set_i, h⟩)
      · intro j oj vj d hj hoj hvj hdj
        rcases set_cases j hj with rfl | hj'
        · rw [ho] at hoj; cases hoj
          rw [hv] at hvj; cases hvj
          rw [hdj, put_getD_same hn (by rw [← hdj]; exact hdst)]; exact hu d hdj
        · by_cases e : j = i
          · subst e; rw [hunf] at hj'; cases hj'
          · rw [put_getD (qchk_uniq hchk ((hget i).trans ho) ((hget j).trans hoj) (Ne.symm e) hdj)]
            exact (h1 j oj vj d hj' hoj hvj hdj).mono hx'.gx
      · intro k hk
        rw [put_getD (hk i o set_i ho)]
        exact (h2 k fun j oj hj hoj => hk j oj (getD_set_true hj) hoj).mono hx'.gx
      · intro g2 a2 w2 j1 j2 j3 j4 j5 j6 j7
        rw [addB] at j5
        refine hq g2 a2 w2 j1 j2 j3 j4 (hx'.trans j5) (fun k hk => ?_) (j7.trans (put_defers _ _ _))
        rcases j6 k hk with h | h
        · rcases hdom' k h with h | h
          · exact .inl h
          · exact .inr (by omega)
        · exact .inr h
    -- the operation
    have run : lop T P Y ⟨nb, bxOf (fun k => listed.getD k false) bx0 0 rs, ys⟩ (nb0 + i) o (qenv ops.toList (envAt env0 ops.toList (rs.map LF.v) i) o) x.v x.ws → o.wpIn (FW r) nn P a w (wpAnyIn (FW r) nn P .any ops Q fuel (listed.setIfInBounds i true)) Q := by
      intro hop
      have hs : RS T cx g ⟨n, qenv ops.toList (envAt env0 ops.toList (rs.map LF.v) i) o, ⟨nb, bxOf (fun k => listed.getD k false) bx0 0 rs, ys⟩⟩ a w := ⟨hm, hd, henv, hn⟩
      have hρ : ∀ x, RV g w (peval T (qenv ops.toList (envAt env0 ops.toList (rs.map LF.v) i) o) x) (a.eval x) := peval_ok hm henv
      unfold lop at hop
      split at hop
      · rename_i f args ats hop'
        split at hop
        · rename_i gf caps hpe
          obtain ⟨hent, hcall⟩ := hop
          refine ⟨fun _ _ => trivial, ?_⟩
          have hnd : ∀ c, o.op ≠ .defer c := fun c => by rw [hop']; simp
          rw [Oper.semAt_eq _ _ _ hnd]
          have hf := hρ f
          rw [hpe] at hf
          simp only [RV] at hf
          obtain ⟨cs, hfv, hcl⟩ := hf
          have hargs : ∀ l : List Operand, RL g w (l.map (peval T (qenv ops.toList (envAt env0 ops.toList (rs.map LF.v) i) o))) (l.map a.eval) := by
            intro l
            induction l with
            | nil => simp [RL]
            | cons x l ih => simp only [List.map_cons, RL]; exact ⟨_, _, rfl, hρ x, ih⟩
          have hrun : (execOp a.eval o).run P w = .ok (.enter gf ((args.toList.map a.eval ++ cs).toArray)) w := by
            simp only [execOp, hop', resolve, hfv, Deferred.ofValue, Sem.run_bind, Sem.run_pure, Result.andThen_ok, invoke]
            rw [hent]
            congr 2
            apply Array.ext'; simp
          rw [hrun, Oper.uponIn_enter]
          refine ⟨fun h => (by cases h), callsFW ?_⟩
          refine (hcall cx g w (args.toList.map a.eval ++ cs) hy hm hd ((hargs _).append hcl) hnm).mono ?_
          rintro e w' ⟨u, g', rfl, hr, h1, h4, h5⟩
          exact next u g' w' (fun d _ => hr) h1 (fun k hk => by
            rcases h4 k hk with h6 | h6
            · exact hd k h6
            · rw [h6]; show nb0 + i < nb; omega) h5 h4
        · exact hop.elim
      rename_i hnc
      refine pop1_ok (F := fun s' => s' = St.put ⟨n, qenv ops.toList (envAt env0 ops.toList (rs.map LF.v) i) o, ⟨nb, bxOf (fun k => listed.getD k false) bx0 0 rs, ys⟩⟩ o.dst x.v ⟨nb, setBs (bxOf (fun k => listed.getD k false) bx0 0 rs) x.ws, ys⟩) hT hy hs hnm (by show nb0 + i < nb; omega) ?_ ?_
      · unfold pop1
        obtain ⟨side, hpv, hside⟩ := hop
        have : popE T (fun s' => s' = St.put ⟨n, qenv ops.toList (envAt env0 ops.toList (rs.map LF.v) i) o, ⟨nb, bxOf (fun k => listed.getD k false) bx0 0 rs, ys⟩⟩ o.dst x.v ⟨nb, setBs (bxOf (fun k => listed.getD k false) bx0 0 rs) x.ws, ys⟩) (nb0 + i) o ⟨n, qenv ops.toList (envAt env0 ops.toList (rs.map LF.v) i) o, ⟨nb, bxOf (fun k => listed.getD k false) bx0 0 rs, ys⟩⟩ := by
          unfold popE
          simp only [hpv]
          refine ⟨hside, hdst, ?_⟩
          first | rfl | trivial
        split
        · rename_i f args ats hop2; exact (hnc f args ats hop2).elim
        · exact this
      · rintro s' g' a' w' hs' hx' hnb' hdom' hdf' hn' rfl ⟨u, v2, m2, rfl, hu, hs2⟩
        have hm2 : m2 = ⟨nb, setBs (bxOf (fun k => listed.getD k false) bx0 0 rs) x.ws, ys⟩ ∧ (∀ d, o.dst = some d → v2 = x.v) := by
          cases hdd : o.dst with
          | none => rw [hdd] at hs2; simp only [St.put, St.mk.injEq] at hs2; exact ⟨hs2.2.2.symm, fun d hd => by cases hd⟩
          | some d => rw [hdd] at hs2; simp only [St.put, St.mk.injEq, List.cons.injEq, Prod.mk.injEq] at hs2; exact ⟨hs2.2.2.symm, fun _ _ => hs2.2.1.1.2.symm⟩
        have hmr := hs'.mr
        have hdl := hs'.dl
        rw [st_put_m] at hmr hdl hx' hnb'
        have hdm : ∀ k, g'.dom k → g.dom k ∨ k = nb0 + i := fun k hk => by
          rcases hdom' k hk with h | h | h
          · exact .inl h
          · exact .inr h
          · have := hdl k hk
            simp only at h this
            omega
        exact next u g' w' (fun d hd => hm2.2 d hd ▸ hu) hmr hdl hx' hdm
    unfold wpOpIn
    simp only [ho]
    cases hg : o.guard with
    | none =>
      rw [hg] at hfact
      have : Region.wanted o (yielded ops a.tmps) = true := by simp [Region.wanted, hg]
      rw [if_pos this]
      exact run (hfact _ agree)
    | some jw =>
      obtain ⟨j, want⟩ := jw
      rw [hg] at hfact
      simp only at hfact
      cases hgv : gval ops.toList (qenv ops.toList (envAt env0 ops.toList (rs.map LF.v) i) o) j with
      | none => rw [hgv] at hfact; exact hfact.elim
      | some b =>
        rw [hgv] at hfact
        simp only at hfact
        have hyv := gval_ok henv hgv
        by_cases hb : b = some want
        · rw [if_pos hb] at hfact
          have : Region.wanted o (yielded ops a.tmps) = true := by simp [Region.wanted, hg, hyv, hb]
          rw [if_pos this]
          exact run (hfact _ agree)
        · rw [if_neg hb] at hfact
          obtain ⟨f1, f2⟩ := hfact
          have : ¬ Region.wanted o (yielded ops a.tmps) = true := by simp [Region.wanted, hg, hyv, hb]
          rw [if_neg this]
          refine ⟨fun _ _ => trivial, next undef g w (fun _ _ => by rw [f1]; simp only [RV, undef]) ?_ ?_ ?_ (fun _ h => .inl h)⟩
          · rw [f2]; exact hm
          · rw [f2]; exact hd
          · rw [f2]; exact EX.refl _ _ _ _
theorem pw_loud (hT : TOK T P) (hmix : P.follows .mixedOrders = true) {id : Nat} {ops : Array Oper} {Q : Exit → St → Prop} {s : St} {rs : List LF} (hchk : qchk ops.toList = true) (hlen : rs.length = ops.toList.length)
    (hf : ∀ i o r, ops.toList[i]? = some o → rs[i]? = some r → lfact T P Y ops.toList s.n (s.m.nb + ops.toList.length) s.m.ys s.m.nb i o (envAt s.env ops.toList (rs.map LF.v) i) (bxAt s.m.bx rs i) r) (hap : apart ops.toList rs)
    (hQ : Q .normal ⟨s.n, envAt s.env ops.toList (rs.map LF.v) ops.toList.length, ⟨s.m.nb + ops.toList.length, bxAt s.m.bx rs ops.toList.length, s.m.ys⟩⟩) : PW T P Y (.region id ops true) Q s := by
  intro r n cx lo ds g a w hr hy hf0
  refine wpIn_region_any hmix ?_
  have hw : (({ w with drawn := w.drawn + 1 } : World)).heap = w.heap := rfl
  have hb0 : bxOf (fun k => (Array.replicate ops.size false).getD k false) s.m.bx 0 rs = s.m.bx := by
    have : (fun k => (Array.replicate ops.size false).getD k false) = fun k => decide (k < 0 + 0) := by
      funext k
      simp only [Array.getD, Array.size_replicate]
      split <;> simp
    rw [this, ← bxAt_of]
    cases rs <;> rfl
  have hex : EX cx g s.m w g ⟨s.m.nb + ops.toList.length, s.m.bx, s.m.ys⟩ { w with drawn := w.drawn + 1 } := (EX.of_heap (m := s.m) hw rfl rfl rfl).nb
  have hm0 : MR T cx g ⟨s.m.nb + ops.toList.length, s.m.bx, s.m.ys⟩ { w with drawn := w.drawn + 1 } := ((hf0.rs.reserve ops.toList.length).mr).of_heap hw
  refine loud_go hT (rs := rs) (env0 := s.env) (bx0 := s.m.bx) (ys := s.m.ys) (n := s.n) (nb0 := s.m.nb) (nb := s.m.nb + ops.toList.length) hlen hchk (fun i o x ho hx => by have := hf i o x ho hx; rw [bxAt_of (i := 0)] at this; simpa only [Nat.zero_add] using this) hap (by simp) ops.size _ g a _ (hy.gx hex.gx) (by simp) ?_ ?_ (by rw [hb0]; exact hm0)
    (by rw [hb0]; exact fun k hk => Nat.lt_of_lt_of_le (hf0.rs.dl k hk) (Nat.le_add_right _ _)) hf0.rs.sz (fun k hk => .inl (hf0.rs.dl k hk)) ?_ ?_ ?_
  · have := List.countP_le_length (p := fun j => !(Array.replicate ops.size false).getD j true) (l := List.range ops.size)
    simpa using this
  · intro j o hj
    exfalso
    simp only [Array.getD, Array.size_replicate] at hj
    split at hj <;> simp at hj
  · intro i o v d hj
    exfalso
    simp only [Array.getD, Array.size_replicate] at hj
    split at hj <;> simp at hj
  · intro k _
    exact (hf0.rs.env k).mono hex.gx
  · intro g' a' w' j1 j2 j3 j4 j5 j6 j7
    rw [hb0] at j5
    have hx : EX cx g s.m w g' ⟨s.m.nb + ops.toList.length, bxAt s.m.bx rs ops.toList.length, s.m.ys⟩ w' := hex.trans j5
    exact ⟨⟨s.n, envAt s.env ops.toList (rs.map LF.v) ops.toList.length, ⟨s.m.nb + ops.toList.length, bxAt s.m.bx rs ops.toList.length, s.m.ys⟩⟩, cx.fx, ds, g', fun _ h => h, hf0.fx_keep ⟨j1, j2, j3, j4⟩ hx j7, hx, Nat.le_add_right _ _, j6, rfl, hQ⟩
def pnm : PV → List Nat
  | .row k _ _ _ => [k]
  | .rp k _ _ _ => [k]
  | .ref k _ => [k]
  | .asl k _ _ _ => [k]
  | .mp k => [k]
  | _ => []
def pnmR : PV → List Nat
  | .row k _ _ _ => [k]
  | _ => []
def fpV (ρ : Operand → PV) : Op → List Nat
  | .load _ a => pnm (ρ a)
  | .store _ a _ => pnm (ρ a)
  | .slice _ x _ _ _ => pnmR (ρ x)
  | .insert _ x _ _ => pnm (ρ x)
  | .lookup _ x _ _ => pnm (ρ x)
  | .call c => match c.callee with
    | .builtin .append => (match c.args.toList with
      | [x, y] => pnm (ρ x) ++ pnm (ρ y)
      | _ => [])
    | .builtin .clear => (match c.args.toList with
      | [x] => pnm (ρ x)
      | _ => [])
    | _ => []
  | _ => []
def wpV (ρ : Operand → PV) : Op → List Nat
  | .store _ a _ => pnm (ρ a)
  | .insert _ x _ _ => pnm (ρ x)
  | .call c => match c.callee with
    | .builtin .append => (match c.args.toList with
      | [x, _] => pnm (ρ x)
      | _ => [])
    | .builtin .clear => (match c.args.toList with
      | [x] => pnm (ρ x)
      | _ => [])
    | _ => []
  | _ => []
theorem elems_agree {bx bx' : Nat → Box} {p : PV} (h : ∀ b ∈ pnmR p, bx' b = bx b) : elems bx' p = elems bx p := by
  cases p with
  | v x => cases x <;> first | rfl | (rename_i a n c; cases a <;> cases n <;> cases c <;> rfl)
  | row => simp only [pnmR, List.mem_singleton, forall_eq] at h; simp only [elems, h]
  | _ => rfl
theorem srcOf_agree {T : Tab} {e : Nat} {bx bx' : Nat → Box} {p : PV} (h : ∀ b ∈ pnm p, bx' b = bx b) : srcOf T e bx' p = srcOf T e bx p := by
  cases p with
  | v x => cases x <;> first | rfl | (rename_i a n c; cases a <;> cases n <;> cases c <;> rfl)
  | row => simp only [pnm, List.mem_singleton, forall_eq] at h; simp only [srcOf, elems, h]
  | asl => simp only [pnm, List.mem_singleton, forall_eq] at h; simp only [srcOf, h]
  | _ => rfl
theorem cellsAt_agree {bx bx' : Nat → Box} {p : PV} (h : ∀ b ∈ pnm p, bx' b = bx b) : cellsAt bx' p = cellsAt bx p := by
  cases p <;> first | rfl | (simp only [pnm, List.mem_singleton, forall_eq] at h; simp only [cellsAt, h])
theorem storeTo_agree {bx bx' : Nat → Box} {p : PV} {ys : List PV} (h : ∀ b ∈ pnm p, bx' b = bx b) : storeTo bx' p ys = storeTo bx p ys := by
  cases p <;> first | rfl | (simp only [pnm, List.mem_singleton, forall_eq] at h; simp only [storeTo, h])
theorem popv_agree {T : Tab} {ρ : Operand → PV} {bx bx' : Nat → Box} {nm : Nat} {op : Op} (h : ∀ b ∈ fpV ρ op, bx' b = bx b) : popv T ρ bx' nm op = popv T ρ bx nm op := by
  cases op <;> try rfl
  case load t a => simp only [fpV] at h; simp only [popv, cellsAt_agree h]
  case store t a x => simp only [fpV] at h; simp only [popv, storeTo_agree h]
  case insert t a k x =>
    simp only [fpV] at h
    simp only [popv]
    cases hp : ρ a with
    | mp b =>
      rw [hp] at h
      simp only [pnm, List.mem_singleton, forall_eq] at h
      cases ρ k with
      | v z => cases z <;> cases (T.at t).kind <;> first | rfl | simp only [h]
      | _ => rfl
    | _ => rfl
  case lookup t a k ok =>
    simp only [fpV] at h
    simp only [popv]
    cases hp : ρ a with
    | mp b =>
      rw [hp] at h
      simp only [pnm, List.mem_singleton, forall_eq] at h
      cases ρ k with
      | v z => cases z <;> cases (T.at t).kind <;> first | rfl | simp only [h]
      | _ => rfl
    | _ => rfl
  case slice t x lo hi mx =>
    simp only [fpV] at h
    simp only [popv]
    cases mx with
    | some _ => rfl
    | none =>
      simp only
      have key : ∀ p, (∀ b ∈ pnmR p, bx' b = bx b) → sliceV T ρ bx' t p lo hi = sliceV T ρ bx t p lo hi := by
        intro p hp
        have he := elems_agree hp
        unfold sliceV
        split
        · cases p <;> first | rfl | (simp only [he]; done) | (rename_i x; cases x <;> first | rfl | (rename_i a n c; cases a <;> cases n <;> cases c <;> rfl))
        · rfl
        · rfl
        · rfl
      rw [key _ h]
  case call c =>
    simp only [popv]
    cases hc : c.callee with
    | value f => rfl
    | builtin b =>
      cases b <;> try rfl
      case clear =>
        simp only
        split
        · rename_i t x ht hxy
          simp only [fpV, hc, hxy] at h
          split
          · rename_i e k sz i n hk hp
            rw [hp] at h
            simp only [pnm, List.mem_singleton, forall_eq] at h
            simp only [h]
          · rfl
        · rfl
      simp only
      split
      · rename_i t t' x y ht hxy
        simp only [fpV, hc, hxy] at h
        split
        · split
          · rename_i e hk
            unfold appendV
            rw [srcOf_agree (T := T) (e := e) (fun b hb => h b (List.mem_append_right _ hb))]
            have hx : ∀ b ∈ pnm (ρ x), bx' b = bx b := fun b hb => h b (List.mem_append_left _ hb)
            cases hp : ρ x with
            | row k sz i n =>
              rw [hp] at hx
              simp only [pnm, List.mem_singleton, forall_eq] at hx
              simp only [hx]
            | v z =>
              split
              · rfl
              · cases z <;> first | rfl | (rename_i a n c; cases a <;> cases n <;> cases c <;> rfl)
            | _ => rfl
          · rfl
        · rfl
      · rfl
    | _ => rfl
theorem keys_pure1 {x : Option (Prop × PV)} {a b ws} (h : pure1 x = some (a, b, ws)) : ws = [] := by
  unfold pure1 at h
  obtain ⟨y, _, e⟩ := Option.map_eq_some_iff.1 h
  cases e; rfl
theorem keys_pure2 {x : Option PV} {a b ws} (h : pure2 x = some (a, b, ws)) : ws = [] := by
  unfold pure2 at h
  obtain ⟨y, _, e⟩ := Option.map_eq_some_iff.1 h
  cases e; rfl
def mkOp : Op → Bool
  | .box _ _ => true
  | .alloc _ => true
  | .buildSlice _ _ _ => true
  | .makeMap _ _ => true
  | .makeSlice _ _ _ => true
  | .call c => match c.callee with
    | .builtin .append => true
    | _ => false
  | _ => false
theorem popv_keys {T : Tab} {ρ : Operand → PV} {bx : Nat → Box} {nm : Nat} {op : Op} {a : Prop} {v : PV} {ws : List (Nat × Box)} (h : popv T ρ bx nm op = some (a, v, ws)) : ∀ b ∈ keys ws, (b = nm ∧ mkOp op = true) ∨ b ∈ wpV ρ op := by
  have nil : ws = [] → ∀ b ∈ keys ws, (b = nm ∧ mkOp op = true) ∨ b ∈ wpV ρ op := by rintro rfl b hb; simp [keys] at hb
  have one : ∀ x, mkOp op = true → ws = [(nm, x)] → ∀ b ∈ keys ws, (b = nm ∧ mkOp op = true) ∨ b ∈ wpV ρ op := by rintro x hm rfl b hb; exact .inl ⟨by simpa [keys] using hb, hm⟩
  cases op with
  | move x => simp only [popv, Option.some.injEq, Prod.mk.injEq] at h; exact nil h.2.2.symm
  | assign x => simp only [popv, Option.some.injEq, Prod.mk.injEq] at h; exact nil h.2.2.symm
  | pick c x y => simp only [popv] at h; split at h <;> cases h; exact nil rfl
  | box t x => simp only [popv] at h; split at h <;> cases h; exact one _ rfl rfl
  | alloc e => simp only [popv] at h; split at h <;> cases h; exact one _ rfl rfl
  | build t ps => simp only [popv] at h; split at h; cases h; exact nil (keys_pure2 h)
  | buildSlice t len ps =>
    simp only [popv] at h
    split at h
    · split at h
      · cases h
      · obtain ⟨y, _, e⟩ := Option.map_eq_some_iff.1 h
        split at e <;> cases e <;> exact one _ rfl rfl
    · cases h
  | makeMap t r' =>
    simp only [popv] at h
    split at h
    · cases h
    · split at h
      · split at h <;> cases h; exact one _ rfl rfl
      · cases h
  | insert t a' k x =>
    simp only [popv] at h
    split at h
    · rename_i b kd n kt e hka _ _
      split at h
      · split at h <;> cases h
        intro b' hb
        right
        simp only [keys, List.map_cons, List.map_nil, List.mem_singleton] at hb
        subst hb
        simp only [wpV, hka, pnm, List.mem_singleton]
      · cases h
    · cases h
  | lookup t a' k ok =>
    simp only [popv] at h
    split at h
    · split at h
      · split at h <;> cases h; exact nil rfl
      · cases h
    · cases h
  | load t x => simp only [popv] at h; split at h; exact nil (keys_pure2 h); cases h
  | store t x y =>
    simp only [popv] at h
    split at h
    · split at h
      · obtain ⟨z, hz, e⟩ := Option.map_eq_some_iff.1 h
        cases e
        intro b hb
        right
        simp only [keys, List.map_cons, List.map_nil, List.mem_singleton] at hb
        subst hb
        simp only [wpV]
        unfold storeTo at hz
        split at hz
        · rename_i k off hp
          rw [hp]
          split at hz
          · split at hz <;> cases hz; simp [pnm]
          · cases hz
        · rename_i k sz i off hp
          rw [hp]
          split at hz
          · split at hz
            · split at hz <;> cases hz; simp [pnm]
            · cases hz
          · cases hz
        · cases hz
      · cases h
    · cases h
  | nilCheck x => simp only [popv] at h; split at h <;> cases h <;> exact nil rfl
  | binOp op t x y t' => simp only [popv] at h; split at h; exact nil (keys_pure1 h); (split at h; exact nil (keys_pure1 h); cases h); exact nil (keys_pure1 h)
  | unOp op t x => simp only [popv] at h; exact nil (keys_pure2 h)
  | convert s t x => simp only [popv] at h; split at h <;> cases h; exact nil rfl
  | makeFunc fn first cap => simp only [popv] at h; split at h <;> (try split at h) <;> cases h; exact nil rfl
  | makeSlice t l c => simp only [popv] at h; split at h <;> cases h; exact one _ rfl rfl
  | slice t x lo hi mx => simp only [popv] at h; split at h; cases h; exact nil (keys_pure1 h)
  | fieldAddr t x f => simp only [popv] at h; split at h; (split at h <;> cases h <;> exact nil rfl); cases h
  | field t x f => simp only [popv] at h; split at h; (split at h; exact nil (keys_pure2 h); cases h); cases h
  | indexAddr t x ix => simp only [popv] at h; split at h; exact nil (keys_pure1 h); cases h
  | index t x ix =>
    simp only [popv] at h
    split at h
    · obtain ⟨y, _, e⟩ := Option.map_eq_some_iff.1 h; cases e; exact nil rfl
    · cases h; exact nil rfl
    · cases h
  | extract x i => simp only [popv] at h; split at h; exact nil (keys_pure2 h); cases h
  | call c =>
    simp only [popv] at h
    split at h
    · split at h
      · split at h
        · split at h
          · cases h; exact nil rfl
          · cases h
        · cases h; exact nil rfl
        · cases h; exact nil rfl
        · cases h
      · cases h
    · rename_i hc
      split at h
      · rename_i t t' x y ht hxy
        split at h
        · split at h
          · rename_i e hk
            unfold appendV at h
            split at h
            · cases h
            · split at h
              · cases h; exact one _ (by simp only [mkOp, hc]) rfl
              · rename_i k sz i n hp
                split at h
                · split at h <;> cases h
                  intro b hb
                  simp only [keys, List.map_cons, List.map_nil, List.mem_cons, List.not_mem_nil, or_false] at hb
                  rcases hb with rfl | rfl
                  · right; simp only [wpV, hc, hxy, hp]; simp [pnm]
                  · exact .inl ⟨rfl, by simp only [mkOp, hc]⟩
                · cases h
              · cases h
          · cases h
        · cases h
      · cases h
    · rename_i hc
      split at h
      · rename_i t x ht hxy
        split at h
        · rename_i e k sz i n hk hp
          split at h
          · split at h
            · cases h
              intro b hb
              simp only [keys, List.map_cons, List.map_nil, List.mem_singleton] at hb
              subst hb
              right; simp only [wpV, hc, hxy, hp]; simp [pnm]
            · cases h
          · cases h
        · cases h
      · cases h
    · split at h
      · split at h
        · cases h; exact nil rfl
        · cases h
      · cases h
    · split at h
      · split at h
        · cases h; exact nil rfl
        · cases h
      · cases h
    · cases h
  | _ => simp only [popv] at h; cases h
end
end Go.Proofs.Ytcbhmedknbiffaa
