/-
  The layer VS: a region that draws its order and only reads, calls what is sealed.
-/
import Derived.Test.YtcbhmedknbiffaaVsR
import Derived.OrdersIn
namespace Go.Proofs.Ytcbhmedknbiffaa
open Go Go.RowKit
def otmp : Operand → List Nat
  | .tmp t => [t]
  | _ => []
def otmps : List Operand → List Nat
  | [] => []
  | x :: xs => otmp x ++ otmps xs
def opTmps : Op → List Nat
  | .move x => otmp x
  | .assign x => otmp x
  | .pick c a b => otmp c ++ (otmp a ++ otmp b)
  | .load _ a => otmp a
  | .binOp _ _ x y _ => otmp x ++ otmp y
  | .unOp _ _ x => otmp x
  | .indexAddr _ x i => otmp x ++ otmp i
  | .index _ x i => otmp x ++ otmp i
  | .fieldAddr _ x _ => otmp x
  | .field _ x _ => otmp x
  | .extract x _ => otmp x
  | .nilCheck x => otmp x
  | .convert _ _ x => otmp x
  | .call ⟨.value f, args, _⟩ => otmp f ++ otmps args.toList
  | .call ⟨.builtin _, args, _⟩ => otmps args.toList
  | op => otmps op.operands.toList
def glook (all : List Oper) (o : Oper) : List Nat :=
  match o.guard with
  | none => []
  | some (j, _) => match (all[j]?).bind (·.dst) with
    | some d => [d]
    | none => []
def qenv (all : List Oper) (env : List (Nat × PV)) (o : Oper) : List (Nat × PV) := keepEnv env (opTmps o.op ++ glook all o)
def edgeTo (o : Oper) (j : Nat) : Bool := o.after.toList.any fun e => e.on == j && Region.binds .any e
def qchkPair (all : List Oper) (i : Nat) (oi : Oper) (j : Nat) (oj : Oper) : Bool :=
  match oj.dst with
  | none => true
  | some d => (!(opTmps oi.op ++ glook all oi).contains d || (if j < i then edgeTo oi j else if i < j then edgeTo oj i else true)) && (i == j || oi.dst != some d)
def qchk (all : List Oper) : Bool :=
  all.zipIdx.all fun x => (x.1.after.toList.all fun e => !Region.binds .any e || decide (e.on < x.2)) && all.zipIdx.all fun y => qchkPair all x.2 x.1 y.2 y.1
def eput (env : List (Nat × PV)) (d : Option Nat) (v : PV) : List (Nat × PV) :=
  match d with
  | none => env
  | some d => (d, v) :: env
section
variable {T : Tab} {P : Program} {Y : Nat → YS}
def envAt : List (Nat × PV) → List Oper → List PV → Nat → List (Nat × PV)
  | env, _, _, 0 => env
  | env, o :: l, v :: vs, j + 1 => envAt (eput env o.dst v) l vs j
  | env, _, _, _ + 1 => env
theorem lk_eput (env : List (Nat × PV)) (d : Option Nat) (v : PV) (k : Nat) : lk (eput env d v) k = if d = some k then v else lk env k := by
  cases d with
  | none => simp [eput]
  | some d =>
    simp only [eput, lk]
    by_cases e : d = k
    · subst e; simp
    · have : (d == k) = false := by simpa using e
      simp [this, e]
theorem lk_envAt_none : ∀ (l : List Oper) (vs : List PV) (env : List (Nat × PV)) (j k : Nat), vs.length = l.length → (∀ i o, i < j → l[i]? = some o → o.dst ≠ some k) → lk (envAt env l vs j) k = lk env k
  | _, _, _, 0, _, _, _ => by simp only [envAt]
  | [], _, _, j + 1, _, _, _ => by simp only [envAt]
  | o :: l, [], env, j + 1, k, h, _ => by simp at h
  | o :: l, v :: vs, env, j + 1, k, h, hn => by
    simp only [envAt]
    rw [lk_envAt_none l vs _ j k (by simpa using h) (fun i o' hi ho => hn (i + 1) o' (by omega) (by simpa using ho)), lk_eput, if_neg (hn 0 o (by omega) rfl)]
theorem lk_envAt_some : ∀ (l : List Oper) (vs : List PV) (env : List (Nat × PV)) (j k i : Nat) (o : Oper) (v : PV), vs.length = l.length → i < j → l[i]? = some o → o.dst = some k → vs[i]? = some v →
    (∀ i' o', i' ≠ i → l[i']? = some o' → o'.dst ≠ some k) → lk (envAt env l vs j) k = v
  | _, _, _, 0, _, _, _, _, _, h, _, _, _, _ => by omega
  | [], _, _, j + 1, _, i, _, _, _, _, h, _, _, _ => by simp at h
  | o :: l, [], env, j + 1, k, _, _, _, h, _, _, _, _, _ => by simp at h
  | o :: l, v :: vs, env, j + 1, k, i, o1, v1, h, hi, ho, hd, hv, hn => by
    simp only [envAt]
    cases i with
    | zero =>
      simp only [List.getElem?_cons_zero, Option.some.injEq] at ho hv
      subst ho; subst hv
      rw [lk_envAt_none l vs _ j k (by simpa using h) (fun i o' _ ho => hn (i + 1) o' (by omega) (by simpa using ho)), lk_eput, if_pos hd]
    | succ i =>
      exact lk_envAt_some l vs _ j k i o1 v1 (by simpa using h) (by omega) (by simpa using ho) hd (by simpa using hv) (fun i' o' hne ho' => hn (i' + 1) o' (by omega) (by simpa using ho'))
theorem countP_less {p q : Nat → Bool} {i : Nat} : ∀ {l : List Nat}, (∀ x, q x = true → p x = true) → i ∈ l → p i = true → q i = false → l.countP q < l.countP p
  | [], _, h, _, _ => by simp at h
  | x :: l, hpq, h, hp, hq => by
    have hle : l.countP q ≤ l.countP p := List.countP_mono_left fun x _ hx => hpq x hx
    simp only [List.countP_cons]
    by_cases e : x = i
    · subst e; rw [hp, hq]; simp; omega
    · have := countP_less hpq ((List.mem_cons.1 h).resolve_left (Ne.symm e)) hp hq
      cases hqx : q x with
      | false => simp; omega
      | true => rw [hpq x hqx]; simp; omega
theorem mem_keep {env : List (Nat × PV)} {l : List Nat} {k : Nat} : lk (keepEnv env l) k = .any ∨ (k ∈ l ∧ lk (keepEnv env l) k = lk env k) := by
  induction l with
  | nil => exact .inl rfl
  | cons j l ih =>
    simp only [keepEnv, lk]
    by_cases e : j = k
    · subst e; right; exact ⟨by simp, by simp⟩
    · have : (j == k) = false := by simpa using e
      rw [this]
      rcases ih with h | ⟨h1, h2⟩
      · exact .inl h
      · exact .inr ⟨by simp [h1], h2⟩
theorem qchk_spec {all : List Oper} (h : qchk all = true) {i : Nat} {oi : Oper} (hi : all[i]? = some oi) :
    (∀ e ∈ oi.after, Region.binds .any e = true → e.on < i) ∧ ∀ (j : Nat) (oj : Oper), all[j]? = some oj → qchkPair all i oi j oj = true := by
  have h1 := List.all_eq_true.1 h (oi, i) (List.mem_zipIdx_iff_getElem?.2 hi)
  simp only [Bool.and_eq_true] at h1
  obtain ⟨h1, h2⟩ := h1
  refine ⟨fun e he hb => ?_, fun j oj hj => List.all_eq_true.1 h2 (oj, j) (List.mem_zipIdx_iff_getElem?.2 hj)⟩
  have := List.all_eq_true.1 h1 e (Array.mem_toList_iff.2 he)
  simpa [hb] using this
theorem qchk_pair {all : List Oper} (h : qchk all = true) {i j d : Nat} {oi oj : Oper} (hi : all[i]? = some oi) (hj : all[j]? = some oj) (hd : oj.dst = some d) (hl : d ∈ opTmps oi.op ++ glook all oi) :
    (j < i → edgeTo oi j = true) ∧ (i < j → edgeTo oj i = true) := by
  have := (qchk_spec h hi).2 j oj hj
  have hc : (opTmps oi.op ++ glook all oi).contains d = true := List.contains_iff_mem.2 hl
  simp only [qchkPair, hd, hc, Bool.not_true, Bool.false_or, Bool.and_eq_true] at this
  refine ⟨fun hlt => ?_, fun hlt => ?_⟩
  · have h1 := this.1; rw [if_pos hlt] at h1; exact h1
  · have h1 := this.1; rw [if_neg (by omega), if_pos hlt] at h1; exact h1
theorem qchk_uniq {all : List Oper} (h : qchk all = true) {i j d : Nat} {oi oj : Oper} (hi : all[i]? = some oi) (hj : all[j]? = some oj) (hne : i ≠ j) (hd : oj.dst = some d) : oi.dst ≠ some d := by
  have := (qchk_spec h hi).2 j oj hj
  simp only [qchkPair, hd, Bool.and_eq_true, Bool.or_eq_true] at this
  rcases this.2 with h1 | h1
  · exact absurd (by simpa using h1) hne
  · simpa using h1
theorem edgeTo_spec {o : Oper} {j : Nat} (h : edgeTo o j = true) : ∃ e ∈ o.after, e.on = j ∧ Region.binds .any e = true := by
  obtain ⟨e, he, hb⟩ := List.any_eq_true.1 h
  simp only [Bool.and_eq_true, beq_iff_eq] at hb
  exact ⟨e, Array.mem_toList_iff.1 he, hb⟩
theorem put_getD {a : Act} {d : Option Nat} {u : Value} {k : Nat} (h : d ≠ some k) : (a.put d u).tmps.getD k undef = a.tmps.getD k undef := by
  cases d with
  | none => rfl
  | some d =>
    have : d ≠ k := fun e => h (by rw [e])
    simp [Act.put, Array.getD_eq_getD_getElem?, Array.getElem?_setIfInBounds_ne this]
theorem put_getD_same {a : Act} {d n : Nat} {u : Value} (hs : a.tmps.size = n) (h : dstOK n (some d) = true) : (a.put (some d) u).tmps.getD d undef = u := by
  simp only [dstOK, decide_eq_true_eq] at h
  simp [Act.put, Array.getD_eq_getD_getElem?, hs, h]
end
end Go.Proofs.Ytcbhmedknbiffaa
