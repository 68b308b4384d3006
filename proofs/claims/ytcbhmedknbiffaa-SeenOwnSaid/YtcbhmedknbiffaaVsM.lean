/-
  The operations of the layer VS are sound: each operation that is no call.
-/
import Derived.Test.YtcbhmedknbiffaaVsL
namespace Go.Proofs.Ytcbhmedknbiffaa
open Go Go.RowKit
theorem RL.get_v {g w} {xs : List PV} {cs : List Value} (h : RL g w xs cs) {i : Nat} {x : PV} (hx : xs[i]? = some x) : ∃ c, cs[i]? = some c ∧ RV g w x c := RL.get h i x hx
section
variable {T : Tab} {P : Program} {cx : Cx} {g : Gh} {m : Mem} {w : World} {nm : Nat}
theorem globOf_ok (h : MR T cx g m w) (k : Nat) : RV g w (globOf T.glob k) (.pointer (some ⟨k, 0, none⟩)) := by
  have key : ∀ l : List (Nat × List Value), (∀ x ∈ l, RM g w x.1 0 (x.2.map PV.v)) → RV g w (globOf l k) (.pointer (some ⟨k, 0, none⟩)) := by
    intro l
    induction l with
    | nil => intro _; simp only [globOf, RV]
    | cons x l ih =>
      intro hl
      obtain ⟨j, cs⟩ := x
      simp only [globOf]
      by_cases e : j = k
      · subst e
        simp only [beq_self_eq_true, cond_true, RV]
        exact ⟨j, 0, rfl, fun h => (by cases h), hl (j, cs) (by simp)⟩
      · have : (j == k) = false := by simpa using e
        rw [this]; exact ih fun x hx => hl x (by simp [hx])
  exact key T.glob h.glob
def EnvOK (g : Gh) (w : World) (env : List (Nat × PV)) (a : Act) : Prop := ∀ k, RV g w (lk env k) (a.tmps.getD k undef)
theorem peval_ok (h : MR T cx g m w) {env : List (Nat × PV)} {a : Act} (he : EnvOK g w env a) (x : Operand) : RV g w (peval T env x) (a.eval x) := by
  cases x with
  | tmp t => exact he t
  | const v => exact RV.cv g w v
  | global k => exact globOf_ok h k
  | func f => simp only [peval, Act.eval, RV]; exact ⟨[], rfl, by simp only [RL]⟩
theorem popv_ok (hT : TOK T P) (h : MR T cx g m w) (hnm : ¬ g.dom nm) {ρ : Operand → PV} {a : Act} (hρ : ∀ x, RV g w (ρ x) (a.eval x)) (o : Oper) {side : Prop} {v : PV} {ws : List (Nat × Box)}
    (he : popv T ρ m.bx nm o.op = some (side, v, ws)) (hs : side) : StepOK T P cx g m w nm (execOp a.eval o) v ws := by
  obtain ⟨dst, op, type, pos, after, guard⟩ := o
  have mapPure : ∀ {x : Option PV}, pure2 x = some (side, v, ws) → x = some v ∧ ws = [] := by
    intro x hx; cases x <;> simp [pure2] at hx ⊢; exact ⟨hx.2.1, hx.2.2⟩
  have mapPure1 : ∀ {x : Option (Prop × PV)}, pure1 x = some (side, v, ws) → x = some (side, v) ∧ ws = [] := by
    intro x hx; cases x with
    | none => simp [pure1] at hx
    | some y => obtain ⟨p, y⟩ := y; simp [pure1] at hx ⊢; exact ⟨⟨hx.1, hx.2.1⟩, hx.2.2⟩
  cases op <;> simp only [popv] at he
  case move x => cases he; exact .plain (u := a.eval x) h rfl (hρ x)
  case assign x => cases he; exact .plain (u := a.eval x) h rfl (hρ x)
  case pick c x y =>
    split at he
    · rename_i b hb
      cases he
      have hc := hρ c
      rw [hb] at hc
      simp only [RV] at hc
      refine .plain (u := if b then a.eval x else a.eval y) h (by simp [execOp, hc, asBool]) ?_
      cases b
      · exact hρ y
      · exact hρ x
    · cases he
  case alloc e =>
    split at he
    · cases he
    · rename_i h0; cases he; exact alloc_ok hT h hnm h0
  case box e x =>
    split at he
    · rename_i xs hx; cases he; exact box_ok h hnm (hρ x) hx
    · cases he
  case build t ps =>
    split at he
    · cases he
    · rename_i ha
      obtain ⟨hx, rfl⟩ := mapPure he
      obtain ⟨xs, hf, rfl⟩ := Option.map_eq_some_iff.1 hx
      simp only [Bool.not_eq_false] at ha
      refine build_ok hT h hρ ha (fun h0 => ?_) hf
      rw [hT.ks t h0] at ha; cases ha
  case buildSlice t len ps =>
    split at he
    · rename_i e hk
      split at he
      · cases he
      · rename_i hle
        obtain ⟨xs, hf, hx⟩ := Option.map_eq_some_iff.1 he
        split at hx
        · cases hx
          exact buildCells_ok hT h hnm hρ hk (hT.sz hk (by simp)) (by omega) hf
        · cases hx
          exact buildSlice_ok hT h hnm hρ hk (hT.sz hk (by simp)) (by omega) hf
    · cases he
  case makeMap t r =>
    split at he
    · cases he
    · split at he
      · split at he
        · cases he; exact makeMap_ok h hnm
        · cases he
      · cases he
  case insert t a' k x =>
    split at he
    · rename_i b kd n kt e hka hkk hkt
      split at he
      · rename_i kd1 kd2 es hkt2 hbx
        split at he
        · rename_i hc
          obtain ⟨rfl, rfl, hn⟩ := hc
          cases he
          have h1 := hρ a'
          have h2 := hρ k
          rw [hka] at h1; rw [hkk] at h2
          simp only [RV] at h2
          have := insert_ok (nm := nm) (n := n) hT h hkt hkt2 hbx hn h1 (hρ x)
          rw [← h2] at this
          exact this
        · cases he
      · cases he
    · cases he
  case lookup t a' k ok =>
    split at he
    · rename_i b kd n kt e hka hkk hkt
      split at he
      · rename_i kd1 kd2 es hkt2 hbx
        split at he
        · rename_i hc
          obtain ⟨rfl, rfl, hs0⟩ := hc
          cases he
          have h1 := hρ a'
          have h2 := hρ k
          rw [hka] at h1; rw [hkk] at h2
          simp only [RV] at h2
          have := lookup_ok (nm := nm) (n := n) (ok := ok) hT h hkt hkt2 hbx hs0 h1
          rw [← h2] at this
          exact this
        · cases he
      · cases he
    · cases he
  case load t x =>
    split at he
    · rename_i xs hx
      obtain ⟨hv, rfl⟩ := mapPure he
      obtain ⟨b, off, hp, hrd⟩ := cellsAt_ok h (hρ x) hx
      obtain ⟨u, hu, hr⟩ := run_loadVar_RD hT hrd hv
      exact .plain (u := u) h (run_value (by simp only [Instr.loadAt, Sem.run_bind, hp, Instr.sureAddr, Sem.run_pure, Result.andThen_ok, hu])) hr
    · cases he
  case store t x y =>
    split at he
    · rename_i ys hy
      split at he
      · rename_i hc
        obtain ⟨r, hr, e⟩ := Option.map_eq_some_iff.1 he
        cases e
        exact store_ok hT h (hρ x) (hρ y) hy hc.1 hc.2 hr
      · cases he
    · cases he
  case nilCheck x =>
    have hx := hρ x
    split at he
    · rename_i hk; cases he; rw [hk] at hx; have hx' := hx; simp only [RV] at hx'; obtain ⟨_, hv⟩ := hx'
      exact .plain (u := a.eval x) h (by simp [execOp, hv]) hx
    · rename_i hk; cases he; rw [hk] at hx; have hx' := hx; simp only [RV] at hx'; obtain ⟨_, hv⟩ := hx'
      exact .plain (u := a.eval x) h (by simp [execOp, hv]) hx
    · rename_i hk; cases he; rw [hk] at hx; have hx' := hx; simp only [RV] at hx'; obtain ⟨b, off, hv, _⟩ := hx'
      exact .plain (u := a.eval x) h (by simp [execOp, hv]) hx
    · rename_i hk; cases he; rw [hk] at hx; have hx' := hx; simp only [RV] at hx'; obtain ⟨cs, hv, _⟩ := hx'
      exact .plain (u := a.eval x) h (by simp [execOp, hv]) hx
    · cases he
  case binOp bop t x y yt =>
    have hx := hρ x
    have hy := hρ y
    split at he
    · rename_i xs ys hk1 hk2
      rw [hk1] at hx; rw [hk2] at hy
      simp only [RV] at hx hy
      obtain ⟨us, hu, hl1⟩ := hx
      obtain ⟨vs, hv, hl2⟩ := hy
      obtain ⟨he', rfl⟩ := mapPure1 he
      have := bin_agg_ok (nm := nm) hT h bop t hl1 hl2 x y he' hs
      rw [← hu, ← hv] at this
      exact this
    · rename_i b1 b2 hk1 hk2
      rw [hk1] at hx; rw [hk2] at hy
      simp only [RV] at hx hy
      split at he
      · rename_i hk
        obtain ⟨he', rfl⟩ := mapPure1 he
        obtain ⟨d, hu, hd⟩ := hT.kind (hT.sz hk (by simp))
        rw [hk] at hd; simp only [KindOK] at hd; subst hd
        have := bin_bool_ok (nm := nm) h bop t hu b1 b2 x y he'
        rw [← hx, ← hy] at this
        exact this
      · cases he
    · rename_i px py hn1 hn2
      obtain ⟨he', rfl⟩ := mapPure1 he
      unfold binV at he'
      split at he'
      · rename_i k u k' v' hk1 hk2
        rw [hk1] at hx; rw [hk2] at hy
        simp only [RV] at hx hy
        have := bin_int_ok (nm := nm) (P := P) h bop t k k' u v' x y (side := side) (v := v) (by unfold binV; exact he') hs
        rw [← hx, ← hy] at this
        exact this
      · rename_i u v' hk1 hk2
        rw [hk1] at hx; rw [hk2] at hy
        simp only [RV] at hx hy
        obtain ⟨z, hz, e⟩ := Option.map_eq_some_iff.1 he'
        cases e
        have := bin_str_ok (nm := nm) (P := P) h bop t u v' x y hz
        rw [← hx, ← hy] at this
        exact this
      · rename_i u v' hk1 hk2
        exact (hn2 _ _ hk1 hk2).elim
      · cases he'
  case unOp uop t x =>
    have hx := hρ x
    obtain ⟨hv, rfl⟩ := mapPure he
    unfold unV at hv
    split at hv
    · rename_i b hk; cases hv; rw [hk] at hx; simp only [RV] at hx
      exact .plain (u := .bool !b) h (run_value (by simp only [hx, Op.unary, Sem.run_pure])) (by simp only [RV])
    · rename_i k z hk; cases hv; rw [hk] at hx; simp only [RV] at hx
      exact .plain (u := .int k (k.wrap (0 - z))) h (run_value (by simp only [hx, Op.unary, Op.intArith, Sem.run_pure])) (by simp only [RV])
    · cases hv
  case convert src dst' x =>
    have hx := hρ x
    split at he
    · rename_i k0 k k' z hk0 hk hkx
      cases he
      rw [hkx] at hx; simp only [RV] at hx
      obtain ⟨d, hu, hd⟩ := hT.kind (hT.sz hk (by simp))
      rw [hk] at hd; simp only [KindOK] at hd; subst hd
      obtain ⟨d0, hu0, hd0⟩ := hT.kind (hT.sz hk0 (by simp))
      rw [hk0] at hd0; simp only [KindOK] at hd0; subst hd0
      exact .plain (u := .int k (k.wrap z)) h (run_value (by simp [hx, convert, run_underlying hu0, run_underlying hu, Conv.intToInt])) (by simp only [RV])
    · cases he
  case makeFunc fn first cap =>
    split at he
    · rename_i f
      split at he
      · rename_i hf
        cases he
        have hfe : first = #[] := by simpa using hf
        subst hfe
        refine .plain (u := .func (.func f) #[] (cap.map a.eval)) h (run_value (by simp [Instr.makeFunc])) ?_
        simp only [RV]
        refine ⟨cap.toList.map a.eval, by congr 1; apply Array.ext'; simp, ?_⟩
        generalize cap.toList = l
        induction l with
        | nil => simp [RL]
        | cons c l ih => simp only [List.map_cons, RL]; exact ⟨_, _, rfl, hρ c, ih⟩
      · cases he
    · cases he
  case makeSlice t l c =>
    have hl := hρ l
    have hc := hρ c
    split at he
    · rename_i e x y hk hkl hkc
      cases he
      rw [hkl] at hl; rw [hkc] at hc
      simp only [RV] at hl hc
      have := makeSlice_ok (nm := nm) hT h hnm hk (hT.sz hk (by simp)) hs.1 hs.2.1 hs.2.2.1 hs.2.2.2
      rw [← hl, ← hc] at this
      exact this
    · cases he
  case slice t x lo hi mx =>
    split at he
    · cases he
    · obtain ⟨he', rfl⟩ := mapPure1 he
      have h0 : (T.at t).sz ≠ 0 := fun h0 => by
        unfold sliceV at he'
        rw [hT.ks t h0] at he'
        cases he'
      exact slice_ok hT h hρ h0 he' hs
  case fieldAddr t x f =>
    have hx := hρ x
    split at he
    · rename_i fs hk
      obtain ⟨d, hu, hd⟩ := hT.kind (hT.sz hk (by simp))
      rw [hk] at hd
      obtain ⟨⟨F, rfl, hF, _⟩, hall, _⟩ := hd
      have hfld : ∀ o ft, fs[f]? = some (o, ft) → ∃ fd : Field, F[f]? = some fd ∧ fd.offset = o ∧ (T.at fd.type).sz ≠ 0 := fun o ft hf => by
        rw [← hF, List.getElem?_map] at hf
        obtain ⟨fd, h1, h2⟩ := Option.map_eq_some_iff.1 hf
        refine ⟨fd, by simpa using h1, by cases h2; rfl, ?_⟩
        have := List.all_eq_true.1 hall (fd.offset, fd.type) (by rw [← hF]; exact List.mem_map.2 ⟨fd, List.mem_of_getElem? h1, rfl⟩)
        simpa using this
      have hrun : ∀ o ft b off, fs[f]? = some (o, ft) → (Instr.fieldAt t (.pointer (some ⟨b, off, none⟩)) f).run P w = .ok (.pointer (some ⟨b, off + o, none⟩)) w := fun o ft b off hf => by
        obtain ⟨fd, h1, h2, h3⟩ := hfld o ft hf
        subst h2
        simp only [Instr.fieldAt, Sem.run_bind, run_underlying hu, Result.andThen_ok, h1, Instr.sureAddr, Sem.run_pure, fieldPlace, hT.run_sizeOf h3]
        rw [if_neg h3]
        simp only [Sem.run_pure, Result.andThen_ok, Addr.add_none]
      split at he
      · rename_i o ft k off hf hkx
        cases he
        rw [hkx] at hx; simp only [RV] at hx
        exact .plain h (run_value (by rw [hx.2]; exact hrun o ft _ _ hf)) (by simp only [RV, and_true]; exact hx.1)
      · rename_i o ft k sz i off hf hkx
        cases he
        rw [hkx] at hx; simp only [RV] at hx
        exact .plain h (run_value (by rw [hx.2]; exact hrun o ft _ _ hf)) (by simp only [RV]; exact ⟨hx.1, by rw [Nat.add_assoc]⟩)
      · rename_i o ft fr cs hf hkx
        cases he
        rw [hkx] at hx; simp only [RV] at hx
        obtain ⟨b, off, hv, hfr, hm⟩ := hx
        exact .plain h (run_value (by rw [hv]; exact hrun o ft _ _ hf)) (by simp only [RV]; exact ⟨b, _, rfl, hfr, hm.drop _⟩)
      · cases he
    · cases he
  case field t x f =>
    have hx := hρ x
    split at he
    · rename_i fs xs hk hkx
      obtain ⟨d, hu, hd⟩ := hT.kind (hT.sz hk (by simp))
      rw [hk] at hd
      obtain ⟨⟨F, rfl, hF, _⟩, hall, _⟩ := hd
      rw [hkx] at hx; simp only [RV] at hx
      obtain ⟨us, hv, hl⟩ := hx
      split at he
      · rename_i o ft hf
        obtain ⟨hof, rfl⟩ := mapPure he
        obtain ⟨u, hp, hr⟩ := part_ok (P := P) hT hl hof
        rw [← hF, List.getElem?_map] at hf
        obtain ⟨fd, h1, h2⟩ := Option.map_eq_some_iff.1 hf
        cases h2
        have h1' : F[f]? = some fd := by simpa using h1
        exact .plain (u := u) h (run_value (by simp only [Instr.field, Sem.run_bind, run_underlying hu, Result.andThen_ok, h1', hv, asAgg, Sem.run_pure, hp])) hr
      · cases he
    · cases he
  case indexAddr t x ix =>
    have hix := hρ ix
    split at he
    · rename_i k i hki
      rw [hki] at hix; simp only [RV] at hix
      obtain ⟨he', rfl⟩ := mapPure1 he
      have h0 : (T.at t).sz ≠ 0 := fun h0 => by
        unfold indexAddrV at he'
        rw [hT.ks t h0] at he'
        cases he'
      have := indexAddr_ok (nm := nm) hT h h0 (hρ x) (k := k) he' hs
      rw [← hix] at this
      exact this
    · cases he
  case index t x ix =>
    have hix := hρ ix
    have hx := hρ x
    split at he
    · rename_i k i n e xs hki hk hkx
      rw [hki] at hix; rw [hkx] at hx; simp only [RV] at hix hx
      obtain ⟨us, hv, hl⟩ := hx
      obtain ⟨z, hz, e'⟩ := Option.map_eq_some_iff.1 he
      cases e'
      obtain ⟨d, hu, hd⟩ := hT.kind (hT.sz hk (by simp))
      rw [hk] at hd
      obtain ⟨rfl, hes, _⟩ := hd
      obtain ⟨u, hp, hr⟩ := part_ok (P := P) hT hl hz
      refine .plain (u := u) h (run_value ?_) hr
      simp only [Instr.index, Sem.run_bind, hix, asIntOf, Sem.run_pure, Result.andThen_ok, run_underlying hu, hv]
      rw [if_pos hs]
      simp only [Sem.run_bind, hT.run_sizeOf hes, Result.andThen_ok, hp]
    · rename_i k i b hki hk hkx
      cases he
      rw [hki] at hix; rw [hkx] at hx; simp only [RV] at hix hx
      obtain ⟨d, hu, hd⟩ := hT.kind (hT.sz hk (by simp))
      rw [hk] at hd; simp only [KindOK] at hd; subst hd
      have hi : i.toNat < b.size := by omega
      refine .plain (u := .int .u8 ((b.data.toList.getD i.toNat 0).toNat)) h (run_value ?_) (by simp only [RV])
      simp only [Instr.index, Sem.run_bind, hix, asIntOf, Sem.run_pure, Result.andThen_ok, run_underlying hu, hx]
      rw [if_pos hs.1]
      have : b[i.toNat]? = some (b.data.toList.getD i.toNat 0) := by
        have h1 : b[i.toNat]? = some b[i.toNat] := by simp [hi]
        rw [h1]
        have h2 : i.toNat < b.data.toList.length := by simpa using hi
        rw [List.getD, List.getElem?_eq_getElem h2]
        rfl
      rw [this]
      simp only [Sem.run_pure]
    · cases he
  case extract x i =>
    have hx := hρ x
    split at he
    · rename_i vs hk
      obtain ⟨hv, rfl⟩ := mapPure he
      rw [hk] at hx; simp only [RV] at hx
      obtain ⟨us, hu, hl⟩ := hx
      obtain ⟨c, hc, hr⟩ := hl.get_v hv
      exact .plain (u := c) h (run_value (by simp only [hu, Instr.extract, List.getElem?_toArray, hc, Sem.run_pure])) hr
    · cases he
  case call c =>
    obtain ⟨callee, args, argTypes⟩ := c
    simp only at he
    split at he
    · -- len
      split at he
      · rename_i t x hat hax
        have hx := hρ x
        have hr : ∀ u : Value, (Builtin.len_ #[t] type #[a.eval x]).run P w = .ok u w → (execOp a.eval { dst, op := .call { callee := .builtin .len, args, argTypes }, type, pos, after, guard }).run P w = .ok (.value u) w := fun u hu => by
          have e1 : argTypes = #[t] := by simpa using congrArg List.toArray hat
          have e2 : args = #[x] := by simpa using congrArg List.toArray hax
          subst e1; subst e2
          simp only [execOp, resolve, Sem.run_bind, Sem.run_pure, Result.andThen_ok, invoke, builtin, List.map_toArray, List.map_cons, List.map_nil, hu]
        split at he
        · rename_i e px hk
          split at he
          rotate_left
          · cases he
          rename_i n hn
          cases he
          obtain ⟨d, hu, hd⟩ := hT.kind (hT.sz hk (by simp))
          rw [hk] at hd
          obtain ⟨rfl, _⟩ := hd
          obtain ⟨ad, cap, hv⟩ : ∃ ad cap, a.eval x = .slice ad n cap := by
            unfold slen at hn
            split at hn
            · rename_i hpx; rw [hpx] at hx; simp only [RV] at hx; obtain ⟨ad, cap, _, _, _, hv, _⟩ := hx; cases hn; exact ⟨ad, cap, hv⟩
            · rename_i hpx; rw [hpx] at hx; simp only [RV] at hx; cases hn; exact ⟨none, 0, hx⟩
            · rename_i hpx; rw [hpx] at hx; simp only [RV] at hx; obtain ⟨_, ad, cap, hv, _⟩ := hx; cases hn; exact ⟨ad, cap, hv⟩
            · rename_i hpx; rw [hpx] at hx; simp only [RV] at hx; obtain ⟨_, ad, cap, hv, _⟩ := hx; cases hn; exact ⟨ad, cap, hv⟩
            · cases hn
          exact .plain (u := .int .i64 n) h (hr _ (by simp [Builtin.len_, run_underlying hu, hv, goInt])) (by simp only [RV])
        · rename_i b hk hpx
          cases he
          rw [hpx] at hx; simp only [RV] at hx
          obtain ⟨d, hu, hd⟩ := hT.kind (hT.sz hk (by simp))
          rw [hk] at hd; simp only [KindOK] at hd; subst hd
          exact .plain (u := .int .i64 b.size) h (hr _ (by simp [Builtin.len_, run_underlying hu, hx, goInt])) (by simp only [RV])
        · rename_i n e hk
          cases he
          obtain ⟨d, hu, hd⟩ := hT.kind (hT.sz hk (by simp))
          rw [hk] at hd
          obtain ⟨rfl, _⟩ := hd
          exact .plain (u := .int .i64 n) h (hr _ (by simp [Builtin.len_, run_underlying hu, goInt])) (by simp only [RV])
        · cases he
      · cases he
    · -- append
      split at he
      · rename_i t t' x y hat hax
        split at he
        · rename_i htt
          subst htt
          split at he
          · rename_i e hk
            obtain ⟨d, hu, hd⟩ := hT.kind (hT.sz hk (by simp))
            rw [hk] at hd
            obtain ⟨rfl, hes⟩ := hd
            have := append_ok (ty := type) hT h hnm hu hes (hρ x) (hρ y) he hs
            have e1 : argTypes = #[t, t] := by simpa using congrArg List.toArray hat
            have e2 : args = #[x, y] := by simpa using congrArg List.toArray hax
            subst e1; subst e2
            have e3 : (execOp a.eval { dst, op := .call { callee := .builtin .append, args := #[x, y], argTypes := #[t, t] }, type, pos, after, guard }).run P w = (do pure (Next.value (← Builtin.append_ #[t, t] type #[a.eval x, a.eval y])) : Sem Next).run P w := by
              simp only [execOp, resolve, Sem.run_bind, Sem.run_pure, Result.andThen_ok, invoke, builtin, List.map_toArray, List.map_cons, List.map_nil]
            obtain ⟨u, w', g', hrun, rest⟩ := this
            exact ⟨u, w', g', by rw [e3]; exact hrun, rest⟩
          · cases he
        · cases he
      · cases he
    · -- clear
      split at he
      · rename_i t x hat hax
        split at he
        · rename_i e k sz i n hk hpx
          split at he
          · rename_i sz' es hbx
            split at he
            · rename_i hc
              obtain ⟨rfl, hsz, hle⟩ := hc
              cases he
              have hx := hρ x
              rw [hpx] at hx
              have := clear_ok (nm := nm) (ty := type) hT h hk hbx hsz hle hx
              have e1 : argTypes = #[t] := by simpa using congrArg List.toArray hat
              have e2 : args = #[x] := by simpa using congrArg List.toArray hax
              subst e1; subst e2
              have e3 : (execOp a.eval { dst, op := .call { callee := .builtin .clear, args := #[x], argTypes := #[t] }, type, pos, after, guard }).run P w = (do pure (Next.value (← Builtin.clear_ #[t] type #[a.eval x])) : Sem Next).run P w := by
                simp only [execOp, resolve, Sem.run_bind, Sem.run_pure, Result.andThen_ok, invoke, builtin, List.map_toArray, List.map_cons, List.map_nil]
              obtain ⟨u, w', g', hrun, rest⟩ := this
              exact ⟨u, w', g', by rw [e3]; exact hrun, rest⟩
            · cases he
          · cases he
        · cases he
      · cases he
    · -- min
      split at he
      · rename_i x y hax
        split at he
        · rename_i i j hpx hpy
          cases he
          have hx := hρ x
          have hy := hρ y
          rw [hpx] at hx; rw [hpy] at hy; simp only [RV] at hx hy
          have e2 : args = #[x, y] := by simpa using congrArg List.toArray hax
          subst e2
          refine .plain (u := .int .i64 (if j < i then j else i)) h ?_ (by simp only [RV])
          simp only [execOp, resolve, Sem.run_bind, Sem.run_pure, Result.andThen_ok, invoke, builtin, List.map_toArray, List.map_cons, List.map_nil, hx, hy, run_min_int2]
        · cases he
      · cases he
    · split at he
      · rename_i x y hax
        split at he
        · rename_i i j hpx hpy
          cases he
          have hx := hρ x
          have hy := hρ y
          rw [hpx] at hx; rw [hpy] at hy; simp only [RV] at hx hy
          have e2 : args = #[x, y] := by simpa using congrArg List.toArray hax
          subst e2
          refine .plain (u := .int .i64 (if j > i then j else i)) h ?_ (by simp only [RV])
          simp only [execOp, resolve, Sem.run_bind, Sem.run_pure, Result.andThen_ok, invoke, builtin, List.map_toArray, List.map_cons, List.map_nil, hx, hy, run_max_int2]
        · cases he
      · cases he
    · cases he
  all_goals cases he
end
end Go.Proofs.Ytcbhmedknbiffaa
