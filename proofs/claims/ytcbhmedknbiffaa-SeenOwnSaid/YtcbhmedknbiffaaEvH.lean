/-
  The layer Ev: rules of code, said of PW.
-/
import Derived.Test.YtcbhmedknbiffaaEvG
namespace Go.Proofs.Ytcbhmedknbiffaa
open Go Go.RowKit
section
variable {T : Tab} {P : Program} {Y : Nat → YS}
theorem pw_skip {Q : Exit → St → Prop} {s : St} (h : Q .normal s) : PW T P Y .skip Q s := fun _r _n _cx _lo _ds _g _a _w _hr _hy hf => wpIn_skip (hf.post h)
theorem pw_label {l} {Q : Exit → St → Prop} {s : St} (h : Q .normal s) : PW T P Y (.label l) Q s := fun _r _n _cx _lo _ds _g _a _w _hr _hy hf => wpIn_label (hf.post h)
theorem pw_exit {id} {Q : Exit → St → Prop} {s : St} (h : Q (.exit id) s) : PW T P Y (.exit id) Q s := fun _r _n _cx _lo _ds _g _a _w _hr _hy hf => wpIn_exit (hf.post h)
theorem pw_goto {l} {Q : Exit → St → Prop} {s : St} (h : Q (.goto l) s) : PW T P Y (.goto l) Q s := fun _r _n _cx _lo _ds _g _a _w _hr _hy hf => wpIn_goto (hf.post h)
theorem pw_ret {Q : Exit → St → Prop} {s : St} (h : Q .ret s) : PW T P Y .ret Q s := fun _r _n _cx _lo _ds _g _a _w _hr _hy hf => wpIn_ret (hf.post h)
theorem pw_seq {x y : Code} {Q : Exit → St → Prop} {s : St} (h : PW T P Y x (seqK (PW T P Y y Q) Q) s) : PW T P Y (.seq x y) Q s := fun r n cx lo ds g a w hr hy hf => by
  refine wpIn_seq (wpIn_mono (h r n cx lo ds g a w hr hy hf) fun e a' w' hp => ?_)
  cases e with
  | normal =>
    obtain ⟨s', fx, ds', g', k1, k2, k3, k4, k5, k6, k7⟩ := hp
    refine wpIn_mono (k7 r n ⟨fx, cx.yc⟩ lo ds' g' a' w' (fun l hl => ?_) ((hy.gx k3.gx).more k1) k2) fun e a2 w2 hp2 => hp2.then k1 k3 k4 k5 k6
    obtain ⟨rec, hrec⟩ := hr l hl
    exact ⟨rec, k1 _ hrec⟩
  | _ => exact hp
theorem pw_cond {c : Operand} {x y : Code} {Q : Exit → St → Prop} {s : St} {t : Bool} (hc : peval T s.env c = .v (.bool t)) (h1 : t = true → PW T P Y x Q s) (h2 : t = false → PW T P Y y Q s) : PW T P Y (.cond c x y) Q s := fun r n cx lo ds g a w hr hy hf => by
  have := peval_ok hf.rs.mr hf.rs.env c
  rw [hc] at this
  simp only [RV] at this
  refine wpIn_cond this ?_
  cases t with
  | true => exact h1 rfl r n cx lo ds g a w hr hy hf
  | false => exact h2 rfl r n cx lo ds g a w hr hy hf
theorem pw_block {id : Nat} {b : Code} {Q : Exit → St → Prop} {s : St} (h : PW T P Y b (blockK id Q) s) : PW T P Y (.block id b) Q s := fun r n cx lo ds g a w hr hy hf => by
  refine wpIn_block (wpIn_mono (h r n cx lo ds g a w hr hy hf) fun e a' w' hp => ?_)
  cases e with
  | exit id' =>
    obtain ⟨s', fx, ds', g', k1, k2, k3, k4, k5, k6, k7⟩ := hp
    simp only [Exit.inBlock]
    simp only [blockK] at k7
    split
    · rename_i e; rw [if_pos e] at k7; exact ⟨s', fx, ds', g', k1, k2, k3, k4, k5, k6, k7⟩
    · rename_i e; rw [if_neg e] at k7; exact ⟨s', fx, ds', g', k1, k2, k3, k4, k5, k6, k7⟩
  | _ => exact hp
theorem pw_region (hT : TOK T P) {id : Nat} {ops : Array Oper} {Q : Exit → St → Prop} {s : St} (h : pops T P Y ops.toList s.m.nb (Q .normal) 0 ops.toList (s.reserve ops.toList.length)) : PW T P Y (.region id ops false) Q s := by
  intro r n cx lo ds g a w hr hy hf
  refine wpIn_region ?_
  have := pops_ok hT (ops := ops) (nb0 := s.m.nb) (K := Q .normal) (r := r) (n := n) (Q := Post T cx lo g s w Q) ops.toList 0 (s.reserve ops.toList.length) g a w hy rfl (hf.rs.reserve _)
    (fun k hk => .inl (by have := hf.rs.dl k hk; omega)) (by simp [St.reserve]) h
    (fun s' g' a' w' hs' hex hnb hdn hdf hn hK => by
      have hex' : EX cx g s.m w g' s'.m w' := hex.nb (nb := s.m.nb) (nb' := s'.m.nb) (ys := s.m.ys) (ys' := s'.m.ys)
      exact ⟨s', cx.fx, ds, g', fun _ h => h, hf.fx_keep hs' hex' hdf, hex', by simp [St.reserve] at hnb; show s.m.nb ≤ s'.m.nb; omega, hdn, hn, hK⟩)
  rw [List.range_eq_range']
  simpa using this
def loopKG {σ : Type} (I : σ → St → Prop) (μ : σ → Nat) (b : Nat) (Q : Exit → St → Prop) : Exit → St → Prop
  | .normal, s => ∃ x, I x s ∧ μ x < b
  | e, s => Q e s
theorem pw_loopG {σ : Type} {b : Code} {Q : Exit → St → Prop} {s : St} (I : σ → St → Prop) (μ : σ → Nat) (x0 : σ) (h0 : I x0 s) (round : ∀ x s', I x s' → PW T P Y b (loopKG I μ (μ x) Q) s') : PW T P Y (.loop b) Q s := by
  intro r n cx lo ds g a w hr hy hf
  refine wpIn_loopG (σ := σ) (fun x a' w' => Post T cx lo g s w (fun _ s'' => I x s'') .normal a' w') μ (x := x0) (hf.post h0) ?_
  rintro x a1 w1 ⟨s', fx, ds', g', k1, k2, k3, k4, k5, k6, hI⟩
  have := round x s' hI r n ⟨fx, cx.yc⟩ lo ds' g' a1 w1 (fun l hl => by obtain ⟨rec, hrec⟩ := hr l hl; exact ⟨rec, k1 _ hrec⟩) ((hy.gx k3.gx).more k1) k2
  refine wpIn_mono this fun e a2 w2 hp => ?_
  cases e with
  | normal =>
    obtain ⟨s2, fx2, ds2, g2, j1, j2, j3, j4, j5, j6, x', hI2, hlt⟩ := Post.then k1 k3 k4 k5 k6 hp
    exact ⟨x', ⟨s2, fx2, ds2, g2, j1, j2, j3, j4, j5, j6, hI2⟩, hlt⟩
  | _ => exact Post.then k1 k3 k4 k5 k6 hp
def scopeKG {σ : Type} (c : Code) (J : Nat → σ → St → Prop) (Q : Exit → St → Prop) : Exit → St → Prop
  | .goto l, s => (findLabel c l).isSome = true ∧ ∃ x, J l x s
  | e, s => Q e s
def scopeKGm {σ : Type} (c : Code) (J : Nat → σ → St → Prop) (μ : σ → Nat) (b : Nat) (Q : Exit → St → Prop) : Exit → St → Prop
  | .goto l, s => (findLabel c l).isSome = true ∧ ∃ x, J l x s ∧ μ x < b
  | e, s => Q e s
theorem pw_scopeG {σ : Type} {c : Code} {Q : Exit → St → Prop} {s : St} (J : Nat → σ → St → Prop) (μ : σ → Nat) (first : PW T P Y c (scopeKG c J Q) s)
    (pass : ∀ l rest x s', findLabel c l = some rest → J l x s' → PW T P Y rest (scopeKGm c J μ (μ x) Q) s') : PW T P Y (.scope c) Q s := by
  intro r n cx lo ds g a w hr hy hf
  refine wpIn_scopeG (σ := σ) (fun l x a' w' => Post T cx lo g s w (fun _ s'' => J l x s'') .normal a' w') (fun _ x => μ x) ?_ ?_
  · refine wpIn_mono (first r n cx lo ds g a w hr hy hf) fun e a' w' hp => ?_
    cases e with
    | goto l =>
      obtain ⟨s', fx, ds', g', k1, k2, k3, k4, k5, k6, hs, x, hJ⟩ := hp
      exact ⟨hs, x, s', fx, ds', g', k1, k2, k3, k4, k5, k6, hJ⟩
    | _ => exact hp
  · rintro l rest x a1 w1 hfl ⟨s', fx, ds', g', k1, k2, k3, k4, k5, k6, hJ⟩
    have := pass l rest x s' hfl hJ r n ⟨fx, cx.yc⟩ lo ds' g' a1 w1 (fun l hl => by obtain ⟨rec, hrec⟩ := hr l hl; exact ⟨rec, k1 _ hrec⟩) ((hy.gx k3.gx).more k1) k2
    refine wpIn_mono this fun e a2 w2 hp => ?_
    cases e with
    | goto l' =>
      obtain ⟨s2, fx2, ds2, g2, j1, j2, j3, j4, j5, j6, hs, x', hJ2, hlt⟩ := Post.then k1 k3 k4 k5 k6 hp
      exact ⟨hs, x', ⟨s2, fx2, ds2, g2, j1, j2, j3, j4, j5, j6, hJ2⟩, hlt⟩
    | _ => exact Post.then k1 k3 k4 k5 k6 hp
theorem specM_pw (hT : TOK T P) {f : Nat} {fn : Func} {c : Code} {args : List PV} {m : Mem} {Q : PV → Mem → Prop} (hf : P.funcs[f]? = some fn) (hname : (fn.name == "runtime.NumGoroutine") = false) (hb : fn.body = some c)
    (h : PW T P Y c (retQ T fn.results.toList Q) ⟨args.length + (fn.ntmps - args.length), initEnv 0 args, m⟩) : SpecM T P Y f args m Q := by
  refine ⟨enters_of hf hname hb, fun cx g w us hy hm hd hl => (callsIn_wide (n := 0)).1 (callsIn_of_wp_marks hf hb trivial ?_)⟩
  have hlen := RL.length hl
  have hfr : FR T cx w.heap.size [] g ⟨args.length + (fn.ntmps - args.length), initEnv 0 args, m⟩ { tmps := us.toArray ++ Array.replicate (fn.ntmps - us.toArray.size) undef, defers := [] } w :=
    ⟨⟨hm, hd, env_init hl _, by simp [hlen]⟩, rfl, fun _ h => by simp at h, by simp, Nat.le_refl _⟩
  refine wpIn_mono (h none 0 cx w.heap.size [] g _ w (fun l hl => by cases hl) hy hfr) ?_
  rintro e a' w' ⟨s', fx, ds, g', k1, k2, k3, k4, k5, k6, k7⟩
  have key : retR T fn.results.toList Q s' → LeavesInM Fence.wide 0 P fn a'.tmps (fun e w' => ∃ u r g' m', e = .returned u ∧ RV g' w' r u ∧ After T cx g m w g' m' w' ∧ Q r m') a'.defers .returning w' := by
    intro hq
    unfold retR at hq
    split at hq
    · rename_i vs hvs
      rw [k2.df]
      refine leaves_ok hT (cx := cx) (g := g) (m := m) (w0 := w) hvs (fun u w2 hr hm2 hx2 => ⟨u, _, g', s'.m, rfl, hr, ⟨hm2, k2.rs.dl, k4, k5, hx2⟩, hq⟩) ds w' (fun D hD => ?_) k2.nd (k2.rs.mr.fewer k1) k3 k2.rs.env
      obtain ⟨hDf, hlo⟩ := k2.dx D hD
      obtain ⟨j1, j2, j3⟩ := k2.rs.mr.fix _ _ hDf
      refine ⟨j1, hlo, fun x hx e => ?_, j3⟩
      have := hm.fix x.1 x.2 hx
      have := (Array.getElem?_eq_some_iff.1 this.1).1
      omega
    · exact hq.elim
  cases e with
  | normal => exact key k7
  | ret => exact key k7
  | _ => exact k7.elim
end
end Go.Proofs.Ytcbhmedknbiffaa
