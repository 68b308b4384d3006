/-
  The layer Ev: package variables that a row lists, read by value.
-/
import Derived.Test.YtcbhmedknbiffaaDoorEvS
import Derived.ProofKit
import Derived.OpenShut
namespace Go.Proofs.YtcbhmedknbiffaaDoor
open Go Go.RowKit

section
variable {H : Type} {enc : TypeId × Value → H} {T : Tab} {P : Program} {W : World}

/-- A datum of numbers, arrays and structs, cell by cell. -/
def flatD : DataW H → List (DataW H)
  | .agg ds => flatDs ds
  | d => [d]
where flatDs : List (DataW H) → List (DataW H)
  | [] => []
  | d :: ds => flatD d ++ flatDs ds

theorem laid_ints (hT : TOK T P) {t n e : Nat} {k : IntKind} (hk : (T.at t).kind = .arr n e) (he : (T.at e).kind = .int k) (hs : (T.at e).sz = 1) (hz : (T.at t).sz = n) {sp : Nat → Bool} {held : Bool} {f : Nat} {cs : List Value} {vals : List Int} {p : List MemPlace}
    (h : DataW.trod enc P W 0 sp held f t cs = some (.agg (vals.map fun z => .lit (.int k z)), p)) : cs = vals.map fun z => .int k z := by
  obtain ⟨dd, hu, rfl, hse, _⟩ := und_of hT hk (by simp)
  obtain ⟨de, hue, rfl⟩ := und_of hT he (by simp)
  obtain ⟨xs, m, rfl, hx, hlen, hxl, hel⟩ := DataW.trod_array hu h
  have hz0 : (T.at t).sz ≠ 0 := hT.sz hk (by simp)
  have hce : P.cellsOf e = 1 := by rw [cellsOf_of hT hse, hs]
  have hl : cs.length = n := by rw [hlen, cellsOf_of hT hz0, hz]
  simp only [Prod.mk.injEq, DataW.agg.injEq] at hx
  have hvl : vals.length = n := by
    have := congrArg List.length hx.1
    simp only [List.length_map] at this
    omega
  refine List.ext_getElem (by rw [List.length_map]; omega) fun i h1 h2 => ?_
  have hi : i < n := by omega
  have h3 := hel i hi
  rw [hce, Nat.mul_one] at h3
  have hxi : i < xs.length := by omega
  rw [List.getElem?_eq_getElem hxi] at h3
  obtain ⟨z, e1, e2, _⟩ := DataW.trod_int hue h3
  have e4 : cs[i] = .int k z := by
    have := congrArg List.head? e1
    rw [List.head?_take, if_neg (by decide), List.head?_drop, List.getElem?_eq_getElem h1] at this
    simpa using this
  have e5 := congrArg (fun l => l[i]?) hx.1
  simp only [List.getElem?_map, List.getElem?_eq_getElem hxi, List.getElem?_eq_getElem (show i < vals.length by omega), Option.map_some, Option.some.injEq] at e5
  rw [e2] at e5
  simp only [DataW.lit.injEq, Lit.int.injEq, true_and] at e5
  rw [e4, List.getElem_map]
  simp [e5]

theorem laid_int (hT : TOK T P) {e : Nat} {k : IntKind} (he : (T.at e).kind = .int k) {sp : Nat → Bool} {held : Bool} {f : Nat} {cs : List Value} {z : Int} {q : DataW H × List MemPlace}
    (h : DataW.trod enc P W 0 sp held f e cs = some q) (hq : q.1 = .lit (.int k z)) : cs = [.int k z] := by
  obtain ⟨de, hue, rfl⟩ := und_of hT he (by simp)
  obtain ⟨y, e1, e2, _⟩ := DataW.trod_int hue h
  rw [e2] at hq
  simp only [DataW.lit.injEq, Lit.int.injEq, true_and] at hq
  rw [e1, hq]

/-- A struct of two numbers. -/
theorem laid_pair (hT : TOK T P) {e a b : Nat} {k : IntKind} (hk : (T.at e).kind = .struct [(0, a), (1, b)]) (ha : (T.at a).kind = .int k) (hb : (T.at b).kind = .int k) (has : (T.at a).sz = 1) (hbs : (T.at b).sz = 1) (hz : (T.at e).sz = 2)
    {sp : Nat → Bool} {held : Bool} {f : Nat} {cs : List Value} {x y : Int} {q : DataW H × List MemPlace} (h : DataW.trod enc P W 0 sp held f e cs = some q) (hq : q.1 = .agg [.lit (.int k x), .lit (.int k y)]) : cs = [.int k x, .int k y] := by
  obtain ⟨dd, hu, ⟨F, rfl, hF, _⟩, _⟩ := und_of hT hk (by simp)
  obtain ⟨f0, f1, rfl⟩ : ∃ f0 f1 : Field, F = #[f0, f1] := by
    obtain ⟨l⟩ := F
    have hl2 : l.length = 2 := by simpa using congrArg List.length hF
    match l, hl2 with
    | [f0, f1], _ => exact ⟨f0, f1, rfl⟩
  simp only [List.map_cons, List.map_nil, List.cons.injEq, Prod.mk.injEq, and_true] at hF
  obtain ⟨⟨h1, h2⟩, h3, h4⟩ := hF
  obtain ⟨y0, y1, n, rfl, hl, g0, g1⟩ := ChangeShapes.trod_struct2 hu h
  have hz0 : (T.at e).sz ≠ 0 := by rw [hz]; decide
  have ca : P.cellsOf a = 1 := by rw [cellsOf_of hT (by rw [has]; decide), has]
  have cb : P.cellsOf b = 1 := by rw [cellsOf_of hT (by rw [hbs]; decide), hbs]
  rw [h1, h2, ca] at g0
  rw [h3, h4, cb] at g1
  rw [cellsOf_of hT hz0, hz] at hl
  simp only [DataW.agg.injEq, List.cons.injEq, and_true] at hq
  have e0 := laid_int hT ha g0 hq.1
  have e1 := laid_int hT hb g1 hq.2
  match cs, hl with
  | [c, d], _ =>
    simp at e0 e1
    rw [e0, e1]

/-- An array of such structs. -/
theorem laid_pairs (hT : TOK T P) {t n e a b : Nat} {k : IntKind} (hkt : (T.at t).kind = .arr n e) (hk : (T.at e).kind = .struct [(0, a), (1, b)]) (ha : (T.at a).kind = .int k) (hb : (T.at b).kind = .int k) (has : (T.at a).sz = 1) (hbs : (T.at b).sz = 1) (hz : (T.at e).sz = 2) (hzt : (T.at t).sz = n * 2)
    {sp : Nat → Bool} {held : Bool} {f : Nat} {cs : List Value} {vals : List (Int × Int)} {p : List MemPlace}
    (h : DataW.trod enc P W 0 sp held f t cs = some (.agg (vals.map fun z => .agg [.lit (.int k z.1), .lit (.int k z.2)]), p)) : cs = (vals.map fun z => [Value.int k z.1, .int k z.2]).flatten := by
  obtain ⟨dd, hu, rfl, hse, _⟩ := und_of hT hkt (by simp)
  obtain ⟨xs, m, rfl, hx, hlen, hxl, hel⟩ := DataW.trod_array hu h
  have hz0 : (T.at t).sz ≠ 0 := hT.sz hkt (by simp)
  have hce : P.cellsOf e = 2 := by rw [cellsOf_of hT hse, hz]
  have hl : cs.length = n * 2 := by rw [hlen, cellsOf_of hT hz0, hzt]
  simp only [Prod.mk.injEq, DataW.agg.injEq] at hx
  have hvl : vals.length = n := by
    have := congrArg List.length hx.1
    simp only [List.length_map] at this
    omega
  have step : ∀ (vs : List (Int × Int)) (i : Nat), vals.drop i = vs → cs.drop (i * 2) = (vs.map fun z => [Value.int k z.1, .int k z.2]).flatten := by
    intro vs
    induction vs with
    | nil =>
      intro i hi
      have : n ≤ i := by rw [← hvl]; exact List.drop_eq_nil_iff.1 hi
      rw [List.drop_eq_nil_of_le (by omega)]; rfl
    | cons z vs ih =>
      intro i hi
      have hin : i < vals.length := by
        rcases Nat.lt_or_ge i vals.length with h | h
        · exact h
        · rw [List.drop_eq_nil_of_le h] at hi; cases hi
      have hzi : vals[i]? = some z := by
        have := congrArg (fun l => l[0]?) hi
        simpa using this
      have hi' : vals.drop (i + 1) = vs := by rw [← List.drop_drop, hi]; rfl
      have h3 := hel i (by omega)
      rw [hce] at h3
      have hxi : i < xs.length := by omega
      rw [List.getElem?_eq_getElem hxi] at h3
      have e5 := congrArg (fun l => l[i]?) hx.1
      simp only [List.getElem?_map, List.getElem?_eq_getElem hxi, hzi, Option.map_some, Option.some.injEq] at e5
      have e6 := laid_pair hT hk ha hb has hbs hz h3 e5.symm
      have e7 := ih (i + 1) hi'
      have e8 : cs.drop (i * 2) = (cs.drop (i * 2)).take 2 ++ cs.drop ((i + 1) * 2) := by
        rw [Nat.add_mul, Nat.one_mul, ← List.drop_drop, List.take_append_drop]
      rw [e8, e6, e7]; rfl
  have := step vals 0 rfl
  simpa using this

theorem glob_of {g : Nat} {cs : List Value} (h : ∀ i v, cs[i]? = some v → W.cell? ⟨g, i, none⟩ = some v) (hne : cs ≠ []) : RM (gW W) W g 0 (cs.map PV.v) := by
  have h0 : 0 < cs.length := by
    cases cs with
    | nil => exact absurd rfl hne
    | cons _ _ => simp
  have hlt := (cell_spot (h 0 _ (List.getElem?_eq_getElem h0))).2
  refine RM.of_RL (fun o => hlt) (RL.map_v _) fun j v hv => ?_
  simpa using h j v hv
end
end Go.Proofs.YtcbhmedknbiffaaDoor
