/-
  The layer Ev: package variables that a row lists, read by value.
-/
import Derived.Test.YtomgapihddmafaaDoorEvS
import Derived.ProofKit
import Derived.OpenShut
namespace Go.Proofs.YtomgapihddmafaaDoor
open Go Go.RowKit

section
variable {H : Type} {enc : TypeId × Value → H} {T : Tab} {P : Program} {W : World}

/-- A datum of numbers, arrays and structs, cell by cell. -/
def flatD : DataW H → List (DataW H)
  | .agg ds => flatDs ds
  | d => [d]
where flatDs : List (DataW H) → List (DataW H)
  | [] => []
  | d :: ds => flatD d ++ flatDs ds

theorem laid_ints (hT : TOK T P) {t n e : Nat} {k : IntKind} (hk : (T.at t).kind = .arr n e) (he : (T.at e).kind = .int k) (hs : (T.at e).sz = 1) (hz : (T.at t).sz = n) {sp : Nat → Bool} {held : Bool} {f : Nat} {cs : List Value} {vals : List Int} {p : List MemPlace}
    (h : DataW.trod enc P W 0 sp held f t cs = some (.agg (vals.map fun z => .lit (.int k z)), p)) : cs = vals.map fun z => .int k z := by
  obtain ⟨dd, hu, rfl, hse, _⟩ := und_of hT hk (by simp)
  obtain ⟨de, hue, rfl⟩ := und_of hT he (by simp)
  obtain ⟨xs, m, rfl, hx, hlen, hxl, hel⟩ := DataW.trod_array hu h
  have hz0 : (T.at t).sz ≠ 0 := hT.sz hk (by simp)
  have hce : P.cellsOf e = 1 := by rw [cellsOf_of hT hse, hs]
  have hl : cs.length = n := by rw [hlen, cellsOf_of hT hz0, hz]
  simp only [Prod.mk.injEq, DataW.agg.injEq] at hx
  have hvl : vals.length = n := by
    have := congrArg List.length hx.1
    simp only [List.length_map] at this
    omega
  refine List.ext_getElem (by rw [List.length_map]; omega) fun i h1 h2 => ?_
  have hi : i < n := by omega
  have h3 := hel i hi
  rw [hce, Nat.mul_one] at h3
  have hxi : i < xs.length := by omega
  rw [List.getElem?_eq_getElem hxi] at h3
  obtain ⟨z, e1, e2, _⟩ := DataW.trod_int hue h3
  have e4 : cs[i] = .int k z := by
    have := congrArg List.head? e1
    rw [List.head?_take, if_neg (by decide), List.head?_drop, List.getElem?_eq_getElem h1] at this
    simpa using this
  have e5 := congrArg (fun l => l[i]?) hx.1
  simp only [List.getElem?_map, List.getElem?_eq_getElem hxi, List.getElem?_eq_getElem (show i < vals.length by omega), Option.map_some, Option.some.injEq] at e5
  rw [e2] at e5
  simp only [DataW.lit.injEq, Lit.int.injEq, true_and] at e5
  rw [e4, List.getElem_map]
  simp [e5]

theorem glob_of {g : Nat} {cs : List Value} (h : ∀ i v, cs[i]? = some v → W.cell? ⟨g, i, none⟩ = some v) (hne : cs ≠ []) : RM (gW W) W g 0 (cs.map PV.v) := by
  have h0 : 0 < cs.length := by
    cases cs with
    | nil => exact absurd rfl hne
    | cons _ _ => simp
  have hlt := (cell_spot (h 0 _ (List.getElem?_eq_getElem h0))).2
  refine RM.of_RL (fun o => hlt) (RL.map_v _) fun j v hv => ?_
  simpa using h j v hv
end
end Go.Proofs.YtomgapihddmafaaDoor
