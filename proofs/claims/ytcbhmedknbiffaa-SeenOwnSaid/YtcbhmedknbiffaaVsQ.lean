/-
  The layer VS: the table of types, checked row by row.
-/
import Derived.Test.YtcbhmedknbiffaaVsP
namespace Go.Proofs.Ytcbhmedknbiffaa
open Go Go.RowKit
def RowsOK (T : Tab) (P : Program) : Nat → List TI → Prop
  | _, [] => True
  | i, x :: xs => (x.sz ≠ 0 → RowOK T P i x) ∧ RowsOK T P (i + 1) xs
def TK.isOther : TK → Bool
  | .other => true
  | _ => false
theorem RowsOK.get {T P} : ∀ (l : List TI) (i : Nat), RowsOK T P i l → ∀ j, (l.getD j default).sz ≠ 0 → RowOK T P (i + j) (l.getD j default)
  | [], i, _, j, h => absurd rfl h
  | x :: xs, i, h, 0, hs => h.1 hs
  | x :: xs, i, h, j + 1, hs => by
    have := RowsOK.get xs (i + 1) h.2 j hs
    rw [show i + (j + 1) = i + 1 + j by omega]
    exact this
theorem TOK.of {T P} (h : RowsOK T P 0 T.ty) (hk : (T.ty.all fun x => x.sz != 0 || x.kind.isOther) = true) : TOK T P where
  row t hs := by have := RowsOK.get _ _ h t hs; rwa [Nat.zero_add] at this
  ks t hs := by
    simp only [Tab.at] at hs ⊢
    rw [List.getD_eq_getElem?_getD] at hs ⊢
    cases hx : T.ty[t]? with
    | none => rfl
    | some x =>
      rw [hx] at hs
      have hm := List.all_eq_true.1 hk x (List.mem_of_getElem? hx)
      simp only [Option.getD_some] at hs ⊢
      rw [hs] at hm
      cases hk : x.kind <;> simp_all [TK.isOther]
end Go.Proofs.Ytcbhmedknbiffaa
