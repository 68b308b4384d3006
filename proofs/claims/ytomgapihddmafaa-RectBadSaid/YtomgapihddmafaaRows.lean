/-
  No cell of these rows narrows 'for every input' (looked for: loops, veiled, ifaces, maps, wideKeys, modest, calm, conditions, laid).
  DERIVED. THE GIVEN ROWS OF THIS SEAT. 5 by the template 'for every input the law returns true; each argument reads behind the call as it read before'; 0 by the template 'total and deterministic' (their statements: YtomgapihddmafaaTotals.lean).
  GIVEN WITH THE SEED: the statements are not yours to turn. If you find one false, say at which input.
  Laid BY PROGRAM, IN A SANDBOX (cutbox-rows.mjs): the forced cells as the released guide's own fill.sh prints them over the translation 4960a5c09b0306f1… (all of the seat's roots in one cut). By AI agents, Wed Nov 11 2026. No macro, syntax, notation, axiom, sorry.
-/
import Derived.Test.YtomgapihddmafaaChecked
import GoSem.Claim
import GoSem.ClaimJoined
import GoSem.ClaimMapViews
import Derived.JoinedTies
import Derived.KernelRfl
namespace Go.Proofs.Ytomgapihddmafaa
/- THE CELL 'sum', in the pinned program and in every row, IS THE sha256 OF THE DUMP (.gsa) THAT YtomgapihddmafaaProg.lean LOADS. Nothing in Lean hashes anything: it is a label: what it is worth is what the hold of that sum in a sandbox is worth. -/
noncomputable def Try.pinned : Pinned := { name := "ytomgapihddmafaa", sum := "4960a5c09b0306f1c0119719d7cea76df957ef65f53faeccbd143d7184ed0102", checked := Try.checked }
namespace Rows
def none {H : Type} : Left H := { results := [], args := [] }

/-- 'garlandlaw15.RectTells': WHATEVER THE INPUT: true; the input reads as it did. -/
def rectTellsSpec : ChangeSpec := { name := "rectTells", fn := fun _ => fun
  | [d1, d2, d3] => { results := [.lit (.bool true)], args := [d1, d2, d3] }
  | _ => none }
def rectTellsRow : OpenClaim := { program := "ytomgapihddmafaa", sum := "4960a5c09b0306f1c0119719d7cea76df957ef65f53faeccbd143d7184ed0102", func := "garland/garlandlaw15.RectTells", spec := "rectTells", unfollowed := true, recurses := true, apart := false }
def RectTellsSaid : Prop := rectTellsRow.holds Try.pinned (OpenSpec.ofChange rectTellsSpec)

/-- ITS FALSE NEIGHBOUR: 'it returns false'. Refute it at one input. -/
def rectTellsWrong : ChangeSpec := { name := "rectTells", fn := fun _ => fun
  | [d1, d2, d3] => { results := [.lit (.bool false)], args := [d1, d2, d3] }
  | _ => none }
def RectTellsWrongFalsely : Prop := rectTellsRow.holds Try.pinned (OpenSpec.ofChange rectTellsWrong)

/-- 'garlandlaw15.RectBest': WHATEVER THE INPUT: true; the input reads as it did. -/
def rectBestSpec : ChangeSpec := { name := "rectBest", fn := fun _ => fun
  | [d1, d2] => { results := [.lit (.bool true)], args := [d1, d2] }
  | _ => none }
def rectBestRow : OpenClaim := { program := "ytomgapihddmafaa", sum := "4960a5c09b0306f1c0119719d7cea76df957ef65f53faeccbd143d7184ed0102", func := "garland/garlandlaw15.RectBest", spec := "rectBest", unfollowed := true, recurses := true, apart := false }
def RectBestSaid : Prop := rectBestRow.holds Try.pinned (OpenSpec.ofChange rectBestSpec)

/-- ITS FALSE NEIGHBOUR: 'it returns false'. Refute it at one input. -/
def rectBestWrong : ChangeSpec := { name := "rectBest", fn := fun _ => fun
  | [d1, d2] => { results := [.lit (.bool false)], args := [d1, d2] }
  | _ => none }
def RectBestWrongFalsely : Prop := rectBestRow.holds Try.pinned (OpenSpec.ofChange rectBestWrong)

/-- 'garlandlaw15.RectOwns': WHATEVER THE INPUT: true; the input reads as it did. -/
def rectOwnsSpec : ChangeSpec := { name := "rectOwns", fn := fun _ => fun
  | [d1, d2, d3] => { results := [.lit (.bool true)], args := [d1, d2, d3] }
  | _ => none }
def rectOwnsRow : OpenClaim := { program := "ytomgapihddmafaa", sum := "4960a5c09b0306f1c0119719d7cea76df957ef65f53faeccbd143d7184ed0102", func := "garland/garlandlaw15.RectOwns", spec := "rectOwns", unfollowed := true, recurses := true, apart := false }
def RectOwnsSaid : Prop := rectOwnsRow.holds Try.pinned (OpenSpec.ofChange rectOwnsSpec)

/-- ITS FALSE NEIGHBOUR: 'it returns false'. Refute it at one input. -/
def rectOwnsWrong : ChangeSpec := { name := "rectOwns", fn := fun _ => fun
  | [d1, d2, d3] => { results := [.lit (.bool false)], args := [d1, d2, d3] }
  | _ => none }
def RectOwnsWrongFalsely : Prop := rectOwnsRow.holds Try.pinned (OpenSpec.ofChange rectOwnsWrong)

/-- 'garlandlaw15.RectGone': WHATEVER THE INPUT: true; the input reads as it did. -/
def rectGoneSpec : ChangeSpec := { name := "rectGone", fn := fun _ => fun
  | [d1, d2, d3] => { results := [.lit (.bool true)], args := [d1, d2, d3] }
  | _ => none }
def rectGoneRow : OpenClaim := { program := "ytomgapihddmafaa", sum := "4960a5c09b0306f1c0119719d7cea76df957ef65f53faeccbd143d7184ed0102", func := "garland/garlandlaw15.RectGone", spec := "rectGone", unfollowed := true, recurses := true, apart := false }
def RectGoneSaid : Prop := rectGoneRow.holds Try.pinned (OpenSpec.ofChange rectGoneSpec)

/-- ITS FALSE NEIGHBOUR: 'it returns false'. Refute it at one input. -/
def rectGoneWrong : ChangeSpec := { name := "rectGone", fn := fun _ => fun
  | [d1, d2, d3] => { results := [.lit (.bool false)], args := [d1, d2, d3] }
  | _ => none }
def RectGoneWrongFalsely : Prop := rectGoneRow.holds Try.pinned (OpenSpec.ofChange rectGoneWrong)

/-- 'garlandlaw15.RectBad': WHATEVER THE INPUT: true; the input reads as it did. -/
def rectBadSpec : ChangeSpec := { name := "rectBad", fn := fun _ => fun
  | [d1, d2, d3] => { results := [.lit (.bool true)], args := [d1, d2, d3] }
  | _ => none }
def rectBadRow : OpenClaim := { program := "ytomgapihddmafaa", sum := "4960a5c09b0306f1c0119719d7cea76df957ef65f53faeccbd143d7184ed0102", func := "garland/garlandlaw15.RectBad", spec := "rectBad", unfollowed := true, recurses := true, apart := false }
def RectBadSaid : Prop := rectBadRow.holds Try.pinned (OpenSpec.ofChange rectBadSpec)

/-- ITS FALSE NEIGHBOUR: 'it returns false'. Refute it at one input. -/
def rectBadWrong : ChangeSpec := { name := "rectBad", fn := fun _ => fun
  | [d1, d2, d3] => { results := [.lit (.bool false)], args := [d1, d2, d3] }
  | _ => none }
def RectBadWrongFalsely : Prop := rectBadRow.holds Try.pinned (OpenSpec.ofChange rectBadWrong)

/- THE SECOND FORM. 'bulk': how many values and letters a reading holds, each counted each time it is reached (what is shared counts as often as it is met; a slice's spare places count too). A statement '..UptoSaid' is the law's where the arguments, and the package variables that the reading takes, are together of bulk at most 1048576: NARROWER than '..Said'. Prove '..Said' where nothing that the law and all that it calls make is longer than what came in: it says more and counts as full. Else prove '..UptoSaid'. A law counts once. -/
mutual
def uptoBulk {H : Type} : DataW H → Nat
  | .lit (.string bytes) => bytes.length + 1
  | .lit _ => 1
  | .nil => 1
  | .ptr d => uptoBulk d + 1
  | .slice elems spare => uptoBulkAll elems + uptoBulkAll spare + 1
  | .agg parts => uptoBulkAll parts + 1
  | .iface _ d => uptoBulk d + 1
  | .map entries => uptoBulkEntries entries + 1
  | .held _ => 1
def uptoBulkAll {H : Type} : List (DataW H) → Nat
  | [] => 0
  | d :: r => uptoBulk d + uptoBulkAll r
def uptoBulkEntries {H : Type} : List (Lit × DataW H) → Nat
  | [] => 0
  | x :: r => uptoBulkEntry x + uptoBulkEntries r
def uptoBulkEntry {H : Type} : Lit × DataW H → Nat
  | (.string bytes, d) => bytes.length + uptoBulk d + 1
  | (_, d) => uptoBulk d + 1
 end
def uptoSmall : (H : Type) → List (DataW H) → Bool := fun _ ds => decide (uptoBulkAll ds ≤ 1048576)
def OpenSpec.upto (s : _root_.Go.ChangeSpec) : _root_.Go.OpenSpec := { _root_.Go.OpenSpec.ofChange s with cond := some uptoSmall }

/-- 'garlandlaw15.RectTells', WHERE WHAT IT READS IS OF BULK AT MOST 1048576: true; the input reads as it did. -/
def rectTellsUptoRow : OpenClaim := { program := "ytomgapihddmafaa", sum := "4960a5c09b0306f1c0119719d7cea76df957ef65f53faeccbd143d7184ed0102", func := "garland/garlandlaw15.RectTells", spec := "rectTells", unfollowed := true, recurses := true, apart := false, narrowed := true }
def RectTellsUptoSaid : Prop := rectTellsUptoRow.holds Try.pinned (OpenSpec.upto rectTellsSpec)

/-- 'garlandlaw15.RectBest', WHERE WHAT IT READS IS OF BULK AT MOST 1048576: true; the input reads as it did. -/
def rectBestUptoRow : OpenClaim := { program := "ytomgapihddmafaa", sum := "4960a5c09b0306f1c0119719d7cea76df957ef65f53faeccbd143d7184ed0102", func := "garland/garlandlaw15.RectBest", spec := "rectBest", unfollowed := true, recurses := true, apart := false, narrowed := true }
def RectBestUptoSaid : Prop := rectBestUptoRow.holds Try.pinned (OpenSpec.upto rectBestSpec)

/-- 'garlandlaw15.RectOwns', WHERE WHAT IT READS IS OF BULK AT MOST 1048576: true; the input reads as it did. -/
def rectOwnsUptoRow : OpenClaim := { program := "ytomgapihddmafaa", sum := "4960a5c09b0306f1c0119719d7cea76df957ef65f53faeccbd143d7184ed0102", func := "garland/garlandlaw15.RectOwns", spec := "rectOwns", unfollowed := true, recurses := true, apart := false, narrowed := true }
def RectOwnsUptoSaid : Prop := rectOwnsUptoRow.holds Try.pinned (OpenSpec.upto rectOwnsSpec)

/-- 'garlandlaw15.RectGone', WHERE WHAT IT READS IS OF BULK AT MOST 1048576: true; the input reads as it did. -/
def rectGoneUptoRow : OpenClaim := { program := "ytomgapihddmafaa", sum := "4960a5c09b0306f1c0119719d7cea76df957ef65f53faeccbd143d7184ed0102", func := "garland/garlandlaw15.RectGone", spec := "rectGone", unfollowed := true, recurses := true, apart := false, narrowed := true }
def RectGoneUptoSaid : Prop := rectGoneUptoRow.holds Try.pinned (OpenSpec.upto rectGoneSpec)

/-- 'garlandlaw15.RectBad', WHERE WHAT IT READS IS OF BULK AT MOST 1048576: true; the input reads as it did. -/
def rectBadUptoRow : OpenClaim := { program := "ytomgapihddmafaa", sum := "4960a5c09b0306f1c0119719d7cea76df957ef65f53faeccbd143d7184ed0102", func := "garland/garlandlaw15.RectBad", spec := "rectBad", unfollowed := true, recurses := true, apart := false, narrowed := true }
def RectBadUptoSaid : Prop := rectBadUptoRow.holds Try.pinned (OpenSpec.upto rectBadSpec)

end Rows
end Go.Proofs.Ytomgapihddmafaa
