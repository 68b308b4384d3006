/-
  No cell of these rows narrows 'for every input' (looked for: loops, veiled, ifaces, maps, wideKeys, modest, calm, conditions, laid).
  DERIVED. THE GIVEN ROWS OF THIS SEAT. 10 by the template 'for every input the law returns true; each argument reads behind the call as it read before'; 0 by the template 'total and deterministic' (their statements: YtlbdcdflffgehaaTotals.lean).
  GIVEN WITH THE SEED: the statements are not yours to turn. If you find one false, say at which input.
  Laid BY PROGRAM, IN A SANDBOX (cutbox-rows.mjs): the forced cells as the released guide's own fill.sh prints them over the translation 6d49312271861d42… (all of the seat's roots in one cut). By AI agents, Wed Nov 11 2026. No macro, syntax, notation, axiom, sorry.
-/
import Derived.Test.YtlbdcdflffgehaaChecked
import GoSem.Claim
import GoSem.ClaimJoined
import GoSem.ClaimMapViews
import Derived.JoinedTies
import Derived.KernelRfl
namespace Go.Proofs.Ytlbdcdflffgehaa
/- THE CELL 'sum', in the pinned program and in every row, IS THE sha256 OF THE DUMP (.gsa) THAT YtlbdcdflffgehaaProg.lean LOADS. Nothing in Lean hashes anything: it is a label: what it is worth is what the hold of that sum in a sandbox is worth. -/
noncomputable def Try.pinned : Pinned := { name := "ytlbdcdflffgehaa", sum := "6d49312271861d4216274e7ffae1b1feb42a7a92be0996b7ef51ad1bc9cdecf7", checked := Try.checked }
namespace Rows
def none {H : Type} : Left H := { results := [], args := [] }

/-- 'garlandlaw16.HopTells': WHATEVER THE INPUT: true; the input reads as it did. -/
def hopTellsSpec : ChangeSpec := { name := "hopTells", fn := fun _ => fun
  | [d1, d2, d3, d4, d5, d6] => { results := [.lit (.bool true)], args := [d1, d2, d3, d4, d5, d6] }
  | _ => none }
def hopTellsRow : OpenClaim := { program := "ytlbdcdflffgehaa", sum := "6d49312271861d4216274e7ffae1b1feb42a7a92be0996b7ef51ad1bc9cdecf7", func := "garland/garlandlaw16.HopTells", spec := "hopTells", unfollowed := true, recurses := true, apart := false }
def HopTellsSaid : Prop := hopTellsRow.holds Try.pinned (OpenSpec.ofChange hopTellsSpec)

/-- ITS FALSE NEIGHBOUR: 'it returns false'. Refute it at one input. -/
def hopTellsWrong : ChangeSpec := { name := "hopTells", fn := fun _ => fun
  | [d1, d2, d3, d4, d5, d6] => { results := [.lit (.bool false)], args := [d1, d2, d3, d4, d5, d6] }
  | _ => none }
def HopTellsWrongFalsely : Prop := hopTellsRow.holds Try.pinned (OpenSpec.ofChange hopTellsWrong)

/-- 'garlandlaw16.HopCloser': WHATEVER THE INPUT: true; the input reads as it did. -/
def hopCloserSpec : ChangeSpec := { name := "hopCloser", fn := fun _ => fun
  | [d1, d2, d3] => { results := [.lit (.bool true)], args := [d1, d2, d3] }
  | _ => none }
def hopCloserRow : OpenClaim := { program := "ytlbdcdflffgehaa", sum := "6d49312271861d4216274e7ffae1b1feb42a7a92be0996b7ef51ad1bc9cdecf7", func := "garland/garlandlaw16.HopCloser", spec := "hopCloser", unfollowed := true, recurses := true, apart := false }
def HopCloserSaid : Prop := hopCloserRow.holds Try.pinned (OpenSpec.ofChange hopCloserSpec)

/-- ITS FALSE NEIGHBOUR: 'it returns false'. Refute it at one input. -/
def hopCloserWrong : ChangeSpec := { name := "hopCloser", fn := fun _ => fun
  | [d1, d2, d3] => { results := [.lit (.bool false)], args := [d1, d2, d3] }
  | _ => none }
def HopCloserWrongFalsely : Prop := hopCloserRow.holds Try.pinned (OpenSpec.ofChange hopCloserWrong)

/-- 'garlandlaw16.HopEnds': WHATEVER THE INPUT: true; the input reads as it did. -/
def hopEndsSpec : ChangeSpec := { name := "hopEnds", fn := fun _ => fun
  | [d1, d2, d3, d4] => { results := [.lit (.bool true)], args := [d1, d2, d3, d4] }
  | _ => none }
def hopEndsRow : OpenClaim := { program := "ytlbdcdflffgehaa", sum := "6d49312271861d4216274e7ffae1b1feb42a7a92be0996b7ef51ad1bc9cdecf7", func := "garland/garlandlaw16.HopEnds", spec := "hopEnds", unfollowed := true, recurses := true, apart := false }
def HopEndsSaid : Prop := hopEndsRow.holds Try.pinned (OpenSpec.ofChange hopEndsSpec)

/-- ITS FALSE NEIGHBOUR: 'it returns false'. Refute it at one input. -/
def hopEndsWrong : ChangeSpec := { name := "hopEnds", fn := fun _ => fun
  | [d1, d2, d3, d4] => { results := [.lit (.bool false)], args := [d1, d2, d3, d4] }
  | _ => none }
def HopEndsWrongFalsely : Prop := hopEndsRow.holds Try.pinned (OpenSpec.ofChange hopEndsWrong)

/-- 'garlandlaw16.HopKnows': WHATEVER THE INPUT: true; the input reads as it did. -/
def hopKnowsSpec : ChangeSpec := { name := "hopKnows", fn := fun _ => fun
  | [d1, d2] => { results := [.lit (.bool true)], args := [d1, d2] }
  | _ => none }
def hopKnowsRow : OpenClaim := { program := "ytlbdcdflffgehaa", sum := "6d49312271861d4216274e7ffae1b1feb42a7a92be0996b7ef51ad1bc9cdecf7", func := "garland/garlandlaw16.HopKnows", spec := "hopKnows", unfollowed := true, recurses := true, apart := false }
def HopKnowsSaid : Prop := hopKnowsRow.holds Try.pinned (OpenSpec.ofChange hopKnowsSpec)

/-- ITS FALSE NEIGHBOUR: 'it returns false'. Refute it at one input. -/
def hopKnowsWrong : ChangeSpec := { name := "hopKnows", fn := fun _ => fun
  | [d1, d2] => { results := [.lit (.bool false)], args := [d1, d2] }
  | _ => none }
def HopKnowsWrongFalsely : Prop := hopKnowsRow.holds Try.pinned (OpenSpec.ofChange hopKnowsWrong)

/-- 'garlandlaw16.HopAnswers': WHATEVER THE INPUT: true; the input reads as it did. -/
def hopAnswersSpec : ChangeSpec := { name := "hopAnswers", fn := fun _ => fun
  | [d1, d2] => { results := [.lit (.bool true)], args := [d1, d2] }
  | _ => none }
def hopAnswersRow : OpenClaim := { program := "ytlbdcdflffgehaa", sum := "6d49312271861d4216274e7ffae1b1feb42a7a92be0996b7ef51ad1bc9cdecf7", func := "garland/garlandlaw16.HopAnswers", spec := "hopAnswers", unfollowed := true, recurses := true, apart := false }
def HopAnswersSaid : Prop := hopAnswersRow.holds Try.pinned (OpenSpec.ofChange hopAnswersSpec)

/-- ITS FALSE NEIGHBOUR: 'it returns false'. Refute it at one input. -/
def hopAnswersWrong : ChangeSpec := { name := "hopAnswers", fn := fun _ => fun
  | [d1, d2] => { results := [.lit (.bool false)], args := [d1, d2] }
  | _ => none }
def HopAnswersWrongFalsely : Prop := hopAnswersRow.holds Try.pinned (OpenSpec.ofChange hopAnswersWrong)

/-- 'garlandlaw18.LookTells': WHATEVER THE INPUT: true; the input reads as it did. -/
def lookTellsSpec : ChangeSpec := { name := "lookTells", fn := fun _ => fun
  | [d1, d2, d3, d4] => { results := [.lit (.bool true)], args := [d1, d2, d3, d4] }
  | _ => none }
def lookTellsRow : OpenClaim := { program := "ytlbdcdflffgehaa", sum := "6d49312271861d4216274e7ffae1b1feb42a7a92be0996b7ef51ad1bc9cdecf7", func := "garland/garlandlaw18.LookTells", spec := "lookTells", unfollowed := true, recurses := true, apart := false }
def LookTellsSaid : Prop := lookTellsRow.holds Try.pinned (OpenSpec.ofChange lookTellsSpec)

/-- ITS FALSE NEIGHBOUR: 'it returns false'. Refute it at one input. -/
def lookTellsWrong : ChangeSpec := { name := "lookTells", fn := fun _ => fun
  | [d1, d2, d3, d4] => { results := [.lit (.bool false)], args := [d1, d2, d3, d4] }
  | _ => none }
def LookTellsWrongFalsely : Prop := lookTellsRow.holds Try.pinned (OpenSpec.ofChange lookTellsWrong)

/-- 'garlandlaw18.LookEnds': WHATEVER THE INPUT: true; the input reads as it did. -/
def lookEndsSpec : ChangeSpec := { name := "lookEnds", fn := fun _ => fun
  | [d1, d2, d3, d4] => { results := [.lit (.bool true)], args := [d1, d2, d3, d4] }
  | _ => none }
def lookEndsRow : OpenClaim := { program := "ytlbdcdflffgehaa", sum := "6d49312271861d4216274e7ffae1b1feb42a7a92be0996b7ef51ad1bc9cdecf7", func := "garland/garlandlaw18.LookEnds", spec := "lookEnds", unfollowed := true, recurses := true, apart := false }
def LookEndsSaid : Prop := lookEndsRow.holds Try.pinned (OpenSpec.ofChange lookEndsSpec)

/-- ITS FALSE NEIGHBOUR: 'it returns false'. Refute it at one input. -/
def lookEndsWrong : ChangeSpec := { name := "lookEnds", fn := fun _ => fun
  | [d1, d2, d3, d4] => { results := [.lit (.bool false)], args := [d1, d2, d3, d4] }
  | _ => none }
def LookEndsWrongFalsely : Prop := lookEndsRow.holds Try.pinned (OpenSpec.ofChange lookEndsWrong)

/-- 'garlandlaw18.LookCloser': WHATEVER THE INPUT: true; the input reads as it did. -/
def lookCloserSpec : ChangeSpec := { name := "lookCloser", fn := fun _ => fun
  | [d1, d2, d3] => { results := [.lit (.bool true)], args := [d1, d2, d3] }
  | _ => none }
def lookCloserRow : OpenClaim := { program := "ytlbdcdflffgehaa", sum := "6d49312271861d4216274e7ffae1b1feb42a7a92be0996b7ef51ad1bc9cdecf7", func := "garland/garlandlaw18.LookCloser", spec := "lookCloser", unfollowed := true, recurses := true, apart := false }
def LookCloserSaid : Prop := lookCloserRow.holds Try.pinned (OpenSpec.ofChange lookCloserSpec)

/-- ITS FALSE NEIGHBOUR: 'it returns false'. Refute it at one input. -/
def lookCloserWrong : ChangeSpec := { name := "lookCloser", fn := fun _ => fun
  | [d1, d2, d3] => { results := [.lit (.bool false)], args := [d1, d2, d3] }
  | _ => none }
def LookCloserWrongFalsely : Prop := lookCloserRow.holds Try.pinned (OpenSpec.ofChange lookCloserWrong)

/-- 'garlandlaw18.LookNot': WHATEVER THE INPUT: true; the input reads as it did. -/
def lookNotSpec : ChangeSpec := { name := "lookNot", fn := fun _ => fun
  | [d1, d2, d3] => { results := [.lit (.bool true)], args := [d1, d2, d3] }
  | _ => none }
def lookNotRow : OpenClaim := { program := "ytlbdcdflffgehaa", sum := "6d49312271861d4216274e7ffae1b1feb42a7a92be0996b7ef51ad1bc9cdecf7", func := "garland/garlandlaw18.LookNot", spec := "lookNot", unfollowed := true, recurses := true, apart := false }
def LookNotSaid : Prop := lookNotRow.holds Try.pinned (OpenSpec.ofChange lookNotSpec)

/-- ITS FALSE NEIGHBOUR: 'it returns false'. Refute it at one input. -/
def lookNotWrong : ChangeSpec := { name := "lookNot", fn := fun _ => fun
  | [d1, d2, d3] => { results := [.lit (.bool false)], args := [d1, d2, d3] }
  | _ => none }
def LookNotWrongFalsely : Prop := lookNotRow.holds Try.pinned (OpenSpec.ofChange lookNotWrong)

/-- 'garlandlaw18.LookOwn': WHATEVER THE INPUT: true; the input reads as it did. -/
def lookOwnSpec : ChangeSpec := { name := "lookOwn", fn := fun _ => fun
  | [d1, d2] => { results := [.lit (.bool true)], args := [d1, d2] }
  | _ => none }
def lookOwnRow : OpenClaim := { program := "ytlbdcdflffgehaa", sum := "6d49312271861d4216274e7ffae1b1feb42a7a92be0996b7ef51ad1bc9cdecf7", func := "garland/garlandlaw18.LookOwn", spec := "lookOwn", unfollowed := true, recurses := true, apart := false }
def LookOwnSaid : Prop := lookOwnRow.holds Try.pinned (OpenSpec.ofChange lookOwnSpec)

/-- ITS FALSE NEIGHBOUR: 'it returns false'. Refute it at one input. -/
def lookOwnWrong : ChangeSpec := { name := "lookOwn", fn := fun _ => fun
  | [d1, d2] => { results := [.lit (.bool false)], args := [d1, d2] }
  | _ => none }
def LookOwnWrongFalsely : Prop := lookOwnRow.holds Try.pinned (OpenSpec.ofChange lookOwnWrong)

/- THE SECOND FORM. 'bulk': how many values and letters a reading holds, each counted each time it is reached (what is shared counts as often as it is met; a slice's spare places count too). A statement '..UptoSaid' is the law's where the arguments, and the package variables that the reading takes, are together of bulk at most 1048576: NARROWER than '..Said'. Prove '..Said' where nothing that the law and all that it calls make is longer than what came in: it says more and counts as full. Else prove '..UptoSaid'. A law counts once. -/
mutual
def uptoBulk {H : Type} : DataW H → Nat
  | .lit (.string bytes) => bytes.length + 1
  | .lit _ => 1
  | .nil => 1
  | .ptr d => uptoBulk d + 1
  | .slice elems spare => uptoBulkAll elems + uptoBulkAll spare + 1
  | .agg parts => uptoBulkAll parts + 1
  | .iface _ d => uptoBulk d + 1
  | .map entries => uptoBulkEntries entries + 1
  | .held _ => 1
def uptoBulkAll {H : Type} : List (DataW H) → Nat
  | [] => 0
  | d :: r => uptoBulk d + uptoBulkAll r
def uptoBulkEntries {H : Type} : List (Lit × DataW H) → Nat
  | [] => 0
  | x :: r => uptoBulkEntry x + uptoBulkEntries r
def uptoBulkEntry {H : Type} : Lit × DataW H → Nat
  | (.string bytes, d) => bytes.length + uptoBulk d + 1
  | (_, d) => uptoBulk d + 1
 end
def uptoSmall : (H : Type) → List (DataW H) → Bool := fun _ ds => decide (uptoBulkAll ds ≤ 1048576)
def OpenSpec.upto (s : _root_.Go.ChangeSpec) : _root_.Go.OpenSpec := { _root_.Go.OpenSpec.ofChange s with cond := some uptoSmall }

/-- 'garlandlaw16.HopTells', WHERE WHAT IT READS IS OF BULK AT MOST 1048576: true; the input reads as it did. -/
def hopTellsUptoRow : OpenClaim := { program := "ytlbdcdflffgehaa", sum := "6d49312271861d4216274e7ffae1b1feb42a7a92be0996b7ef51ad1bc9cdecf7", func := "garland/garlandlaw16.HopTells", spec := "hopTells", unfollowed := true, recurses := true, apart := false, narrowed := true }
def HopTellsUptoSaid : Prop := hopTellsUptoRow.holds Try.pinned (OpenSpec.upto hopTellsSpec)

/-- 'garlandlaw16.HopCloser', WHERE WHAT IT READS IS OF BULK AT MOST 1048576: true; the input reads as it did. -/
def hopCloserUptoRow : OpenClaim := { program := "ytlbdcdflffgehaa", sum := "6d49312271861d4216274e7ffae1b1feb42a7a92be0996b7ef51ad1bc9cdecf7", func := "garland/garlandlaw16.HopCloser", spec := "hopCloser", unfollowed := true, recurses := true, apart := false, narrowed := true }
def HopCloserUptoSaid : Prop := hopCloserUptoRow.holds Try.pinned (OpenSpec.upto hopCloserSpec)

/-- 'garlandlaw16.HopEnds', WHERE WHAT IT READS IS OF BULK AT MOST 1048576: true; the input reads as it did. -/
def hopEndsUptoRow : OpenClaim := { program := "ytlbdcdflffgehaa", sum := "6d49312271861d4216274e7ffae1b1feb42a7a92be0996b7ef51ad1bc9cdecf7", func := "garland/garlandlaw16.HopEnds", spec := "hopEnds", unfollowed := true, recurses := true, apart := false, narrowed := true }
def HopEndsUptoSaid : Prop := hopEndsUptoRow.holds Try.pinned (OpenSpec.upto hopEndsSpec)

/-- 'garlandlaw16.HopKnows', WHERE WHAT IT READS IS OF BULK AT MOST 1048576: true; the input reads as it did. -/
def hopKnowsUptoRow : OpenClaim := { program := "ytlbdcdflffgehaa", sum := "6d49312271861d4216274e7ffae1b1feb42a7a92be0996b7ef51ad1bc9cdecf7", func := "garland/garlandlaw16.HopKnows", spec := "hopKnows", unfollowed := true, recurses := true, apart := false, narrowed := true }
def HopKnowsUptoSaid : Prop := hopKnowsUptoRow.holds Try.pinned (OpenSpec.upto hopKnowsSpec)

/-- 'garlandlaw16.HopAnswers', WHERE WHAT IT READS IS OF BULK AT MOST 1048576: true; the input reads as it did. -/
def hopAnswersUptoRow : OpenClaim := { program := "ytlbdcdflffgehaa", sum := "6d49312271861d4216274e7ffae1b1feb42a7a92be0996b7ef51ad1bc9cdecf7", func := "garland/garlandlaw16.HopAnswers", spec := "hopAnswers", unfollowed := true, recurses := true, apart := false, narrowed := true }
def HopAnswersUptoSaid : Prop := hopAnswersUptoRow.holds Try.pinned (OpenSpec.upto hopAnswersSpec)

/-- 'garlandlaw18.LookTells', WHERE WHAT IT READS IS OF BULK AT MOST 1048576: true; the input reads as it did. -/
def lookTellsUptoRow : OpenClaim := { program := "ytlbdcdflffgehaa", sum := "6d49312271861d4216274e7ffae1b1feb42a7a92be0996b7ef51ad1bc9cdecf7", func := "garland/garlandlaw18.LookTells", spec := "lookTells", unfollowed := true, recurses := true, apart := false, narrowed := true }
def LookTellsUptoSaid : Prop := lookTellsUptoRow.holds Try.pinned (OpenSpec.upto lookTellsSpec)

/-- 'garlandlaw18.LookEnds', WHERE WHAT IT READS IS OF BULK AT MOST 1048576: true; the input reads as it did. -/
def lookEndsUptoRow : OpenClaim := { program := "ytlbdcdflffgehaa", sum := "6d49312271861d4216274e7ffae1b1feb42a7a92be0996b7ef51ad1bc9cdecf7", func := "garland/garlandlaw18.LookEnds", spec := "lookEnds", unfollowed := true, recurses := true, apart := false, narrowed := true }
def LookEndsUptoSaid : Prop := lookEndsUptoRow.holds Try.pinned (OpenSpec.upto lookEndsSpec)

/-- 'garlandlaw18.LookCloser', WHERE WHAT IT READS IS OF BULK AT MOST 1048576: true; the input reads as it did. -/
def lookCloserUptoRow : OpenClaim := { program := "ytlbdcdflffgehaa", sum := "6d49312271861d4216274e7ffae1b1feb42a7a92be0996b7ef51ad1bc9cdecf7", func := "garland/garlandlaw18.LookCloser", spec := "lookCloser", unfollowed := true, recurses := true, apart := false, narrowed := true }
def LookCloserUptoSaid : Prop := lookCloserUptoRow.holds Try.pinned (OpenSpec.upto lookCloserSpec)

/-- 'garlandlaw18.LookNot', WHERE WHAT IT READS IS OF BULK AT MOST 1048576: true; the input reads as it did. -/
def lookNotUptoRow : OpenClaim := { program := "ytlbdcdflffgehaa", sum := "6d49312271861d4216274e7ffae1b1feb42a7a92be0996b7ef51ad1bc9cdecf7", func := "garland/garlandlaw18.LookNot", spec := "lookNot", unfollowed := true, recurses := true, apart := false, narrowed := true }
def LookNotUptoSaid : Prop := lookNotUptoRow.holds Try.pinned (OpenSpec.upto lookNotSpec)

/-- 'garlandlaw18.LookOwn', WHERE WHAT IT READS IS OF BULK AT MOST 1048576: true; the input reads as it did. -/
def lookOwnUptoRow : OpenClaim := { program := "ytlbdcdflffgehaa", sum := "6d49312271861d4216274e7ffae1b1feb42a7a92be0996b7ef51ad1bc9cdecf7", func := "garland/garlandlaw18.LookOwn", spec := "lookOwn", unfollowed := true, recurses := true, apart := false, narrowed := true }
def LookOwnUptoSaid : Prop := lookOwnUptoRow.holds Try.pinned (OpenSpec.upto lookOwnSpec)

end Rows
end Go.Proofs.Ytlbdcdflffgehaa
