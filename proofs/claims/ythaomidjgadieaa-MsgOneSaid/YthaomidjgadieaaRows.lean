/-
  No cell of these rows narrows 'for every input' (looked for: loops, veiled, ifaces, maps, wideKeys, modest, calm, conditions, laid).
  DERIVED. THE GIVEN ROWS OF THIS SEAT. 10 by the template 'for every input the law returns true; each argument reads behind the call as it read before'; 0 by the template 'total and deterministic' (their statements: YthaomidjgadieaaTotals.lean).
  GIVEN WITH THE SEED: the statements are not yours to turn. If you find one false, say at which input.
  Laid BY PROGRAM, IN A SANDBOX (cutbox-rows.mjs): the forced cells as the released guide's own fill.sh prints them over the translation f5e02202db4b802c… (all of the seat's roots in one cut). By AI agents, Wed Nov 11 2026. No macro, syntax, notation, axiom, sorry.
-/
import Derived.Test.YthaomidjgadieaaChecked
import GoSem.Claim
import GoSem.ClaimJoined
import GoSem.ClaimMapViews
import Derived.JoinedTies
import Derived.KernelRfl
namespace Go.Proofs.Ythaomidjgadieaa
/- THE CELL 'sum', in the pinned program and in every row, IS THE sha256 OF THE DUMP (.gsa) THAT YthaomidjgadieaaProg.lean LOADS. Nothing in Lean hashes anything: it is a label: what it is worth is what the hold of that sum in a sandbox is worth. -/
noncomputable def Try.pinned : Pinned := { name := "ythaomidjgadieaa", sum := "f5e02202db4b802cf3fbdb5eae14c2207817f0dd07182766f514e8ff38f00b78", checked := Try.checked }
namespace Rows
def none {H : Type} : Left H := { results := [], args := [] }

/-- 'garlandlaw06.MsgTells': WHATEVER THE INPUT: true; the input reads as it did. -/
def msgTellsSpec : ChangeSpec := { name := "msgTells", fn := fun _ => fun
  | [d1, d2, d3, d4, d5] => { results := [.lit (.bool true)], args := [d1, d2, d3, d4, d5] }
  | _ => none }
def msgTellsRow : OpenClaim := { program := "ythaomidjgadieaa", sum := "f5e02202db4b802cf3fbdb5eae14c2207817f0dd07182766f514e8ff38f00b78", func := "garland/garlandlaw06.MsgTells", spec := "msgTells", unfollowed := true, recurses := true, apart := false }
def MsgTellsSaid : Prop := msgTellsRow.holds Try.pinned (OpenSpec.ofChange msgTellsSpec)

/-- ITS FALSE NEIGHBOUR: 'it returns false'. Refute it at one input. -/
def msgTellsWrong : ChangeSpec := { name := "msgTells", fn := fun _ => fun
  | [d1, d2, d3, d4, d5] => { results := [.lit (.bool false)], args := [d1, d2, d3, d4, d5] }
  | _ => none }
def MsgTellsWrongFalsely : Prop := msgTellsRow.holds Try.pinned (OpenSpec.ofChange msgTellsWrong)

/-- 'garlandlaw06.MsgTold': WHATEVER THE INPUT: true; the input reads as it did. -/
def msgToldSpec : ChangeSpec := { name := "msgTold", fn := fun _ => fun
  | [d1, d2] => { results := [.lit (.bool true)], args := [d1, d2] }
  | _ => none }
def msgToldRow : OpenClaim := { program := "ythaomidjgadieaa", sum := "f5e02202db4b802cf3fbdb5eae14c2207817f0dd07182766f514e8ff38f00b78", func := "garland/garlandlaw06.MsgTold", spec := "msgTold", unfollowed := true, recurses := true, apart := false }
def MsgToldSaid : Prop := msgToldRow.holds Try.pinned (OpenSpec.ofChange msgToldSpec)

/-- ITS FALSE NEIGHBOUR: 'it returns false'. Refute it at one input. -/
def msgToldWrong : ChangeSpec := { name := "msgTold", fn := fun _ => fun
  | [d1, d2] => { results := [.lit (.bool false)], args := [d1, d2] }
  | _ => none }
def MsgToldWrongFalsely : Prop := msgToldRow.holds Try.pinned (OpenSpec.ofChange msgToldWrong)

/-- 'garlandlaw06.MsgOne': WHATEVER THE INPUT: true; the input reads as it did. -/
def msgOneSpec : ChangeSpec := { name := "msgOne", fn := fun _ => fun
  | [d1, d2] => { results := [.lit (.bool true)], args := [d1, d2] }
  | _ => none }
def msgOneRow : OpenClaim := { program := "ythaomidjgadieaa", sum := "f5e02202db4b802cf3fbdb5eae14c2207817f0dd07182766f514e8ff38f00b78", func := "garland/garlandlaw06.MsgOne", spec := "msgOne", unfollowed := true, recurses := true, apart := false }
def MsgOneSaid : Prop := msgOneRow.holds Try.pinned (OpenSpec.ofChange msgOneSpec)

/-- ITS FALSE NEIGHBOUR: 'it returns false'. Refute it at one input. -/
def msgOneWrong : ChangeSpec := { name := "msgOne", fn := fun _ => fun
  | [d1, d2] => { results := [.lit (.bool false)], args := [d1, d2] }
  | _ => none }
def MsgOneWrongFalsely : Prop := msgOneRow.holds Try.pinned (OpenSpec.ofChange msgOneWrong)

/-- 'garlandlaw06.MsgCalls': WHATEVER THE INPUT: true; the input reads as it did. -/
def msgCallsSpec : ChangeSpec := { name := "msgCalls", fn := fun _ => fun
  | [d1, d2, d3, d4] => { results := [.lit (.bool true)], args := [d1, d2, d3, d4] }
  | _ => none }
def msgCallsRow : OpenClaim := { program := "ythaomidjgadieaa", sum := "f5e02202db4b802cf3fbdb5eae14c2207817f0dd07182766f514e8ff38f00b78", func := "garland/garlandlaw06.MsgCalls", spec := "msgCalls", unfollowed := true, recurses := true, apart := false }
def MsgCallsSaid : Prop := msgCallsRow.holds Try.pinned (OpenSpec.ofChange msgCallsSpec)

/-- ITS FALSE NEIGHBOUR: 'it returns false'. Refute it at one input. -/
def msgCallsWrong : ChangeSpec := { name := "msgCalls", fn := fun _ => fun
  | [d1, d2, d3, d4] => { results := [.lit (.bool false)], args := [d1, d2, d3, d4] }
  | _ => none }
def MsgCallsWrongFalsely : Prop := msgCallsRow.holds Try.pinned (OpenSpec.ofChange msgCallsWrong)

/-- 'garlandlaw06.MsgLists': WHATEVER THE INPUT: true; the input reads as it did. -/
def msgListsSpec : ChangeSpec := { name := "msgLists", fn := fun _ => fun
  | [d1, d2, d3] => { results := [.lit (.bool true)], args := [d1, d2, d3] }
  | _ => none }
def msgListsRow : OpenClaim := { program := "ythaomidjgadieaa", sum := "f5e02202db4b802cf3fbdb5eae14c2207817f0dd07182766f514e8ff38f00b78", func := "garland/garlandlaw06.MsgLists", spec := "msgLists", unfollowed := true, recurses := true, apart := false }
def MsgListsSaid : Prop := msgListsRow.holds Try.pinned (OpenSpec.ofChange msgListsSpec)

/-- ITS FALSE NEIGHBOUR: 'it returns false'. Refute it at one input. -/
def msgListsWrong : ChangeSpec := { name := "msgLists", fn := fun _ => fun
  | [d1, d2, d3] => { results := [.lit (.bool false)], args := [d1, d2, d3] }
  | _ => none }
def MsgListsWrongFalsely : Prop := msgListsRow.holds Try.pinned (OpenSpec.ofChange msgListsWrong)

/-- 'garlandlaw20.KeepTells': WHATEVER THE INPUT: true; the input reads as it did. -/
def keepTellsSpec : ChangeSpec := { name := "keepTells", fn := fun _ => fun
  | [d1, d2, d3, d4] => { results := [.lit (.bool true)], args := [d1, d2, d3, d4] }
  | _ => none }
def keepTellsRow : OpenClaim := { program := "ythaomidjgadieaa", sum := "f5e02202db4b802cf3fbdb5eae14c2207817f0dd07182766f514e8ff38f00b78", func := "garland/garlandlaw20.KeepTells", spec := "keepTells", unfollowed := true, recurses := true, apart := false }
def KeepTellsSaid : Prop := keepTellsRow.holds Try.pinned (OpenSpec.ofChange keepTellsSpec)

/-- ITS FALSE NEIGHBOUR: 'it returns false'. Refute it at one input. -/
def keepTellsWrong : ChangeSpec := { name := "keepTells", fn := fun _ => fun
  | [d1, d2, d3, d4] => { results := [.lit (.bool false)], args := [d1, d2, d3, d4] }
  | _ => none }
def KeepTellsWrongFalsely : Prop := keepTellsRow.holds Try.pinned (OpenSpec.ofChange keepTellsWrong)

/-- 'garlandlaw20.KeepNewest': WHATEVER THE INPUT: true; the input reads as it did. -/
def keepNewestSpec : ChangeSpec := { name := "keepNewest", fn := fun _ => fun
  | [d] => { results := [.lit (.bool true)], args := [d] }
  | _ => none }
def keepNewestRow : OpenClaim := { program := "ythaomidjgadieaa", sum := "f5e02202db4b802cf3fbdb5eae14c2207817f0dd07182766f514e8ff38f00b78", func := "garland/garlandlaw20.KeepNewest", spec := "keepNewest", unfollowed := true, recurses := true, apart := false }
def KeepNewestSaid : Prop := keepNewestRow.holds Try.pinned (OpenSpec.ofChange keepNewestSpec)

/-- ITS FALSE NEIGHBOUR: 'it returns false'. Refute it at one input. -/
def keepNewestWrong : ChangeSpec := { name := "keepNewest", fn := fun _ => fun
  | [d] => { results := [.lit (.bool false)], args := [d] }
  | _ => none }
def KeepNewestWrongFalsely : Prop := keepNewestRow.holds Try.pinned (OpenSpec.ofChange keepNewestWrong)

/-- 'garlandlaw20.KeepPut': WHATEVER THE INPUT: true; the input reads as it did. -/
def keepPutSpec : ChangeSpec := { name := "keepPut", fn := fun _ => fun
  | [d1, d2] => { results := [.lit (.bool true)], args := [d1, d2] }
  | _ => none }
def keepPutRow : OpenClaim := { program := "ythaomidjgadieaa", sum := "f5e02202db4b802cf3fbdb5eae14c2207817f0dd07182766f514e8ff38f00b78", func := "garland/garlandlaw20.KeepPut", spec := "keepPut", unfollowed := true, recurses := true, apart := false }
def KeepPutSaid : Prop := keepPutRow.holds Try.pinned (OpenSpec.ofChange keepPutSpec)

/-- ITS FALSE NEIGHBOUR: 'it returns false'. Refute it at one input. -/
def keepPutWrong : ChangeSpec := { name := "keepPut", fn := fun _ => fun
  | [d1, d2] => { results := [.lit (.bool false)], args := [d1, d2] }
  | _ => none }
def KeepPutWrongFalsely : Prop := keepPutRow.holds Try.pinned (OpenSpec.ofChange keepPutWrong)

/-- 'garlandlaw20.KeepRound': WHATEVER THE INPUT: true; the input reads as it did. -/
def keepRoundSpec : ChangeSpec := { name := "keepRound", fn := fun _ => fun
  | [d1, d2] => { results := [.lit (.bool true)], args := [d1, d2] }
  | _ => none }
def keepRoundRow : OpenClaim := { program := "ythaomidjgadieaa", sum := "f5e02202db4b802cf3fbdb5eae14c2207817f0dd07182766f514e8ff38f00b78", func := "garland/garlandlaw20.KeepRound", spec := "keepRound", unfollowed := true, recurses := true, apart := false }
def KeepRoundSaid : Prop := keepRoundRow.holds Try.pinned (OpenSpec.ofChange keepRoundSpec)

/-- ITS FALSE NEIGHBOUR: 'it returns false'. Refute it at one input. -/
def keepRoundWrong : ChangeSpec := { name := "keepRound", fn := fun _ => fun
  | [d1, d2] => { results := [.lit (.bool false)], args := [d1, d2] }
  | _ => none }
def KeepRoundWrongFalsely : Prop := keepRoundRow.holds Try.pinned (OpenSpec.ofChange keepRoundWrong)

/-- 'garlandlaw20.KeepAll': WHATEVER THE INPUT: true; the input reads as it did. -/
def keepAllSpec : ChangeSpec := { name := "keepAll", fn := fun _ => fun
  | [d1, d2, d3] => { results := [.lit (.bool true)], args := [d1, d2, d3] }
  | _ => none }
def keepAllRow : OpenClaim := { program := "ythaomidjgadieaa", sum := "f5e02202db4b802cf3fbdb5eae14c2207817f0dd07182766f514e8ff38f00b78", func := "garland/garlandlaw20.KeepAll", spec := "keepAll", unfollowed := true, recurses := true, apart := false }
def KeepAllSaid : Prop := keepAllRow.holds Try.pinned (OpenSpec.ofChange keepAllSpec)

/-- ITS FALSE NEIGHBOUR: 'it returns false'. Refute it at one input. -/
def keepAllWrong : ChangeSpec := { name := "keepAll", fn := fun _ => fun
  | [d1, d2, d3] => { results := [.lit (.bool false)], args := [d1, d2, d3] }
  | _ => none }
def KeepAllWrongFalsely : Prop := keepAllRow.holds Try.pinned (OpenSpec.ofChange keepAllWrong)

/- THE SECOND FORM. 'bulk': how many values and letters a reading holds, each counted each time it is reached (what is shared counts as often as it is met; a slice's spare places count too). A statement '..UptoSaid' is the law's where the arguments, and the package variables that the reading takes, are together of bulk at most 1048576: NARROWER than '..Said'. Prove '..Said' where nothing that the law and all that it calls make is longer than what came in: it says more and counts as full. Else prove '..UptoSaid'. A law counts once. -/
mutual
def uptoBulk {H : Type} : DataW H → Nat
  | .lit (.string bytes) => bytes.length + 1
  | .lit _ => 1
  | .nil => 1
  | .ptr d => uptoBulk d + 1
  | .slice elems spare => uptoBulkAll elems + uptoBulkAll spare + 1
  | .agg parts => uptoBulkAll parts + 1
  | .iface _ d => uptoBulk d + 1
  | .map entries => uptoBulkEntries entries + 1
  | .held _ => 1
def uptoBulkAll {H : Type} : List (DataW H) → Nat
  | [] => 0
  | d :: r => uptoBulk d + uptoBulkAll r
def uptoBulkEntries {H : Type} : List (Lit × DataW H) → Nat
  | [] => 0
  | x :: r => uptoBulkEntry x + uptoBulkEntries r
def uptoBulkEntry {H : Type} : Lit × DataW H → Nat
  | (.string bytes, d) => bytes.length + uptoBulk d + 1
  | (_, d) => uptoBulk d + 1
 end
def uptoSmall : (H : Type) → List (DataW H) → Bool := fun _ ds => decide (uptoBulkAll ds ≤ 1048576)
def OpenSpec.upto (s : _root_.Go.ChangeSpec) : _root_.Go.OpenSpec := { _root_.Go.OpenSpec.ofChange s with cond := some uptoSmall }

/-- 'garlandlaw06.MsgTells', WHERE WHAT IT READS IS OF BULK AT MOST 1048576: true; the input reads as it did. -/
def msgTellsUptoRow : OpenClaim := { program := "ythaomidjgadieaa", sum := "f5e02202db4b802cf3fbdb5eae14c2207817f0dd07182766f514e8ff38f00b78", func := "garland/garlandlaw06.MsgTells", spec := "msgTells", unfollowed := true, recurses := true, apart := false, narrowed := true }
def MsgTellsUptoSaid : Prop := msgTellsUptoRow.holds Try.pinned (OpenSpec.upto msgTellsSpec)

/-- 'garlandlaw06.MsgTold', WHERE WHAT IT READS IS OF BULK AT MOST 1048576: true; the input reads as it did. -/
def msgToldUptoRow : OpenClaim := { program := "ythaomidjgadieaa", sum := "f5e02202db4b802cf3fbdb5eae14c2207817f0dd07182766f514e8ff38f00b78", func := "garland/garlandlaw06.MsgTold", spec := "msgTold", unfollowed := true, recurses := true, apart := false, narrowed := true }
def MsgToldUptoSaid : Prop := msgToldUptoRow.holds Try.pinned (OpenSpec.upto msgToldSpec)

/-- 'garlandlaw06.MsgOne', WHERE WHAT IT READS IS OF BULK AT MOST 1048576: true; the input reads as it did. -/
def msgOneUptoRow : OpenClaim := { program := "ythaomidjgadieaa", sum := "f5e02202db4b802cf3fbdb5eae14c2207817f0dd07182766f514e8ff38f00b78", func := "garland/garlandlaw06.MsgOne", spec := "msgOne", unfollowed := true, recurses := true, apart := false, narrowed := true }
def MsgOneUptoSaid : Prop := msgOneUptoRow.holds Try.pinned (OpenSpec.upto msgOneSpec)

/-- 'garlandlaw06.MsgCalls', WHERE WHAT IT READS IS OF BULK AT MOST 1048576: true; the input reads as it did. -/
def msgCallsUptoRow : OpenClaim := { program := "ythaomidjgadieaa", sum := "f5e02202db4b802cf3fbdb5eae14c2207817f0dd07182766f514e8ff38f00b78", func := "garland/garlandlaw06.MsgCalls", spec := "msgCalls", unfollowed := true, recurses := true, apart := false, narrowed := true }
def MsgCallsUptoSaid : Prop := msgCallsUptoRow.holds Try.pinned (OpenSpec.upto msgCallsSpec)

/-- 'garlandlaw06.MsgLists', WHERE WHAT IT READS IS OF BULK AT MOST 1048576: true; the input reads as it did. -/
def msgListsUptoRow : OpenClaim := { program := "ythaomidjgadieaa", sum := "f5e02202db4b802cf3fbdb5eae14c2207817f0dd07182766f514e8ff38f00b78", func := "garland/garlandlaw06.MsgLists", spec := "msgLists", unfollowed := true, recurses := true, apart := false, narrowed := true }
def MsgListsUptoSaid : Prop := msgListsUptoRow.holds Try.pinned (OpenSpec.upto msgListsSpec)

/-- 'garlandlaw20.KeepTells', WHERE WHAT IT READS IS OF BULK AT MOST 1048576: true; the input reads as it did. -/
def keepTellsUptoRow : OpenClaim := { program := "ythaomidjgadieaa", sum := "f5e02202db4b802cf3fbdb5eae14c2207817f0dd07182766f514e8ff38f00b78", func := "garland/garlandlaw20.KeepTells", spec := "keepTells", unfollowed := true, recurses := true, apart := false, narrowed := true }
def KeepTellsUptoSaid : Prop := keepTellsUptoRow.holds Try.pinned (OpenSpec.upto keepTellsSpec)

/-- 'garlandlaw20.KeepNewest', WHERE WHAT IT READS IS OF BULK AT MOST 1048576: true; the input reads as it did. -/
def keepNewestUptoRow : OpenClaim := { program := "ythaomidjgadieaa", sum := "f5e02202db4b802cf3fbdb5eae14c2207817f0dd07182766f514e8ff38f00b78", func := "garland/garlandlaw20.KeepNewest", spec := "keepNewest", unfollowed := true, recurses := true, apart := false, narrowed := true }
def KeepNewestUptoSaid : Prop := keepNewestUptoRow.holds Try.pinned (OpenSpec.upto keepNewestSpec)

/-- 'garlandlaw20.KeepPut', WHERE WHAT IT READS IS OF BULK AT MOST 1048576: true; the input reads as it did. -/
def keepPutUptoRow : OpenClaim := { program := "ythaomidjgadieaa", sum := "f5e02202db4b802cf3fbdb5eae14c2207817f0dd07182766f514e8ff38f00b78", func := "garland/garlandlaw20.KeepPut", spec := "keepPut", unfollowed := true, recurses := true, apart := false, narrowed := true }
def KeepPutUptoSaid : Prop := keepPutUptoRow.holds Try.pinned (OpenSpec.upto keepPutSpec)

/-- 'garlandlaw20.KeepRound', WHERE WHAT IT READS IS OF BULK AT MOST 1048576: true; the input reads as it did. -/
def keepRoundUptoRow : OpenClaim := { program := "ythaomidjgadieaa", sum := "f5e02202db4b802cf3fbdb5eae14c2207817f0dd07182766f514e8ff38f00b78", func := "garland/garlandlaw20.KeepRound", spec := "keepRound", unfollowed := true, recurses := true, apart := false, narrowed := true }
def KeepRoundUptoSaid : Prop := keepRoundUptoRow.holds Try.pinned (OpenSpec.upto keepRoundSpec)

/-- 'garlandlaw20.KeepAll', WHERE WHAT IT READS IS OF BULK AT MOST 1048576: true; the input reads as it did. -/
def keepAllUptoRow : OpenClaim := { program := "ythaomidjgadieaa", sum := "f5e02202db4b802cf3fbdb5eae14c2207817f0dd07182766f514e8ff38f00b78", func := "garland/garlandlaw20.KeepAll", spec := "keepAll", unfollowed := true, recurses := true, apart := false, narrowed := true }
def KeepAllUptoSaid : Prop := keepAllUptoRow.holds Try.pinned (OpenSpec.upto keepAllSpec)

end Rows
end Go.Proofs.Ythaomidjgadieaa
