/-
  No cell of these rows narrows 'for every input' (looked for: loops, veiled, ifaces, maps, wideKeys, modest, calm, conditions, laid).
  DERIVED. THE GIVEN ROWS OF THIS SEAT. 5 by the template 'for every input the law returns true; each argument reads behind the call as it read before'; 0 by the template 'total and deterministic' (their statements: YtglcodeinalnjaaTotals.lean).
  GIVEN WITH THE SEED: the statements are not yours to turn. If you find one false, say at which input.
  Laid BY PROGRAM, IN A SANDBOX (cutbox-rows.mjs): the forced cells as the released guide's own fill.sh prints them over the translation 51bfae31b3fd6d56… (all of the seat's roots in one cut). By AI agents, Wed Nov 11 2026. No macro, syntax, notation, axiom, sorry.
-/
import Derived.Test.YtglcodeinalnjaaChecked
import GoSem.Claim
import GoSem.ClaimJoined
import GoSem.ClaimMapViews
import Derived.JoinedTies
import Derived.KernelRfl
namespace Go.Proofs.Ytglcodeinalnjaa
/- THE CELL 'sum', in the pinned program and in every row, IS THE sha256 OF THE DUMP (.gsa) THAT YtglcodeinalnjaaProg.lean LOADS. Nothing in Lean hashes anything: it is a label: what it is worth is what the hold of that sum in a sandbox is worth. -/
noncomputable def Try.pinned : Pinned := { name := "ytglcodeinalnjaa", sum := "51bfae31b3fd6d565540646ae9ed1c7f5608294de20497c1c5ebd2bdb3706ec9", checked := Try.checked }
namespace Rows
def none {H : Type} : Left H := { results := [], args := [] }

/-- 'garlandlaw12.ListTells': WHATEVER THE INPUT: true; the input reads as it did. -/
def listTellsSpec : ChangeSpec := { name := "listTells", fn := fun _ => fun
  | [d1, d2, d3, d4, d5] => { results := [.lit (.bool true)], args := [d1, d2, d3, d4, d5] }
  | _ => none }
def listTellsRow : OpenClaim := { program := "ytglcodeinalnjaa", sum := "51bfae31b3fd6d565540646ae9ed1c7f5608294de20497c1c5ebd2bdb3706ec9", func := "garland/garlandlaw12.ListTells", spec := "listTells", unfollowed := true, recurses := true, apart := false }
def ListTellsSaid : Prop := listTellsRow.holds Try.pinned (OpenSpec.ofChange listTellsSpec)

/-- ITS FALSE NEIGHBOUR: 'it returns false'. Refute it at one input. -/
def listTellsWrong : ChangeSpec := { name := "listTells", fn := fun _ => fun
  | [d1, d2, d3, d4, d5] => { results := [.lit (.bool false)], args := [d1, d2, d3, d4, d5] }
  | _ => none }
def ListTellsWrongFalsely : Prop := listTellsRow.holds Try.pinned (OpenSpec.ofChange listTellsWrong)

/-- 'garlandlaw12.ListSkips': WHATEVER THE INPUT: true; the input reads as it did. -/
def listSkipsSpec : ChangeSpec := { name := "listSkips", fn := fun _ => fun
  | [d1, d2, d3, d4, d5] => { results := [.lit (.bool true)], args := [d1, d2, d3, d4, d5] }
  | _ => none }
def listSkipsRow : OpenClaim := { program := "ytglcodeinalnjaa", sum := "51bfae31b3fd6d565540646ae9ed1c7f5608294de20497c1c5ebd2bdb3706ec9", func := "garland/garlandlaw12.ListSkips", spec := "listSkips", unfollowed := true, recurses := true, apart := false }
def ListSkipsSaid : Prop := listSkipsRow.holds Try.pinned (OpenSpec.ofChange listSkipsSpec)

/-- ITS FALSE NEIGHBOUR: 'it returns false'. Refute it at one input. -/
def listSkipsWrong : ChangeSpec := { name := "listSkips", fn := fun _ => fun
  | [d1, d2, d3, d4, d5] => { results := [.lit (.bool false)], args := [d1, d2, d3, d4, d5] }
  | _ => none }
def ListSkipsWrongFalsely : Prop := listSkipsRow.holds Try.pinned (OpenSpec.ofChange listSkipsWrong)

/-- 'garlandlaw12.ListMade': WHATEVER THE INPUT: true; the input reads as it did. -/
def listMadeSpec : ChangeSpec := { name := "listMade", fn := fun _ => fun
  | [d1, d2, d3] => { results := [.lit (.bool true)], args := [d1, d2, d3] }
  | _ => none }
def listMadeRow : OpenClaim := { program := "ytglcodeinalnjaa", sum := "51bfae31b3fd6d565540646ae9ed1c7f5608294de20497c1c5ebd2bdb3706ec9", func := "garland/garlandlaw12.ListMade", spec := "listMade", unfollowed := true, recurses := true, apart := false }
def ListMadeSaid : Prop := listMadeRow.holds Try.pinned (OpenSpec.ofChange listMadeSpec)

/-- ITS FALSE NEIGHBOUR: 'it returns false'. Refute it at one input. -/
def listMadeWrong : ChangeSpec := { name := "listMade", fn := fun _ => fun
  | [d1, d2, d3] => { results := [.lit (.bool false)], args := [d1, d2, d3] }
  | _ => none }
def ListMadeWrongFalsely : Prop := listMadeRow.holds Try.pinned (OpenSpec.ofChange listMadeWrong)

/-- 'garlandlaw12.ListDrop': WHATEVER THE INPUT: true; the input reads as it did. -/
def listDropSpec : ChangeSpec := { name := "listDrop", fn := fun _ => fun
  | [d1, d2, d3] => { results := [.lit (.bool true)], args := [d1, d2, d3] }
  | _ => none }
def listDropRow : OpenClaim := { program := "ytglcodeinalnjaa", sum := "51bfae31b3fd6d565540646ae9ed1c7f5608294de20497c1c5ebd2bdb3706ec9", func := "garland/garlandlaw12.ListDrop", spec := "listDrop", unfollowed := true, recurses := true, apart := false }
def ListDropSaid : Prop := listDropRow.holds Try.pinned (OpenSpec.ofChange listDropSpec)

/-- ITS FALSE NEIGHBOUR: 'it returns false'. Refute it at one input. -/
def listDropWrong : ChangeSpec := { name := "listDrop", fn := fun _ => fun
  | [d1, d2, d3] => { results := [.lit (.bool false)], args := [d1, d2, d3] }
  | _ => none }
def ListDropWrongFalsely : Prop := listDropRow.holds Try.pinned (OpenSpec.ofChange listDropWrong)

/-- 'garlandlaw12.ListIn': WHATEVER THE INPUT: true; the input reads as it did. -/
def listInSpec : ChangeSpec := { name := "listIn", fn := fun _ => fun
  | [d1, d2, d3] => { results := [.lit (.bool true)], args := [d1, d2, d3] }
  | _ => none }
def listInRow : OpenClaim := { program := "ytglcodeinalnjaa", sum := "51bfae31b3fd6d565540646ae9ed1c7f5608294de20497c1c5ebd2bdb3706ec9", func := "garland/garlandlaw12.ListIn", spec := "listIn", unfollowed := true, recurses := true, apart := false }
def ListInSaid : Prop := listInRow.holds Try.pinned (OpenSpec.ofChange listInSpec)

/-- ITS FALSE NEIGHBOUR: 'it returns false'. Refute it at one input. -/
def listInWrong : ChangeSpec := { name := "listIn", fn := fun _ => fun
  | [d1, d2, d3] => { results := [.lit (.bool false)], args := [d1, d2, d3] }
  | _ => none }
def ListInWrongFalsely : Prop := listInRow.holds Try.pinned (OpenSpec.ofChange listInWrong)

/- THE SECOND FORM. 'bulk': how many values and letters a reading holds, each counted each time it is reached (what is shared counts as often as it is met; a slice's spare places count too). A statement '..UptoSaid' is the law's where the arguments, and the package variables that the reading takes, are together of bulk at most 1048576: NARROWER than '..Said'. Prove '..Said' where nothing that the law and all that it calls make is longer than what came in: it says more and counts as full. Else prove '..UptoSaid'. A law counts once. -/
mutual
def uptoBulk {H : Type} : DataW H → Nat
  | .lit (.string bytes) => bytes.length + 1
  | .lit _ => 1
  | .nil => 1
  | .ptr d => uptoBulk d + 1
  | .slice elems spare => uptoBulkAll elems + uptoBulkAll spare + 1
  | .agg parts => uptoBulkAll parts + 1
  | .iface _ d => uptoBulk d + 1
  | .map entries => uptoBulkEntries entries + 1
  | .held _ => 1
def uptoBulkAll {H : Type} : List (DataW H) → Nat
  | [] => 0
  | d :: r => uptoBulk d + uptoBulkAll r
def uptoBulkEntries {H : Type} : List (Lit × DataW H) → Nat
  | [] => 0
  | x :: r => uptoBulkEntry x + uptoBulkEntries r
def uptoBulkEntry {H : Type} : Lit × DataW H → Nat
  | (.string bytes, d) => bytes.length + uptoBulk d + 1
  | (_, d) => uptoBulk d + 1
 end
def uptoSmall : (H : Type) → List (DataW H) → Bool := fun _ ds => decide (uptoBulkAll ds ≤ 1048576)
def OpenSpec.upto (s : _root_.Go.ChangeSpec) : _root_.Go.OpenSpec := { _root_.Go.OpenSpec.ofChange s with cond := some uptoSmall }

/-- 'garlandlaw12.ListTells', WHERE WHAT IT READS IS OF BULK AT MOST 1048576: true; the input reads as it did. -/
def listTellsUptoRow : OpenClaim := { program := "ytglcodeinalnjaa", sum := "51bfae31b3fd6d565540646ae9ed1c7f5608294de20497c1c5ebd2bdb3706ec9", func := "garland/garlandlaw12.ListTells", spec := "listTells", unfollowed := true, recurses := true, apart := false, narrowed := true }
def ListTellsUptoSaid : Prop := listTellsUptoRow.holds Try.pinned (OpenSpec.upto listTellsSpec)

/-- 'garlandlaw12.ListSkips', WHERE WHAT IT READS IS OF BULK AT MOST 1048576: true; the input reads as it did. -/
def listSkipsUptoRow : OpenClaim := { program := "ytglcodeinalnjaa", sum := "51bfae31b3fd6d565540646ae9ed1c7f5608294de20497c1c5ebd2bdb3706ec9", func := "garland/garlandlaw12.ListSkips", spec := "listSkips", unfollowed := true, recurses := true, apart := false, narrowed := true }
def ListSkipsUptoSaid : Prop := listSkipsUptoRow.holds Try.pinned (OpenSpec.upto listSkipsSpec)

/-- 'garlandlaw12.ListMade', WHERE WHAT IT READS IS OF BULK AT MOST 1048576: true; the input reads as it did. -/
def listMadeUptoRow : OpenClaim := { program := "ytglcodeinalnjaa", sum := "51bfae31b3fd6d565540646ae9ed1c7f5608294de20497c1c5ebd2bdb3706ec9", func := "garland/garlandlaw12.ListMade", spec := "listMade", unfollowed := true, recurses := true, apart := false, narrowed := true }
def ListMadeUptoSaid : Prop := listMadeUptoRow.holds Try.pinned (OpenSpec.upto listMadeSpec)

/-- 'garlandlaw12.ListDrop', WHERE WHAT IT READS IS OF BULK AT MOST 1048576: true; the input reads as it did. -/
def listDropUptoRow : OpenClaim := { program := "ytglcodeinalnjaa", sum := "51bfae31b3fd6d565540646ae9ed1c7f5608294de20497c1c5ebd2bdb3706ec9", func := "garland/garlandlaw12.ListDrop", spec := "listDrop", unfollowed := true, recurses := true, apart := false, narrowed := true }
def ListDropUptoSaid : Prop := listDropUptoRow.holds Try.pinned (OpenSpec.upto listDropSpec)

/-- 'garlandlaw12.ListIn', WHERE WHAT IT READS IS OF BULK AT MOST 1048576: true; the input reads as it did. -/
def listInUptoRow : OpenClaim := { program := "ytglcodeinalnjaa", sum := "51bfae31b3fd6d565540646ae9ed1c7f5608294de20497c1c5ebd2bdb3706ec9", func := "garland/garlandlaw12.ListIn", spec := "listIn", unfollowed := true, recurses := true, apart := false, narrowed := true }
def ListInUptoSaid : Prop := listInUptoRow.holds Try.pinned (OpenSpec.upto listInSpec)

end Rows
end Go.Proofs.Ytglcodeinalnjaa
