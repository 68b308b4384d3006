/-
  No cell of these rows narrows 'for every input' (looked for: loops, veiled, ifaces, maps, wideKeys, modest, calm, conditions, laid).
  DERIVED. THE GIVEN ROWS OF THIS SEAT. 5 by the template 'for every input the law returns true; each argument reads behind the call as it read before'; 0 by the template 'total and deterministic' (their statements: YtcbhmedknbiffaaTotals.lean).
  GIVEN WITH THE SEED: the statements are not yours to turn. If you find one false, say at which input.
  Laid BY PROGRAM, IN A SANDBOX (cutbox-rows.mjs): the forced cells as the released guide's own fill.sh prints them over the translation a57cedd649933111… (all of the seat's roots in one cut). By AI agents, Wed Nov 11 2026. No macro, syntax, notation, axiom, sorry.
-/
import Derived.Test.YtcbhmedknbiffaaChecked
import GoSem.Claim
import GoSem.ClaimJoined
import GoSem.ClaimMapViews
import Derived.JoinedTies
import Derived.KernelRfl
namespace Go.Proofs.Ytcbhmedknbiffaa
/- THE CELL 'sum', in the pinned program and in every row, IS THE sha256 OF THE DUMP (.gsa) THAT YtcbhmedknbiffaaProg.lean LOADS. Nothing in Lean hashes anything: it is a label: what it is worth is what the hold of that sum in a sandbox is worth. -/
noncomputable def Try.pinned : Pinned := { name := "ytcbhmedknbiffaa", sum := "a57cedd6499331112908c64a750d66c26cb2280bec5b8daa0ad0ff756d1a5833", checked := Try.checked }
namespace Rows
def none {H : Type} : Left H := { results := [], args := [] }

/-- 'garlandlaw11.SeenTells': WHATEVER THE INPUT: true; the input reads as it did. -/
def seenTellsSpec : ChangeSpec := { name := "seenTells", fn := fun _ => fun
  | [d1, d2, d3, d4, d5, d6] => { results := [.lit (.bool true)], args := [d1, d2, d3, d4, d5, d6] }
  | _ => none }
def seenTellsRow : OpenClaim := { program := "ytcbhmedknbiffaa", sum := "a57cedd6499331112908c64a750d66c26cb2280bec5b8daa0ad0ff756d1a5833", func := "garland/garlandlaw11.SeenTells", spec := "seenTells", unfollowed := true, recurses := true, apart := false }
def SeenTellsSaid : Prop := seenTellsRow.holds Try.pinned (OpenSpec.ofChange seenTellsSpec)

/-- ITS FALSE NEIGHBOUR: 'it returns false'. Refute it at one input. -/
def seenTellsWrong : ChangeSpec := { name := "seenTells", fn := fun _ => fun
  | [d1, d2, d3, d4, d5, d6] => { results := [.lit (.bool false)], args := [d1, d2, d3, d4, d5, d6] }
  | _ => none }
def SeenTellsWrongFalsely : Prop := seenTellsRow.holds Try.pinned (OpenSpec.ofChange seenTellsWrong)

/-- 'garlandlaw11.SeenOnce': WHATEVER THE INPUT: true; the input reads as it did. -/
def seenOnceSpec : ChangeSpec := { name := "seenOnce", fn := fun _ => fun
  | [d1, d2, d3] => { results := [.lit (.bool true)], args := [d1, d2, d3] }
  | _ => none }
def seenOnceRow : OpenClaim := { program := "ytcbhmedknbiffaa", sum := "a57cedd6499331112908c64a750d66c26cb2280bec5b8daa0ad0ff756d1a5833", func := "garland/garlandlaw11.SeenOnce", spec := "seenOnce", unfollowed := true, recurses := true, apart := false }
def SeenOnceSaid : Prop := seenOnceRow.holds Try.pinned (OpenSpec.ofChange seenOnceSpec)

/-- ITS FALSE NEIGHBOUR: 'it returns false'. Refute it at one input. -/
def seenOnceWrong : ChangeSpec := { name := "seenOnce", fn := fun _ => fun
  | [d1, d2, d3] => { results := [.lit (.bool false)], args := [d1, d2, d3] }
  | _ => none }
def SeenOnceWrongFalsely : Prop := seenOnceRow.holds Try.pinned (OpenSpec.ofChange seenOnceWrong)

/-- 'garlandlaw11.SeenAdds': WHATEVER THE INPUT: true; the input reads as it did. -/
def seenAddsSpec : ChangeSpec := { name := "seenAdds", fn := fun _ => fun
  | [d1, d2] => { results := [.lit (.bool true)], args := [d1, d2] }
  | _ => none }
def seenAddsRow : OpenClaim := { program := "ytcbhmedknbiffaa", sum := "a57cedd6499331112908c64a750d66c26cb2280bec5b8daa0ad0ff756d1a5833", func := "garland/garlandlaw11.SeenAdds", spec := "seenAdds", unfollowed := true, recurses := true, apart := false }
def SeenAddsSaid : Prop := seenAddsRow.holds Try.pinned (OpenSpec.ofChange seenAddsSpec)

/-- ITS FALSE NEIGHBOUR: 'it returns false'. Refute it at one input. -/
def seenAddsWrong : ChangeSpec := { name := "seenAdds", fn := fun _ => fun
  | [d1, d2] => { results := [.lit (.bool false)], args := [d1, d2] }
  | _ => none }
def SeenAddsWrongFalsely : Prop := seenAddsRow.holds Try.pinned (OpenSpec.ofChange seenAddsWrong)

/-- 'garlandlaw11.SeenAge': WHATEVER THE INPUT: true; the input reads as it did. -/
def seenAgeSpec : ChangeSpec := { name := "seenAge", fn := fun _ => fun
  | [d1, d2] => { results := [.lit (.bool true)], args := [d1, d2] }
  | _ => none }
def seenAgeRow : OpenClaim := { program := "ytcbhmedknbiffaa", sum := "a57cedd6499331112908c64a750d66c26cb2280bec5b8daa0ad0ff756d1a5833", func := "garland/garlandlaw11.SeenAge", spec := "seenAge", unfollowed := true, recurses := true, apart := false }
def SeenAgeSaid : Prop := seenAgeRow.holds Try.pinned (OpenSpec.ofChange seenAgeSpec)

/-- ITS FALSE NEIGHBOUR: 'it returns false'. Refute it at one input. -/
def seenAgeWrong : ChangeSpec := { name := "seenAge", fn := fun _ => fun
  | [d1, d2] => { results := [.lit (.bool false)], args := [d1, d2] }
  | _ => none }
def SeenAgeWrongFalsely : Prop := seenAgeRow.holds Try.pinned (OpenSpec.ofChange seenAgeWrong)

/-- 'garlandlaw11.SeenOwn': WHATEVER THE INPUT: true; the input reads as it did. -/
def seenOwnSpec : ChangeSpec := { name := "seenOwn", fn := fun _ => fun
  | [d1, d2] => { results := [.lit (.bool true)], args := [d1, d2] }
  | _ => none }
def seenOwnRow : OpenClaim := { program := "ytcbhmedknbiffaa", sum := "a57cedd6499331112908c64a750d66c26cb2280bec5b8daa0ad0ff756d1a5833", func := "garland/garlandlaw11.SeenOwn", spec := "seenOwn", unfollowed := true, recurses := true, apart := false }
def SeenOwnSaid : Prop := seenOwnRow.holds Try.pinned (OpenSpec.ofChange seenOwnSpec)

/-- ITS FALSE NEIGHBOUR: 'it returns false'. Refute it at one input. -/
def seenOwnWrong : ChangeSpec := { name := "seenOwn", fn := fun _ => fun
  | [d1, d2] => { results := [.lit (.bool false)], args := [d1, d2] }
  | _ => none }
def SeenOwnWrongFalsely : Prop := seenOwnRow.holds Try.pinned (OpenSpec.ofChange seenOwnWrong)

/- THE SECOND FORM. 'bulk': how many values and letters a reading holds, each counted each time it is reached (what is shared counts as often as it is met; a slice's spare places count too). A statement '..UptoSaid' is the law's where the arguments, and the package variables that the reading takes, are together of bulk at most 1048576: NARROWER than '..Said'. Prove '..Said' where nothing that the law and all that it calls make is longer than what came in: it says more and counts as full. Else prove '..UptoSaid'. A law counts once. -/
mutual
def uptoBulk {H : Type} : DataW H → Nat
  | .lit (.string bytes) => bytes.length + 1
  | .lit _ => 1
  | .nil => 1
  | .ptr d => uptoBulk d + 1
  | .slice elems spare => uptoBulkAll elems + uptoBulkAll spare + 1
  | .agg parts => uptoBulkAll parts + 1
  | .iface _ d => uptoBulk d + 1
  | .map entries => uptoBulkEntries entries + 1
  | .held _ => 1
def uptoBulkAll {H : Type} : List (DataW H) → Nat
  | [] => 0
  | d :: r => uptoBulk d + uptoBulkAll r
def uptoBulkEntries {H : Type} : List (Lit × DataW H) → Nat
  | [] => 0
  | x :: r => uptoBulkEntry x + uptoBulkEntries r
def uptoBulkEntry {H : Type} : Lit × DataW H → Nat
  | (.string bytes, d) => bytes.length + uptoBulk d + 1
  | (_, d) => uptoBulk d + 1
 end
def uptoSmall : (H : Type) → List (DataW H) → Bool := fun _ ds => decide (uptoBulkAll ds ≤ 1048576)
def OpenSpec.upto (s : _root_.Go.ChangeSpec) : _root_.Go.OpenSpec := { _root_.Go.OpenSpec.ofChange s with cond := some uptoSmall }

/-- 'garlandlaw11.SeenTells', WHERE WHAT IT READS IS OF BULK AT MOST 1048576: true; the input reads as it did. -/
def seenTellsUptoRow : OpenClaim := { program := "ytcbhmedknbiffaa", sum := "a57cedd6499331112908c64a750d66c26cb2280bec5b8daa0ad0ff756d1a5833", func := "garland/garlandlaw11.SeenTells", spec := "seenTells", unfollowed := true, recurses := true, apart := false, narrowed := true }
def SeenTellsUptoSaid : Prop := seenTellsUptoRow.holds Try.pinned (OpenSpec.upto seenTellsSpec)

/-- 'garlandlaw11.SeenOnce', WHERE WHAT IT READS IS OF BULK AT MOST 1048576: true; the input reads as it did. -/
def seenOnceUptoRow : OpenClaim := { program := "ytcbhmedknbiffaa", sum := "a57cedd6499331112908c64a750d66c26cb2280bec5b8daa0ad0ff756d1a5833", func := "garland/garlandlaw11.SeenOnce", spec := "seenOnce", unfollowed := true, recurses := true, apart := false, narrowed := true }
def SeenOnceUptoSaid : Prop := seenOnceUptoRow.holds Try.pinned (OpenSpec.upto seenOnceSpec)

/-- 'garlandlaw11.SeenAdds', WHERE WHAT IT READS IS OF BULK AT MOST 1048576: true; the input reads as it did. -/
def seenAddsUptoRow : OpenClaim := { program := "ytcbhmedknbiffaa", sum := "a57cedd6499331112908c64a750d66c26cb2280bec5b8daa0ad0ff756d1a5833", func := "garland/garlandlaw11.SeenAdds", spec := "seenAdds", unfollowed := true, recurses := true, apart := false, narrowed := true }
def SeenAddsUptoSaid : Prop := seenAddsUptoRow.holds Try.pinned (OpenSpec.upto seenAddsSpec)

/-- 'garlandlaw11.SeenAge', WHERE WHAT IT READS IS OF BULK AT MOST 1048576: true; the input reads as it did. -/
def seenAgeUptoRow : OpenClaim := { program := "ytcbhmedknbiffaa", sum := "a57cedd6499331112908c64a750d66c26cb2280bec5b8daa0ad0ff756d1a5833", func := "garland/garlandlaw11.SeenAge", spec := "seenAge", unfollowed := true, recurses := true, apart := false, narrowed := true }
def SeenAgeUptoSaid : Prop := seenAgeUptoRow.holds Try.pinned (OpenSpec.upto seenAgeSpec)

/-- 'garlandlaw11.SeenOwn', WHERE WHAT IT READS IS OF BULK AT MOST 1048576: true; the input reads as it did. -/
def seenOwnUptoRow : OpenClaim := { program := "ytcbhmedknbiffaa", sum := "a57cedd6499331112908c64a750d66c26cb2280bec5b8daa0ad0ff756d1a5833", func := "garland/garlandlaw11.SeenOwn", spec := "seenOwn", unfollowed := true, recurses := true, apart := false, narrowed := true }
def SeenOwnUptoSaid : Prop := seenOwnUptoRow.holds Try.pinned (OpenSpec.upto seenOwnSpec)

end Rows
end Go.Proofs.Ytcbhmedknbiffaa
