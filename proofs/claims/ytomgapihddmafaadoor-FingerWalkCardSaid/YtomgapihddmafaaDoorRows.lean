/-
  NARROWER THAN 'FOR EVERY INPUT', by the rows' own cells (each row's printed sentence says how): FingerTells: laid · FingerWalk: laid · FingerOnce: laid · FingerSets: laid · FingerTable: laid.
  DERIVED. THE GIVEN ROWS OF THIS SEAT. 5 by the template 'for every input the law returns true; each argument reads behind the call as it read before'; 0 by the template 'total and deterministic' (their statements: YtomgapihddmafaaDoorTotals.lean).
  GIVEN WITH THE SEED: the statements are not yours to turn. If you find one false, say at which input.
  Laid BY PROGRAM, IN A SANDBOX (cutbox-rows.mjs): the forced cells as the released guide's own fill.sh prints them over the translation b85c583419ff966a… (all of the seat's roots in one cut). By AI agents, Wed Nov 11 2026. No macro, syntax, notation, axiom, sorry.
-/
import Derived.Test.YtomgapihddmafaaDoorChecked
import GoSem.Claim
import GoSem.ClaimJoined
import GoSem.ClaimMapViews
import Derived.JoinedTies
import Derived.KernelRfl
namespace Go.Proofs.YtomgapihddmafaaDoor
/- THE CELL 'sum', in the pinned program and in every row, IS THE sha256 OF THE DUMP (.gsa) THAT YtomgapihddmafaaDoorProg.lean LOADS. Nothing in Lean hashes anything: it is a label: what it is worth is what the hold of that sum in a sandbox is worth. -/
noncomputable def Tryd.pinned : Pinned := { name := "ytomgapihddmafaadoor", sum := "b85c583419ff966a797ff72f90adfc3c18b6e09afcbfbe433e37bbcead592e47", checked := Tryd.checked }
namespace Rows
def none {H : Type} : Left H := { results := [], args := [] }

/- WHAT THE LISTED PACKAGE-LEVEL VARIABLES READ AS WHEN THE CALL BEGINS. Each datum BY PROGRAM (the guide's laid-datum.mjs) off the statement by which the dump's own 'gosem.cut.vars' lays the variable. In a bare row this is a premise. The card (YtomgapihddmafaaDoorCards.lean) ties it to the program's text. -/
def laid_garland_arc_starts {H : Type} : DataW H := .agg [.lit (.int .i64 1), .lit (.int .i64 2), .lit (.int .i64 4), .lit (.int .i64 8), .lit (.int .i64 16), .lit (.int .i64 32), .lit (.int .i64 64), .lit (.int .i64 128), .lit (.int .i64 256), .lit (.int .i64 512), .lit (.int .i64 1024), .lit (.int .i64 2048), .lit (.int .i64 4096), .lit (.int .i64 8192), .lit (.int .i64 16384), .lit (.int .i64 32768)]

/-- 'garlandlaw17.FingerTells': WHATEVER THE INPUT: true; the input reads as it did. -/
def fingerTellsSpec : ChangeSpec := { name := "fingerTells", fn := fun _ => fun
  | [d1, d2, d3, d4] => { results := [.lit (.bool true)], args := [d1, d2, d3, d4] }
  | _ => none }
def fingerTellsRow : OpenClaim := { program := "ytomgapihddmafaadoor", sum := "b85c583419ff966a797ff72f90adfc3c18b6e09afcbfbe433e37bbcead592e47", func := "garland/garlandlaw17.FingerTells", spec := "fingerTells", unfollowed := true, recurses := true, named := ["garland/arc.starts"], apart := false, laid := [("garland/arc.starts", laid_garland_arc_starts)] }
def FingerTellsSaid : Prop := fingerTellsRow.holds Tryd.pinned (OpenSpec.ofChange fingerTellsSpec)

/-- ITS FALSE NEIGHBOUR: 'it returns false'. Refute it at one input. -/
def fingerTellsWrong : ChangeSpec := { name := "fingerTells", fn := fun _ => fun
  | [d1, d2, d3, d4] => { results := [.lit (.bool false)], args := [d1, d2, d3, d4] }
  | _ => none }
def FingerTellsWrongFalsely : Prop := fingerTellsRow.holds Tryd.pinned (OpenSpec.ofChange fingerTellsWrong)

/-- 'garlandlaw17.FingerWalk': WHATEVER THE INPUT: true; the input reads as it did. -/
def fingerWalkSpec : ChangeSpec := { name := "fingerWalk", fn := fun _ => fun
  | [d1, d2] => { results := [.lit (.bool true)], args := [d1, d2] }
  | _ => none }
def fingerWalkRow : OpenClaim := { program := "ytomgapihddmafaadoor", sum := "b85c583419ff966a797ff72f90adfc3c18b6e09afcbfbe433e37bbcead592e47", func := "garland/garlandlaw17.FingerWalk", spec := "fingerWalk", unfollowed := true, recurses := true, named := ["garland/arc.starts"], apart := false, laid := [("garland/arc.starts", laid_garland_arc_starts)] }
def FingerWalkSaid : Prop := fingerWalkRow.holds Tryd.pinned (OpenSpec.ofChange fingerWalkSpec)

/-- ITS FALSE NEIGHBOUR: 'it returns false'. Refute it at one input. -/
def fingerWalkWrong : ChangeSpec := { name := "fingerWalk", fn := fun _ => fun
  | [d1, d2] => { results := [.lit (.bool false)], args := [d1, d2] }
  | _ => none }
def FingerWalkWrongFalsely : Prop := fingerWalkRow.holds Tryd.pinned (OpenSpec.ofChange fingerWalkWrong)

/-- 'garlandlaw17.FingerOnce': WHATEVER THE INPUT: true; the input reads as it did. -/
def fingerOnceSpec : ChangeSpec := { name := "fingerOnce", fn := fun _ => fun
  | [d1, d2] => { results := [.lit (.bool true)], args := [d1, d2] }
  | _ => none }
def fingerOnceRow : OpenClaim := { program := "ytomgapihddmafaadoor", sum := "b85c583419ff966a797ff72f90adfc3c18b6e09afcbfbe433e37bbcead592e47", func := "garland/garlandlaw17.FingerOnce", spec := "fingerOnce", unfollowed := true, recurses := true, named := ["garland/arc.starts"], apart := false, laid := [("garland/arc.starts", laid_garland_arc_starts)] }
def FingerOnceSaid : Prop := fingerOnceRow.holds Tryd.pinned (OpenSpec.ofChange fingerOnceSpec)

/-- ITS FALSE NEIGHBOUR: 'it returns false'. Refute it at one input. -/
def fingerOnceWrong : ChangeSpec := { name := "fingerOnce", fn := fun _ => fun
  | [d1, d2] => { results := [.lit (.bool false)], args := [d1, d2] }
  | _ => none }
def FingerOnceWrongFalsely : Prop := fingerOnceRow.holds Tryd.pinned (OpenSpec.ofChange fingerOnceWrong)

/-- 'garlandlaw17.FingerSets': WHATEVER THE INPUT: true; the input reads as it did. -/
def fingerSetsSpec : ChangeSpec := { name := "fingerSets", fn := fun _ => fun
  | [d1, d2, d3] => { results := [.lit (.bool true)], args := [d1, d2, d3] }
  | _ => none }
def fingerSetsRow : OpenClaim := { program := "ytomgapihddmafaadoor", sum := "b85c583419ff966a797ff72f90adfc3c18b6e09afcbfbe433e37bbcead592e47", func := "garland/garlandlaw17.FingerSets", spec := "fingerSets", unfollowed := true, recurses := true, named := ["garland/arc.starts"], apart := false, laid := [("garland/arc.starts", laid_garland_arc_starts)] }
def FingerSetsSaid : Prop := fingerSetsRow.holds Tryd.pinned (OpenSpec.ofChange fingerSetsSpec)

/-- ITS FALSE NEIGHBOUR: 'it returns false'. Refute it at one input. -/
def fingerSetsWrong : ChangeSpec := { name := "fingerSets", fn := fun _ => fun
  | [d1, d2, d3] => { results := [.lit (.bool false)], args := [d1, d2, d3] }
  | _ => none }
def FingerSetsWrongFalsely : Prop := fingerSetsRow.holds Tryd.pinned (OpenSpec.ofChange fingerSetsWrong)

/-- 'garlandlaw17.FingerTable': WHATEVER THE INPUT: true; the input reads as it did. -/
def fingerTableSpec : ChangeSpec := { name := "fingerTable", fn := fun _ => fun
  | [d1, d2] => { results := [.lit (.bool true)], args := [d1, d2] }
  | _ => none }
def fingerTableRow : OpenClaim := { program := "ytomgapihddmafaadoor", sum := "b85c583419ff966a797ff72f90adfc3c18b6e09afcbfbe433e37bbcead592e47", func := "garland/garlandlaw17.FingerTable", spec := "fingerTable", unfollowed := true, recurses := true, named := ["garland/arc.starts"], apart := false, laid := [("garland/arc.starts", laid_garland_arc_starts)] }
def FingerTableSaid : Prop := fingerTableRow.holds Tryd.pinned (OpenSpec.ofChange fingerTableSpec)

/-- ITS FALSE NEIGHBOUR: 'it returns false'. Refute it at one input. -/
def fingerTableWrong : ChangeSpec := { name := "fingerTable", fn := fun _ => fun
  | [d1, d2] => { results := [.lit (.bool false)], args := [d1, d2] }
  | _ => none }
def FingerTableWrongFalsely : Prop := fingerTableRow.holds Tryd.pinned (OpenSpec.ofChange fingerTableWrong)

/- THE SECOND FORM. 'bulk': how many values and letters a reading holds, each counted each time it is reached (what is shared counts as often as it is met; a slice's spare places count too). A statement '..UptoSaid' is the law's where the arguments, and the package variables that the reading takes, are together of bulk at most 1048576: NARROWER than '..Said'. Prove '..Said' where nothing that the law and all that it calls make is longer than what came in: it says more and counts as full. Else prove '..UptoSaid'. A law counts once. -/
mutual
def uptoBulk {H : Type} : DataW H → Nat
  | .lit (.string bytes) => bytes.length + 1
  | .lit _ => 1
  | .nil => 1
  | .ptr d => uptoBulk d + 1
  | .slice elems spare => uptoBulkAll elems + uptoBulkAll spare + 1
  | .agg parts => uptoBulkAll parts + 1
  | .iface _ d => uptoBulk d + 1
  | .map entries => uptoBulkEntries entries + 1
  | .held _ => 1
def uptoBulkAll {H : Type} : List (DataW H) → Nat
  | [] => 0
  | d :: r => uptoBulk d + uptoBulkAll r
def uptoBulkEntries {H : Type} : List (Lit × DataW H) → Nat
  | [] => 0
  | x :: r => uptoBulkEntry x + uptoBulkEntries r
def uptoBulkEntry {H : Type} : Lit × DataW H → Nat
  | (.string bytes, d) => bytes.length + uptoBulk d + 1
  | (_, d) => uptoBulk d + 1
 end
def uptoSmall : (H : Type) → List (DataW H) → Bool := fun _ ds => decide (uptoBulkAll ds ≤ 1048576)
def OpenSpec.upto (s : _root_.Go.ChangeSpec) : _root_.Go.OpenSpec := { _root_.Go.OpenSpec.ofChange s with cond := some uptoSmall }

/-- 'garlandlaw17.FingerTells', WHERE WHAT IT READS IS OF BULK AT MOST 1048576: true; the input reads as it did. -/
def fingerTellsUptoRow : OpenClaim := { program := "ytomgapihddmafaadoor", sum := "b85c583419ff966a797ff72f90adfc3c18b6e09afcbfbe433e37bbcead592e47", func := "garland/garlandlaw17.FingerTells", spec := "fingerTells", unfollowed := true, recurses := true, named := ["garland/arc.starts"], apart := false, laid := [("garland/arc.starts", laid_garland_arc_starts)], narrowed := true }
def FingerTellsUptoSaid : Prop := fingerTellsUptoRow.holds Tryd.pinned (OpenSpec.upto fingerTellsSpec)

/-- 'garlandlaw17.FingerWalk', WHERE WHAT IT READS IS OF BULK AT MOST 1048576: true; the input reads as it did. -/
def fingerWalkUptoRow : OpenClaim := { program := "ytomgapihddmafaadoor", sum := "b85c583419ff966a797ff72f90adfc3c18b6e09afcbfbe433e37bbcead592e47", func := "garland/garlandlaw17.FingerWalk", spec := "fingerWalk", unfollowed := true, recurses := true, named := ["garland/arc.starts"], apart := false, laid := [("garland/arc.starts", laid_garland_arc_starts)], narrowed := true }
def FingerWalkUptoSaid : Prop := fingerWalkUptoRow.holds Tryd.pinned (OpenSpec.upto fingerWalkSpec)

/-- 'garlandlaw17.FingerOnce', WHERE WHAT IT READS IS OF BULK AT MOST 1048576: true; the input reads as it did. -/
def fingerOnceUptoRow : OpenClaim := { program := "ytomgapihddmafaadoor", sum := "b85c583419ff966a797ff72f90adfc3c18b6e09afcbfbe433e37bbcead592e47", func := "garland/garlandlaw17.FingerOnce", spec := "fingerOnce", unfollowed := true, recurses := true, named := ["garland/arc.starts"], apart := false, laid := [("garland/arc.starts", laid_garland_arc_starts)], narrowed := true }
def FingerOnceUptoSaid : Prop := fingerOnceUptoRow.holds Tryd.pinned (OpenSpec.upto fingerOnceSpec)

/-- 'garlandlaw17.FingerSets', WHERE WHAT IT READS IS OF BULK AT MOST 1048576: true; the input reads as it did. -/
def fingerSetsUptoRow : OpenClaim := { program := "ytomgapihddmafaadoor", sum := "b85c583419ff966a797ff72f90adfc3c18b6e09afcbfbe433e37bbcead592e47", func := "garland/garlandlaw17.FingerSets", spec := "fingerSets", unfollowed := true, recurses := true, named := ["garland/arc.starts"], apart := false, laid := [("garland/arc.starts", laid_garland_arc_starts)], narrowed := true }
def FingerSetsUptoSaid : Prop := fingerSetsUptoRow.holds Tryd.pinned (OpenSpec.upto fingerSetsSpec)

/-- 'garlandlaw17.FingerTable', WHERE WHAT IT READS IS OF BULK AT MOST 1048576: true; the input reads as it did. -/
def fingerTableUptoRow : OpenClaim := { program := "ytomgapihddmafaadoor", sum := "b85c583419ff966a797ff72f90adfc3c18b6e09afcbfbe433e37bbcead592e47", func := "garland/garlandlaw17.FingerTable", spec := "fingerTable", unfollowed := true, recurses := true, named := ["garland/arc.starts"], apart := false, laid := [("garland/arc.starts", laid_garland_arc_starts)], narrowed := true }
def FingerTableUptoSaid : Prop := fingerTableUptoRow.holds Tryd.pinned (OpenSpec.upto fingerTableSpec)

end Rows
end Go.Proofs.YtomgapihddmafaaDoor
