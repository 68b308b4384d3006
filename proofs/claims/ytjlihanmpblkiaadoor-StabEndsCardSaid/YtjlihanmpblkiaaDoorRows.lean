/-
  NARROWER THAN 'FOR EVERY INPUT', by the rows' own cells (each row's printed sentence says how): StabTells: laid · StabSkips: laid · StabEnds: laid · StabNot: laid.
  DERIVED. THE GIVEN ROWS OF THIS SEAT. 4 by the template 'for every input the law returns true; each argument reads behind the call as it read before'; 0 by the template 'total and deterministic' (their statements: YtjlihanmpblkiaaDoorTotals.lean).
  GIVEN WITH THE SEED: the statements are not yours to turn. If you find one false, say at which input.
  Laid BY PROGRAM, IN A SANDBOX (cutbox-rows.mjs): the forced cells as the released guide's own fill.sh prints them over the translation 953c379345b62770… (all of the seat's roots in one cut). By AI agents, Wed Nov 11 2026. No macro, syntax, notation, axiom, sorry.
-/
import Derived.Test.YtjlihanmpblkiaaDoorChecked
import GoSem.Claim
import GoSem.ClaimJoined
import GoSem.ClaimMapViews
import Derived.JoinedTies
import Derived.KernelRfl
namespace Go.Proofs.YtjlihanmpblkiaaDoor
/- THE CELL 'sum', in the pinned program and in every row, IS THE sha256 OF THE DUMP (.gsa) THAT YtjlihanmpblkiaaDoorProg.lean LOADS. Nothing in Lean hashes anything: it is a label: what it is worth is what the hold of that sum in a sandbox is worth. -/
noncomputable def Tryd.pinned : Pinned := { name := "ytjlihanmpblkiaadoor", sum := "953c379345b627706f8f4d2b820afd707afd3fcd1b4ee3a751949bf9a948f726", checked := Tryd.checked }
namespace Rows
def none {H : Type} : Left H := { results := [], args := [] }

/- WHAT THE LISTED PACKAGE-LEVEL VARIABLES READ AS WHEN THE CALL BEGINS. Each datum BY PROGRAM (the guide's laid-datum.mjs) off the statement by which the dump's own 'gosem.cut.vars' lays the variable. In a bare row this is a premise. The card (YtjlihanmpblkiaaDoorCards.lean) ties it to the program's text. -/
def laid_garland_stab_rounds {H : Type} : DataW H := .agg [.agg [.lit (.int .u8 0), .lit (.int .u8 0)], .agg [.lit (.int .u8 1), .lit (.int .u8 1)], .agg [.lit (.int .u8 1), .lit (.int .u8 2)], .agg [.lit (.int .u8 3), .lit (.int .u8 3)]]

/-- 'garlandlaw14.StabTells': WHATEVER THE INPUT: true; the input reads as it did. -/
def stabTellsSpec : ChangeSpec := { name := "stabTells", fn := fun _ => fun
  | [d1, d2, d3, d4] => { results := [.lit (.bool true)], args := [d1, d2, d3, d4] }
  | _ => none }
def stabTellsRow : OpenClaim := { program := "ytjlihanmpblkiaadoor", sum := "953c379345b627706f8f4d2b820afd707afd3fcd1b4ee3a751949bf9a948f726", func := "garland/garlandlaw14.StabTells", spec := "stabTells", unfollowed := true, recurses := true, named := ["garland/stab.rounds"], apart := false, laid := [("garland/stab.rounds", laid_garland_stab_rounds)] }
def StabTellsSaid : Prop := stabTellsRow.holds Tryd.pinned (OpenSpec.ofChange stabTellsSpec)

/-- ITS FALSE NEIGHBOUR: 'it returns false'. Refute it at one input. -/
def stabTellsWrong : ChangeSpec := { name := "stabTells", fn := fun _ => fun
  | [d1, d2, d3, d4] => { results := [.lit (.bool false)], args := [d1, d2, d3, d4] }
  | _ => none }
def StabTellsWrongFalsely : Prop := stabTellsRow.holds Tryd.pinned (OpenSpec.ofChange stabTellsWrong)

/-- 'garlandlaw14.StabSkips': WHATEVER THE INPUT: true; the input reads as it did. -/
def stabSkipsSpec : ChangeSpec := { name := "stabSkips", fn := fun _ => fun
  | [d1, d2, d3, d4] => { results := [.lit (.bool true)], args := [d1, d2, d3, d4] }
  | _ => none }
def stabSkipsRow : OpenClaim := { program := "ytjlihanmpblkiaadoor", sum := "953c379345b627706f8f4d2b820afd707afd3fcd1b4ee3a751949bf9a948f726", func := "garland/garlandlaw14.StabSkips", spec := "stabSkips", unfollowed := true, recurses := true, named := ["garland/stab.rounds"], apart := false, laid := [("garland/stab.rounds", laid_garland_stab_rounds)] }
def StabSkipsSaid : Prop := stabSkipsRow.holds Tryd.pinned (OpenSpec.ofChange stabSkipsSpec)

/-- ITS FALSE NEIGHBOUR: 'it returns false'. Refute it at one input. -/
def stabSkipsWrong : ChangeSpec := { name := "stabSkips", fn := fun _ => fun
  | [d1, d2, d3, d4] => { results := [.lit (.bool false)], args := [d1, d2, d3, d4] }
  | _ => none }
def StabSkipsWrongFalsely : Prop := stabSkipsRow.holds Tryd.pinned (OpenSpec.ofChange stabSkipsWrong)

/-- 'garlandlaw14.StabEnds': WHATEVER THE INPUT: true; the input reads as it did. -/
def stabEndsSpec : ChangeSpec := { name := "stabEnds", fn := fun _ => fun
  | [d1, d2, d3] => { results := [.lit (.bool true)], args := [d1, d2, d3] }
  | _ => none }
def stabEndsRow : OpenClaim := { program := "ytjlihanmpblkiaadoor", sum := "953c379345b627706f8f4d2b820afd707afd3fcd1b4ee3a751949bf9a948f726", func := "garland/garlandlaw14.StabEnds", spec := "stabEnds", unfollowed := true, recurses := true, named := ["garland/stab.rounds"], apart := false, laid := [("garland/stab.rounds", laid_garland_stab_rounds)] }
def StabEndsSaid : Prop := stabEndsRow.holds Tryd.pinned (OpenSpec.ofChange stabEndsSpec)

/-- ITS FALSE NEIGHBOUR: 'it returns false'. Refute it at one input. -/
def stabEndsWrong : ChangeSpec := { name := "stabEnds", fn := fun _ => fun
  | [d1, d2, d3] => { results := [.lit (.bool false)], args := [d1, d2, d3] }
  | _ => none }
def StabEndsWrongFalsely : Prop := stabEndsRow.holds Tryd.pinned (OpenSpec.ofChange stabEndsWrong)

/-- 'garlandlaw14.StabNot': WHATEVER THE INPUT: true; the input reads as it did. -/
def stabNotSpec : ChangeSpec := { name := "stabNot", fn := fun _ => fun
  | [d1, d2, d3, d4] => { results := [.lit (.bool true)], args := [d1, d2, d3, d4] }
  | _ => none }
def stabNotRow : OpenClaim := { program := "ytjlihanmpblkiaadoor", sum := "953c379345b627706f8f4d2b820afd707afd3fcd1b4ee3a751949bf9a948f726", func := "garland/garlandlaw14.StabNot", spec := "stabNot", unfollowed := true, recurses := true, named := ["garland/stab.rounds"], apart := false, laid := [("garland/stab.rounds", laid_garland_stab_rounds)] }
def StabNotSaid : Prop := stabNotRow.holds Tryd.pinned (OpenSpec.ofChange stabNotSpec)

/-- ITS FALSE NEIGHBOUR: 'it returns false'. Refute it at one input. -/
def stabNotWrong : ChangeSpec := { name := "stabNot", fn := fun _ => fun
  | [d1, d2, d3, d4] => { results := [.lit (.bool false)], args := [d1, d2, d3, d4] }
  | _ => none }
def StabNotWrongFalsely : Prop := stabNotRow.holds Tryd.pinned (OpenSpec.ofChange stabNotWrong)

/- THE SECOND FORM. 'bulk': how many values and letters a reading holds, each counted each time it is reached (what is shared counts as often as it is met; a slice's spare places count too). A statement '..UptoSaid' is the law's where the arguments, and the package variables that the reading takes, are together of bulk at most 1048576: NARROWER than '..Said'. Prove '..Said' where nothing that the law and all that it calls make is longer than what came in: it says more and counts as full. Else prove '..UptoSaid'. A law counts once. -/
mutual
def uptoBulk {H : Type} : DataW H → Nat
  | .lit (.string bytes) => bytes.length + 1
  | .lit _ => 1
  | .nil => 1
  | .ptr d => uptoBulk d + 1
  | .slice elems spare => uptoBulkAll elems + uptoBulkAll spare + 1
  | .agg parts => uptoBulkAll parts + 1
  | .iface _ d => uptoBulk d + 1
  | .map entries => uptoBulkEntries entries + 1
  | .held _ => 1
def uptoBulkAll {H : Type} : List (DataW H) → Nat
  | [] => 0
  | d :: r => uptoBulk d + uptoBulkAll r
def uptoBulkEntries {H : Type} : List (Lit × DataW H) → Nat
  | [] => 0
  | x :: r => uptoBulkEntry x + uptoBulkEntries r
def uptoBulkEntry {H : Type} : Lit × DataW H → Nat
  | (.string bytes, d) => bytes.length + uptoBulk d + 1
  | (_, d) => uptoBulk d + 1
 end
def uptoSmall : (H : Type) → List (DataW H) → Bool := fun _ ds => decide (uptoBulkAll ds ≤ 1048576)
def OpenSpec.upto (s : _root_.Go.ChangeSpec) : _root_.Go.OpenSpec := { _root_.Go.OpenSpec.ofChange s with cond := some uptoSmall }

/-- 'garlandlaw14.StabTells', WHERE WHAT IT READS IS OF BULK AT MOST 1048576: true; the input reads as it did. -/
def stabTellsUptoRow : OpenClaim := { program := "ytjlihanmpblkiaadoor", sum := "953c379345b627706f8f4d2b820afd707afd3fcd1b4ee3a751949bf9a948f726", func := "garland/garlandlaw14.StabTells", spec := "stabTells", unfollowed := true, recurses := true, named := ["garland/stab.rounds"], apart := false, laid := [("garland/stab.rounds", laid_garland_stab_rounds)], narrowed := true }
def StabTellsUptoSaid : Prop := stabTellsUptoRow.holds Tryd.pinned (OpenSpec.upto stabTellsSpec)

/-- 'garlandlaw14.StabSkips', WHERE WHAT IT READS IS OF BULK AT MOST 1048576: true; the input reads as it did. -/
def stabSkipsUptoRow : OpenClaim := { program := "ytjlihanmpblkiaadoor", sum := "953c379345b627706f8f4d2b820afd707afd3fcd1b4ee3a751949bf9a948f726", func := "garland/garlandlaw14.StabSkips", spec := "stabSkips", unfollowed := true, recurses := true, named := ["garland/stab.rounds"], apart := false, laid := [("garland/stab.rounds", laid_garland_stab_rounds)], narrowed := true }
def StabSkipsUptoSaid : Prop := stabSkipsUptoRow.holds Tryd.pinned (OpenSpec.upto stabSkipsSpec)

/-- 'garlandlaw14.StabEnds', WHERE WHAT IT READS IS OF BULK AT MOST 1048576: true; the input reads as it did. -/
def stabEndsUptoRow : OpenClaim := { program := "ytjlihanmpblkiaadoor", sum := "953c379345b627706f8f4d2b820afd707afd3fcd1b4ee3a751949bf9a948f726", func := "garland/garlandlaw14.StabEnds", spec := "stabEnds", unfollowed := true, recurses := true, named := ["garland/stab.rounds"], apart := false, laid := [("garland/stab.rounds", laid_garland_stab_rounds)], narrowed := true }
def StabEndsUptoSaid : Prop := stabEndsUptoRow.holds Tryd.pinned (OpenSpec.upto stabEndsSpec)

/-- 'garlandlaw14.StabNot', WHERE WHAT IT READS IS OF BULK AT MOST 1048576: true; the input reads as it did. -/
def stabNotUptoRow : OpenClaim := { program := "ytjlihanmpblkiaadoor", sum := "953c379345b627706f8f4d2b820afd707afd3fcd1b4ee3a751949bf9a948f726", func := "garland/garlandlaw14.StabNot", spec := "stabNot", unfollowed := true, recurses := true, named := ["garland/stab.rounds"], apart := false, laid := [("garland/stab.rounds", laid_garland_stab_rounds)], narrowed := true }
def StabNotUptoSaid : Prop := stabNotUptoRow.holds Tryd.pinned (OpenSpec.upto stabNotSpec)

end Rows
end Go.Proofs.YtjlihanmpblkiaaDoor
