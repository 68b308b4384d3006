/-
  No cell of these rows narrows 'for every input' (looked for: loops, veiled, ifaces, maps, wideKeys, modest, calm, conditions, laid).
  DERIVED. THE GIVEN ROWS OF THIS SEAT. 5 by the template 'for every input the law returns true; each argument reads behind the call as it read before'; 0 by the template 'total and deterministic' (their statements: YthjhcmkgadfpmaaGreatTotals.lean).
  GIVEN WITH THE SEED: the statements are not yours to turn. If you find one false, say at which input.
  Laid BY PROGRAM, IN A SANDBOX (cutbox-rows.mjs): the forced cells as the released guide's own fill.sh prints them over the translation b03a8372414c5b5b… (all of the seat's roots in one cut). By AI agents, Wed Nov 11 2026. No macro, syntax, notation, axiom, sorry.
-/
import Derived.Test.YthjhcmkgadfpmaaGreatChecked
import GoSem.Claim
import GoSem.ClaimJoined
import GoSem.ClaimMapViews
import Derived.JoinedTies
import Derived.KernelRfl
namespace Go.Proofs.YthjhcmkgadfpmaaGreat
/- THE CELL 'sum', in the pinned program and in every row, IS THE sha256 OF THE DUMP (.gsa) THAT YthjhcmkgadfpmaaGreatProg.lean LOADS. Nothing in Lean hashes anything: it is a label: what it is worth is what the hold of that sum in a sandbox is worth. -/
noncomputable def Tryz.pinned : Pinned := { name := "ythjhcmkgadfpmaagreat", sum := "b03a8372414c5b5bacc5da1e35e43c8f4f931f5c6c76467105e818db780eb649", checked := Tryz.checked }
namespace Rows
def none {H : Type} : Left H := { results := [], args := [] }

/-- 'garlandlaw22.ServeTells': WHATEVER THE INPUT: true; the input reads as it did. -/
def serveTellsSpec : ChangeSpec := { name := "serveTells", fn := fun _ => fun
  | [d1, d2, d3] => { results := [.lit (.bool true)], args := [d1, d2, d3] }
  | _ => none }
def serveTellsRow : OpenClaim := { program := "ythjhcmkgadfpmaagreat", sum := "b03a8372414c5b5bacc5da1e35e43c8f4f931f5c6c76467105e818db780eb649", func := "garland/garlandlaw22.ServeTells", spec := "serveTells", unfollowed := true, recurses := true, apart := false }
def ServeTellsSaid : Prop := serveTellsRow.holds Tryz.pinned (OpenSpec.ofChange serveTellsSpec)

/-- ITS FALSE NEIGHBOUR: 'it returns false'. Refute it at one input. -/
def serveTellsWrong : ChangeSpec := { name := "serveTells", fn := fun _ => fun
  | [d1, d2, d3] => { results := [.lit (.bool false)], args := [d1, d2, d3] }
  | _ => none }
def ServeTellsWrongFalsely : Prop := serveTellsRow.holds Tryz.pinned (OpenSpec.ofChange serveTellsWrong)

/-- 'garlandlaw22.ServeTwice': WHATEVER THE INPUT: true; the input reads as it did. -/
def serveTwiceSpec : ChangeSpec := { name := "serveTwice", fn := fun _ => fun
  | [d1, d2] => { results := [.lit (.bool true)], args := [d1, d2] }
  | _ => none }
def serveTwiceRow : OpenClaim := { program := "ythjhcmkgadfpmaagreat", sum := "b03a8372414c5b5bacc5da1e35e43c8f4f931f5c6c76467105e818db780eb649", func := "garland/garlandlaw22.ServeTwice", spec := "serveTwice", unfollowed := true, recurses := true, apart := false }
def ServeTwiceSaid : Prop := serveTwiceRow.holds Tryz.pinned (OpenSpec.ofChange serveTwiceSpec)

/-- ITS FALSE NEIGHBOUR: 'it returns false'. Refute it at one input. -/
def serveTwiceWrong : ChangeSpec := { name := "serveTwice", fn := fun _ => fun
  | [d1, d2] => { results := [.lit (.bool false)], args := [d1, d2] }
  | _ => none }
def ServeTwiceWrongFalsely : Prop := serveTwiceRow.holds Tryz.pinned (OpenSpec.ofChange serveTwiceWrong)

/-- 'garlandlaw22.ServeOnly': WHATEVER THE INPUT: true; the input reads as it did. -/
def serveOnlySpec : ChangeSpec := { name := "serveOnly", fn := fun _ => fun
  | [d1, d2] => { results := [.lit (.bool true)], args := [d1, d2] }
  | _ => none }
def serveOnlyRow : OpenClaim := { program := "ythjhcmkgadfpmaagreat", sum := "b03a8372414c5b5bacc5da1e35e43c8f4f931f5c6c76467105e818db780eb649", func := "garland/garlandlaw22.ServeOnly", spec := "serveOnly", unfollowed := true, recurses := true, apart := false }
def ServeOnlySaid : Prop := serveOnlyRow.holds Tryz.pinned (OpenSpec.ofChange serveOnlySpec)

/-- ITS FALSE NEIGHBOUR: 'it returns false'. Refute it at one input. -/
def serveOnlyWrong : ChangeSpec := { name := "serveOnly", fn := fun _ => fun
  | [d1, d2] => { results := [.lit (.bool false)], args := [d1, d2] }
  | _ => none }
def ServeOnlyWrongFalsely : Prop := serveOnlyRow.holds Tryz.pinned (OpenSpec.ofChange serveOnlyWrong)

/-- 'garlandlaw22.ServeNot': WHATEVER THE INPUT: true; the input reads as it did. -/
def serveNotSpec : ChangeSpec := { name := "serveNot", fn := fun _ => fun
  | [d1, d2] => { results := [.lit (.bool true)], args := [d1, d2] }
  | _ => none }
def serveNotRow : OpenClaim := { program := "ythjhcmkgadfpmaagreat", sum := "b03a8372414c5b5bacc5da1e35e43c8f4f931f5c6c76467105e818db780eb649", func := "garland/garlandlaw22.ServeNot", spec := "serveNot", unfollowed := true, recurses := true, apart := false }
def ServeNotSaid : Prop := serveNotRow.holds Tryz.pinned (OpenSpec.ofChange serveNotSpec)

/-- ITS FALSE NEIGHBOUR: 'it returns false'. Refute it at one input. -/
def serveNotWrong : ChangeSpec := { name := "serveNot", fn := fun _ => fun
  | [d1, d2] => { results := [.lit (.bool false)], args := [d1, d2] }
  | _ => none }
def ServeNotWrongFalsely : Prop := serveNotRow.holds Tryz.pinned (OpenSpec.ofChange serveNotWrong)

/-- 'garlandlaw22.ServeGets': WHATEVER THE INPUT: true; the input reads as it did. -/
def serveGetsSpec : ChangeSpec := { name := "serveGets", fn := fun _ => fun
  | [d1, d2, d3, d4] => { results := [.lit (.bool true)], args := [d1, d2, d3, d4] }
  | _ => none }
def serveGetsRow : OpenClaim := { program := "ythjhcmkgadfpmaagreat", sum := "b03a8372414c5b5bacc5da1e35e43c8f4f931f5c6c76467105e818db780eb649", func := "garland/garlandlaw22.ServeGets", spec := "serveGets", unfollowed := true, recurses := true, apart := false }
def ServeGetsSaid : Prop := serveGetsRow.holds Tryz.pinned (OpenSpec.ofChange serveGetsSpec)

/-- ITS FALSE NEIGHBOUR: 'it returns false'. Refute it at one input. -/
def serveGetsWrong : ChangeSpec := { name := "serveGets", fn := fun _ => fun
  | [d1, d2, d3, d4] => { results := [.lit (.bool false)], args := [d1, d2, d3, d4] }
  | _ => none }
def ServeGetsWrongFalsely : Prop := serveGetsRow.holds Tryz.pinned (OpenSpec.ofChange serveGetsWrong)

/- THE SECOND FORM. 'bulk': how many values and letters a reading holds, each counted each time it is reached (what is shared counts as often as it is met; a slice's spare places count too). A statement '..UptoSaid' is the law's where the arguments, and the package variables that the reading takes, are together of bulk at most 1048576: NARROWER than '..Said'. Prove '..Said' where nothing that the law and all that it calls make is longer than what came in: it says more and counts as full. Else prove '..UptoSaid'. A law counts once. -/
mutual
def uptoBulk {H : Type} : DataW H → Nat
  | .lit (.string bytes) => bytes.length + 1
  | .lit _ => 1
  | .nil => 1
  | .ptr d => uptoBulk d + 1
  | .slice elems spare => uptoBulkAll elems + uptoBulkAll spare + 1
  | .agg parts => uptoBulkAll parts + 1
  | .iface _ d => uptoBulk d + 1
  | .map entries => uptoBulkEntries entries + 1
  | .held _ => 1
def uptoBulkAll {H : Type} : List (DataW H) → Nat
  | [] => 0
  | d :: r => uptoBulk d + uptoBulkAll r
def uptoBulkEntries {H : Type} : List (Lit × DataW H) → Nat
  | [] => 0
  | x :: r => uptoBulkEntry x + uptoBulkEntries r
def uptoBulkEntry {H : Type} : Lit × DataW H → Nat
  | (.string bytes, d) => bytes.length + uptoBulk d + 1
  | (_, d) => uptoBulk d + 1
 end
def uptoSmall : (H : Type) → List (DataW H) → Bool := fun _ ds => decide (uptoBulkAll ds ≤ 1048576)
def OpenSpec.upto (s : _root_.Go.ChangeSpec) : _root_.Go.OpenSpec := { _root_.Go.OpenSpec.ofChange s with cond := some uptoSmall }

/-- 'garlandlaw22.ServeTells', WHERE WHAT IT READS IS OF BULK AT MOST 1048576: true; the input reads as it did. -/
def serveTellsUptoRow : OpenClaim := { program := "ythjhcmkgadfpmaagreat", sum := "b03a8372414c5b5bacc5da1e35e43c8f4f931f5c6c76467105e818db780eb649", func := "garland/garlandlaw22.ServeTells", spec := "serveTells", unfollowed := true, recurses := true, apart := false, narrowed := true }
def ServeTellsUptoSaid : Prop := serveTellsUptoRow.holds Tryz.pinned (OpenSpec.upto serveTellsSpec)

/-- 'garlandlaw22.ServeTwice', WHERE WHAT IT READS IS OF BULK AT MOST 1048576: true; the input reads as it did. -/
def serveTwiceUptoRow : OpenClaim := { program := "ythjhcmkgadfpmaagreat", sum := "b03a8372414c5b5bacc5da1e35e43c8f4f931f5c6c76467105e818db780eb649", func := "garland/garlandlaw22.ServeTwice", spec := "serveTwice", unfollowed := true, recurses := true, apart := false, narrowed := true }
def ServeTwiceUptoSaid : Prop := serveTwiceUptoRow.holds Tryz.pinned (OpenSpec.upto serveTwiceSpec)

/-- 'garlandlaw22.ServeOnly', WHERE WHAT IT READS IS OF BULK AT MOST 1048576: true; the input reads as it did. -/
def serveOnlyUptoRow : OpenClaim := { program := "ythjhcmkgadfpmaagreat", sum := "b03a8372414c5b5bacc5da1e35e43c8f4f931f5c6c76467105e818db780eb649", func := "garland/garlandlaw22.ServeOnly", spec := "serveOnly", unfollowed := true, recurses := true, apart := false, narrowed := true }
def ServeOnlyUptoSaid : Prop := serveOnlyUptoRow.holds Tryz.pinned (OpenSpec.upto serveOnlySpec)

/-- 'garlandlaw22.ServeNot', WHERE WHAT IT READS IS OF BULK AT MOST 1048576: true; the input reads as it did. -/
def serveNotUptoRow : OpenClaim := { program := "ythjhcmkgadfpmaagreat", sum := "b03a8372414c5b5bacc5da1e35e43c8f4f931f5c6c76467105e818db780eb649", func := "garland/garlandlaw22.ServeNot", spec := "serveNot", unfollowed := true, recurses := true, apart := false, narrowed := true }
def ServeNotUptoSaid : Prop := serveNotUptoRow.holds Tryz.pinned (OpenSpec.upto serveNotSpec)

/-- 'garlandlaw22.ServeGets', WHERE WHAT IT READS IS OF BULK AT MOST 1048576: true; the input reads as it did. -/
def serveGetsUptoRow : OpenClaim := { program := "ythjhcmkgadfpmaagreat", sum := "b03a8372414c5b5bacc5da1e35e43c8f4f931f5c6c76467105e818db780eb649", func := "garland/garlandlaw22.ServeGets", spec := "serveGets", unfollowed := true, recurses := true, apart := false, narrowed := true }
def ServeGetsUptoSaid : Prop := serveGetsUptoRow.holds Tryz.pinned (OpenSpec.upto serveGetsSpec)

end Rows
end Go.Proofs.YthjhcmkgadfpmaaGreat
