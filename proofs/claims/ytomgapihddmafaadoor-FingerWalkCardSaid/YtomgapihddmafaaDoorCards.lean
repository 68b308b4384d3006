/-
  DERIVED. GIVEN WITH THE SEED: THE CARDS: each row of YtomgapihddmafaaDoorRows.lean that lists a variable, with what it lists TIED to the program's text (the seventh form; the later family's looks); each row that meets fmt, with fmt's text TOLD by the authors' own Lean function (tested against real Go, not proved from fmt's source: count such statements apart). THE CARD IS WHAT COUNTS. Prove the row's statement (the work); the ties are given (YtomgapihddmafaaDoorTie.lean); close each card by the builder's one call (the guide's Derived/Test/ToyasCard.lean, 'card_holds'). Laid BY PROGRAM, IN A SANDBOX (cutbox-door.mjs). By AI agents, Wed Nov 11 2026. No macro, syntax, notation, axiom, sorry.
-/
import Derived.Test.YtomgapihddmafaaDoorRows
import GoSem.ClaimSeven
namespace Go.Proofs.YtomgapihddmafaaDoor
namespace Rows

/-- THE TIED CARD OF 'garlandlaw17.FingerTells'. -/
def fingerTellsCard : Claim7 := { stood := { row := fingerTellsRow, standIns := [], harness := (true, "4aefbd255a7892a4f328ebedc3b490cc0c7bbaa516631a61e7146c30af8eb688"), looks := false }, kinds := [], alts := [], laidByText := true, laidKinds := [.data], laidTests := true, laidLooks := .later }
def FingerTellsCardSaid : Prop := Claim7.holds Tryd.pinned (.plain (OpenSpec.ofChange fingerTellsSpec)) fingerTellsCard

/-- THE TIED CARD OF 'garlandlaw17.FingerWalk'. -/
def fingerWalkCard : Claim7 := { stood := { row := fingerWalkRow, standIns := [], harness := (true, "4aefbd255a7892a4f328ebedc3b490cc0c7bbaa516631a61e7146c30af8eb688"), looks := false }, kinds := [], alts := [], laidByText := true, laidKinds := [.data], laidTests := true, laidLooks := .later }
def FingerWalkCardSaid : Prop := Claim7.holds Tryd.pinned (.plain (OpenSpec.ofChange fingerWalkSpec)) fingerWalkCard

/-- THE TIED CARD OF 'garlandlaw17.FingerOnce'. -/
def fingerOnceCard : Claim7 := { stood := { row := fingerOnceRow, standIns := [], harness := (true, "4aefbd255a7892a4f328ebedc3b490cc0c7bbaa516631a61e7146c30af8eb688"), looks := false }, kinds := [], alts := [], laidByText := true, laidKinds := [.data], laidTests := true, laidLooks := .later }
def FingerOnceCardSaid : Prop := Claim7.holds Tryd.pinned (.plain (OpenSpec.ofChange fingerOnceSpec)) fingerOnceCard

/-- THE TIED CARD OF 'garlandlaw17.FingerSets'. -/
def fingerSetsCard : Claim7 := { stood := { row := fingerSetsRow, standIns := [], harness := (true, "4aefbd255a7892a4f328ebedc3b490cc0c7bbaa516631a61e7146c30af8eb688"), looks := false }, kinds := [], alts := [], laidByText := true, laidKinds := [.data], laidTests := true, laidLooks := .later }
def FingerSetsCardSaid : Prop := Claim7.holds Tryd.pinned (.plain (OpenSpec.ofChange fingerSetsSpec)) fingerSetsCard

/-- THE TIED CARD OF 'garlandlaw17.FingerTable'. -/
def fingerTableCard : Claim7 := { stood := { row := fingerTableRow, standIns := [], harness := (true, "4aefbd255a7892a4f328ebedc3b490cc0c7bbaa516631a61e7146c30af8eb688"), looks := false }, kinds := [], alts := [], laidByText := true, laidKinds := [.data], laidTests := true, laidLooks := .later }
def FingerTableCardSaid : Prop := Claim7.holds Tryd.pinned (.plain (OpenSpec.ofChange fingerTableSpec)) fingerTableCard

/-- THE SECOND FORM's CARD OF 'garlandlaw17.FingerTells'. -/
def fingerTellsUptoCard : Claim7 := { stood := { row := fingerTellsUptoRow, standIns := [], harness := (true, "4aefbd255a7892a4f328ebedc3b490cc0c7bbaa516631a61e7146c30af8eb688"), looks := false }, kinds := [], alts := [], laidByText := true, laidKinds := [.data], laidTests := true, laidLooks := .later }
def FingerTellsUptoCardSaid : Prop := Claim7.holds Tryd.pinned (.plain (OpenSpec.upto fingerTellsSpec)) fingerTellsUptoCard

/-- THE SECOND FORM's CARD OF 'garlandlaw17.FingerWalk'. -/
def fingerWalkUptoCard : Claim7 := { stood := { row := fingerWalkUptoRow, standIns := [], harness := (true, "4aefbd255a7892a4f328ebedc3b490cc0c7bbaa516631a61e7146c30af8eb688"), looks := false }, kinds := [], alts := [], laidByText := true, laidKinds := [.data], laidTests := true, laidLooks := .later }
def FingerWalkUptoCardSaid : Prop := Claim7.holds Tryd.pinned (.plain (OpenSpec.upto fingerWalkSpec)) fingerWalkUptoCard

/-- THE SECOND FORM's CARD OF 'garlandlaw17.FingerOnce'. -/
def fingerOnceUptoCard : Claim7 := { stood := { row := fingerOnceUptoRow, standIns := [], harness := (true, "4aefbd255a7892a4f328ebedc3b490cc0c7bbaa516631a61e7146c30af8eb688"), looks := false }, kinds := [], alts := [], laidByText := true, laidKinds := [.data], laidTests := true, laidLooks := .later }
def FingerOnceUptoCardSaid : Prop := Claim7.holds Tryd.pinned (.plain (OpenSpec.upto fingerOnceSpec)) fingerOnceUptoCard

/-- THE SECOND FORM's CARD OF 'garlandlaw17.FingerSets'. -/
def fingerSetsUptoCard : Claim7 := { stood := { row := fingerSetsUptoRow, standIns := [], harness := (true, "4aefbd255a7892a4f328ebedc3b490cc0c7bbaa516631a61e7146c30af8eb688"), looks := false }, kinds := [], alts := [], laidByText := true, laidKinds := [.data], laidTests := true, laidLooks := .later }
def FingerSetsUptoCardSaid : Prop := Claim7.holds Tryd.pinned (.plain (OpenSpec.upto fingerSetsSpec)) fingerSetsUptoCard

/-- THE SECOND FORM's CARD OF 'garlandlaw17.FingerTable'. -/
def fingerTableUptoCard : Claim7 := { stood := { row := fingerTableUptoRow, standIns := [], harness := (true, "4aefbd255a7892a4f328ebedc3b490cc0c7bbaa516631a61e7146c30af8eb688"), looks := false }, kinds := [], alts := [], laidByText := true, laidKinds := [.data], laidTests := true, laidLooks := .later }
def FingerTableUptoCardSaid : Prop := Claim7.holds Tryd.pinned (.plain (OpenSpec.upto fingerTableSpec)) fingerTableUptoCard
end Rows
end Go.Proofs.YtomgapihddmafaaDoor
