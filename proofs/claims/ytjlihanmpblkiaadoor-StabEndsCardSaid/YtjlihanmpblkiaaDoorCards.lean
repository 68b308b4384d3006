/-
  DERIVED. GIVEN WITH THE SEED: THE CARDS: each row of YtjlihanmpblkiaaDoorRows.lean that lists a variable, with what it lists TIED to the program's text (the seventh form; the later family's looks); each row that meets fmt, with fmt's text TOLD by the authors' own Lean function (tested against real Go, not proved from fmt's source: count such statements apart). THE CARD IS WHAT COUNTS. Prove the row's statement (the work); the ties are given (YtjlihanmpblkiaaDoorTie.lean); close each card by the builder's one call (the guide's Derived/Test/ToyasCard.lean, 'card_holds'). Laid BY PROGRAM, IN A SANDBOX (cutbox-door.mjs). By AI agents, Wed Nov 11 2026. No macro, syntax, notation, axiom, sorry.
-/
import Derived.Test.YtjlihanmpblkiaaDoorRows
import GoSem.ClaimSeven
namespace Go.Proofs.YtjlihanmpblkiaaDoor
namespace Rows

/-- THE TIED CARD OF 'garlandlaw14.StabTells'. -/
def stabTellsCard : Claim7 := { stood := { row := stabTellsRow, standIns := [], harness := (true, "f6bb00060208b767a01f4316d3e1763a55da6abc34844cd668c35c5923f67c64"), looks := false }, kinds := [], alts := [], laidByText := true, laidKinds := [.data], laidTests := true, laidLooks := .later }
def StabTellsCardSaid : Prop := Claim7.holds Tryd.pinned (.plain (OpenSpec.ofChange stabTellsSpec)) stabTellsCard

/-- THE TIED CARD OF 'garlandlaw14.StabSkips'. -/
def stabSkipsCard : Claim7 := { stood := { row := stabSkipsRow, standIns := [], harness := (true, "f6bb00060208b767a01f4316d3e1763a55da6abc34844cd668c35c5923f67c64"), looks := false }, kinds := [], alts := [], laidByText := true, laidKinds := [.data], laidTests := true, laidLooks := .later }
def StabSkipsCardSaid : Prop := Claim7.holds Tryd.pinned (.plain (OpenSpec.ofChange stabSkipsSpec)) stabSkipsCard

/-- THE TIED CARD OF 'garlandlaw14.StabEnds'. -/
def stabEndsCard : Claim7 := { stood := { row := stabEndsRow, standIns := [], harness := (true, "f6bb00060208b767a01f4316d3e1763a55da6abc34844cd668c35c5923f67c64"), looks := false }, kinds := [], alts := [], laidByText := true, laidKinds := [.data], laidTests := true, laidLooks := .later }
def StabEndsCardSaid : Prop := Claim7.holds Tryd.pinned (.plain (OpenSpec.ofChange stabEndsSpec)) stabEndsCard

/-- THE TIED CARD OF 'garlandlaw14.StabNot'. -/
def stabNotCard : Claim7 := { stood := { row := stabNotRow, standIns := [], harness := (true, "f6bb00060208b767a01f4316d3e1763a55da6abc34844cd668c35c5923f67c64"), looks := false }, kinds := [], alts := [], laidByText := true, laidKinds := [.data], laidTests := true, laidLooks := .later }
def StabNotCardSaid : Prop := Claim7.holds Tryd.pinned (.plain (OpenSpec.ofChange stabNotSpec)) stabNotCard

/-- THE SECOND FORM's CARD OF 'garlandlaw14.StabTells'. -/
def stabTellsUptoCard : Claim7 := { stood := { row := stabTellsUptoRow, standIns := [], harness := (true, "f6bb00060208b767a01f4316d3e1763a55da6abc34844cd668c35c5923f67c64"), looks := false }, kinds := [], alts := [], laidByText := true, laidKinds := [.data], laidTests := true, laidLooks := .later }
def StabTellsUptoCardSaid : Prop := Claim7.holds Tryd.pinned (.plain (OpenSpec.upto stabTellsSpec)) stabTellsUptoCard

/-- THE SECOND FORM's CARD OF 'garlandlaw14.StabSkips'. -/
def stabSkipsUptoCard : Claim7 := { stood := { row := stabSkipsUptoRow, standIns := [], harness := (true, "f6bb00060208b767a01f4316d3e1763a55da6abc34844cd668c35c5923f67c64"), looks := false }, kinds := [], alts := [], laidByText := true, laidKinds := [.data], laidTests := true, laidLooks := .later }
def StabSkipsUptoCardSaid : Prop := Claim7.holds Tryd.pinned (.plain (OpenSpec.upto stabSkipsSpec)) stabSkipsUptoCard

/-- THE SECOND FORM's CARD OF 'garlandlaw14.StabEnds'. -/
def stabEndsUptoCard : Claim7 := { stood := { row := stabEndsUptoRow, standIns := [], harness := (true, "f6bb00060208b767a01f4316d3e1763a55da6abc34844cd668c35c5923f67c64"), looks := false }, kinds := [], alts := [], laidByText := true, laidKinds := [.data], laidTests := true, laidLooks := .later }
def StabEndsUptoCardSaid : Prop := Claim7.holds Tryd.pinned (.plain (OpenSpec.upto stabEndsSpec)) stabEndsUptoCard

/-- THE SECOND FORM's CARD OF 'garlandlaw14.StabNot'. -/
def stabNotUptoCard : Claim7 := { stood := { row := stabNotUptoRow, standIns := [], harness := (true, "f6bb00060208b767a01f4316d3e1763a55da6abc34844cd668c35c5923f67c64"), looks := false }, kinds := [], alts := [], laidByText := true, laidKinds := [.data], laidTests := true, laidLooks := .later }
def StabNotUptoCardSaid : Prop := Claim7.holds Tryd.pinned (.plain (OpenSpec.upto stabNotSpec)) stabNotUptoCard
end Rows
end Go.Proofs.YtjlihanmpblkiaaDoor
