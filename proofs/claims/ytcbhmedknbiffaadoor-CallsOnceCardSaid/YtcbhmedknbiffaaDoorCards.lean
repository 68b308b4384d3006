/-
  DERIVED. GIVEN WITH THE SEED: THE CARDS: each row of YtcbhmedknbiffaaDoorRows.lean that lists a variable, with what it lists TIED to the program's text (the seventh form; the later family's looks); each row that meets fmt, with fmt's text TOLD by the authors' own Lean function (tested against real Go, not proved from fmt's source: count such statements apart). THE CARD IS WHAT COUNTS. Prove the row's statement (the work); the ties are given (YtcbhmedknbiffaaDoorTie.lean); close each card by the builder's one call (the guide's Derived/Test/ToyasCard.lean, 'card_holds'). Laid BY PROGRAM, IN A SANDBOX (cutbox-door.mjs). By AI agents, Wed Nov 11 2026. No macro, syntax, notation, axiom, sorry.
-/
import Derived.Test.YtcbhmedknbiffaaDoorRows
import GoSem.ClaimSeven
namespace Go.Proofs.YtcbhmedknbiffaaDoor
namespace Rows

/-- THE TIED CARD OF 'garlandlaw10.CallsOnce'. -/
def callsOnceCard : Claim7 := { stood := { row := callsOnceRow, standIns := [], harness := (true, "787054532f5f79e815b65c246c90f74431c700126374b0319d9d46b6eed0407e"), looks := false }, kinds := [], alts := [], laidByText := true, laidKinds := [.data], laidTests := true, laidLooks := .later }
def CallsOnceCardSaid : Prop := Claim7.holds Tryd.pinned (.plain (OpenSpec.ofChange callsOnceSpec)) callsOnceCard

/-- THE TIED CARD OF 'garlandlaw10.CallsClose'. -/
def callsCloseCard : Claim7 := { stood := { row := callsCloseRow, standIns := [], harness := (true, "787054532f5f79e815b65c246c90f74431c700126374b0319d9d46b6eed0407e"), looks := false }, kinds := [], alts := [], laidByText := true, laidKinds := [.data], laidTests := true, laidLooks := .later }
def CallsCloseCardSaid : Prop := Claim7.holds Tryd.pinned (.plain (OpenSpec.ofChange callsCloseSpec)) callsCloseCard

/-- THE TIED CARD OF 'garlandlaw10.CallsLate'. -/
def callsLateCard : Claim7 := { stood := { row := callsLateRow, standIns := [], harness := (true, "787054532f5f79e815b65c246c90f74431c700126374b0319d9d46b6eed0407e"), looks := false }, kinds := [], alts := [], laidByText := true, laidKinds := [.data], laidTests := true, laidLooks := .later }
def CallsLateCardSaid : Prop := Claim7.holds Tryd.pinned (.plain (OpenSpec.ofChange callsLateSpec)) callsLateCard

/-- THE TIED CARD OF 'garlandlaw10.CallsDrop'. -/
def callsDropCard : Claim7 := { stood := { row := callsDropRow, standIns := [], harness := (true, "787054532f5f79e815b65c246c90f74431c700126374b0319d9d46b6eed0407e"), looks := false }, kinds := [], alts := [], laidByText := true, laidKinds := [.data], laidTests := true, laidLooks := .later }
def CallsDropCardSaid : Prop := Claim7.holds Tryd.pinned (.plain (OpenSpec.ofChange callsDropSpec)) callsDropCard

/-- THE SECOND FORM's CARD OF 'garlandlaw10.CallsOnce'. -/
def callsOnceUptoCard : Claim7 := { stood := { row := callsOnceUptoRow, standIns := [], harness := (true, "787054532f5f79e815b65c246c90f74431c700126374b0319d9d46b6eed0407e"), looks := false }, kinds := [], alts := [], laidByText := true, laidKinds := [.data], laidTests := true, laidLooks := .later }
def CallsOnceUptoCardSaid : Prop := Claim7.holds Tryd.pinned (.plain (OpenSpec.upto callsOnceSpec)) callsOnceUptoCard

/-- THE SECOND FORM's CARD OF 'garlandlaw10.CallsClose'. -/
def callsCloseUptoCard : Claim7 := { stood := { row := callsCloseUptoRow, standIns := [], harness := (true, "787054532f5f79e815b65c246c90f74431c700126374b0319d9d46b6eed0407e"), looks := false }, kinds := [], alts := [], laidByText := true, laidKinds := [.data], laidTests := true, laidLooks := .later }
def CallsCloseUptoCardSaid : Prop := Claim7.holds Tryd.pinned (.plain (OpenSpec.upto callsCloseSpec)) callsCloseUptoCard

/-- THE SECOND FORM's CARD OF 'garlandlaw10.CallsLate'. -/
def callsLateUptoCard : Claim7 := { stood := { row := callsLateUptoRow, standIns := [], harness := (true, "787054532f5f79e815b65c246c90f74431c700126374b0319d9d46b6eed0407e"), looks := false }, kinds := [], alts := [], laidByText := true, laidKinds := [.data], laidTests := true, laidLooks := .later }
def CallsLateUptoCardSaid : Prop := Claim7.holds Tryd.pinned (.plain (OpenSpec.upto callsLateSpec)) callsLateUptoCard

/-- THE SECOND FORM's CARD OF 'garlandlaw10.CallsDrop'. -/
def callsDropUptoCard : Claim7 := { stood := { row := callsDropUptoRow, standIns := [], harness := (true, "787054532f5f79e815b65c246c90f74431c700126374b0319d9d46b6eed0407e"), looks := false }, kinds := [], alts := [], laidByText := true, laidKinds := [.data], laidTests := true, laidLooks := .later }
def CallsDropUptoCardSaid : Prop := Claim7.holds Tryd.pinned (.plain (OpenSpec.upto callsDropSpec)) callsDropUptoCard
end Rows
end Go.Proofs.YtcbhmedknbiffaaDoor
