/-
  DERIVED. GIVEN WITH THE SEED: THE CARDS: each row of YtabnacdjcefgnaaGreatDoorRows.lean that lists a variable, with what it lists TIED to the program's text (the seventh form; the later family's looks); each row that meets fmt, with fmt's text TOLD by the authors' own Lean function (tested against real Go, not proved from fmt's source: count such statements apart). THE CARD IS WHAT COUNTS. Prove the row's statement (the work); the ties are given (YtabnacdjcefgnaaGreatDoorTie.lean); close each card by the builder's one call (the guide's Derived/Test/ToyasCard.lean, 'card_holds'). Laid BY PROGRAM, IN A SANDBOX (cutbox-door.mjs). By AI agents, Wed Nov 11 2026. No macro, syntax, notation, axiom, sorry.
-/
import Derived.Test.YtabnacdjcefgnaaGreatDoorRows
import GoSem.ClaimSeven
namespace Go.Proofs.YtabnacdjcefgnaaGreatDoor
namespace Rows

/-- THE TIED CARD OF 'aediculelaw18.LinkTells'. -/
def linkTellsCard : Claim7 := { stood := { row := linkTellsRow, standIns := [], harness := (true, "b3d878ec54266a16ae4cd8b9c7902714e24d94e0affb68eec8f19e28d8d3cfa0"), looks := false }, kinds := [], alts := [], laidByText := true, laidKinds := [.data, .pinned], laidTests := true, laidLooks := .later }
def LinkTellsCardSaid : Prop := Claim7.holds Tryz.pinned (.plain (OpenSpec.ofChange linkTellsSpec)) linkTellsCard

/-- THE TIED CARD OF 'aediculelaw18.LinkPlaces'. -/
def linkPlacesCard : Claim7 := { stood := { row := linkPlacesRow, standIns := [], harness := (true, "b3d878ec54266a16ae4cd8b9c7902714e24d94e0affb68eec8f19e28d8d3cfa0"), looks := false }, kinds := [], alts := [], laidByText := true, laidKinds := [.data, .pinned], laidTests := true, laidLooks := .later }
def LinkPlacesCardSaid : Prop := Claim7.holds Tryz.pinned (.plain (OpenSpec.ofChange linkPlacesSpec)) linkPlacesCard

/-- THE TIED CARD OF 'aediculelaw18.LinkLeast'. -/
def linkLeastCard : Claim7 := { stood := { row := linkLeastRow, standIns := [], harness := (true, "b3d878ec54266a16ae4cd8b9c7902714e24d94e0affb68eec8f19e28d8d3cfa0"), looks := false }, kinds := [], alts := [], laidByText := true, laidKinds := [.data, .pinned], laidTests := true, laidLooks := .later }
def LinkLeastCardSaid : Prop := Claim7.holds Tryz.pinned (.plain (OpenSpec.ofChange linkLeastSpec)) linkLeastCard

/-- THE SECOND FORM's CARD OF 'aediculelaw18.LinkTells'. -/
def linkTellsUptoCard : Claim7 := { stood := { row := linkTellsUptoRow, standIns := [], harness := (true, "b3d878ec54266a16ae4cd8b9c7902714e24d94e0affb68eec8f19e28d8d3cfa0"), looks := false }, kinds := [], alts := [], laidByText := true, laidKinds := [.data, .pinned], laidTests := true, laidLooks := .later }
def LinkTellsUptoCardSaid : Prop := Claim7.holds Tryz.pinned (.plain (OpenSpec.upto linkTellsSpec)) linkTellsUptoCard

/-- THE SECOND FORM's CARD OF 'aediculelaw18.LinkPlaces'. -/
def linkPlacesUptoCard : Claim7 := { stood := { row := linkPlacesUptoRow, standIns := [], harness := (true, "b3d878ec54266a16ae4cd8b9c7902714e24d94e0affb68eec8f19e28d8d3cfa0"), looks := false }, kinds := [], alts := [], laidByText := true, laidKinds := [.data, .pinned], laidTests := true, laidLooks := .later }
def LinkPlacesUptoCardSaid : Prop := Claim7.holds Tryz.pinned (.plain (OpenSpec.upto linkPlacesSpec)) linkPlacesUptoCard

/-- THE SECOND FORM's CARD OF 'aediculelaw18.LinkLeast'. -/
def linkLeastUptoCard : Claim7 := { stood := { row := linkLeastUptoRow, standIns := [], harness := (true, "b3d878ec54266a16ae4cd8b9c7902714e24d94e0affb68eec8f19e28d8d3cfa0"), looks := false }, kinds := [], alts := [], laidByText := true, laidKinds := [.data, .pinned], laidTests := true, laidLooks := .later }
def LinkLeastUptoCardSaid : Prop := Claim7.holds Tryz.pinned (.plain (OpenSpec.upto linkLeastSpec)) linkLeastUptoCard
end Rows
end Go.Proofs.YtabnacdjcefgnaaGreatDoor
