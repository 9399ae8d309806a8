/-
  DERIVED. GIVEN WITH THE SEED: THE CARDS: each row of YtboegjdkedjhcaaGreatDoorRows.lean that lists a variable, with what it lists TIED to the program's text (the seventh form; the later family's looks); each row that meets fmt, with fmt's text TOLD by the authors' own Lean function (tested against real Go, not proved from fmt's source: count such statements apart). THE CARD IS WHAT COUNTS. Prove the row's statement (the work); the ties are given (YtboegjdkedjhcaaGreatDoorTie.lean); close each card by the builder's one call (the guide's Derived/Test/ToyasCard.lean, 'card_holds'). Laid BY PROGRAM, IN A SANDBOX (cutbox-door.mjs). By AI agents, Wed Nov 11 2026. No macro, syntax, notation, axiom, sorry.
-/
import Derived.Test.YtboegjdkedjhcaaGreatDoorRows
import GoSem.ClaimSeven
namespace Go.Proofs.YtboegjdkedjhcaaGreatDoor
namespace Rows

/-- THE TIED CARD OF 'aediculelaw35.ArchiveCodes'. -/
def archiveCodesCard : Claim7 := { stood := { row := archiveCodesRow, standIns := [], harness := (true, "5ca742c2692952fc4916c2f15333410d47bc3bb04f69ced4bbc28fb2c01232ea"), looks := false }, kinds := [], alts := [], laidByText := true, laidKinds := [.data, .pinned], laidTests := true, laidLooks := .later }
def ArchiveCodesCardSaid : Prop := Claim7.holds Tryz.pinned (.plain (OpenSpec.ofChange archiveCodesSpec)) archiveCodesCard

/-- THE TIED CARD OF 'aediculelaw35.ArchiveBack'. -/
def archiveBackCard : Claim7 := { stood := { row := archiveBackRow, standIns := [], harness := (true, "5ca742c2692952fc4916c2f15333410d47bc3bb04f69ced4bbc28fb2c01232ea"), looks := false }, kinds := [], alts := [], laidByText := true, laidKinds := [.data, .pinned], laidTests := true, laidLooks := .later }
def ArchiveBackCardSaid : Prop := Claim7.holds Tryz.pinned (.plain (OpenSpec.ofChange archiveBackSpec)) archiveBackCard

/-- THE TIED CARD OF 'aediculelaw35.ArchiveNeeds'. -/
def archiveNeedsCard : Claim7 := { stood := { row := archiveNeedsRow, standIns := [], harness := (true, "5ca742c2692952fc4916c2f15333410d47bc3bb04f69ced4bbc28fb2c01232ea"), looks := false }, kinds := [], alts := [], laidByText := true, laidKinds := [.data, .pinned], laidTests := true, laidLooks := .later }
def ArchiveNeedsCardSaid : Prop := Claim7.holds Tryz.pinned (.plain (OpenSpec.ofChange archiveNeedsSpec)) archiveNeedsCard

/-- THE TIED CARD OF 'aediculelaw35.ArchiveSame'. -/
def archiveSameCard : Claim7 := { stood := { row := archiveSameRow, standIns := [], harness := (true, "5ca742c2692952fc4916c2f15333410d47bc3bb04f69ced4bbc28fb2c01232ea"), looks := false }, kinds := [], alts := [], laidByText := true, laidKinds := [.data, .pinned], laidTests := true, laidLooks := .later }
def ArchiveSameCardSaid : Prop := Claim7.holds Tryz.pinned (.plain (OpenSpec.ofChange archiveSameSpec)) archiveSameCard

/-- THE SECOND FORM's CARD OF 'aediculelaw35.ArchiveCodes'. -/
def archiveCodesUptoCard : Claim7 := { stood := { row := archiveCodesUptoRow, standIns := [], harness := (true, "5ca742c2692952fc4916c2f15333410d47bc3bb04f69ced4bbc28fb2c01232ea"), looks := false }, kinds := [], alts := [], laidByText := true, laidKinds := [.data, .pinned], laidTests := true, laidLooks := .later }
def ArchiveCodesUptoCardSaid : Prop := Claim7.holds Tryz.pinned (.plain (OpenSpec.upto archiveCodesSpec)) archiveCodesUptoCard

/-- THE SECOND FORM's CARD OF 'aediculelaw35.ArchiveBack'. -/
def archiveBackUptoCard : Claim7 := { stood := { row := archiveBackUptoRow, standIns := [], harness := (true, "5ca742c2692952fc4916c2f15333410d47bc3bb04f69ced4bbc28fb2c01232ea"), looks := false }, kinds := [], alts := [], laidByText := true, laidKinds := [.data, .pinned], laidTests := true, laidLooks := .later }
def ArchiveBackUptoCardSaid : Prop := Claim7.holds Tryz.pinned (.plain (OpenSpec.upto archiveBackSpec)) archiveBackUptoCard

/-- THE SECOND FORM's CARD OF 'aediculelaw35.ArchiveNeeds'. -/
def archiveNeedsUptoCard : Claim7 := { stood := { row := archiveNeedsUptoRow, standIns := [], harness := (true, "5ca742c2692952fc4916c2f15333410d47bc3bb04f69ced4bbc28fb2c01232ea"), looks := false }, kinds := [], alts := [], laidByText := true, laidKinds := [.data, .pinned], laidTests := true, laidLooks := .later }
def ArchiveNeedsUptoCardSaid : Prop := Claim7.holds Tryz.pinned (.plain (OpenSpec.upto archiveNeedsSpec)) archiveNeedsUptoCard

/-- THE SECOND FORM's CARD OF 'aediculelaw35.ArchiveSame'. -/
def archiveSameUptoCard : Claim7 := { stood := { row := archiveSameUptoRow, standIns := [], harness := (true, "5ca742c2692952fc4916c2f15333410d47bc3bb04f69ced4bbc28fb2c01232ea"), looks := false }, kinds := [], alts := [], laidByText := true, laidKinds := [.data, .pinned], laidTests := true, laidLooks := .later }
def ArchiveSameUptoCardSaid : Prop := Claim7.holds Tryz.pinned (.plain (OpenSpec.upto archiveSameSpec)) archiveSameUptoCard
end Rows
end Go.Proofs.YtboegjdkedjhcaaGreatDoor
