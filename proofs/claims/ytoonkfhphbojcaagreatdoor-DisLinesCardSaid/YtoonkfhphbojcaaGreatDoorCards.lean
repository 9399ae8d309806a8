/-
  DERIVED. GIVEN WITH THE SEED: THE CARDS: each row of YtoonkfhphbojcaaGreatDoorRows.lean that lists a variable, with what it lists TIED to the program's text (the seventh form; the later family's looks); each row that meets fmt, with fmt's text TOLD by the authors' own Lean function (tested against real Go, not proved from fmt's source: count such statements apart). THE CARD IS WHAT COUNTS. Prove the row's statement (the work); the ties are given (YtoonkfhphbojcaaGreatDoorTie.lean); close each card by the builder's one call (the guide's Derived/Test/ToyasCard.lean, 'card_holds'). Laid BY PROGRAM, IN A SANDBOX (cutbox-door.mjs). By AI agents, Wed Nov 11 2026. No macro, syntax, notation, axiom, sorry.
-/
import Derived.Test.YtoonkfhphbojcaaGreatDoorRows
import GoSem.ClaimSeven
namespace Go.Proofs.YtoonkfhphbojcaaGreatDoor
namespace Rows

/-- THE TIED CARD OF 'aediculelaw33.DisInsns'. -/
def disInsnsCard : Claim7 := { stood := { row := disInsnsRow, standIns := [], harness := (true, "7a288f8b09d69756f91eea32130490838ada2b4871ecb554be2cfed3f693a035"), looks := true }, kinds := [], alts := [], laidByText := true, laidKinds := [.data, .data, .data, .data, .sentinel, .sentinel, .listed, .data, .pinned], laidTests := true, laidLooks := .later }
def DisInsnsCardSaid : Prop := Claim7.holds Tryz.pinned (.plain (OpenSpec.ofChange disInsnsSpec)) disInsnsCard

/-- THE TIED CARD OF 'aediculelaw33.DisLines'. -/
def disLinesCard : Claim7 := { stood := { row := disLinesRow, standIns := [], harness := (true, "7a288f8b09d69756f91eea32130490838ada2b4871ecb554be2cfed3f693a035"), looks := true }, kinds := [], alts := [], laidByText := true, laidKinds := [.data, .data, .data, .data, .sentinel, .sentinel, .listed, .data, .pinned], laidTests := true, laidLooks := .later }
def DisLinesCardSaid : Prop := Claim7.holds Tryz.pinned (.plain (OpenSpec.ofChange disLinesSpec)) disLinesCard

/-- THE TIED CARD OF 'aediculelaw33.DisObjects'. -/
def disObjectsCard : Claim7 := { stood := { row := disObjectsRow, standIns := [], harness := (true, "7a288f8b09d69756f91eea32130490838ada2b4871ecb554be2cfed3f693a035"), looks := true }, kinds := [], alts := [], laidByText := true, laidKinds := [.data, .data, .data, .data, .sentinel, .sentinel, .listed, .data, .pinned], laidTests := true, laidLooks := .later }
def DisObjectsCardSaid : Prop := Claim7.holds Tryz.pinned (.plain (OpenSpec.ofChange disObjectsSpec)) disObjectsCard

/-- THE TIED CARD OF 'aediculelaw33.DisBack'. -/
def disBackCard : Claim7 := { stood := { row := disBackRow, standIns := [], harness := (true, "7a288f8b09d69756f91eea32130490838ada2b4871ecb554be2cfed3f693a035"), looks := true }, kinds := [], alts := [], laidByText := true, laidKinds := [.data, .data, .data, .data, .sentinel, .sentinel, .listed, .data, .pinned], laidTests := true, laidLooks := .later }
def DisBackCardSaid : Prop := Claim7.holds Tryz.pinned (.plain (OpenSpec.ofChange disBackSpec)) disBackCard

/-- THE SECOND FORM's CARD OF 'aediculelaw33.DisInsns'. -/
def disInsnsUptoCard : Claim7 := { stood := { row := disInsnsUptoRow, standIns := [], harness := (true, "7a288f8b09d69756f91eea32130490838ada2b4871ecb554be2cfed3f693a035"), looks := true }, kinds := [], alts := [], laidByText := true, laidKinds := [.data, .data, .data, .data, .sentinel, .sentinel, .listed, .data, .pinned], laidTests := true, laidLooks := .later }
def DisInsnsUptoCardSaid : Prop := Claim7.holds Tryz.pinned (.plain (OpenSpec.upto disInsnsSpec)) disInsnsUptoCard

/-- THE SECOND FORM's CARD OF 'aediculelaw33.DisLines'. -/
def disLinesUptoCard : Claim7 := { stood := { row := disLinesUptoRow, standIns := [], harness := (true, "7a288f8b09d69756f91eea32130490838ada2b4871ecb554be2cfed3f693a035"), looks := true }, kinds := [], alts := [], laidByText := true, laidKinds := [.data, .data, .data, .data, .sentinel, .sentinel, .listed, .data, .pinned], laidTests := true, laidLooks := .later }
def DisLinesUptoCardSaid : Prop := Claim7.holds Tryz.pinned (.plain (OpenSpec.upto disLinesSpec)) disLinesUptoCard

/-- THE SECOND FORM's CARD OF 'aediculelaw33.DisObjects'. -/
def disObjectsUptoCard : Claim7 := { stood := { row := disObjectsUptoRow, standIns := [], harness := (true, "7a288f8b09d69756f91eea32130490838ada2b4871ecb554be2cfed3f693a035"), looks := true }, kinds := [], alts := [], laidByText := true, laidKinds := [.data, .data, .data, .data, .sentinel, .sentinel, .listed, .data, .pinned], laidTests := true, laidLooks := .later }
def DisObjectsUptoCardSaid : Prop := Claim7.holds Tryz.pinned (.plain (OpenSpec.upto disObjectsSpec)) disObjectsUptoCard

/-- THE SECOND FORM's CARD OF 'aediculelaw33.DisBack'. -/
def disBackUptoCard : Claim7 := { stood := { row := disBackUptoRow, standIns := [], harness := (true, "7a288f8b09d69756f91eea32130490838ada2b4871ecb554be2cfed3f693a035"), looks := true }, kinds := [], alts := [], laidByText := true, laidKinds := [.data, .data, .data, .data, .sentinel, .sentinel, .listed, .data, .pinned], laidTests := true, laidLooks := .later }
def DisBackUptoCardSaid : Prop := Claim7.holds Tryz.pinned (.plain (OpenSpec.upto disBackSpec)) disBackUptoCard
end Rows
end Go.Proofs.YtoonkfhphbojcaaGreatDoor
