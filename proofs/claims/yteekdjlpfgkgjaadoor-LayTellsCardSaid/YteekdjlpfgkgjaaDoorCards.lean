/-
  DERIVED. GIVEN WITH THE SEED: THE CARDS: each row of YteekdjlpfgkgjaaDoorRows.lean that lists a variable, with what it lists TIED to the program's text (the seventh form; the later family's looks); each row that meets fmt, with fmt's text TOLD by the authors' own Lean function (tested against real Go, not proved from fmt's source: count such statements apart). THE CARD IS WHAT COUNTS. Prove the row's statement (the work); the ties are given (YteekdjlpfgkgjaaDoorTie.lean); close each card by the builder's one call (the guide's Derived/Test/ToyasCard.lean, 'card_holds'). Laid BY PROGRAM, IN A SANDBOX (cutbox-door.mjs). By AI agents, Wed Nov 11 2026. No macro, syntax, notation, axiom, sorry.
-/
import Derived.Test.YteekdjlpfgkgjaaDoorRows
import GoSem.ClaimSeven
namespace Go.Proofs.YteekdjlpfgkgjaaDoor
namespace Rows

/-- THE TIED CARD OF 'aediculelaw14.LayTells'. -/
def layTellsCard : Claim7 := { stood := { row := layTellsRow, standIns := [], harness := (true, "2c2aa46b30b5d3154cea3a4eb43896a112aae3e6bfbfe796ab47a389dfba3d48"), looks := false }, kinds := [], alts := [], laidByText := true, laidKinds := [.data, .pinned], laidTests := true, laidLooks := .later }
def LayTellsCardSaid : Prop := Claim7.holds Tryd.pinned (.plain (OpenSpec.ofChange layTellsSpec)) layTellsCard

/-- THE TIED CARD OF 'aediculelaw14.LayApart'. -/
def layApartCard : Claim7 := { stood := { row := layApartRow, standIns := [], harness := (true, "2c2aa46b30b5d3154cea3a4eb43896a112aae3e6bfbfe796ab47a389dfba3d48"), looks := false }, kinds := [], alts := [], laidByText := true, laidKinds := [.data, .pinned], laidTests := true, laidLooks := .later }
def LayApartCardSaid : Prop := Claim7.holds Tryd.pinned (.plain (OpenSpec.ofChange layApartSpec)) layApartCard

/-- THE SECOND FORM's CARD OF 'aediculelaw14.LayTells'. -/
def layTellsUptoCard : Claim7 := { stood := { row := layTellsUptoRow, standIns := [], harness := (true, "2c2aa46b30b5d3154cea3a4eb43896a112aae3e6bfbfe796ab47a389dfba3d48"), looks := false }, kinds := [], alts := [], laidByText := true, laidKinds := [.data, .pinned], laidTests := true, laidLooks := .later }
def LayTellsUptoCardSaid : Prop := Claim7.holds Tryd.pinned (.plain (OpenSpec.upto layTellsSpec)) layTellsUptoCard

/-- THE SECOND FORM's CARD OF 'aediculelaw14.LayApart'. -/
def layApartUptoCard : Claim7 := { stood := { row := layApartUptoRow, standIns := [], harness := (true, "2c2aa46b30b5d3154cea3a4eb43896a112aae3e6bfbfe796ab47a389dfba3d48"), looks := false }, kinds := [], alts := [], laidByText := true, laidKinds := [.data, .pinned], laidTests := true, laidLooks := .later }
def LayApartUptoCardSaid : Prop := Claim7.holds Tryd.pinned (.plain (OpenSpec.upto layApartSpec)) layApartUptoCard
end Rows
end Go.Proofs.YteekdjlpfgkgjaaDoor
