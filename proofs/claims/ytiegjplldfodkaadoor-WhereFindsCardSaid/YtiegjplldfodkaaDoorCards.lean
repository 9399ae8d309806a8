/-
  DERIVED. GIVEN WITH THE SEED: THE CARDS: each row of YtiegjplldfodkaaDoorRows.lean that lists a variable, with what it lists TIED to the program's text (the seventh form; the later family's looks); each row that meets fmt, with fmt's text TOLD by the authors' own Lean function (tested against real Go, not proved from fmt's source: count such statements apart). THE CARD IS WHAT COUNTS. Prove the row's statement (the work); the ties are given (YtiegjplldfodkaaDoorTie.lean); close each card by the builder's one call (the guide's Derived/Test/ToyasCard.lean, 'card_holds'). Laid BY PROGRAM, IN A SANDBOX (cutbox-door.mjs). By AI agents, Wed Nov 11 2026. No macro, syntax, notation, axiom, sorry.
-/
import Derived.Test.YtiegjplldfodkaaDoorRows
import GoSem.ClaimSeven
namespace Go.Proofs.YtiegjplldfodkaaDoor
namespace Rows

/-- THE TIED CARD OF 'aediculelaw34.WhereCodes'. -/
def whereCodesCard : Claim7 := { stood := { row := whereCodesRow, standIns := [], harness := (true, "311f1798da96578719531bba9f5ec26aa5f5b9ec0837e9b8266e4c58683df82b"), looks := false }, kinds := [], alts := [], laidByText := true, laidKinds := [.data, .pinned], laidTests := true, laidLooks := .later }
def WhereCodesCardSaid : Prop := Claim7.holds Tryd.pinned (.plain (OpenSpec.ofChange whereCodesSpec)) whereCodesCard

/-- THE TIED CARD OF 'aediculelaw34.WhereFinds'. -/
def whereFindsCard : Claim7 := { stood := { row := whereFindsRow, standIns := [], harness := (true, "311f1798da96578719531bba9f5ec26aa5f5b9ec0837e9b8266e4c58683df82b"), looks := false }, kinds := [], alts := [], laidByText := true, laidKinds := [.data, .pinned], laidTests := true, laidLooks := .later }
def WhereFindsCardSaid : Prop := Claim7.holds Tryd.pinned (.plain (OpenSpec.ofChange whereFindsSpec)) whereFindsCard

/-- THE SECOND FORM's CARD OF 'aediculelaw34.WhereCodes'. -/
def whereCodesUptoCard : Claim7 := { stood := { row := whereCodesUptoRow, standIns := [], harness := (true, "311f1798da96578719531bba9f5ec26aa5f5b9ec0837e9b8266e4c58683df82b"), looks := false }, kinds := [], alts := [], laidByText := true, laidKinds := [.data, .pinned], laidTests := true, laidLooks := .later }
def WhereCodesUptoCardSaid : Prop := Claim7.holds Tryd.pinned (.plain (OpenSpec.upto whereCodesSpec)) whereCodesUptoCard

/-- THE SECOND FORM's CARD OF 'aediculelaw34.WhereFinds'. -/
def whereFindsUptoCard : Claim7 := { stood := { row := whereFindsUptoRow, standIns := [], harness := (true, "311f1798da96578719531bba9f5ec26aa5f5b9ec0837e9b8266e4c58683df82b"), looks := false }, kinds := [], alts := [], laidByText := true, laidKinds := [.data, .pinned], laidTests := true, laidLooks := .later }
def WhereFindsUptoCardSaid : Prop := Claim7.holds Tryd.pinned (.plain (OpenSpec.upto whereFindsSpec)) whereFindsUptoCard
end Rows
end Go.Proofs.YtiegjplldfodkaaDoor
