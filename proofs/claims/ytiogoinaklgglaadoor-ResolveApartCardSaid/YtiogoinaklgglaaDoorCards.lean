/-
  DERIVED. GIVEN WITH THE SEED: THE CARDS: each row of YtiogoinaklgglaaDoorRows.lean that lists a variable, with what it lists TIED to the program's text (the seventh form; the later family's looks); each row that meets fmt, with fmt's text TOLD by the authors' own Lean function (tested against real Go, not proved from fmt's source: count such statements apart). THE CARD IS WHAT COUNTS. Prove the row's statement (the work); the ties are given (YtiogoinaklgglaaDoorTie.lean); close each card by the builder's one call (the guide's Derived/Test/ToyasCard.lean, 'card_holds'). Laid BY PROGRAM, IN A SANDBOX (cutbox-door.mjs). By AI agents, Wed Nov 11 2026. No macro, syntax, notation, axiom, sorry.
-/
import Derived.Test.YtiogoinaklgglaaDoorRows
import GoSem.ClaimSeven
namespace Go.Proofs.YtiogoinaklgglaaDoor
namespace Rows

/-- THE TIED CARD OF 'aediculelaw12.ResolveOne'. -/
def resolveOneCard : Claim7 := { stood := { row := resolveOneRow, standIns := [], harness := (true, "60a60754b5881b8ffe950f1742d6619a91f3b17708ef869b61d96c3a2e1e7856"), looks := false }, kinds := [], alts := [], laidByText := true, laidKinds := [.data, .pinned], laidTests := true, laidLooks := .later }
def ResolveOneCardSaid : Prop := Claim7.holds Tryd.pinned (.plain (OpenSpec.ofChange resolveOneSpec)) resolveOneCard

/-- THE TIED CARD OF 'aediculelaw12.ResolveApart'. -/
def resolveApartCard : Claim7 := { stood := { row := resolveApartRow, standIns := [], harness := (true, "60a60754b5881b8ffe950f1742d6619a91f3b17708ef869b61d96c3a2e1e7856"), looks := false }, kinds := [], alts := [], laidByText := true, laidKinds := [.data, .pinned], laidTests := true, laidLooks := .later }
def ResolveApartCardSaid : Prop := Claim7.holds Tryd.pinned (.plain (OpenSpec.ofChange resolveApartSpec)) resolveApartCard

/-- THE TIED CARD OF 'aediculelaw12.ResolveTells'. -/
def resolveTellsCard : Claim7 := { stood := { row := resolveTellsRow, standIns := [], harness := (true, "60a60754b5881b8ffe950f1742d6619a91f3b17708ef869b61d96c3a2e1e7856"), looks := false }, kinds := [], alts := [], laidByText := true, laidKinds := [.data, .pinned], laidTests := true, laidLooks := .later }
def ResolveTellsCardSaid : Prop := Claim7.holds Tryd.pinned (.plain (OpenSpec.ofChange resolveTellsSpec)) resolveTellsCard

/-- THE SECOND FORM's CARD OF 'aediculelaw12.ResolveOne'. -/
def resolveOneUptoCard : Claim7 := { stood := { row := resolveOneUptoRow, standIns := [], harness := (true, "60a60754b5881b8ffe950f1742d6619a91f3b17708ef869b61d96c3a2e1e7856"), looks := false }, kinds := [], alts := [], laidByText := true, laidKinds := [.data, .pinned], laidTests := true, laidLooks := .later }
def ResolveOneUptoCardSaid : Prop := Claim7.holds Tryd.pinned (.plain (OpenSpec.upto resolveOneSpec)) resolveOneUptoCard

/-- THE SECOND FORM's CARD OF 'aediculelaw12.ResolveApart'. -/
def resolveApartUptoCard : Claim7 := { stood := { row := resolveApartUptoRow, standIns := [], harness := (true, "60a60754b5881b8ffe950f1742d6619a91f3b17708ef869b61d96c3a2e1e7856"), looks := false }, kinds := [], alts := [], laidByText := true, laidKinds := [.data, .pinned], laidTests := true, laidLooks := .later }
def ResolveApartUptoCardSaid : Prop := Claim7.holds Tryd.pinned (.plain (OpenSpec.upto resolveApartSpec)) resolveApartUptoCard

/-- THE SECOND FORM's CARD OF 'aediculelaw12.ResolveTells'. -/
def resolveTellsUptoCard : Claim7 := { stood := { row := resolveTellsUptoRow, standIns := [], harness := (true, "60a60754b5881b8ffe950f1742d6619a91f3b17708ef869b61d96c3a2e1e7856"), looks := false }, kinds := [], alts := [], laidByText := true, laidKinds := [.data, .pinned], laidTests := true, laidLooks := .later }
def ResolveTellsUptoCardSaid : Prop := Claim7.holds Tryd.pinned (.plain (OpenSpec.upto resolveTellsSpec)) resolveTellsUptoCard
end Rows
end Go.Proofs.YtiogoinaklgglaaDoor
