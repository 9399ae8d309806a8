/-
  DERIVED. GIVEN WITH THE SEED: THE CARDS: each row of YtfmmfbijkklceaaDoorRows.lean that lists a variable, with what it lists TIED to the program's text (the seventh form; the later family's looks); each row that meets fmt, with fmt's text TOLD by the authors' own Lean function (tested against real Go, not proved from fmt's source: count such statements apart). THE CARD IS WHAT COUNTS. Prove the row's statement (the work); the ties are given (YtfmmfbijkklceaaDoorTie.lean); close each card by the builder's one call (the guide's Derived/Test/ToyasCard.lean, 'card_holds'). Laid BY PROGRAM, IN A SANDBOX (cutbox-door.mjs). By AI agents, Wed Nov 11 2026. No macro, syntax, notation, axiom, sorry.
-/
import Derived.Test.YtfmmfbijkklceaaDoorRows
import GoSem.ClaimSeven
namespace Go.Proofs.YtfmmfbijkklceaaDoor
namespace Rows

/-- THE TIED CARD OF 'aediculelaw09.ObjfileCodes'. -/
def objfileCodesCard : Claim7 := { stood := { row := objfileCodesRow, standIns := [], harness := (true, "333700a2cf8df5b755215e25df3ff7d3a5df567c6bcf10d4dd53132f01f86030"), looks := false }, kinds := [], alts := [], laidByText := true, laidKinds := [.data, .pinned], laidTests := true, laidLooks := .later }
def ObjfileCodesCardSaid : Prop := Claim7.holds Tryd.pinned (.plain (OpenSpec.ofChange objfileCodesSpec)) objfileCodesCard

/-- THE TIED CARD OF 'aediculelaw09.ObjfileAll'. -/
def objfileAllCard : Claim7 := { stood := { row := objfileAllRow, standIns := [], harness := (true, "333700a2cf8df5b755215e25df3ff7d3a5df567c6bcf10d4dd53132f01f86030"), looks := false }, kinds := [], alts := [], laidByText := true, laidKinds := [.data, .pinned], laidTests := true, laidLooks := .later }
def ObjfileAllCardSaid : Prop := Claim7.holds Tryd.pinned (.plain (OpenSpec.ofChange objfileAllSpec)) objfileAllCard

/-- THE TIED CARD OF 'aediculelaw09.ObjfileBack'. -/
def objfileBackCard : Claim7 := { stood := { row := objfileBackRow, standIns := [], harness := (true, "333700a2cf8df5b755215e25df3ff7d3a5df567c6bcf10d4dd53132f01f86030"), looks := false }, kinds := [], alts := [], laidByText := true, laidKinds := [.data, .pinned], laidTests := true, laidLooks := .later }
def ObjfileBackCardSaid : Prop := Claim7.holds Tryd.pinned (.plain (OpenSpec.ofChange objfileBackSpec)) objfileBackCard

/-- THE SECOND FORM's CARD OF 'aediculelaw09.ObjfileCodes'. -/
def objfileCodesUptoCard : Claim7 := { stood := { row := objfileCodesUptoRow, standIns := [], harness := (true, "333700a2cf8df5b755215e25df3ff7d3a5df567c6bcf10d4dd53132f01f86030"), looks := false }, kinds := [], alts := [], laidByText := true, laidKinds := [.data, .pinned], laidTests := true, laidLooks := .later }
def ObjfileCodesUptoCardSaid : Prop := Claim7.holds Tryd.pinned (.plain (OpenSpec.upto objfileCodesSpec)) objfileCodesUptoCard

/-- THE SECOND FORM's CARD OF 'aediculelaw09.ObjfileAll'. -/
def objfileAllUptoCard : Claim7 := { stood := { row := objfileAllUptoRow, standIns := [], harness := (true, "333700a2cf8df5b755215e25df3ff7d3a5df567c6bcf10d4dd53132f01f86030"), looks := false }, kinds := [], alts := [], laidByText := true, laidKinds := [.data, .pinned], laidTests := true, laidLooks := .later }
def ObjfileAllUptoCardSaid : Prop := Claim7.holds Tryd.pinned (.plain (OpenSpec.upto objfileAllSpec)) objfileAllUptoCard

/-- THE SECOND FORM's CARD OF 'aediculelaw09.ObjfileBack'. -/
def objfileBackUptoCard : Claim7 := { stood := { row := objfileBackUptoRow, standIns := [], harness := (true, "333700a2cf8df5b755215e25df3ff7d3a5df567c6bcf10d4dd53132f01f86030"), looks := false }, kinds := [], alts := [], laidByText := true, laidKinds := [.data, .pinned], laidTests := true, laidLooks := .later }
def ObjfileBackUptoCardSaid : Prop := Claim7.holds Tryd.pinned (.plain (OpenSpec.upto objfileBackSpec)) objfileBackUptoCard
end Rows
end Go.Proofs.YtfmmfbijkklceaaDoor
