/-
  DERIVED. GIVEN WITH THE SEED: THE CARDS: each row of YtnhmbflinbfeoaaDoorRows.lean that lists a variable, with what it lists TIED to the program's text (the seventh form; the later family's looks); each row that meets fmt, with fmt's text TOLD by the authors' own Lean function (tested against real Go, not proved from fmt's source: count such statements apart). THE CARD IS WHAT COUNTS. Prove the row's statement (the work); the ties are given (YtnhmbflinbfeoaaDoorTie.lean); close each card by the builder's one call (the guide's Derived/Test/ToyasCard.lean, 'card_holds'). Laid BY PROGRAM, IN A SANDBOX (cutbox-door.mjs). By AI agents, Wed Nov 11 2026. No macro, syntax, notation, axiom, sorry.
-/
import Derived.Test.YtnhmbflinbfeoaaDoorRows
import GoSem.ClaimSeven
namespace Go.Proofs.YtnhmbflinbfeoaaDoor
namespace Rows

/-- THE TIED CARD OF 'aediculelaw13.ReachLeast'. -/
def reachLeastCard : Claim7 := { stood := { row := reachLeastRow, standIns := [], harness := (true, "4fc332edce2d3988caa01d8c88e7af590009cde708680be3e663d7cd76a7acf1"), looks := false }, kinds := [], alts := [], laidByText := true, laidKinds := [.data, .pinned], laidTests := true, laidLooks := .later }
def ReachLeastCardSaid : Prop := Claim7.holds Tryd.pinned (.plain (OpenSpec.ofChange reachLeastSpec)) reachLeastCard

/-- THE TIED CARD OF 'aediculelaw13.ReachLess'. -/
def reachLessCard : Claim7 := { stood := { row := reachLessRow, standIns := [], harness := (true, "4fc332edce2d3988caa01d8c88e7af590009cde708680be3e663d7cd76a7acf1"), looks := false }, kinds := [], alts := [], laidByText := true, laidKinds := [.data, .pinned], laidTests := true, laidLooks := .later }
def ReachLessCardSaid : Prop := Claim7.holds Tryd.pinned (.plain (OpenSpec.ofChange reachLessSpec)) reachLessCard

/-- THE SECOND FORM's CARD OF 'aediculelaw13.ReachLeast'. -/
def reachLeastUptoCard : Claim7 := { stood := { row := reachLeastUptoRow, standIns := [], harness := (true, "4fc332edce2d3988caa01d8c88e7af590009cde708680be3e663d7cd76a7acf1"), looks := false }, kinds := [], alts := [], laidByText := true, laidKinds := [.data, .pinned], laidTests := true, laidLooks := .later }
def ReachLeastUptoCardSaid : Prop := Claim7.holds Tryd.pinned (.plain (OpenSpec.upto reachLeastSpec)) reachLeastUptoCard

/-- THE SECOND FORM's CARD OF 'aediculelaw13.ReachLess'. -/
def reachLessUptoCard : Claim7 := { stood := { row := reachLessUptoRow, standIns := [], harness := (true, "4fc332edce2d3988caa01d8c88e7af590009cde708680be3e663d7cd76a7acf1"), looks := false }, kinds := [], alts := [], laidByText := true, laidKinds := [.data, .pinned], laidTests := true, laidLooks := .later }
def ReachLessUptoCardSaid : Prop := Claim7.holds Tryd.pinned (.plain (OpenSpec.upto reachLessSpec)) reachLessUptoCard
end Rows
end Go.Proofs.YtnhmbflinbfeoaaDoor
