/-
  DERIVED. GIVEN WITH THE SEED: THE CARDS: each row of YthacjealoomioaaDoorRows.lean that lists a variable, with what it lists TIED to the program's text (the seventh form; the later family's looks); each row that meets fmt, with fmt's text TOLD by the authors' own Lean function (tested against real Go, not proved from fmt's source: count such statements apart). THE CARD IS WHAT COUNTS. Prove the row's statement (the work); the ties are given (YthacjealoomioaaDoorTie.lean); close each card by the builder's one call (the guide's Derived/Test/ToyasCard.lean, 'card_holds'). Laid BY PROGRAM, IN A SANDBOX (cutbox-door.mjs). By AI agents, Wed Nov 11 2026. No macro, syntax, notation, axiom, sorry.
-/
import Derived.Test.YthacjealoomioaaDoorRows
import GoSem.ClaimSeven
namespace Go.Proofs.YthacjealoomioaaDoor
namespace Rows

/-- THE TIED CARD OF 'seepagelaw23.LinkageMatrix'. -/
def linkageMatrixCard : Claim7 := { stood := { row := linkageMatrixRow, standIns := [], harness := (true, "8513ca9d03b72850fc4e7a213a4a37dc3ada005bea12b25793107da57b776be4"), looks := false }, kinds := [], alts := [], laidByText := true, laidKinds := [.data, .data], laidTests := true, laidLooks := .later }
def LinkageMatrixCardSaid : Prop := Claim7.holds Tryd.pinned (.plain (OpenSpec.ofChange linkageMatrixSpec)) linkageMatrixCard

/-- THE TIED CARD OF 'seepagelaw23.LinkageMinimax'. -/
def linkageMinimaxCard : Claim7 := { stood := { row := linkageMinimaxRow, standIns := [], harness := (true, "8513ca9d03b72850fc4e7a213a4a37dc3ada005bea12b25793107da57b776be4"), looks := false }, kinds := [], alts := [], laidByText := true, laidKinds := [.data, .data], laidTests := true, laidLooks := .later }
def LinkageMinimaxCardSaid : Prop := Claim7.holds Tryd.pinned (.plain (OpenSpec.ofChange linkageMinimaxSpec)) linkageMinimaxCard

/-- THE SECOND FORM's CARD OF 'seepagelaw23.LinkageMatrix'. -/
def linkageMatrixUptoCard : Claim7 := { stood := { row := linkageMatrixUptoRow, standIns := [], harness := (true, "8513ca9d03b72850fc4e7a213a4a37dc3ada005bea12b25793107da57b776be4"), looks := false }, kinds := [], alts := [], laidByText := true, laidKinds := [.data, .data], laidTests := true, laidLooks := .later }
def LinkageMatrixUptoCardSaid : Prop := Claim7.holds Tryd.pinned (.plain (OpenSpec.upto linkageMatrixSpec)) linkageMatrixUptoCard

/-- THE SECOND FORM's CARD OF 'seepagelaw23.LinkageMinimax'. -/
def linkageMinimaxUptoCard : Claim7 := { stood := { row := linkageMinimaxUptoRow, standIns := [], harness := (true, "8513ca9d03b72850fc4e7a213a4a37dc3ada005bea12b25793107da57b776be4"), looks := false }, kinds := [], alts := [], laidByText := true, laidKinds := [.data, .data], laidTests := true, laidLooks := .later }
def LinkageMinimaxUptoCardSaid : Prop := Claim7.holds Tryd.pinned (.plain (OpenSpec.upto linkageMinimaxSpec)) linkageMinimaxUptoCard
end Rows
end Go.Proofs.YthacjealoomioaaDoor
