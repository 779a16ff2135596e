/-
  DERIVED. GIVEN WITH THE SEED: THE CARDS: each row of YthhddjknjnjbhaaDoorRows.lean that lists a variable, with what it lists TIED to the program's text (the seventh form; the later family's looks); each row that meets fmt, with fmt's text TOLD by the authors' own Lean function (tested against real Go, not proved from fmt's source: count such statements apart). THE CARD IS WHAT COUNTS. Prove the row's statement (the work); the ties are given (YthhddjknjnjbhaaDoorTie.lean); close each card by the builder's one call (the guide's Derived/Test/ToyasCard.lean, 'card_holds'). Laid BY PROGRAM, IN A SANDBOX (cutbox-door.mjs). By AI agents, Wed Nov 11 2026. No macro, syntax, notation, axiom, sorry.
-/
import Derived.Test.YthhddjknjnjbhaaDoorRows
import GoSem.ClaimSeven
namespace Go.Proofs.YthhddjknjnjbhaaDoor
namespace Rows

/-- THE TIED CARD OF 'seepagelaw23.LinkageSteps'. -/
def linkageStepsCard : Claim7 := { stood := { row := linkageStepsRow, standIns := [], harness := (true, "ec1fad8eeff1a6acb9ecc06d9b00c2f37fcf50627b4b3d6cb2e0d4d6d3ffe81f"), looks := false }, kinds := [], alts := [], laidByText := true, laidKinds := [.widerDeep], laidTests := true, laidLooks := .later }
def LinkageStepsCardSaid : Prop := Claim7.holds Tryd.pinned (.plain (OpenSpec.ofChange linkageStepsSpec)) linkageStepsCard

/-- THE TIED CARD OF 'seepagelaw23.LinkageNearest'. -/
def linkageNearestCard : Claim7 := { stood := { row := linkageNearestRow, standIns := [], harness := (true, "ec1fad8eeff1a6acb9ecc06d9b00c2f37fcf50627b4b3d6cb2e0d4d6d3ffe81f"), looks := false }, kinds := [], alts := [], laidByText := true, laidKinds := [.widerDeep], laidTests := true, laidLooks := .later }
def LinkageNearestCardSaid : Prop := Claim7.holds Tryd.pinned (.plain (OpenSpec.ofChange linkageNearestSpec)) linkageNearestCard

/-- THE TIED CARD OF 'seepagelaw23.LinkageScales'. -/
def linkageScalesCard : Claim7 := { stood := { row := linkageScalesRow, standIns := [], harness := (true, "ec1fad8eeff1a6acb9ecc06d9b00c2f37fcf50627b4b3d6cb2e0d4d6d3ffe81f"), looks := false }, kinds := [], alts := [], laidByText := true, laidKinds := [.widerDeep], laidTests := true, laidLooks := .later }
def LinkageScalesCardSaid : Prop := Claim7.holds Tryd.pinned (.plain (OpenSpec.ofChange linkageScalesSpec)) linkageScalesCard

/-- THE TIED CARD OF 'seepagelaw23.LinkageOrder'. -/
def linkageOrderCard : Claim7 := { stood := { row := linkageOrderRow, standIns := [], harness := (true, "ec1fad8eeff1a6acb9ecc06d9b00c2f37fcf50627b4b3d6cb2e0d4d6d3ffe81f"), looks := false }, kinds := [], alts := [], laidByText := true, laidKinds := [.widerDeep], laidTests := true, laidLooks := .later }
def LinkageOrderCardSaid : Prop := Claim7.holds Tryd.pinned (.plain (OpenSpec.ofChange linkageOrderSpec)) linkageOrderCard

/-- THE TIED CARD OF 'seepagelaw23.LinkageParts'. -/
def linkagePartsCard : Claim7 := { stood := { row := linkagePartsRow, standIns := [], harness := (true, "ec1fad8eeff1a6acb9ecc06d9b00c2f37fcf50627b4b3d6cb2e0d4d6d3ffe81f"), looks := false }, kinds := [], alts := [], laidByText := true, laidKinds := [.widerDeep], laidTests := true, laidLooks := .later }
def LinkagePartsCardSaid : Prop := Claim7.holds Tryd.pinned (.plain (OpenSpec.ofChange linkagePartsSpec)) linkagePartsCard

/-- THE TIED CARD OF 'seepagelaw23.LinkageEven'. -/
def linkageEvenCard : Claim7 := { stood := { row := linkageEvenRow, standIns := [], harness := (true, "ec1fad8eeff1a6acb9ecc06d9b00c2f37fcf50627b4b3d6cb2e0d4d6d3ffe81f"), looks := false }, kinds := [], alts := [], laidByText := true, laidKinds := [.widerDeep], laidTests := true, laidLooks := .later }
def LinkageEvenCardSaid : Prop := Claim7.holds Tryd.pinned (.plain (OpenSpec.ofChange linkageEvenSpec)) linkageEvenCard

/-- THE SECOND FORM's CARD OF 'seepagelaw23.LinkageSteps'. -/
def linkageStepsUptoCard : Claim7 := { stood := { row := linkageStepsUptoRow, standIns := [], harness := (true, "ec1fad8eeff1a6acb9ecc06d9b00c2f37fcf50627b4b3d6cb2e0d4d6d3ffe81f"), looks := false }, kinds := [], alts := [], laidByText := true, laidKinds := [.widerDeep], laidTests := true, laidLooks := .later }
def LinkageStepsUptoCardSaid : Prop := Claim7.holds Tryd.pinned (.plain (OpenSpec.upto linkageStepsSpec)) linkageStepsUptoCard

/-- THE SECOND FORM's CARD OF 'seepagelaw23.LinkageNearest'. -/
def linkageNearestUptoCard : Claim7 := { stood := { row := linkageNearestUptoRow, standIns := [], harness := (true, "ec1fad8eeff1a6acb9ecc06d9b00c2f37fcf50627b4b3d6cb2e0d4d6d3ffe81f"), looks := false }, kinds := [], alts := [], laidByText := true, laidKinds := [.widerDeep], laidTests := true, laidLooks := .later }
def LinkageNearestUptoCardSaid : Prop := Claim7.holds Tryd.pinned (.plain (OpenSpec.upto linkageNearestSpec)) linkageNearestUptoCard

/-- THE SECOND FORM's CARD OF 'seepagelaw23.LinkageScales'. -/
def linkageScalesUptoCard : Claim7 := { stood := { row := linkageScalesUptoRow, standIns := [], harness := (true, "ec1fad8eeff1a6acb9ecc06d9b00c2f37fcf50627b4b3d6cb2e0d4d6d3ffe81f"), looks := false }, kinds := [], alts := [], laidByText := true, laidKinds := [.widerDeep], laidTests := true, laidLooks := .later }
def LinkageScalesUptoCardSaid : Prop := Claim7.holds Tryd.pinned (.plain (OpenSpec.upto linkageScalesSpec)) linkageScalesUptoCard

/-- THE SECOND FORM's CARD OF 'seepagelaw23.LinkageOrder'. -/
def linkageOrderUptoCard : Claim7 := { stood := { row := linkageOrderUptoRow, standIns := [], harness := (true, "ec1fad8eeff1a6acb9ecc06d9b00c2f37fcf50627b4b3d6cb2e0d4d6d3ffe81f"), looks := false }, kinds := [], alts := [], laidByText := true, laidKinds := [.widerDeep], laidTests := true, laidLooks := .later }
def LinkageOrderUptoCardSaid : Prop := Claim7.holds Tryd.pinned (.plain (OpenSpec.upto linkageOrderSpec)) linkageOrderUptoCard

/-- THE SECOND FORM's CARD OF 'seepagelaw23.LinkageParts'. -/
def linkagePartsUptoCard : Claim7 := { stood := { row := linkagePartsUptoRow, standIns := [], harness := (true, "ec1fad8eeff1a6acb9ecc06d9b00c2f37fcf50627b4b3d6cb2e0d4d6d3ffe81f"), looks := false }, kinds := [], alts := [], laidByText := true, laidKinds := [.widerDeep], laidTests := true, laidLooks := .later }
def LinkagePartsUptoCardSaid : Prop := Claim7.holds Tryd.pinned (.plain (OpenSpec.upto linkagePartsSpec)) linkagePartsUptoCard

/-- THE SECOND FORM's CARD OF 'seepagelaw23.LinkageEven'. -/
def linkageEvenUptoCard : Claim7 := { stood := { row := linkageEvenUptoRow, standIns := [], harness := (true, "ec1fad8eeff1a6acb9ecc06d9b00c2f37fcf50627b4b3d6cb2e0d4d6d3ffe81f"), looks := false }, kinds := [], alts := [], laidByText := true, laidKinds := [.widerDeep], laidTests := true, laidLooks := .later }
def LinkageEvenUptoCardSaid : Prop := Claim7.holds Tryd.pinned (.plain (OpenSpec.upto linkageEvenSpec)) linkageEvenUptoCard
end Rows
end Go.Proofs.YthhddjknjnjbhaaDoor
