/-
  DERIVED. GIVEN WITH THE SEED: THE CARDS: each row of YthacjealoomioaaGreatDoorRows.lean that lists a variable, with what it lists TIED to the program's text (the seventh form; the later family's looks); each row that meets fmt, with fmt's text TOLD by the authors' own Lean function (tested against real Go, not proved from fmt's source: count such statements apart). THE CARD IS WHAT COUNTS. Prove the row's statement (the work); the ties are given (YthacjealoomioaaGreatDoorTie.lean); close each card by the builder's one call (the guide's Derived/Test/ToyasCard.lean, 'card_holds'). Laid BY PROGRAM, IN A SANDBOX (cutbox-door.mjs). By AI agents, Wed Nov 11 2026. No macro, syntax, notation, axiom, sorry.
-/
import Derived.Test.YthacjealoomioaaGreatDoorRows
import GoSem.ClaimSeven
namespace Go.Proofs.YthacjealoomioaaGreatDoor
namespace Rows

/-- THE TIED CARD OF 'seepagelaw22.DendroTells'. -/
def dendroTellsCard : Claim7 := { stood := { row := dendroTellsRow, standIns := [], harness := (true, "00a60023d4600dc04620715f6300da6bb63077c184a05d3044491660a0b76dec"), looks := true }, kinds := [], alts := [], laidByText := true, laidKinds := [.data, .data, .data, .sentinel, .sentinel], laidTests := true, laidLooks := .later }
def DendroTellsCardSaid : Prop := Claim7.holds Tryz.pinned (.plain (OpenSpec.ofChange dendroTellsSpec)) dendroTellsCard

/-- THE TIED CARD OF 'seepagelaw22.DendroChecks'. -/
def dendroChecksCard : Claim7 := { stood := { row := dendroChecksRow, standIns := [], harness := (true, "00a60023d4600dc04620715f6300da6bb63077c184a05d3044491660a0b76dec"), looks := true }, kinds := [], alts := [], laidByText := true, laidKinds := [.data, .data, .data, .sentinel, .sentinel], laidTests := true, laidLooks := .later }
def DendroChecksCardSaid : Prop := Claim7.holds Tryz.pinned (.plain (OpenSpec.ofChange dendroChecksSpec)) dendroChecksCard

/-- THE TIED CARD OF 'seepagelaw22.DendroParses'. -/
def dendroParsesCard : Claim7 := { stood := { row := dendroParsesRow, standIns := [], harness := (true, "00a60023d4600dc04620715f6300da6bb63077c184a05d3044491660a0b76dec"), looks := true }, kinds := [], alts := [], laidByText := true, laidKinds := [.data, .data, .data, .sentinel, .sentinel], laidTests := true, laidLooks := .later }
def DendroParsesCardSaid : Prop := Claim7.holds Tryz.pinned (.plain (OpenSpec.ofChange dendroParsesSpec)) dendroParsesCard

/-- THE TIED CARD OF 'seepagelaw22.DendroSame'. -/
def dendroSameCard : Claim7 := { stood := { row := dendroSameRow, standIns := [], harness := (true, "00a60023d4600dc04620715f6300da6bb63077c184a05d3044491660a0b76dec"), looks := true }, kinds := [], alts := [], laidByText := true, laidKinds := [.data, .data, .data, .sentinel, .sentinel], laidTests := true, laidLooks := .later }
def DendroSameCardSaid : Prop := Claim7.holds Tryz.pinned (.plain (OpenSpec.ofChange dendroSameSpec)) dendroSameCard

/-- THE TIED CARD OF 'seepagelaw22.DendroGap'. -/
def dendroGapCard : Claim7 := { stood := { row := dendroGapRow, standIns := [], harness := (true, "00a60023d4600dc04620715f6300da6bb63077c184a05d3044491660a0b76dec"), looks := true }, kinds := [], alts := [], laidByText := true, laidKinds := [.data, .data, .data, .sentinel, .sentinel], laidTests := true, laidLooks := .later }
def DendroGapCardSaid : Prop := Claim7.holds Tryz.pinned (.plain (OpenSpec.ofChange dendroGapSpec)) dendroGapCard

/-- THE TIED CARD OF 'seepagelaw22.DendroSpoilt'. -/
def dendroSpoiltCard : Claim7 := { stood := { row := dendroSpoiltRow, standIns := [], harness := (true, "00a60023d4600dc04620715f6300da6bb63077c184a05d3044491660a0b76dec"), looks := true }, kinds := [], alts := [], laidByText := true, laidKinds := [.data, .data, .data, .sentinel, .sentinel], laidTests := true, laidLooks := .later }
def DendroSpoiltCardSaid : Prop := Claim7.holds Tryz.pinned (.plain (OpenSpec.ofChange dendroSpoiltSpec)) dendroSpoiltCard

/-- THE TIED CARD OF 'seepagelaw22.DendroBack'. -/
def dendroBackCard : Claim7 := { stood := { row := dendroBackRow, standIns := [], harness := (true, "00a60023d4600dc04620715f6300da6bb63077c184a05d3044491660a0b76dec"), looks := true }, kinds := [], alts := [], laidByText := true, laidKinds := [.data, .data, .data, .sentinel, .sentinel], laidTests := true, laidLooks := .later }
def DendroBackCardSaid : Prop := Claim7.holds Tryz.pinned (.plain (OpenSpec.ofChange dendroBackSpec)) dendroBackCard

/-- THE TIED CARD OF 'seepagelaw22.DendroUltra'. -/
def dendroUltraCard : Claim7 := { stood := { row := dendroUltraRow, standIns := [], harness := (true, "00a60023d4600dc04620715f6300da6bb63077c184a05d3044491660a0b76dec"), looks := true }, kinds := [], alts := [], laidByText := true, laidKinds := [.data, .data, .data, .sentinel, .sentinel], laidTests := true, laidLooks := .later }
def DendroUltraCardSaid : Prop := Claim7.holds Tryz.pinned (.plain (OpenSpec.ofChange dendroUltraSpec)) dendroUltraCard

/-- THE TIED CARD OF 'seepagelaw22.DendroMerges'. -/
def dendroMergesCard : Claim7 := { stood := { row := dendroMergesRow, standIns := [], harness := (true, "00a60023d4600dc04620715f6300da6bb63077c184a05d3044491660a0b76dec"), looks := true }, kinds := [], alts := [], laidByText := true, laidKinds := [.data, .data, .data, .sentinel, .sentinel], laidTests := true, laidLooks := .later }
def DendroMergesCardSaid : Prop := Claim7.holds Tryz.pinned (.plain (OpenSpec.ofChange dendroMergesSpec)) dendroMergesCard

/-- THE TIED CARD OF 'seepagelaw22.DendroCuts'. -/
def dendroCutsCard : Claim7 := { stood := { row := dendroCutsRow, standIns := [], harness := (true, "00a60023d4600dc04620715f6300da6bb63077c184a05d3044491660a0b76dec"), looks := true }, kinds := [], alts := [], laidByText := true, laidKinds := [.data, .data, .data, .sentinel, .sentinel], laidTests := true, laidLooks := .later }
def DendroCutsCardSaid : Prop := Claim7.holds Tryz.pinned (.plain (OpenSpec.ofChange dendroCutsSpec)) dendroCutsCard

/-- THE SECOND FORM's CARD OF 'seepagelaw22.DendroTells'. -/
def dendroTellsUptoCard : Claim7 := { stood := { row := dendroTellsUptoRow, standIns := [], harness := (true, "00a60023d4600dc04620715f6300da6bb63077c184a05d3044491660a0b76dec"), looks := true }, kinds := [], alts := [], laidByText := true, laidKinds := [.data, .data, .data, .sentinel, .sentinel], laidTests := true, laidLooks := .later }
def DendroTellsUptoCardSaid : Prop := Claim7.holds Tryz.pinned (.plain (OpenSpec.upto dendroTellsSpec)) dendroTellsUptoCard

/-- THE SECOND FORM's CARD OF 'seepagelaw22.DendroChecks'. -/
def dendroChecksUptoCard : Claim7 := { stood := { row := dendroChecksUptoRow, standIns := [], harness := (true, "00a60023d4600dc04620715f6300da6bb63077c184a05d3044491660a0b76dec"), looks := true }, kinds := [], alts := [], laidByText := true, laidKinds := [.data, .data, .data, .sentinel, .sentinel], laidTests := true, laidLooks := .later }
def DendroChecksUptoCardSaid : Prop := Claim7.holds Tryz.pinned (.plain (OpenSpec.upto dendroChecksSpec)) dendroChecksUptoCard

/-- THE SECOND FORM's CARD OF 'seepagelaw22.DendroParses'. -/
def dendroParsesUptoCard : Claim7 := { stood := { row := dendroParsesUptoRow, standIns := [], harness := (true, "00a60023d4600dc04620715f6300da6bb63077c184a05d3044491660a0b76dec"), looks := true }, kinds := [], alts := [], laidByText := true, laidKinds := [.data, .data, .data, .sentinel, .sentinel], laidTests := true, laidLooks := .later }
def DendroParsesUptoCardSaid : Prop := Claim7.holds Tryz.pinned (.plain (OpenSpec.upto dendroParsesSpec)) dendroParsesUptoCard

/-- THE SECOND FORM's CARD OF 'seepagelaw22.DendroSame'. -/
def dendroSameUptoCard : Claim7 := { stood := { row := dendroSameUptoRow, standIns := [], harness := (true, "00a60023d4600dc04620715f6300da6bb63077c184a05d3044491660a0b76dec"), looks := true }, kinds := [], alts := [], laidByText := true, laidKinds := [.data, .data, .data, .sentinel, .sentinel], laidTests := true, laidLooks := .later }
def DendroSameUptoCardSaid : Prop := Claim7.holds Tryz.pinned (.plain (OpenSpec.upto dendroSameSpec)) dendroSameUptoCard

/-- THE SECOND FORM's CARD OF 'seepagelaw22.DendroGap'. -/
def dendroGapUptoCard : Claim7 := { stood := { row := dendroGapUptoRow, standIns := [], harness := (true, "00a60023d4600dc04620715f6300da6bb63077c184a05d3044491660a0b76dec"), looks := true }, kinds := [], alts := [], laidByText := true, laidKinds := [.data, .data, .data, .sentinel, .sentinel], laidTests := true, laidLooks := .later }
def DendroGapUptoCardSaid : Prop := Claim7.holds Tryz.pinned (.plain (OpenSpec.upto dendroGapSpec)) dendroGapUptoCard

/-- THE SECOND FORM's CARD OF 'seepagelaw22.DendroSpoilt'. -/
def dendroSpoiltUptoCard : Claim7 := { stood := { row := dendroSpoiltUptoRow, standIns := [], harness := (true, "00a60023d4600dc04620715f6300da6bb63077c184a05d3044491660a0b76dec"), looks := true }, kinds := [], alts := [], laidByText := true, laidKinds := [.data, .data, .data, .sentinel, .sentinel], laidTests := true, laidLooks := .later }
def DendroSpoiltUptoCardSaid : Prop := Claim7.holds Tryz.pinned (.plain (OpenSpec.upto dendroSpoiltSpec)) dendroSpoiltUptoCard

/-- THE SECOND FORM's CARD OF 'seepagelaw22.DendroBack'. -/
def dendroBackUptoCard : Claim7 := { stood := { row := dendroBackUptoRow, standIns := [], harness := (true, "00a60023d4600dc04620715f6300da6bb63077c184a05d3044491660a0b76dec"), looks := true }, kinds := [], alts := [], laidByText := true, laidKinds := [.data, .data, .data, .sentinel, .sentinel], laidTests := true, laidLooks := .later }
def DendroBackUptoCardSaid : Prop := Claim7.holds Tryz.pinned (.plain (OpenSpec.upto dendroBackSpec)) dendroBackUptoCard

/-- THE SECOND FORM's CARD OF 'seepagelaw22.DendroUltra'. -/
def dendroUltraUptoCard : Claim7 := { stood := { row := dendroUltraUptoRow, standIns := [], harness := (true, "00a60023d4600dc04620715f6300da6bb63077c184a05d3044491660a0b76dec"), looks := true }, kinds := [], alts := [], laidByText := true, laidKinds := [.data, .data, .data, .sentinel, .sentinel], laidTests := true, laidLooks := .later }
def DendroUltraUptoCardSaid : Prop := Claim7.holds Tryz.pinned (.plain (OpenSpec.upto dendroUltraSpec)) dendroUltraUptoCard

/-- THE SECOND FORM's CARD OF 'seepagelaw22.DendroMerges'. -/
def dendroMergesUptoCard : Claim7 := { stood := { row := dendroMergesUptoRow, standIns := [], harness := (true, "00a60023d4600dc04620715f6300da6bb63077c184a05d3044491660a0b76dec"), looks := true }, kinds := [], alts := [], laidByText := true, laidKinds := [.data, .data, .data, .sentinel, .sentinel], laidTests := true, laidLooks := .later }
def DendroMergesUptoCardSaid : Prop := Claim7.holds Tryz.pinned (.plain (OpenSpec.upto dendroMergesSpec)) dendroMergesUptoCard

/-- THE SECOND FORM's CARD OF 'seepagelaw22.DendroCuts'. -/
def dendroCutsUptoCard : Claim7 := { stood := { row := dendroCutsUptoRow, standIns := [], harness := (true, "00a60023d4600dc04620715f6300da6bb63077c184a05d3044491660a0b76dec"), looks := true }, kinds := [], alts := [], laidByText := true, laidKinds := [.data, .data, .data, .sentinel, .sentinel], laidTests := true, laidLooks := .later }
def DendroCutsUptoCardSaid : Prop := Claim7.holds Tryz.pinned (.plain (OpenSpec.upto dendroCutsSpec)) dendroCutsUptoCard
end Rows
end Go.Proofs.YthacjealoomioaaGreatDoor
