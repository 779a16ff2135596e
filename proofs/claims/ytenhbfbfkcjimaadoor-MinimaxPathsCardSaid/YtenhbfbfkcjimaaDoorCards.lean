/-
  DERIVED. GIVEN WITH THE SEED: THE CARDS: each row of YtenhbfbfkcjimaaDoorRows.lean that lists a variable, with what it lists TIED to the program's text (the seventh form; the later family's looks); each row that meets fmt, with fmt's text TOLD by the authors' own Lean function (tested against real Go, not proved from fmt's source: count such statements apart). THE CARD IS WHAT COUNTS. Prove the row's statement (the work); the ties are given (YtenhbfbfkcjimaaDoorTie.lean); close each card by the builder's one call (the guide's Derived/Test/ToyasCard.lean, 'card_holds'). Laid BY PROGRAM, IN A SANDBOX (cutbox-door.mjs). By AI agents, Wed Nov 11 2026. No macro, syntax, notation, axiom, sorry.
-/
import Derived.Test.YtenhbfbfkcjimaaDoorRows
import GoSem.ClaimSeven
namespace Go.Proofs.YtenhbfbfkcjimaaDoor
namespace Rows

/-- THE TIED CARD OF 'seepagelaw20.MinimaxNews'. -/
def minimaxNewsCard : Claim7 := { stood := { row := minimaxNewsRow, standIns := [], harness := (true, "331ad125ebec1de1ee0c9bd4bec8b68366ca910acec41f1240a87d96512d4b32"), looks := false }, kinds := [], alts := [], laidByText := true, laidKinds := [.data, .data], laidTests := true, laidLooks := .later }
def MinimaxNewsCardSaid : Prop := Claim7.holds Tryd.pinned (.plain (OpenSpec.ofChange minimaxNewsSpec)) minimaxNewsCard

/-- THE TIED CARD OF 'seepagelaw20.MinimaxPaths'. -/
def minimaxPathsCard : Claim7 := { stood := { row := minimaxPathsRow, standIns := [], harness := (true, "331ad125ebec1de1ee0c9bd4bec8b68366ca910acec41f1240a87d96512d4b32"), looks := false }, kinds := [], alts := [], laidByText := true, laidKinds := [.data, .data], laidTests := true, laidLooks := .later }
def MinimaxPathsCardSaid : Prop := Claim7.holds Tryd.pinned (.plain (OpenSpec.ofChange minimaxPathsSpec)) minimaxPathsCard

/-- THE TIED CARD OF 'seepagelaw20.MinimaxUltra'. -/
def minimaxUltraCard : Claim7 := { stood := { row := minimaxUltraRow, standIns := [], harness := (true, "331ad125ebec1de1ee0c9bd4bec8b68366ca910acec41f1240a87d96512d4b32"), looks := false }, kinds := [], alts := [], laidByText := true, laidKinds := [.data, .data], laidTests := true, laidLooks := .later }
def MinimaxUltraCardSaid : Prop := Claim7.holds Tryd.pinned (.plain (OpenSpec.ofChange minimaxUltraSpec)) minimaxUltraCard

/-- THE TIED CARD OF 'seepagelaw20.MinimaxWeights'. -/
def minimaxWeightsCard : Claim7 := { stood := { row := minimaxWeightsRow, standIns := [], harness := (true, "331ad125ebec1de1ee0c9bd4bec8b68366ca910acec41f1240a87d96512d4b32"), looks := false }, kinds := [], alts := [], laidByText := true, laidKinds := [.data, .data], laidTests := true, laidLooks := .later }
def MinimaxWeightsCardSaid : Prop := Claim7.holds Tryd.pinned (.plain (OpenSpec.ofChange minimaxWeightsSpec)) minimaxWeightsCard

/-- THE TIED CARD OF 'seepagelaw20.MinimaxPairs'. -/
def minimaxPairsCard : Claim7 := { stood := { row := minimaxPairsRow, standIns := [], harness := (true, "331ad125ebec1de1ee0c9bd4bec8b68366ca910acec41f1240a87d96512d4b32"), looks := false }, kinds := [], alts := [], laidByText := true, laidKinds := [.data, .data], laidTests := true, laidLooks := .later }
def MinimaxPairsCardSaid : Prop := Claim7.holds Tryd.pinned (.plain (OpenSpec.ofChange minimaxPairsSpec)) minimaxPairsCard

/-- THE TIED CARD OF 'seepagelaw20.MinimaxDistances'. -/
def minimaxDistancesCard : Claim7 := { stood := { row := minimaxDistancesRow, standIns := [], harness := (true, "331ad125ebec1de1ee0c9bd4bec8b68366ca910acec41f1240a87d96512d4b32"), looks := false }, kinds := [], alts := [], laidByText := true, laidKinds := [.data, .data], laidTests := true, laidLooks := .later }
def MinimaxDistancesCardSaid : Prop := Claim7.holds Tryd.pinned (.plain (OpenSpec.ofChange minimaxDistancesSpec)) minimaxDistancesCard

/-- THE TIED CARD OF 'seepagelaw20.MinimaxThresholds'. -/
def minimaxThresholdsCard : Claim7 := { stood := { row := minimaxThresholdsRow, standIns := [], harness := (true, "331ad125ebec1de1ee0c9bd4bec8b68366ca910acec41f1240a87d96512d4b32"), looks := false }, kinds := [], alts := [], laidByText := true, laidKinds := [.data, .data], laidTests := true, laidLooks := .later }
def MinimaxThresholdsCardSaid : Prop := Claim7.holds Tryd.pinned (.plain (OpenSpec.ofChange minimaxThresholdsSpec)) minimaxThresholdsCard

/-- THE TIED CARD OF 'seepagelaw20.MinimaxCounts'. -/
def minimaxCountsCard : Claim7 := { stood := { row := minimaxCountsRow, standIns := [], harness := (true, "331ad125ebec1de1ee0c9bd4bec8b68366ca910acec41f1240a87d96512d4b32"), looks := false }, kinds := [], alts := [], laidByText := true, laidKinds := [.data, .data], laidTests := true, laidLooks := .later }
def MinimaxCountsCardSaid : Prop := Claim7.holds Tryd.pinned (.plain (OpenSpec.ofChange minimaxCountsSpec)) minimaxCountsCard

/-- THE TIED CARD OF 'seepagelaw20.MinimaxFar'. -/
def minimaxFarCard : Claim7 := { stood := { row := minimaxFarRow, standIns := [], harness := (true, "331ad125ebec1de1ee0c9bd4bec8b68366ca910acec41f1240a87d96512d4b32"), looks := false }, kinds := [], alts := [], laidByText := true, laidKinds := [.data, .data], laidTests := true, laidLooks := .later }
def MinimaxFarCardSaid : Prop := Claim7.holds Tryd.pinned (.plain (OpenSpec.ofChange minimaxFarSpec)) minimaxFarCard

/-- THE TIED CARD OF 'seepagelaw20.MinimaxNil'. -/
def minimaxNilCard : Claim7 := { stood := { row := minimaxNilRow, standIns := [], harness := (true, "331ad125ebec1de1ee0c9bd4bec8b68366ca910acec41f1240a87d96512d4b32"), looks := false }, kinds := [], alts := [], laidByText := true, laidKinds := [.data, .data], laidTests := true, laidLooks := .later }
def MinimaxNilCardSaid : Prop := Claim7.holds Tryd.pinned (.plain (OpenSpec.ofChange minimaxNilSpec)) minimaxNilCard

/-- THE SECOND FORM's CARD OF 'seepagelaw20.MinimaxNews'. -/
def minimaxNewsUptoCard : Claim7 := { stood := { row := minimaxNewsUptoRow, standIns := [], harness := (true, "331ad125ebec1de1ee0c9bd4bec8b68366ca910acec41f1240a87d96512d4b32"), looks := false }, kinds := [], alts := [], laidByText := true, laidKinds := [.data, .data], laidTests := true, laidLooks := .later }
def MinimaxNewsUptoCardSaid : Prop := Claim7.holds Tryd.pinned (.plain (OpenSpec.upto minimaxNewsSpec)) minimaxNewsUptoCard

/-- THE SECOND FORM's CARD OF 'seepagelaw20.MinimaxPaths'. -/
def minimaxPathsUptoCard : Claim7 := { stood := { row := minimaxPathsUptoRow, standIns := [], harness := (true, "331ad125ebec1de1ee0c9bd4bec8b68366ca910acec41f1240a87d96512d4b32"), looks := false }, kinds := [], alts := [], laidByText := true, laidKinds := [.data, .data], laidTests := true, laidLooks := .later }
def MinimaxPathsUptoCardSaid : Prop := Claim7.holds Tryd.pinned (.plain (OpenSpec.upto minimaxPathsSpec)) minimaxPathsUptoCard

/-- THE SECOND FORM's CARD OF 'seepagelaw20.MinimaxUltra'. -/
def minimaxUltraUptoCard : Claim7 := { stood := { row := minimaxUltraUptoRow, standIns := [], harness := (true, "331ad125ebec1de1ee0c9bd4bec8b68366ca910acec41f1240a87d96512d4b32"), looks := false }, kinds := [], alts := [], laidByText := true, laidKinds := [.data, .data], laidTests := true, laidLooks := .later }
def MinimaxUltraUptoCardSaid : Prop := Claim7.holds Tryd.pinned (.plain (OpenSpec.upto minimaxUltraSpec)) minimaxUltraUptoCard

/-- THE SECOND FORM's CARD OF 'seepagelaw20.MinimaxWeights'. -/
def minimaxWeightsUptoCard : Claim7 := { stood := { row := minimaxWeightsUptoRow, standIns := [], harness := (true, "331ad125ebec1de1ee0c9bd4bec8b68366ca910acec41f1240a87d96512d4b32"), looks := false }, kinds := [], alts := [], laidByText := true, laidKinds := [.data, .data], laidTests := true, laidLooks := .later }
def MinimaxWeightsUptoCardSaid : Prop := Claim7.holds Tryd.pinned (.plain (OpenSpec.upto minimaxWeightsSpec)) minimaxWeightsUptoCard

/-- THE SECOND FORM's CARD OF 'seepagelaw20.MinimaxPairs'. -/
def minimaxPairsUptoCard : Claim7 := { stood := { row := minimaxPairsUptoRow, standIns := [], harness := (true, "331ad125ebec1de1ee0c9bd4bec8b68366ca910acec41f1240a87d96512d4b32"), looks := false }, kinds := [], alts := [], laidByText := true, laidKinds := [.data, .data], laidTests := true, laidLooks := .later }
def MinimaxPairsUptoCardSaid : Prop := Claim7.holds Tryd.pinned (.plain (OpenSpec.upto minimaxPairsSpec)) minimaxPairsUptoCard

/-- THE SECOND FORM's CARD OF 'seepagelaw20.MinimaxDistances'. -/
def minimaxDistancesUptoCard : Claim7 := { stood := { row := minimaxDistancesUptoRow, standIns := [], harness := (true, "331ad125ebec1de1ee0c9bd4bec8b68366ca910acec41f1240a87d96512d4b32"), looks := false }, kinds := [], alts := [], laidByText := true, laidKinds := [.data, .data], laidTests := true, laidLooks := .later }
def MinimaxDistancesUptoCardSaid : Prop := Claim7.holds Tryd.pinned (.plain (OpenSpec.upto minimaxDistancesSpec)) minimaxDistancesUptoCard

/-- THE SECOND FORM's CARD OF 'seepagelaw20.MinimaxThresholds'. -/
def minimaxThresholdsUptoCard : Claim7 := { stood := { row := minimaxThresholdsUptoRow, standIns := [], harness := (true, "331ad125ebec1de1ee0c9bd4bec8b68366ca910acec41f1240a87d96512d4b32"), looks := false }, kinds := [], alts := [], laidByText := true, laidKinds := [.data, .data], laidTests := true, laidLooks := .later }
def MinimaxThresholdsUptoCardSaid : Prop := Claim7.holds Tryd.pinned (.plain (OpenSpec.upto minimaxThresholdsSpec)) minimaxThresholdsUptoCard

/-- THE SECOND FORM's CARD OF 'seepagelaw20.MinimaxCounts'. -/
def minimaxCountsUptoCard : Claim7 := { stood := { row := minimaxCountsUptoRow, standIns := [], harness := (true, "331ad125ebec1de1ee0c9bd4bec8b68366ca910acec41f1240a87d96512d4b32"), looks := false }, kinds := [], alts := [], laidByText := true, laidKinds := [.data, .data], laidTests := true, laidLooks := .later }
def MinimaxCountsUptoCardSaid : Prop := Claim7.holds Tryd.pinned (.plain (OpenSpec.upto minimaxCountsSpec)) minimaxCountsUptoCard

/-- THE SECOND FORM's CARD OF 'seepagelaw20.MinimaxFar'. -/
def minimaxFarUptoCard : Claim7 := { stood := { row := minimaxFarUptoRow, standIns := [], harness := (true, "331ad125ebec1de1ee0c9bd4bec8b68366ca910acec41f1240a87d96512d4b32"), looks := false }, kinds := [], alts := [], laidByText := true, laidKinds := [.data, .data], laidTests := true, laidLooks := .later }
def MinimaxFarUptoCardSaid : Prop := Claim7.holds Tryd.pinned (.plain (OpenSpec.upto minimaxFarSpec)) minimaxFarUptoCard

/-- THE SECOND FORM's CARD OF 'seepagelaw20.MinimaxNil'. -/
def minimaxNilUptoCard : Claim7 := { stood := { row := minimaxNilUptoRow, standIns := [], harness := (true, "331ad125ebec1de1ee0c9bd4bec8b68366ca910acec41f1240a87d96512d4b32"), looks := false }, kinds := [], alts := [], laidByText := true, laidKinds := [.data, .data], laidTests := true, laidLooks := .later }
def MinimaxNilUptoCardSaid : Prop := Claim7.holds Tryd.pinned (.plain (OpenSpec.upto minimaxNilSpec)) minimaxNilUptoCard
end Rows
end Go.Proofs.YtenhbfbfkcjimaaDoor
