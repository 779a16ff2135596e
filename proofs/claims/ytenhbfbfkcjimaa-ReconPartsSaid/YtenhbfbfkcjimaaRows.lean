/-
  No cell of these rows narrows 'for every input' (looked for: loops, veiled, ifaces, maps, wideKeys, modest, calm, conditions, laid).
  DERIVED. THE GIVEN ROWS OF THIS SEAT. 8 by the template 'for every input the law returns true; each argument reads behind the call as it read before'; 0 by the template 'total and deterministic' (their statements: YtenhbfbfkcjimaaTotals.lean).
  GIVEN WITH THE SEED: the statements are not yours to turn. If you find one false, say at which input.
  Laid BY PROGRAM, IN A SANDBOX (cutbox-rows.mjs): the forced cells as the released guide's own fill.sh prints them over the translation a4c8a5ebcd5375ee… (all of the seat's roots in one cut). By AI agents, Wed Nov 11 2026. No macro, syntax, notation, axiom, sorry.
-/
import Derived.Test.YtenhbfbfkcjimaaChecked
import GoSem.Claim
import GoSem.ClaimJoined
import GoSem.ClaimMapViews
import Derived.JoinedTies
import Derived.KernelRfl
namespace Go.Proofs.Ytenhbfbfkcjimaa
/- THE CELL 'sum', in the pinned program and in every row, IS THE sha256 OF THE DUMP (.gsa) THAT YtenhbfbfkcjimaaProg.lean LOADS. Nothing in Lean hashes anything: it is a label: what it is worth is what the hold of that sum in a sandbox is worth. -/
noncomputable def Try.pinned : Pinned := { name := "ytenhbfbfkcjimaa", sum := "a4c8a5ebcd5375eedc23e57ed30335f0a05fb8efc4b345aa55dbf1d63171ec74", checked := Try.checked }
namespace Rows
def none {H : Type} : Left H := { results := [], args := [] }

/-- 'seepagelaw18.ReconBuilds': WHATEVER THE INPUT: true; the input reads as it did. -/
def reconBuildsSpec : ChangeSpec := { name := "reconBuilds", fn := fun _ => fun
  | [d1, d2] => { results := [.lit (.bool true)], args := [d1, d2] }
  | _ => none }
def reconBuildsRow : OpenClaim := { program := "ytenhbfbfkcjimaa", sum := "a4c8a5ebcd5375eedc23e57ed30335f0a05fb8efc4b345aa55dbf1d63171ec74", func := "seepage/seepagelaw18.ReconBuilds", spec := "reconBuilds", unfollowed := true, recurses := true, apart := false }
def ReconBuildsSaid : Prop := reconBuildsRow.holds Try.pinned (OpenSpec.ofChange reconBuildsSpec)

/-- ITS FALSE NEIGHBOUR: 'it returns false'. Refute it at one input. -/
def reconBuildsWrong : ChangeSpec := { name := "reconBuilds", fn := fun _ => fun
  | [d1, d2] => { results := [.lit (.bool false)], args := [d1, d2] }
  | _ => none }
def ReconBuildsWrongFalsely : Prop := reconBuildsRow.holds Try.pinned (OpenSpec.ofChange reconBuildsWrong)

/-- 'seepagelaw18.ReconValid': WHATEVER THE INPUT: true; the input reads as it did. -/
def reconValidSpec : ChangeSpec := { name := "reconValid", fn := fun _ => fun
  | [d1, d2] => { results := [.lit (.bool true)], args := [d1, d2] }
  | _ => none }
def reconValidRow : OpenClaim := { program := "ytenhbfbfkcjimaa", sum := "a4c8a5ebcd5375eedc23e57ed30335f0a05fb8efc4b345aa55dbf1d63171ec74", func := "seepage/seepagelaw18.ReconValid", spec := "reconValid", unfollowed := true, recurses := true, apart := false }
def ReconValidSaid : Prop := reconValidRow.holds Try.pinned (OpenSpec.ofChange reconValidSpec)

/-- ITS FALSE NEIGHBOUR: 'it returns false'. Refute it at one input. -/
def reconValidWrong : ChangeSpec := { name := "reconValid", fn := fun _ => fun
  | [d1, d2] => { results := [.lit (.bool false)], args := [d1, d2] }
  | _ => none }
def ReconValidWrongFalsely : Prop := reconValidRow.holds Try.pinned (OpenSpec.ofChange reconValidWrong)

/-- 'seepagelaw18.ReconTops': WHATEVER THE INPUT: true; the input reads as it did. -/
def reconTopsSpec : ChangeSpec := { name := "reconTops", fn := fun _ => fun
  | [d1, d2, d3] => { results := [.lit (.bool true)], args := [d1, d2, d3] }
  | _ => none }
def reconTopsRow : OpenClaim := { program := "ytenhbfbfkcjimaa", sum := "a4c8a5ebcd5375eedc23e57ed30335f0a05fb8efc4b345aa55dbf1d63171ec74", func := "seepage/seepagelaw18.ReconTops", spec := "reconTops", unfollowed := true, recurses := true, apart := false }
def ReconTopsSaid : Prop := reconTopsRow.holds Try.pinned (OpenSpec.ofChange reconTopsSpec)

/-- ITS FALSE NEIGHBOUR: 'it returns false'. Refute it at one input. -/
def reconTopsWrong : ChangeSpec := { name := "reconTops", fn := fun _ => fun
  | [d1, d2, d3] => { results := [.lit (.bool false)], args := [d1, d2, d3] }
  | _ => none }
def ReconTopsWrongFalsely : Prop := reconTopsRow.holds Try.pinned (OpenSpec.ofChange reconTopsWrong)

/-- 'seepagelaw18.ReconSpoilt': WHATEVER THE INPUT: true; the input reads as it did. -/
def reconSpoiltSpec : ChangeSpec := { name := "reconSpoilt", fn := fun _ => fun
  | [d1, d2, d3, d4, d5] => { results := [.lit (.bool true)], args := [d1, d2, d3, d4, d5] }
  | _ => none }
def reconSpoiltRow : OpenClaim := { program := "ytenhbfbfkcjimaa", sum := "a4c8a5ebcd5375eedc23e57ed30335f0a05fb8efc4b345aa55dbf1d63171ec74", func := "seepage/seepagelaw18.ReconSpoilt", spec := "reconSpoilt", unfollowed := true, recurses := true, apart := false }
def ReconSpoiltSaid : Prop := reconSpoiltRow.holds Try.pinned (OpenSpec.ofChange reconSpoiltSpec)

/-- ITS FALSE NEIGHBOUR: 'it returns false'. Refute it at one input. -/
def reconSpoiltWrong : ChangeSpec := { name := "reconSpoilt", fn := fun _ => fun
  | [d1, d2, d3, d4, d5] => { results := [.lit (.bool false)], args := [d1, d2, d3, d4, d5] }
  | _ => none }
def ReconSpoiltWrongFalsely : Prop := reconSpoiltRow.holds Try.pinned (OpenSpec.ofChange reconSpoiltWrong)

/-- 'seepagelaw18.ReconTells': WHATEVER THE INPUT: true; the input reads as it did. -/
def reconTellsSpec : ChangeSpec := { name := "reconTells", fn := fun _ => fun
  | [d1, d2, d3, d4, d5] => { results := [.lit (.bool true)], args := [d1, d2, d3, d4, d5] }
  | _ => none }
def reconTellsRow : OpenClaim := { program := "ytenhbfbfkcjimaa", sum := "a4c8a5ebcd5375eedc23e57ed30335f0a05fb8efc4b345aa55dbf1d63171ec74", func := "seepage/seepagelaw18.ReconTells", spec := "reconTells", unfollowed := true, recurses := true, apart := false }
def ReconTellsSaid : Prop := reconTellsRow.holds Try.pinned (OpenSpec.ofChange reconTellsSpec)

/-- ITS FALSE NEIGHBOUR: 'it returns false'. Refute it at one input. -/
def reconTellsWrong : ChangeSpec := { name := "reconTells", fn := fun _ => fun
  | [d1, d2, d3, d4, d5] => { results := [.lit (.bool false)], args := [d1, d2, d3, d4, d5] }
  | _ => none }
def ReconTellsWrongFalsely : Prop := reconTellsRow.holds Try.pinned (OpenSpec.ofChange reconTellsWrong)

/-- 'seepagelaw18.ReconChecks': WHATEVER THE INPUT: true; the input reads as it did. -/
def reconChecksSpec : ChangeSpec := { name := "reconChecks", fn := fun _ => fun
  | [d1, d2, d3, d4] => { results := [.lit (.bool true)], args := [d1, d2, d3, d4] }
  | _ => none }
def reconChecksRow : OpenClaim := { program := "ytenhbfbfkcjimaa", sum := "a4c8a5ebcd5375eedc23e57ed30335f0a05fb8efc4b345aa55dbf1d63171ec74", func := "seepage/seepagelaw18.ReconChecks", spec := "reconChecks", unfollowed := true, recurses := true, apart := false }
def ReconChecksSaid : Prop := reconChecksRow.holds Try.pinned (OpenSpec.ofChange reconChecksSpec)

/-- ITS FALSE NEIGHBOUR: 'it returns false'. Refute it at one input. -/
def reconChecksWrong : ChangeSpec := { name := "reconChecks", fn := fun _ => fun
  | [d1, d2, d3, d4] => { results := [.lit (.bool false)], args := [d1, d2, d3, d4] }
  | _ => none }
def ReconChecksWrongFalsely : Prop := reconChecksRow.holds Try.pinned (OpenSpec.ofChange reconChecksWrong)

/-- 'seepagelaw18.ReconParts': WHATEVER THE INPUT: true; the input reads as it did. -/
def reconPartsSpec : ChangeSpec := { name := "reconParts", fn := fun _ => fun
  | [d1, d2] => { results := [.lit (.bool true)], args := [d1, d2] }
  | _ => none }
def reconPartsRow : OpenClaim := { program := "ytenhbfbfkcjimaa", sum := "a4c8a5ebcd5375eedc23e57ed30335f0a05fb8efc4b345aa55dbf1d63171ec74", func := "seepage/seepagelaw18.ReconParts", spec := "reconParts", unfollowed := true, recurses := true, apart := false }
def ReconPartsSaid : Prop := reconPartsRow.holds Try.pinned (OpenSpec.ofChange reconPartsSpec)

/-- ITS FALSE NEIGHBOUR: 'it returns false'. Refute it at one input. -/
def reconPartsWrong : ChangeSpec := { name := "reconParts", fn := fun _ => fun
  | [d1, d2] => { results := [.lit (.bool false)], args := [d1, d2] }
  | _ => none }
def ReconPartsWrongFalsely : Prop := reconPartsRow.holds Try.pinned (OpenSpec.ofChange reconPartsWrong)

/-- 'seepagelaw18.ReconLabels': WHATEVER THE INPUT: true; the input reads as it did. -/
def reconLabelsSpec : ChangeSpec := { name := "reconLabels", fn := fun _ => fun
  | [d1, d2, d3] => { results := [.lit (.bool true)], args := [d1, d2, d3] }
  | _ => none }
def reconLabelsRow : OpenClaim := { program := "ytenhbfbfkcjimaa", sum := "a4c8a5ebcd5375eedc23e57ed30335f0a05fb8efc4b345aa55dbf1d63171ec74", func := "seepage/seepagelaw18.ReconLabels", spec := "reconLabels", unfollowed := true, recurses := true, apart := false }
def ReconLabelsSaid : Prop := reconLabelsRow.holds Try.pinned (OpenSpec.ofChange reconLabelsSpec)

/-- ITS FALSE NEIGHBOUR: 'it returns false'. Refute it at one input. -/
def reconLabelsWrong : ChangeSpec := { name := "reconLabels", fn := fun _ => fun
  | [d1, d2, d3] => { results := [.lit (.bool false)], args := [d1, d2, d3] }
  | _ => none }
def ReconLabelsWrongFalsely : Prop := reconLabelsRow.holds Try.pinned (OpenSpec.ofChange reconLabelsWrong)

/- THE SECOND FORM. 'bulk': how many values and letters a reading holds, each counted each time it is reached (what is shared counts as often as it is met; a slice's spare places count too). A statement '..UptoSaid' is the law's where the arguments, and the package variables that the reading takes, are together of bulk at most 1048576: NARROWER than '..Said'. Prove '..Said' where nothing that the law and all that it calls make is longer than what came in: it says more and counts as full. Else prove '..UptoSaid'. A law counts once. -/
mutual
def uptoBulk {H : Type} : DataW H → Nat
  | .lit (.string bytes) => bytes.length + 1
  | .lit _ => 1
  | .nil => 1
  | .ptr d => uptoBulk d + 1
  | .slice elems spare => uptoBulkAll elems + uptoBulkAll spare + 1
  | .agg parts => uptoBulkAll parts + 1
  | .iface _ d => uptoBulk d + 1
  | .map entries => uptoBulkEntries entries + 1
  | .held _ => 1
def uptoBulkAll {H : Type} : List (DataW H) → Nat
  | [] => 0
  | d :: r => uptoBulk d + uptoBulkAll r
def uptoBulkEntries {H : Type} : List (Lit × DataW H) → Nat
  | [] => 0
  | x :: r => uptoBulkEntry x + uptoBulkEntries r
def uptoBulkEntry {H : Type} : Lit × DataW H → Nat
  | (.string bytes, d) => bytes.length + uptoBulk d + 1
  | (_, d) => uptoBulk d + 1
 end
def uptoSmall : (H : Type) → List (DataW H) → Bool := fun _ ds => decide (uptoBulkAll ds ≤ 1048576)
def OpenSpec.upto (s : _root_.Go.ChangeSpec) : _root_.Go.OpenSpec := { _root_.Go.OpenSpec.ofChange s with cond := some uptoSmall }

/-- 'seepagelaw18.ReconBuilds', WHERE WHAT IT READS IS OF BULK AT MOST 1048576: true; the input reads as it did. -/
def reconBuildsUptoRow : OpenClaim := { program := "ytenhbfbfkcjimaa", sum := "a4c8a5ebcd5375eedc23e57ed30335f0a05fb8efc4b345aa55dbf1d63171ec74", func := "seepage/seepagelaw18.ReconBuilds", spec := "reconBuilds", unfollowed := true, recurses := true, apart := false, narrowed := true }
def ReconBuildsUptoSaid : Prop := reconBuildsUptoRow.holds Try.pinned (OpenSpec.upto reconBuildsSpec)

/-- 'seepagelaw18.ReconValid', WHERE WHAT IT READS IS OF BULK AT MOST 1048576: true; the input reads as it did. -/
def reconValidUptoRow : OpenClaim := { program := "ytenhbfbfkcjimaa", sum := "a4c8a5ebcd5375eedc23e57ed30335f0a05fb8efc4b345aa55dbf1d63171ec74", func := "seepage/seepagelaw18.ReconValid", spec := "reconValid", unfollowed := true, recurses := true, apart := false, narrowed := true }
def ReconValidUptoSaid : Prop := reconValidUptoRow.holds Try.pinned (OpenSpec.upto reconValidSpec)

/-- 'seepagelaw18.ReconTops', WHERE WHAT IT READS IS OF BULK AT MOST 1048576: true; the input reads as it did. -/
def reconTopsUptoRow : OpenClaim := { program := "ytenhbfbfkcjimaa", sum := "a4c8a5ebcd5375eedc23e57ed30335f0a05fb8efc4b345aa55dbf1d63171ec74", func := "seepage/seepagelaw18.ReconTops", spec := "reconTops", unfollowed := true, recurses := true, apart := false, narrowed := true }
def ReconTopsUptoSaid : Prop := reconTopsUptoRow.holds Try.pinned (OpenSpec.upto reconTopsSpec)

/-- 'seepagelaw18.ReconSpoilt', WHERE WHAT IT READS IS OF BULK AT MOST 1048576: true; the input reads as it did. -/
def reconSpoiltUptoRow : OpenClaim := { program := "ytenhbfbfkcjimaa", sum := "a4c8a5ebcd5375eedc23e57ed30335f0a05fb8efc4b345aa55dbf1d63171ec74", func := "seepage/seepagelaw18.ReconSpoilt", spec := "reconSpoilt", unfollowed := true, recurses := true, apart := false, narrowed := true }
def ReconSpoiltUptoSaid : Prop := reconSpoiltUptoRow.holds Try.pinned (OpenSpec.upto reconSpoiltSpec)

/-- 'seepagelaw18.ReconTells', WHERE WHAT IT READS IS OF BULK AT MOST 1048576: true; the input reads as it did. -/
def reconTellsUptoRow : OpenClaim := { program := "ytenhbfbfkcjimaa", sum := "a4c8a5ebcd5375eedc23e57ed30335f0a05fb8efc4b345aa55dbf1d63171ec74", func := "seepage/seepagelaw18.ReconTells", spec := "reconTells", unfollowed := true, recurses := true, apart := false, narrowed := true }
def ReconTellsUptoSaid : Prop := reconTellsUptoRow.holds Try.pinned (OpenSpec.upto reconTellsSpec)

/-- 'seepagelaw18.ReconChecks', WHERE WHAT IT READS IS OF BULK AT MOST 1048576: true; the input reads as it did. -/
def reconChecksUptoRow : OpenClaim := { program := "ytenhbfbfkcjimaa", sum := "a4c8a5ebcd5375eedc23e57ed30335f0a05fb8efc4b345aa55dbf1d63171ec74", func := "seepage/seepagelaw18.ReconChecks", spec := "reconChecks", unfollowed := true, recurses := true, apart := false, narrowed := true }
def ReconChecksUptoSaid : Prop := reconChecksUptoRow.holds Try.pinned (OpenSpec.upto reconChecksSpec)

/-- 'seepagelaw18.ReconParts', WHERE WHAT IT READS IS OF BULK AT MOST 1048576: true; the input reads as it did. -/
def reconPartsUptoRow : OpenClaim := { program := "ytenhbfbfkcjimaa", sum := "a4c8a5ebcd5375eedc23e57ed30335f0a05fb8efc4b345aa55dbf1d63171ec74", func := "seepage/seepagelaw18.ReconParts", spec := "reconParts", unfollowed := true, recurses := true, apart := false, narrowed := true }
def ReconPartsUptoSaid : Prop := reconPartsUptoRow.holds Try.pinned (OpenSpec.upto reconPartsSpec)

/-- 'seepagelaw18.ReconLabels', WHERE WHAT IT READS IS OF BULK AT MOST 1048576: true; the input reads as it did. -/
def reconLabelsUptoRow : OpenClaim := { program := "ytenhbfbfkcjimaa", sum := "a4c8a5ebcd5375eedc23e57ed30335f0a05fb8efc4b345aa55dbf1d63171ec74", func := "seepage/seepagelaw18.ReconLabels", spec := "reconLabels", unfollowed := true, recurses := true, apart := false, narrowed := true }
def ReconLabelsUptoSaid : Prop := reconLabelsUptoRow.holds Try.pinned (OpenSpec.upto reconLabelsSpec)

end Rows
end Go.Proofs.Ytenhbfbfkcjimaa
