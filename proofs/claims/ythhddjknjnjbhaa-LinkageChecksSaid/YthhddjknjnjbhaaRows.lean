/-
  No cell of these rows narrows 'for every input' (looked for: loops, veiled, ifaces, maps, wideKeys, modest, calm, conditions, laid).
  DERIVED. THE GIVEN ROWS OF THIS SEAT. 4 by the template 'for every input the law returns true; each argument reads behind the call as it read before'; 0 by the template 'total and deterministic' (their statements: YthhddjknjnjbhaaTotals.lean).
  GIVEN WITH THE SEED: the statements are not yours to turn. If you find one false, say at which input.
  Laid BY PROGRAM, IN A SANDBOX (cutbox-rows.mjs): the forced cells as the released guide's own fill.sh prints them over the translation 5cb65aa3f32ab650… (all of the seat's roots in one cut). By AI agents, Wed Nov 11 2026. No macro, syntax, notation, axiom, sorry.
-/
import Derived.Test.YthhddjknjnjbhaaChecked
import GoSem.Claim
import GoSem.ClaimJoined
import GoSem.ClaimMapViews
import Derived.JoinedTies
import Derived.KernelRfl
namespace Go.Proofs.Ythhddjknjnjbhaa
/- THE CELL 'sum', in the pinned program and in every row, IS THE sha256 OF THE DUMP (.gsa) THAT YthhddjknjnjbhaaProg.lean LOADS. Nothing in Lean hashes anything: it is a label: what it is worth is what the hold of that sum in a sandbox is worth. -/
noncomputable def Try.pinned : Pinned := { name := "ythhddjknjnjbhaa", sum := "5cb65aa3f32ab6509dc74ede2dffc8ae40c496f0419f6635b152045e49626c24", checked := Try.checked }
namespace Rows
def none {H : Type} : Left H := { results := [], args := [] }

/-- 'seepagelaw23.LinkageChecks': WHATEVER THE INPUT: true; the input reads as it did. -/
def linkageChecksSpec : ChangeSpec := { name := "linkageChecks", fn := fun _ => fun
  | [d1, d2, d3] => { results := [.lit (.bool true)], args := [d1, d2, d3] }
  | _ => none }
def linkageChecksRow : OpenClaim := { program := "ythhddjknjnjbhaa", sum := "5cb65aa3f32ab6509dc74ede2dffc8ae40c496f0419f6635b152045e49626c24", func := "seepage/seepagelaw23.LinkageChecks", spec := "linkageChecks", unfollowed := true, recurses := true, apart := false }
def LinkageChecksSaid : Prop := linkageChecksRow.holds Try.pinned (OpenSpec.ofChange linkageChecksSpec)

/-- ITS FALSE NEIGHBOUR: 'it returns false'. Refute it at one input. -/
def linkageChecksWrong : ChangeSpec := { name := "linkageChecks", fn := fun _ => fun
  | [d1, d2, d3] => { results := [.lit (.bool false)], args := [d1, d2, d3] }
  | _ => none }
def LinkageChecksWrongFalsely : Prop := linkageChecksRow.holds Try.pinned (OpenSpec.ofChange linkageChecksWrong)

/-- 'seepagelaw23.LinkageRuns': WHATEVER THE INPUT: true; the input reads as it did. -/
def linkageRunsSpec : ChangeSpec := { name := "linkageRuns", fn := fun _ => fun
  | [d1, d2, d3] => { results := [.lit (.bool true)], args := [d1, d2, d3] }
  | _ => none }
def linkageRunsRow : OpenClaim := { program := "ythhddjknjnjbhaa", sum := "5cb65aa3f32ab6509dc74ede2dffc8ae40c496f0419f6635b152045e49626c24", func := "seepage/seepagelaw23.LinkageRuns", spec := "linkageRuns", unfollowed := true, recurses := true, apart := false }
def LinkageRunsSaid : Prop := linkageRunsRow.holds Try.pinned (OpenSpec.ofChange linkageRunsSpec)

/-- ITS FALSE NEIGHBOUR: 'it returns false'. Refute it at one input. -/
def linkageRunsWrong : ChangeSpec := { name := "linkageRuns", fn := fun _ => fun
  | [d1, d2, d3] => { results := [.lit (.bool false)], args := [d1, d2, d3] }
  | _ => none }
def LinkageRunsWrongFalsely : Prop := linkageRunsRow.holds Try.pinned (OpenSpec.ofChange linkageRunsWrong)

/-- 'seepagelaw23.LinkageBetween': WHATEVER THE INPUT: true; the input reads as it did. -/
def linkageBetweenSpec : ChangeSpec := { name := "linkageBetween", fn := fun _ => fun
  | [d1, d2, d3, d4, d5] => { results := [.lit (.bool true)], args := [d1, d2, d3, d4, d5] }
  | _ => none }
def linkageBetweenRow : OpenClaim := { program := "ythhddjknjnjbhaa", sum := "5cb65aa3f32ab6509dc74ede2dffc8ae40c496f0419f6635b152045e49626c24", func := "seepage/seepagelaw23.LinkageBetween", spec := "linkageBetween", unfollowed := true, recurses := true, apart := false }
def LinkageBetweenSaid : Prop := linkageBetweenRow.holds Try.pinned (OpenSpec.ofChange linkageBetweenSpec)

/-- ITS FALSE NEIGHBOUR: 'it returns false'. Refute it at one input. -/
def linkageBetweenWrong : ChangeSpec := { name := "linkageBetween", fn := fun _ => fun
  | [d1, d2, d3, d4, d5] => { results := [.lit (.bool false)], args := [d1, d2, d3, d4, d5] }
  | _ => none }
def LinkageBetweenWrongFalsely : Prop := linkageBetweenRow.holds Try.pinned (OpenSpec.ofChange linkageBetweenWrong)

/-- 'seepagelaw23.LinkageLabels': WHATEVER THE INPUT: true; the input reads as it did. -/
def linkageLabelsSpec : ChangeSpec := { name := "linkageLabels", fn := fun _ => fun
  | [d1, d2, d3] => { results := [.lit (.bool true)], args := [d1, d2, d3] }
  | _ => none }
def linkageLabelsRow : OpenClaim := { program := "ythhddjknjnjbhaa", sum := "5cb65aa3f32ab6509dc74ede2dffc8ae40c496f0419f6635b152045e49626c24", func := "seepage/seepagelaw23.LinkageLabels", spec := "linkageLabels", unfollowed := true, recurses := true, apart := false }
def LinkageLabelsSaid : Prop := linkageLabelsRow.holds Try.pinned (OpenSpec.ofChange linkageLabelsSpec)

/-- ITS FALSE NEIGHBOUR: 'it returns false'. Refute it at one input. -/
def linkageLabelsWrong : ChangeSpec := { name := "linkageLabels", fn := fun _ => fun
  | [d1, d2, d3] => { results := [.lit (.bool false)], args := [d1, d2, d3] }
  | _ => none }
def LinkageLabelsWrongFalsely : Prop := linkageLabelsRow.holds Try.pinned (OpenSpec.ofChange linkageLabelsWrong)

/- THE SECOND FORM. 'bulk': how many values and letters a reading holds, each counted each time it is reached (what is shared counts as often as it is met; a slice's spare places count too). A statement '..UptoSaid' is the law's where the arguments, and the package variables that the reading takes, are together of bulk at most 1048576: NARROWER than '..Said'. Prove '..Said' where nothing that the law and all that it calls make is longer than what came in: it says more and counts as full. Else prove '..UptoSaid'. A law counts once. -/
mutual
def uptoBulk {H : Type} : DataW H → Nat
  | .lit (.string bytes) => bytes.length + 1
  | .lit _ => 1
  | .nil => 1
  | .ptr d => uptoBulk d + 1
  | .slice elems spare => uptoBulkAll elems + uptoBulkAll spare + 1
  | .agg parts => uptoBulkAll parts + 1
  | .iface _ d => uptoBulk d + 1
  | .map entries => uptoBulkEntries entries + 1
  | .held _ => 1
def uptoBulkAll {H : Type} : List (DataW H) → Nat
  | [] => 0
  | d :: r => uptoBulk d + uptoBulkAll r
def uptoBulkEntries {H : Type} : List (Lit × DataW H) → Nat
  | [] => 0
  | x :: r => uptoBulkEntry x + uptoBulkEntries r
def uptoBulkEntry {H : Type} : Lit × DataW H → Nat
  | (.string bytes, d) => bytes.length + uptoBulk d + 1
  | (_, d) => uptoBulk d + 1
 end
def uptoSmall : (H : Type) → List (DataW H) → Bool := fun _ ds => decide (uptoBulkAll ds ≤ 1048576)
def OpenSpec.upto (s : _root_.Go.ChangeSpec) : _root_.Go.OpenSpec := { _root_.Go.OpenSpec.ofChange s with cond := some uptoSmall }

/-- 'seepagelaw23.LinkageChecks', WHERE WHAT IT READS IS OF BULK AT MOST 1048576: true; the input reads as it did. -/
def linkageChecksUptoRow : OpenClaim := { program := "ythhddjknjnjbhaa", sum := "5cb65aa3f32ab6509dc74ede2dffc8ae40c496f0419f6635b152045e49626c24", func := "seepage/seepagelaw23.LinkageChecks", spec := "linkageChecks", unfollowed := true, recurses := true, apart := false, narrowed := true }
def LinkageChecksUptoSaid : Prop := linkageChecksUptoRow.holds Try.pinned (OpenSpec.upto linkageChecksSpec)

/-- 'seepagelaw23.LinkageRuns', WHERE WHAT IT READS IS OF BULK AT MOST 1048576: true; the input reads as it did. -/
def linkageRunsUptoRow : OpenClaim := { program := "ythhddjknjnjbhaa", sum := "5cb65aa3f32ab6509dc74ede2dffc8ae40c496f0419f6635b152045e49626c24", func := "seepage/seepagelaw23.LinkageRuns", spec := "linkageRuns", unfollowed := true, recurses := true, apart := false, narrowed := true }
def LinkageRunsUptoSaid : Prop := linkageRunsUptoRow.holds Try.pinned (OpenSpec.upto linkageRunsSpec)

/-- 'seepagelaw23.LinkageBetween', WHERE WHAT IT READS IS OF BULK AT MOST 1048576: true; the input reads as it did. -/
def linkageBetweenUptoRow : OpenClaim := { program := "ythhddjknjnjbhaa", sum := "5cb65aa3f32ab6509dc74ede2dffc8ae40c496f0419f6635b152045e49626c24", func := "seepage/seepagelaw23.LinkageBetween", spec := "linkageBetween", unfollowed := true, recurses := true, apart := false, narrowed := true }
def LinkageBetweenUptoSaid : Prop := linkageBetweenUptoRow.holds Try.pinned (OpenSpec.upto linkageBetweenSpec)

/-- 'seepagelaw23.LinkageLabels', WHERE WHAT IT READS IS OF BULK AT MOST 1048576: true; the input reads as it did. -/
def linkageLabelsUptoRow : OpenClaim := { program := "ythhddjknjnjbhaa", sum := "5cb65aa3f32ab6509dc74ede2dffc8ae40c496f0419f6635b152045e49626c24", func := "seepage/seepagelaw23.LinkageLabels", spec := "linkageLabels", unfollowed := true, recurses := true, apart := false, narrowed := true }
def LinkageLabelsUptoSaid : Prop := linkageLabelsUptoRow.holds Try.pinned (OpenSpec.upto linkageLabelsSpec)

end Rows
end Go.Proofs.Ythhddjknjnjbhaa
