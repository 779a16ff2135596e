/-
  NARROWER THAN 'FOR EVERY INPUT', by the rows' own cells (each row's printed sentence says how): LinkageSteps: laid · LinkageNearest: laid · LinkageScales: laid · LinkageOrder: laid · LinkageParts: laid · LinkageEven: laid.
  DERIVED. THE GIVEN ROWS OF THIS SEAT. 6 by the template 'for every input the law returns true; each argument reads behind the call as it read before'; 0 by the template 'total and deterministic' (their statements: YthhddjknjnjbhaaDoorTotals.lean).
  GIVEN WITH THE SEED: the statements are not yours to turn. If you find one false, say at which input.
  Laid BY PROGRAM, IN A SANDBOX (cutbox-rows.mjs): the forced cells as the released guide's own fill.sh prints them over the translation 8e67bdc4472b43d3… (all of the seat's roots in one cut). By AI agents, Wed Nov 11 2026. No macro, syntax, notation, axiom, sorry.
-/
import Derived.Test.YthhddjknjnjbhaaDoorChecked
import GoSem.Claim
import GoSem.ClaimJoined
import GoSem.ClaimMapViews
import Derived.JoinedTies
import Derived.KernelRfl
namespace Go.Proofs.YthhddjknjnjbhaaDoor
/- THE CELL 'sum', in the pinned program and in every row, IS THE sha256 OF THE DUMP (.gsa) THAT YthhddjknjnjbhaaDoorProg.lean LOADS. Nothing in Lean hashes anything: it is a label: what it is worth is what the hold of that sum in a sandbox is worth. -/
noncomputable def Tryd.pinned : Pinned := { name := "ythhddjknjnjbhaadoor", sum := "8e67bdc4472b43d35ef41d022f37be3da4b20f6649dda8ebd154e7ad6e65c81e", checked := Tryd.checked }
namespace Rows
def none {H : Type} : Left H := { results := [], args := [] }

/- WHAT THE LISTED PACKAGE-LEVEL VARIABLES READ AS WHEN THE CALL BEGINS. Each datum BY PROGRAM (the guide's laid-datum.mjs) off the statement by which the dump's own 'gosem.cut.vars' lays the variable. In a bare row this is a premise. The card (YthhddjknjnjbhaaDoorCards.lean) ties it to the program's text. -/
def laid_seepage_seepagelaw23_methods {H : Type} : DataW H := .agg [.lit (.int .i64 1), .lit (.int .i64 2), .lit (.int .i64 3)]

/-- 'seepagelaw23.LinkageSteps': WHATEVER THE INPUT: true; the input reads as it did. -/
def linkageStepsSpec : ChangeSpec := { name := "linkageSteps", fn := fun _ => fun
  | [d1, d2] => { results := [.lit (.bool true)], args := [d1, d2] }
  | _ => none }
def linkageStepsRow : OpenClaim := { program := "ythhddjknjnjbhaadoor", sum := "8e67bdc4472b43d35ef41d022f37be3da4b20f6649dda8ebd154e7ad6e65c81e", func := "seepage/seepagelaw23.LinkageSteps", spec := "linkageSteps", unfollowed := true, recurses := true, named := ["seepage/seepagelaw23.methods"], apart := false, laid := [("seepage/seepagelaw23.methods", laid_seepage_seepagelaw23_methods)] }
def LinkageStepsSaid : Prop := linkageStepsRow.holds Tryd.pinned (OpenSpec.ofChange linkageStepsSpec)

/-- ITS FALSE NEIGHBOUR: 'it returns false'. Refute it at one input. -/
def linkageStepsWrong : ChangeSpec := { name := "linkageSteps", fn := fun _ => fun
  | [d1, d2] => { results := [.lit (.bool false)], args := [d1, d2] }
  | _ => none }
def LinkageStepsWrongFalsely : Prop := linkageStepsRow.holds Tryd.pinned (OpenSpec.ofChange linkageStepsWrong)

/-- 'seepagelaw23.LinkageNearest': WHATEVER THE INPUT: true; the input reads as it did. -/
def linkageNearestSpec : ChangeSpec := { name := "linkageNearest", fn := fun _ => fun
  | [d1, d2, d3] => { results := [.lit (.bool true)], args := [d1, d2, d3] }
  | _ => none }
def linkageNearestRow : OpenClaim := { program := "ythhddjknjnjbhaadoor", sum := "8e67bdc4472b43d35ef41d022f37be3da4b20f6649dda8ebd154e7ad6e65c81e", func := "seepage/seepagelaw23.LinkageNearest", spec := "linkageNearest", unfollowed := true, recurses := true, named := ["seepage/seepagelaw23.methods"], apart := false, laid := [("seepage/seepagelaw23.methods", laid_seepage_seepagelaw23_methods)] }
def LinkageNearestSaid : Prop := linkageNearestRow.holds Tryd.pinned (OpenSpec.ofChange linkageNearestSpec)

/-- ITS FALSE NEIGHBOUR: 'it returns false'. Refute it at one input. -/
def linkageNearestWrong : ChangeSpec := { name := "linkageNearest", fn := fun _ => fun
  | [d1, d2, d3] => { results := [.lit (.bool false)], args := [d1, d2, d3] }
  | _ => none }
def LinkageNearestWrongFalsely : Prop := linkageNearestRow.holds Tryd.pinned (OpenSpec.ofChange linkageNearestWrong)

/-- 'seepagelaw23.LinkageScales': WHATEVER THE INPUT: true; the input reads as it did. -/
def linkageScalesSpec : ChangeSpec := { name := "linkageScales", fn := fun _ => fun
  | [d1, d2, d3] => { results := [.lit (.bool true)], args := [d1, d2, d3] }
  | _ => none }
def linkageScalesRow : OpenClaim := { program := "ythhddjknjnjbhaadoor", sum := "8e67bdc4472b43d35ef41d022f37be3da4b20f6649dda8ebd154e7ad6e65c81e", func := "seepage/seepagelaw23.LinkageScales", spec := "linkageScales", unfollowed := true, recurses := true, named := ["seepage/seepagelaw23.methods"], apart := false, laid := [("seepage/seepagelaw23.methods", laid_seepage_seepagelaw23_methods)] }
def LinkageScalesSaid : Prop := linkageScalesRow.holds Tryd.pinned (OpenSpec.ofChange linkageScalesSpec)

/-- ITS FALSE NEIGHBOUR: 'it returns false'. Refute it at one input. -/
def linkageScalesWrong : ChangeSpec := { name := "linkageScales", fn := fun _ => fun
  | [d1, d2, d3] => { results := [.lit (.bool false)], args := [d1, d2, d3] }
  | _ => none }
def LinkageScalesWrongFalsely : Prop := linkageScalesRow.holds Tryd.pinned (OpenSpec.ofChange linkageScalesWrong)

/-- 'seepagelaw23.LinkageOrder': WHATEVER THE INPUT: true; the input reads as it did. -/
def linkageOrderSpec : ChangeSpec := { name := "linkageOrder", fn := fun _ => fun
  | [d1, d2] => { results := [.lit (.bool true)], args := [d1, d2] }
  | _ => none }
def linkageOrderRow : OpenClaim := { program := "ythhddjknjnjbhaadoor", sum := "8e67bdc4472b43d35ef41d022f37be3da4b20f6649dda8ebd154e7ad6e65c81e", func := "seepage/seepagelaw23.LinkageOrder", spec := "linkageOrder", unfollowed := true, recurses := true, named := ["seepage/seepagelaw23.methods"], apart := false, laid := [("seepage/seepagelaw23.methods", laid_seepage_seepagelaw23_methods)] }
def LinkageOrderSaid : Prop := linkageOrderRow.holds Tryd.pinned (OpenSpec.ofChange linkageOrderSpec)

/-- ITS FALSE NEIGHBOUR: 'it returns false'. Refute it at one input. -/
def linkageOrderWrong : ChangeSpec := { name := "linkageOrder", fn := fun _ => fun
  | [d1, d2] => { results := [.lit (.bool false)], args := [d1, d2] }
  | _ => none }
def LinkageOrderWrongFalsely : Prop := linkageOrderRow.holds Tryd.pinned (OpenSpec.ofChange linkageOrderWrong)

/-- 'seepagelaw23.LinkageParts': WHATEVER THE INPUT: true; the input reads as it did. -/
def linkagePartsSpec : ChangeSpec := { name := "linkageParts", fn := fun _ => fun
  | [d1, d2, d3] => { results := [.lit (.bool true)], args := [d1, d2, d3] }
  | _ => none }
def linkagePartsRow : OpenClaim := { program := "ythhddjknjnjbhaadoor", sum := "8e67bdc4472b43d35ef41d022f37be3da4b20f6649dda8ebd154e7ad6e65c81e", func := "seepage/seepagelaw23.LinkageParts", spec := "linkageParts", unfollowed := true, recurses := true, named := ["seepage/seepagelaw23.methods"], apart := false, laid := [("seepage/seepagelaw23.methods", laid_seepage_seepagelaw23_methods)] }
def LinkagePartsSaid : Prop := linkagePartsRow.holds Tryd.pinned (OpenSpec.ofChange linkagePartsSpec)

/-- ITS FALSE NEIGHBOUR: 'it returns false'. Refute it at one input. -/
def linkagePartsWrong : ChangeSpec := { name := "linkageParts", fn := fun _ => fun
  | [d1, d2, d3] => { results := [.lit (.bool false)], args := [d1, d2, d3] }
  | _ => none }
def LinkagePartsWrongFalsely : Prop := linkagePartsRow.holds Tryd.pinned (OpenSpec.ofChange linkagePartsWrong)

/-- 'seepagelaw23.LinkageEven': WHATEVER THE INPUT: true; the input reads as it did. -/
def linkageEvenSpec : ChangeSpec := { name := "linkageEven", fn := fun _ => fun
  | [d1, d2] => { results := [.lit (.bool true)], args := [d1, d2] }
  | _ => none }
def linkageEvenRow : OpenClaim := { program := "ythhddjknjnjbhaadoor", sum := "8e67bdc4472b43d35ef41d022f37be3da4b20f6649dda8ebd154e7ad6e65c81e", func := "seepage/seepagelaw23.LinkageEven", spec := "linkageEven", unfollowed := true, recurses := true, named := ["seepage/seepagelaw23.methods"], apart := false, laid := [("seepage/seepagelaw23.methods", laid_seepage_seepagelaw23_methods)] }
def LinkageEvenSaid : Prop := linkageEvenRow.holds Tryd.pinned (OpenSpec.ofChange linkageEvenSpec)

/-- ITS FALSE NEIGHBOUR: 'it returns false'. Refute it at one input. -/
def linkageEvenWrong : ChangeSpec := { name := "linkageEven", fn := fun _ => fun
  | [d1, d2] => { results := [.lit (.bool false)], args := [d1, d2] }
  | _ => none }
def LinkageEvenWrongFalsely : Prop := linkageEvenRow.holds Tryd.pinned (OpenSpec.ofChange linkageEvenWrong)

/- THE SECOND FORM. 'bulk': how many values and letters a reading holds, each counted each time it is reached (what is shared counts as often as it is met; a slice's spare places count too). A statement '..UptoSaid' is the law's where the arguments, and the package variables that the reading takes, are together of bulk at most 1048576: NARROWER than '..Said'. Prove '..Said' where nothing that the law and all that it calls make is longer than what came in: it says more and counts as full. Else prove '..UptoSaid'. A law counts once. -/
mutual
def uptoBulk {H : Type} : DataW H → Nat
  | .lit (.string bytes) => bytes.length + 1
  | .lit _ => 1
  | .nil => 1
  | .ptr d => uptoBulk d + 1
  | .slice elems spare => uptoBulkAll elems + uptoBulkAll spare + 1
  | .agg parts => uptoBulkAll parts + 1
  | .iface _ d => uptoBulk d + 1
  | .map entries => uptoBulkEntries entries + 1
  | .held _ => 1
def uptoBulkAll {H : Type} : List (DataW H) → Nat
  | [] => 0
  | d :: r => uptoBulk d + uptoBulkAll r
def uptoBulkEntries {H : Type} : List (Lit × DataW H) → Nat
  | [] => 0
  | x :: r => uptoBulkEntry x + uptoBulkEntries r
def uptoBulkEntry {H : Type} : Lit × DataW H → Nat
  | (.string bytes, d) => bytes.length + uptoBulk d + 1
  | (_, d) => uptoBulk d + 1
 end
def uptoSmall : (H : Type) → List (DataW H) → Bool := fun _ ds => decide (uptoBulkAll ds ≤ 1048576)
def OpenSpec.upto (s : _root_.Go.ChangeSpec) : _root_.Go.OpenSpec := { _root_.Go.OpenSpec.ofChange s with cond := some uptoSmall }

/-- 'seepagelaw23.LinkageSteps', WHERE WHAT IT READS IS OF BULK AT MOST 1048576: true; the input reads as it did. -/
def linkageStepsUptoRow : OpenClaim := { program := "ythhddjknjnjbhaadoor", sum := "8e67bdc4472b43d35ef41d022f37be3da4b20f6649dda8ebd154e7ad6e65c81e", func := "seepage/seepagelaw23.LinkageSteps", spec := "linkageSteps", unfollowed := true, recurses := true, named := ["seepage/seepagelaw23.methods"], apart := false, laid := [("seepage/seepagelaw23.methods", laid_seepage_seepagelaw23_methods)], narrowed := true }
def LinkageStepsUptoSaid : Prop := linkageStepsUptoRow.holds Tryd.pinned (OpenSpec.upto linkageStepsSpec)

/-- 'seepagelaw23.LinkageNearest', WHERE WHAT IT READS IS OF BULK AT MOST 1048576: true; the input reads as it did. -/
def linkageNearestUptoRow : OpenClaim := { program := "ythhddjknjnjbhaadoor", sum := "8e67bdc4472b43d35ef41d022f37be3da4b20f6649dda8ebd154e7ad6e65c81e", func := "seepage/seepagelaw23.LinkageNearest", spec := "linkageNearest", unfollowed := true, recurses := true, named := ["seepage/seepagelaw23.methods"], apart := false, laid := [("seepage/seepagelaw23.methods", laid_seepage_seepagelaw23_methods)], narrowed := true }
def LinkageNearestUptoSaid : Prop := linkageNearestUptoRow.holds Tryd.pinned (OpenSpec.upto linkageNearestSpec)

/-- 'seepagelaw23.LinkageScales', WHERE WHAT IT READS IS OF BULK AT MOST 1048576: true; the input reads as it did. -/
def linkageScalesUptoRow : OpenClaim := { program := "ythhddjknjnjbhaadoor", sum := "8e67bdc4472b43d35ef41d022f37be3da4b20f6649dda8ebd154e7ad6e65c81e", func := "seepage/seepagelaw23.LinkageScales", spec := "linkageScales", unfollowed := true, recurses := true, named := ["seepage/seepagelaw23.methods"], apart := false, laid := [("seepage/seepagelaw23.methods", laid_seepage_seepagelaw23_methods)], narrowed := true }
def LinkageScalesUptoSaid : Prop := linkageScalesUptoRow.holds Tryd.pinned (OpenSpec.upto linkageScalesSpec)

/-- 'seepagelaw23.LinkageOrder', WHERE WHAT IT READS IS OF BULK AT MOST 1048576: true; the input reads as it did. -/
def linkageOrderUptoRow : OpenClaim := { program := "ythhddjknjnjbhaadoor", sum := "8e67bdc4472b43d35ef41d022f37be3da4b20f6649dda8ebd154e7ad6e65c81e", func := "seepage/seepagelaw23.LinkageOrder", spec := "linkageOrder", unfollowed := true, recurses := true, named := ["seepage/seepagelaw23.methods"], apart := false, laid := [("seepage/seepagelaw23.methods", laid_seepage_seepagelaw23_methods)], narrowed := true }
def LinkageOrderUptoSaid : Prop := linkageOrderUptoRow.holds Tryd.pinned (OpenSpec.upto linkageOrderSpec)

/-- 'seepagelaw23.LinkageParts', WHERE WHAT IT READS IS OF BULK AT MOST 1048576: true; the input reads as it did. -/
def linkagePartsUptoRow : OpenClaim := { program := "ythhddjknjnjbhaadoor", sum := "8e67bdc4472b43d35ef41d022f37be3da4b20f6649dda8ebd154e7ad6e65c81e", func := "seepage/seepagelaw23.LinkageParts", spec := "linkageParts", unfollowed := true, recurses := true, named := ["seepage/seepagelaw23.methods"], apart := false, laid := [("seepage/seepagelaw23.methods", laid_seepage_seepagelaw23_methods)], narrowed := true }
def LinkagePartsUptoSaid : Prop := linkagePartsUptoRow.holds Tryd.pinned (OpenSpec.upto linkagePartsSpec)

/-- 'seepagelaw23.LinkageEven', WHERE WHAT IT READS IS OF BULK AT MOST 1048576: true; the input reads as it did. -/
def linkageEvenUptoRow : OpenClaim := { program := "ythhddjknjnjbhaadoor", sum := "8e67bdc4472b43d35ef41d022f37be3da4b20f6649dda8ebd154e7ad6e65c81e", func := "seepage/seepagelaw23.LinkageEven", spec := "linkageEven", unfollowed := true, recurses := true, named := ["seepage/seepagelaw23.methods"], apart := false, laid := [("seepage/seepagelaw23.methods", laid_seepage_seepagelaw23_methods)], narrowed := true }
def LinkageEvenUptoSaid : Prop := linkageEvenUptoRow.holds Tryd.pinned (OpenSpec.upto linkageEvenSpec)

end Rows
end Go.Proofs.YthhddjknjnjbhaaDoor
