/-
  NARROWER THAN 'FOR EVERY INPUT', by the rows' own cells (each row's printed sentence says how): DendroTells: laid · DendroChecks: laid · DendroParses: laid · DendroSame: laid · DendroGap: laid · DendroSpoilt: laid · DendroBack: laid · DendroUltra: laid · DendroMerges: laid · DendroCuts: laid.
  DERIVED. THE GIVEN ROWS OF THIS SEAT. 10 by the template 'for every input the law returns true; each argument reads behind the call as it read before'; 0 by the template 'total and deterministic' (their statements: YthacjealoomioaaGreatDoorTotals.lean).
  GIVEN WITH THE SEED: the statements are not yours to turn. If you find one false, say at which input.
  Laid BY PROGRAM, IN A SANDBOX (cutbox-rows.mjs): the forced cells as the released guide's own fill.sh prints them over the translation b657bfad075f4e9e… (all of the seat's roots in one cut). By AI agents, Wed Nov 11 2026. No macro, syntax, notation, axiom, sorry.
-/
import Derived.Test.YthacjealoomioaaGreatDoorChecked
import GoSem.Claim
import GoSem.ClaimJoined
import GoSem.ClaimMapViews
import Derived.JoinedTies
import Derived.KernelRfl
namespace Go.Proofs.YthacjealoomioaaGreatDoor
/- THE CELL 'sum', in the pinned program and in every row, IS THE sha256 OF THE DUMP (.gsa) THAT YthacjealoomioaaGreatDoorProg.lean LOADS. Nothing in Lean hashes anything: it is a label: what it is worth is what the hold of that sum in a sandbox is worth. -/
noncomputable def Tryz.pinned : Pinned := { name := "ythacjealoomioaagreatdoor", sum := "b657bfad075f4e9e5c6fbaa20fc93c5c53ec270aac6aa475468ff30b9f1d4b2b", checked := Tryz.checked }
namespace Rows
def none {H : Type} : Left H := { results := [], args := [] }

/- WHAT THE LISTED PACKAGE-LEVEL VARIABLES READ AS WHEN THE CALL BEGINS. Each datum BY PROGRAM (the guide's laid-datum.mjs) off the statement by which the dump's own 'gosem.cut.vars' lays the variable. In a bare row this is a premise. The card (YthacjealoomioaaGreatDoorCards.lean) ties it to the program's text. -/
def laid_math_bits_deBruijn32tab {H : Type} : DataW H := .agg [.lit (.int .u8 0), .lit (.int .u8 1), .lit (.int .u8 28), .lit (.int .u8 2), .lit (.int .u8 29), .lit (.int .u8 14), .lit (.int .u8 24), .lit (.int .u8 3), .lit (.int .u8 30), .lit (.int .u8 22), .lit (.int .u8 20), .lit (.int .u8 15), .lit (.int .u8 25), .lit (.int .u8 17), .lit (.int .u8 4), .lit (.int .u8 8), .lit (.int .u8 31), .lit (.int .u8 27), .lit (.int .u8 13), .lit (.int .u8 23), .lit (.int .u8 21), .lit (.int .u8 19), .lit (.int .u8 16), .lit (.int .u8 7), .lit (.int .u8 26), .lit (.int .u8 12), .lit (.int .u8 18), .lit (.int .u8 6), .lit (.int .u8 11), .lit (.int .u8 5), .lit (.int .u8 10), .lit (.int .u8 9)]
def laid_math_bits_deBruijn64tab {H : Type} : DataW H := .agg [.lit (.int .u8 0), .lit (.int .u8 1), .lit (.int .u8 56), .lit (.int .u8 2), .lit (.int .u8 57), .lit (.int .u8 49), .lit (.int .u8 28), .lit (.int .u8 3), .lit (.int .u8 61), .lit (.int .u8 58), .lit (.int .u8 42), .lit (.int .u8 50), .lit (.int .u8 38), .lit (.int .u8 29), .lit (.int .u8 17), .lit (.int .u8 4), .lit (.int .u8 62), .lit (.int .u8 47), .lit (.int .u8 59), .lit (.int .u8 36), .lit (.int .u8 45), .lit (.int .u8 43), .lit (.int .u8 51), .lit (.int .u8 22), .lit (.int .u8 53), .lit (.int .u8 39), .lit (.int .u8 33), .lit (.int .u8 30), .lit (.int .u8 24), .lit (.int .u8 18), .lit (.int .u8 12), .lit (.int .u8 5), .lit (.int .u8 63), .lit (.int .u8 55), .lit (.int .u8 48), .lit (.int .u8 27), .lit (.int .u8 60), .lit (.int .u8 41), .lit (.int .u8 37), .lit (.int .u8 16), .lit (.int .u8 46), .lit (.int .u8 35), .lit (.int .u8 44), .lit (.int .u8 21), .lit (.int .u8 52), .lit (.int .u8 32), .lit (.int .u8 23), .lit (.int .u8 11), .lit (.int .u8 54), .lit (.int .u8 26), .lit (.int .u8 40), .lit (.int .u8 15), .lit (.int .u8 34), .lit (.int .u8 20), .lit (.int .u8 31), .lit (.int .u8 10), .lit (.int .u8 25), .lit (.int .u8 14), .lit (.int .u8 19), .lit (.int .u8 9), .lit (.int .u8 13), .lit (.int .u8 8), .lit (.int .u8 7), .lit (.int .u8 6)]
def laid_internal_strconv_uint64pow10 {H : Type} : DataW H := .agg [.lit (.int .u64 1), .lit (.int .u64 10), .lit (.int .u64 100), .lit (.int .u64 1000), .lit (.int .u64 10000), .lit (.int .u64 100000), .lit (.int .u64 1000000), .lit (.int .u64 10000000), .lit (.int .u64 100000000), .lit (.int .u64 1000000000), .lit (.int .u64 10000000000), .lit (.int .u64 100000000000), .lit (.int .u64 1000000000000), .lit (.int .u64 10000000000000), .lit (.int .u64 100000000000000), .lit (.int .u64 1000000000000000), .lit (.int .u64 10000000000000000), .lit (.int .u64 100000000000000000), .lit (.int .u64 1000000000000000000), .lit (.int .u64 10000000000000000000)]
def laid_strconv_ErrRange {H : Type} : DataW H := .iface "*errors.errorString" (.ptr (.agg [.lit (.string [118, 97, 108, 117, 101, 32, 111, 117, 116, 32, 111, 102, 32, 114, 97, 110, 103, 101])]))
def laid_strconv_ErrSyntax {H : Type} : DataW H := .iface "*errors.errorString" (.ptr (.agg [.lit (.string [105, 110, 118, 97, 108, 105, 100, 32, 115, 121, 110, 116, 97, 120])]))

/-- 'seepagelaw22.DendroTells': WHATEVER THE INPUT: true; the input reads as it did. -/
def dendroTellsSpec : ChangeSpec := { name := "dendroTells", fn := fun _ => fun
  | [d1, d2, d3, d4, d5] => { results := [.lit (.bool true)], args := [d1, d2, d3, d4, d5] }
  | _ => none }
def dendroTellsRow : OpenClaim := { program := "ythacjealoomioaagreatdoor", sum := "b657bfad075f4e9e5c6fbaa20fc93c5c53ec270aac6aa475468ff30b9f1d4b2b", func := "seepage/seepagelaw22.DendroTells", spec := "dendroTells", unfollowed := true, recurses := true, named := ["strconv.ErrSyntax", "strconv.ErrRange", "internal/strconv.uint64pow10", "math/bits.deBruijn32tab", "math/bits.deBruijn64tab"], apart := false, laid := [("math/bits.deBruijn32tab", laid_math_bits_deBruijn32tab), ("math/bits.deBruijn64tab", laid_math_bits_deBruijn64tab), ("internal/strconv.uint64pow10", laid_internal_strconv_uint64pow10), ("strconv.ErrRange", laid_strconv_ErrRange), ("strconv.ErrSyntax", laid_strconv_ErrSyntax)] }
def DendroTellsSaid : Prop := dendroTellsRow.holds Tryz.pinned (OpenSpec.ofChange dendroTellsSpec)

/-- ITS FALSE NEIGHBOUR: 'it returns false'. Refute it at one input. -/
def dendroTellsWrong : ChangeSpec := { name := "dendroTells", fn := fun _ => fun
  | [d1, d2, d3, d4, d5] => { results := [.lit (.bool false)], args := [d1, d2, d3, d4, d5] }
  | _ => none }
def DendroTellsWrongFalsely : Prop := dendroTellsRow.holds Tryz.pinned (OpenSpec.ofChange dendroTellsWrong)

/-- 'seepagelaw22.DendroChecks': WHATEVER THE INPUT: true; the input reads as it did. -/
def dendroChecksSpec : ChangeSpec := { name := "dendroChecks", fn := fun _ => fun
  | [d1, d2, d3, d4] => { results := [.lit (.bool true)], args := [d1, d2, d3, d4] }
  | _ => none }
def dendroChecksRow : OpenClaim := { program := "ythacjealoomioaagreatdoor", sum := "b657bfad075f4e9e5c6fbaa20fc93c5c53ec270aac6aa475468ff30b9f1d4b2b", func := "seepage/seepagelaw22.DendroChecks", spec := "dendroChecks", unfollowed := true, recurses := true, named := ["strconv.ErrSyntax", "strconv.ErrRange", "internal/strconv.uint64pow10", "math/bits.deBruijn32tab", "math/bits.deBruijn64tab"], apart := false, laid := [("math/bits.deBruijn32tab", laid_math_bits_deBruijn32tab), ("math/bits.deBruijn64tab", laid_math_bits_deBruijn64tab), ("internal/strconv.uint64pow10", laid_internal_strconv_uint64pow10), ("strconv.ErrRange", laid_strconv_ErrRange), ("strconv.ErrSyntax", laid_strconv_ErrSyntax)] }
def DendroChecksSaid : Prop := dendroChecksRow.holds Tryz.pinned (OpenSpec.ofChange dendroChecksSpec)

/-- ITS FALSE NEIGHBOUR: 'it returns false'. Refute it at one input. -/
def dendroChecksWrong : ChangeSpec := { name := "dendroChecks", fn := fun _ => fun
  | [d1, d2, d3, d4] => { results := [.lit (.bool false)], args := [d1, d2, d3, d4] }
  | _ => none }
def DendroChecksWrongFalsely : Prop := dendroChecksRow.holds Tryz.pinned (OpenSpec.ofChange dendroChecksWrong)

/-- 'seepagelaw22.DendroParses': WHATEVER THE INPUT: true; the input reads as it did. -/
def dendroParsesSpec : ChangeSpec := { name := "dendroParses", fn := fun _ => fun
  | [d] => { results := [.lit (.bool true)], args := [d] }
  | _ => none }
def dendroParsesRow : OpenClaim := { program := "ythacjealoomioaagreatdoor", sum := "b657bfad075f4e9e5c6fbaa20fc93c5c53ec270aac6aa475468ff30b9f1d4b2b", func := "seepage/seepagelaw22.DendroParses", spec := "dendroParses", unfollowed := true, recurses := true, named := ["strconv.ErrSyntax", "strconv.ErrRange", "internal/strconv.uint64pow10", "math/bits.deBruijn32tab", "math/bits.deBruijn64tab"], apart := false, laid := [("math/bits.deBruijn32tab", laid_math_bits_deBruijn32tab), ("math/bits.deBruijn64tab", laid_math_bits_deBruijn64tab), ("internal/strconv.uint64pow10", laid_internal_strconv_uint64pow10), ("strconv.ErrRange", laid_strconv_ErrRange), ("strconv.ErrSyntax", laid_strconv_ErrSyntax)] }
def DendroParsesSaid : Prop := dendroParsesRow.holds Tryz.pinned (OpenSpec.ofChange dendroParsesSpec)

/-- ITS FALSE NEIGHBOUR: 'it returns false'. Refute it at one input. -/
def dendroParsesWrong : ChangeSpec := { name := "dendroParses", fn := fun _ => fun
  | [d] => { results := [.lit (.bool false)], args := [d] }
  | _ => none }
def DendroParsesWrongFalsely : Prop := dendroParsesRow.holds Tryz.pinned (OpenSpec.ofChange dendroParsesWrong)

/-- 'seepagelaw22.DendroSame': WHATEVER THE INPUT: true; the input reads as it did. -/
def dendroSameSpec : ChangeSpec := { name := "dendroSame", fn := fun _ => fun
  | [d1, d2] => { results := [.lit (.bool true)], args := [d1, d2] }
  | _ => none }
def dendroSameRow : OpenClaim := { program := "ythacjealoomioaagreatdoor", sum := "b657bfad075f4e9e5c6fbaa20fc93c5c53ec270aac6aa475468ff30b9f1d4b2b", func := "seepage/seepagelaw22.DendroSame", spec := "dendroSame", unfollowed := true, recurses := true, named := ["strconv.ErrSyntax", "strconv.ErrRange", "internal/strconv.uint64pow10", "math/bits.deBruijn32tab", "math/bits.deBruijn64tab"], apart := false, laid := [("math/bits.deBruijn32tab", laid_math_bits_deBruijn32tab), ("math/bits.deBruijn64tab", laid_math_bits_deBruijn64tab), ("internal/strconv.uint64pow10", laid_internal_strconv_uint64pow10), ("strconv.ErrRange", laid_strconv_ErrRange), ("strconv.ErrSyntax", laid_strconv_ErrSyntax)] }
def DendroSameSaid : Prop := dendroSameRow.holds Tryz.pinned (OpenSpec.ofChange dendroSameSpec)

/-- ITS FALSE NEIGHBOUR: 'it returns false'. Refute it at one input. -/
def dendroSameWrong : ChangeSpec := { name := "dendroSame", fn := fun _ => fun
  | [d1, d2] => { results := [.lit (.bool false)], args := [d1, d2] }
  | _ => none }
def DendroSameWrongFalsely : Prop := dendroSameRow.holds Tryz.pinned (OpenSpec.ofChange dendroSameWrong)

/-- 'seepagelaw22.DendroGap': WHATEVER THE INPUT: true; the input reads as it did. -/
def dendroGapSpec : ChangeSpec := { name := "dendroGap", fn := fun _ => fun
  | [d1, d2] => { results := [.lit (.bool true)], args := [d1, d2] }
  | _ => none }
def dendroGapRow : OpenClaim := { program := "ythacjealoomioaagreatdoor", sum := "b657bfad075f4e9e5c6fbaa20fc93c5c53ec270aac6aa475468ff30b9f1d4b2b", func := "seepage/seepagelaw22.DendroGap", spec := "dendroGap", unfollowed := true, recurses := true, named := ["strconv.ErrSyntax", "strconv.ErrRange", "internal/strconv.uint64pow10", "math/bits.deBruijn32tab", "math/bits.deBruijn64tab"], apart := false, laid := [("math/bits.deBruijn32tab", laid_math_bits_deBruijn32tab), ("math/bits.deBruijn64tab", laid_math_bits_deBruijn64tab), ("internal/strconv.uint64pow10", laid_internal_strconv_uint64pow10), ("strconv.ErrRange", laid_strconv_ErrRange), ("strconv.ErrSyntax", laid_strconv_ErrSyntax)] }
def DendroGapSaid : Prop := dendroGapRow.holds Tryz.pinned (OpenSpec.ofChange dendroGapSpec)

/-- ITS FALSE NEIGHBOUR: 'it returns false'. Refute it at one input. -/
def dendroGapWrong : ChangeSpec := { name := "dendroGap", fn := fun _ => fun
  | [d1, d2] => { results := [.lit (.bool false)], args := [d1, d2] }
  | _ => none }
def DendroGapWrongFalsely : Prop := dendroGapRow.holds Tryz.pinned (OpenSpec.ofChange dendroGapWrong)

/-- 'seepagelaw22.DendroSpoilt': WHATEVER THE INPUT: true; the input reads as it did. -/
def dendroSpoiltSpec : ChangeSpec := { name := "dendroSpoilt", fn := fun _ => fun
  | [d1, d2, d3, d4, d5] => { results := [.lit (.bool true)], args := [d1, d2, d3, d4, d5] }
  | _ => none }
def dendroSpoiltRow : OpenClaim := { program := "ythacjealoomioaagreatdoor", sum := "b657bfad075f4e9e5c6fbaa20fc93c5c53ec270aac6aa475468ff30b9f1d4b2b", func := "seepage/seepagelaw22.DendroSpoilt", spec := "dendroSpoilt", unfollowed := true, recurses := true, named := ["internal/strconv.uint64pow10", "math/bits.deBruijn32tab", "math/bits.deBruijn64tab", "strconv.ErrSyntax", "strconv.ErrRange"], apart := false, laid := [("math/bits.deBruijn32tab", laid_math_bits_deBruijn32tab), ("math/bits.deBruijn64tab", laid_math_bits_deBruijn64tab), ("internal/strconv.uint64pow10", laid_internal_strconv_uint64pow10), ("strconv.ErrRange", laid_strconv_ErrRange), ("strconv.ErrSyntax", laid_strconv_ErrSyntax)] }
def DendroSpoiltSaid : Prop := dendroSpoiltRow.holds Tryz.pinned (OpenSpec.ofChange dendroSpoiltSpec)

/-- ITS FALSE NEIGHBOUR: 'it returns false'. Refute it at one input. -/
def dendroSpoiltWrong : ChangeSpec := { name := "dendroSpoilt", fn := fun _ => fun
  | [d1, d2, d3, d4, d5] => { results := [.lit (.bool false)], args := [d1, d2, d3, d4, d5] }
  | _ => none }
def DendroSpoiltWrongFalsely : Prop := dendroSpoiltRow.holds Tryz.pinned (OpenSpec.ofChange dendroSpoiltWrong)

/-- 'seepagelaw22.DendroBack': WHATEVER THE INPUT: true; the input reads as it did. -/
def dendroBackSpec : ChangeSpec := { name := "dendroBack", fn := fun _ => fun
  | [d1, d2] => { results := [.lit (.bool true)], args := [d1, d2] }
  | _ => none }
def dendroBackRow : OpenClaim := { program := "ythacjealoomioaagreatdoor", sum := "b657bfad075f4e9e5c6fbaa20fc93c5c53ec270aac6aa475468ff30b9f1d4b2b", func := "seepage/seepagelaw22.DendroBack", spec := "dendroBack", unfollowed := true, recurses := true, named := ["internal/strconv.uint64pow10", "math/bits.deBruijn32tab", "math/bits.deBruijn64tab", "strconv.ErrSyntax", "strconv.ErrRange"], apart := false, laid := [("math/bits.deBruijn32tab", laid_math_bits_deBruijn32tab), ("math/bits.deBruijn64tab", laid_math_bits_deBruijn64tab), ("internal/strconv.uint64pow10", laid_internal_strconv_uint64pow10), ("strconv.ErrRange", laid_strconv_ErrRange), ("strconv.ErrSyntax", laid_strconv_ErrSyntax)] }
def DendroBackSaid : Prop := dendroBackRow.holds Tryz.pinned (OpenSpec.ofChange dendroBackSpec)

/-- ITS FALSE NEIGHBOUR: 'it returns false'. Refute it at one input. -/
def dendroBackWrong : ChangeSpec := { name := "dendroBack", fn := fun _ => fun
  | [d1, d2] => { results := [.lit (.bool false)], args := [d1, d2] }
  | _ => none }
def DendroBackWrongFalsely : Prop := dendroBackRow.holds Tryz.pinned (OpenSpec.ofChange dendroBackWrong)

/-- 'seepagelaw22.DendroUltra': WHATEVER THE INPUT: true; the input reads as it did. -/
def dendroUltraSpec : ChangeSpec := { name := "dendroUltra", fn := fun _ => fun
  | [d1, d2, d3, d4, d5] => { results := [.lit (.bool true)], args := [d1, d2, d3, d4, d5] }
  | _ => none }
def dendroUltraRow : OpenClaim := { program := "ythacjealoomioaagreatdoor", sum := "b657bfad075f4e9e5c6fbaa20fc93c5c53ec270aac6aa475468ff30b9f1d4b2b", func := "seepage/seepagelaw22.DendroUltra", spec := "dendroUltra", unfollowed := true, recurses := true, named := ["math/bits.deBruijn32tab", "math/bits.deBruijn64tab", "strconv.ErrSyntax", "strconv.ErrRange", "internal/strconv.uint64pow10"], apart := false, laid := [("math/bits.deBruijn32tab", laid_math_bits_deBruijn32tab), ("math/bits.deBruijn64tab", laid_math_bits_deBruijn64tab), ("internal/strconv.uint64pow10", laid_internal_strconv_uint64pow10), ("strconv.ErrRange", laid_strconv_ErrRange), ("strconv.ErrSyntax", laid_strconv_ErrSyntax)] }
def DendroUltraSaid : Prop := dendroUltraRow.holds Tryz.pinned (OpenSpec.ofChange dendroUltraSpec)

/-- ITS FALSE NEIGHBOUR: 'it returns false'. Refute it at one input. -/
def dendroUltraWrong : ChangeSpec := { name := "dendroUltra", fn := fun _ => fun
  | [d1, d2, d3, d4, d5] => { results := [.lit (.bool false)], args := [d1, d2, d3, d4, d5] }
  | _ => none }
def DendroUltraWrongFalsely : Prop := dendroUltraRow.holds Tryz.pinned (OpenSpec.ofChange dendroUltraWrong)

/-- 'seepagelaw22.DendroMerges': WHATEVER THE INPUT: true; the input reads as it did. -/
def dendroMergesSpec : ChangeSpec := { name := "dendroMerges", fn := fun _ => fun
  | [d1, d2, d3] => { results := [.lit (.bool true)], args := [d1, d2, d3] }
  | _ => none }
def dendroMergesRow : OpenClaim := { program := "ythacjealoomioaagreatdoor", sum := "b657bfad075f4e9e5c6fbaa20fc93c5c53ec270aac6aa475468ff30b9f1d4b2b", func := "seepage/seepagelaw22.DendroMerges", spec := "dendroMerges", unfollowed := true, recurses := true, named := ["strconv.ErrSyntax", "strconv.ErrRange", "internal/strconv.uint64pow10", "math/bits.deBruijn32tab", "math/bits.deBruijn64tab"], apart := false, laid := [("math/bits.deBruijn32tab", laid_math_bits_deBruijn32tab), ("math/bits.deBruijn64tab", laid_math_bits_deBruijn64tab), ("internal/strconv.uint64pow10", laid_internal_strconv_uint64pow10), ("strconv.ErrRange", laid_strconv_ErrRange), ("strconv.ErrSyntax", laid_strconv_ErrSyntax)] }
def DendroMergesSaid : Prop := dendroMergesRow.holds Tryz.pinned (OpenSpec.ofChange dendroMergesSpec)

/-- ITS FALSE NEIGHBOUR: 'it returns false'. Refute it at one input. -/
def dendroMergesWrong : ChangeSpec := { name := "dendroMerges", fn := fun _ => fun
  | [d1, d2, d3] => { results := [.lit (.bool false)], args := [d1, d2, d3] }
  | _ => none }
def DendroMergesWrongFalsely : Prop := dendroMergesRow.holds Tryz.pinned (OpenSpec.ofChange dendroMergesWrong)

/-- 'seepagelaw22.DendroCuts': WHATEVER THE INPUT: true; the input reads as it did. -/
def dendroCutsSpec : ChangeSpec := { name := "dendroCuts", fn := fun _ => fun
  | [d1, d2, d3] => { results := [.lit (.bool true)], args := [d1, d2, d3] }
  | _ => none }
def dendroCutsRow : OpenClaim := { program := "ythacjealoomioaagreatdoor", sum := "b657bfad075f4e9e5c6fbaa20fc93c5c53ec270aac6aa475468ff30b9f1d4b2b", func := "seepage/seepagelaw22.DendroCuts", spec := "dendroCuts", unfollowed := true, recurses := true, named := ["strconv.ErrSyntax", "strconv.ErrRange", "internal/strconv.uint64pow10", "math/bits.deBruijn32tab", "math/bits.deBruijn64tab"], apart := false, laid := [("math/bits.deBruijn32tab", laid_math_bits_deBruijn32tab), ("math/bits.deBruijn64tab", laid_math_bits_deBruijn64tab), ("internal/strconv.uint64pow10", laid_internal_strconv_uint64pow10), ("strconv.ErrRange", laid_strconv_ErrRange), ("strconv.ErrSyntax", laid_strconv_ErrSyntax)] }
def DendroCutsSaid : Prop := dendroCutsRow.holds Tryz.pinned (OpenSpec.ofChange dendroCutsSpec)

/-- ITS FALSE NEIGHBOUR: 'it returns false'. Refute it at one input. -/
def dendroCutsWrong : ChangeSpec := { name := "dendroCuts", fn := fun _ => fun
  | [d1, d2, d3] => { results := [.lit (.bool false)], args := [d1, d2, d3] }
  | _ => none }
def DendroCutsWrongFalsely : Prop := dendroCutsRow.holds Tryz.pinned (OpenSpec.ofChange dendroCutsWrong)

/- THE SECOND FORM. 'bulk': how many values and letters a reading holds, each counted each time it is reached (what is shared counts as often as it is met; a slice's spare places count too). A statement '..UptoSaid' is the law's where the arguments, and the package variables that the reading takes, are together of bulk at most 1048576: NARROWER than '..Said'. Prove '..Said' where nothing that the law and all that it calls make is longer than what came in: it says more and counts as full. Else prove '..UptoSaid'. A law counts once. -/
mutual
def uptoBulk {H : Type} : DataW H → Nat
  | .lit (.string bytes) => bytes.length + 1
  | .lit _ => 1
  | .nil => 1
  | .ptr d => uptoBulk d + 1
  | .slice elems spare => uptoBulkAll elems + uptoBulkAll spare + 1
  | .agg parts => uptoBulkAll parts + 1
  | .iface _ d => uptoBulk d + 1
  | .map entries => uptoBulkEntries entries + 1
  | .held _ => 1
def uptoBulkAll {H : Type} : List (DataW H) → Nat
  | [] => 0
  | d :: r => uptoBulk d + uptoBulkAll r
def uptoBulkEntries {H : Type} : List (Lit × DataW H) → Nat
  | [] => 0
  | x :: r => uptoBulkEntry x + uptoBulkEntries r
def uptoBulkEntry {H : Type} : Lit × DataW H → Nat
  | (.string bytes, d) => bytes.length + uptoBulk d + 1
  | (_, d) => uptoBulk d + 1
 end
def uptoSmall : (H : Type) → List (DataW H) → Bool := fun _ ds => decide (uptoBulkAll ds ≤ 1048576)
def OpenSpec.upto (s : _root_.Go.ChangeSpec) : _root_.Go.OpenSpec := { _root_.Go.OpenSpec.ofChange s with cond := some uptoSmall }

/-- 'seepagelaw22.DendroTells', WHERE WHAT IT READS IS OF BULK AT MOST 1048576: true; the input reads as it did. -/
def dendroTellsUptoRow : OpenClaim := { program := "ythacjealoomioaagreatdoor", sum := "b657bfad075f4e9e5c6fbaa20fc93c5c53ec270aac6aa475468ff30b9f1d4b2b", func := "seepage/seepagelaw22.DendroTells", spec := "dendroTells", unfollowed := true, recurses := true, named := ["strconv.ErrSyntax", "strconv.ErrRange", "internal/strconv.uint64pow10", "math/bits.deBruijn32tab", "math/bits.deBruijn64tab"], apart := false, laid := [("math/bits.deBruijn32tab", laid_math_bits_deBruijn32tab), ("math/bits.deBruijn64tab", laid_math_bits_deBruijn64tab), ("internal/strconv.uint64pow10", laid_internal_strconv_uint64pow10), ("strconv.ErrRange", laid_strconv_ErrRange), ("strconv.ErrSyntax", laid_strconv_ErrSyntax)], narrowed := true }
def DendroTellsUptoSaid : Prop := dendroTellsUptoRow.holds Tryz.pinned (OpenSpec.upto dendroTellsSpec)

/-- 'seepagelaw22.DendroChecks', WHERE WHAT IT READS IS OF BULK AT MOST 1048576: true; the input reads as it did. -/
def dendroChecksUptoRow : OpenClaim := { program := "ythacjealoomioaagreatdoor", sum := "b657bfad075f4e9e5c6fbaa20fc93c5c53ec270aac6aa475468ff30b9f1d4b2b", func := "seepage/seepagelaw22.DendroChecks", spec := "dendroChecks", unfollowed := true, recurses := true, named := ["strconv.ErrSyntax", "strconv.ErrRange", "internal/strconv.uint64pow10", "math/bits.deBruijn32tab", "math/bits.deBruijn64tab"], apart := false, laid := [("math/bits.deBruijn32tab", laid_math_bits_deBruijn32tab), ("math/bits.deBruijn64tab", laid_math_bits_deBruijn64tab), ("internal/strconv.uint64pow10", laid_internal_strconv_uint64pow10), ("strconv.ErrRange", laid_strconv_ErrRange), ("strconv.ErrSyntax", laid_strconv_ErrSyntax)], narrowed := true }
def DendroChecksUptoSaid : Prop := dendroChecksUptoRow.holds Tryz.pinned (OpenSpec.upto dendroChecksSpec)

/-- 'seepagelaw22.DendroParses', WHERE WHAT IT READS IS OF BULK AT MOST 1048576: true; the input reads as it did. -/
def dendroParsesUptoRow : OpenClaim := { program := "ythacjealoomioaagreatdoor", sum := "b657bfad075f4e9e5c6fbaa20fc93c5c53ec270aac6aa475468ff30b9f1d4b2b", func := "seepage/seepagelaw22.DendroParses", spec := "dendroParses", unfollowed := true, recurses := true, named := ["strconv.ErrSyntax", "strconv.ErrRange", "internal/strconv.uint64pow10", "math/bits.deBruijn32tab", "math/bits.deBruijn64tab"], apart := false, laid := [("math/bits.deBruijn32tab", laid_math_bits_deBruijn32tab), ("math/bits.deBruijn64tab", laid_math_bits_deBruijn64tab), ("internal/strconv.uint64pow10", laid_internal_strconv_uint64pow10), ("strconv.ErrRange", laid_strconv_ErrRange), ("strconv.ErrSyntax", laid_strconv_ErrSyntax)], narrowed := true }
def DendroParsesUptoSaid : Prop := dendroParsesUptoRow.holds Tryz.pinned (OpenSpec.upto dendroParsesSpec)

/-- 'seepagelaw22.DendroSame', WHERE WHAT IT READS IS OF BULK AT MOST 1048576: true; the input reads as it did. -/
def dendroSameUptoRow : OpenClaim := { program := "ythacjealoomioaagreatdoor", sum := "b657bfad075f4e9e5c6fbaa20fc93c5c53ec270aac6aa475468ff30b9f1d4b2b", func := "seepage/seepagelaw22.DendroSame", spec := "dendroSame", unfollowed := true, recurses := true, named := ["strconv.ErrSyntax", "strconv.ErrRange", "internal/strconv.uint64pow10", "math/bits.deBruijn32tab", "math/bits.deBruijn64tab"], apart := false, laid := [("math/bits.deBruijn32tab", laid_math_bits_deBruijn32tab), ("math/bits.deBruijn64tab", laid_math_bits_deBruijn64tab), ("internal/strconv.uint64pow10", laid_internal_strconv_uint64pow10), ("strconv.ErrRange", laid_strconv_ErrRange), ("strconv.ErrSyntax", laid_strconv_ErrSyntax)], narrowed := true }
def DendroSameUptoSaid : Prop := dendroSameUptoRow.holds Tryz.pinned (OpenSpec.upto dendroSameSpec)

/-- 'seepagelaw22.DendroGap', WHERE WHAT IT READS IS OF BULK AT MOST 1048576: true; the input reads as it did. -/
def dendroGapUptoRow : OpenClaim := { program := "ythacjealoomioaagreatdoor", sum := "b657bfad075f4e9e5c6fbaa20fc93c5c53ec270aac6aa475468ff30b9f1d4b2b", func := "seepage/seepagelaw22.DendroGap", spec := "dendroGap", unfollowed := true, recurses := true, named := ["strconv.ErrSyntax", "strconv.ErrRange", "internal/strconv.uint64pow10", "math/bits.deBruijn32tab", "math/bits.deBruijn64tab"], apart := false, laid := [("math/bits.deBruijn32tab", laid_math_bits_deBruijn32tab), ("math/bits.deBruijn64tab", laid_math_bits_deBruijn64tab), ("internal/strconv.uint64pow10", laid_internal_strconv_uint64pow10), ("strconv.ErrRange", laid_strconv_ErrRange), ("strconv.ErrSyntax", laid_strconv_ErrSyntax)], narrowed := true }
def DendroGapUptoSaid : Prop := dendroGapUptoRow.holds Tryz.pinned (OpenSpec.upto dendroGapSpec)

/-- 'seepagelaw22.DendroSpoilt', WHERE WHAT IT READS IS OF BULK AT MOST 1048576: true; the input reads as it did. -/
def dendroSpoiltUptoRow : OpenClaim := { program := "ythacjealoomioaagreatdoor", sum := "b657bfad075f4e9e5c6fbaa20fc93c5c53ec270aac6aa475468ff30b9f1d4b2b", func := "seepage/seepagelaw22.DendroSpoilt", spec := "dendroSpoilt", unfollowed := true, recurses := true, named := ["internal/strconv.uint64pow10", "math/bits.deBruijn32tab", "math/bits.deBruijn64tab", "strconv.ErrSyntax", "strconv.ErrRange"], apart := false, laid := [("math/bits.deBruijn32tab", laid_math_bits_deBruijn32tab), ("math/bits.deBruijn64tab", laid_math_bits_deBruijn64tab), ("internal/strconv.uint64pow10", laid_internal_strconv_uint64pow10), ("strconv.ErrRange", laid_strconv_ErrRange), ("strconv.ErrSyntax", laid_strconv_ErrSyntax)], narrowed := true }
def DendroSpoiltUptoSaid : Prop := dendroSpoiltUptoRow.holds Tryz.pinned (OpenSpec.upto dendroSpoiltSpec)

/-- 'seepagelaw22.DendroBack', WHERE WHAT IT READS IS OF BULK AT MOST 1048576: true; the input reads as it did. -/
def dendroBackUptoRow : OpenClaim := { program := "ythacjealoomioaagreatdoor", sum := "b657bfad075f4e9e5c6fbaa20fc93c5c53ec270aac6aa475468ff30b9f1d4b2b", func := "seepage/seepagelaw22.DendroBack", spec := "dendroBack", unfollowed := true, recurses := true, named := ["internal/strconv.uint64pow10", "math/bits.deBruijn32tab", "math/bits.deBruijn64tab", "strconv.ErrSyntax", "strconv.ErrRange"], apart := false, laid := [("math/bits.deBruijn32tab", laid_math_bits_deBruijn32tab), ("math/bits.deBruijn64tab", laid_math_bits_deBruijn64tab), ("internal/strconv.uint64pow10", laid_internal_strconv_uint64pow10), ("strconv.ErrRange", laid_strconv_ErrRange), ("strconv.ErrSyntax", laid_strconv_ErrSyntax)], narrowed := true }
def DendroBackUptoSaid : Prop := dendroBackUptoRow.holds Tryz.pinned (OpenSpec.upto dendroBackSpec)

/-- 'seepagelaw22.DendroUltra', WHERE WHAT IT READS IS OF BULK AT MOST 1048576: true; the input reads as it did. -/
def dendroUltraUptoRow : OpenClaim := { program := "ythacjealoomioaagreatdoor", sum := "b657bfad075f4e9e5c6fbaa20fc93c5c53ec270aac6aa475468ff30b9f1d4b2b", func := "seepage/seepagelaw22.DendroUltra", spec := "dendroUltra", unfollowed := true, recurses := true, named := ["math/bits.deBruijn32tab", "math/bits.deBruijn64tab", "strconv.ErrSyntax", "strconv.ErrRange", "internal/strconv.uint64pow10"], apart := false, laid := [("math/bits.deBruijn32tab", laid_math_bits_deBruijn32tab), ("math/bits.deBruijn64tab", laid_math_bits_deBruijn64tab), ("internal/strconv.uint64pow10", laid_internal_strconv_uint64pow10), ("strconv.ErrRange", laid_strconv_ErrRange), ("strconv.ErrSyntax", laid_strconv_ErrSyntax)], narrowed := true }
def DendroUltraUptoSaid : Prop := dendroUltraUptoRow.holds Tryz.pinned (OpenSpec.upto dendroUltraSpec)

/-- 'seepagelaw22.DendroMerges', WHERE WHAT IT READS IS OF BULK AT MOST 1048576: true; the input reads as it did. -/
def dendroMergesUptoRow : OpenClaim := { program := "ythacjealoomioaagreatdoor", sum := "b657bfad075f4e9e5c6fbaa20fc93c5c53ec270aac6aa475468ff30b9f1d4b2b", func := "seepage/seepagelaw22.DendroMerges", spec := "dendroMerges", unfollowed := true, recurses := true, named := ["strconv.ErrSyntax", "strconv.ErrRange", "internal/strconv.uint64pow10", "math/bits.deBruijn32tab", "math/bits.deBruijn64tab"], apart := false, laid := [("math/bits.deBruijn32tab", laid_math_bits_deBruijn32tab), ("math/bits.deBruijn64tab", laid_math_bits_deBruijn64tab), ("internal/strconv.uint64pow10", laid_internal_strconv_uint64pow10), ("strconv.ErrRange", laid_strconv_ErrRange), ("strconv.ErrSyntax", laid_strconv_ErrSyntax)], narrowed := true }
def DendroMergesUptoSaid : Prop := dendroMergesUptoRow.holds Tryz.pinned (OpenSpec.upto dendroMergesSpec)

/-- 'seepagelaw22.DendroCuts', WHERE WHAT IT READS IS OF BULK AT MOST 1048576: true; the input reads as it did. -/
def dendroCutsUptoRow : OpenClaim := { program := "ythacjealoomioaagreatdoor", sum := "b657bfad075f4e9e5c6fbaa20fc93c5c53ec270aac6aa475468ff30b9f1d4b2b", func := "seepage/seepagelaw22.DendroCuts", spec := "dendroCuts", unfollowed := true, recurses := true, named := ["strconv.ErrSyntax", "strconv.ErrRange", "internal/strconv.uint64pow10", "math/bits.deBruijn32tab", "math/bits.deBruijn64tab"], apart := false, laid := [("math/bits.deBruijn32tab", laid_math_bits_deBruijn32tab), ("math/bits.deBruijn64tab", laid_math_bits_deBruijn64tab), ("internal/strconv.uint64pow10", laid_internal_strconv_uint64pow10), ("strconv.ErrRange", laid_strconv_ErrRange), ("strconv.ErrSyntax", laid_strconv_ErrSyntax)], narrowed := true }
def DendroCutsUptoSaid : Prop := dendroCutsUptoRow.holds Tryz.pinned (OpenSpec.upto dendroCutsSpec)

end Rows
end Go.Proofs.YthacjealoomioaaGreatDoor
