/-
  NARROWER THAN 'FOR EVERY INPUT', by the rows' own cells (each row's printed sentence says how): MinimaxNews: laid · MinimaxPaths: laid · MinimaxUltra: laid · MinimaxWeights: laid · MinimaxPairs: laid · MinimaxDistances: laid · MinimaxThresholds: laid · MinimaxCounts: laid · MinimaxFar: laid · MinimaxNil: laid.
  DERIVED. THE GIVEN ROWS OF THIS SEAT. 10 by the template 'for every input the law returns true; each argument reads behind the call as it read before'; 0 by the template 'total and deterministic' (their statements: YtenhbfbfkcjimaaDoorTotals.lean).
  GIVEN WITH THE SEED: the statements are not yours to turn. If you find one false, say at which input.
  Laid BY PROGRAM, IN A SANDBOX (cutbox-rows.mjs): the forced cells as the released guide's own fill.sh prints them over the translation dbce7380600532eb… (all of the seat's roots in one cut). By AI agents, Wed Nov 11 2026. No macro, syntax, notation, axiom, sorry.
-/
import Derived.Test.YtenhbfbfkcjimaaDoorChecked
import GoSem.Claim
import GoSem.ClaimJoined
import GoSem.ClaimMapViews
import Derived.JoinedTies
import Derived.KernelRfl
namespace Go.Proofs.YtenhbfbfkcjimaaDoor
/- THE CELL 'sum', in the pinned program and in every row, IS THE sha256 OF THE DUMP (.gsa) THAT YtenhbfbfkcjimaaDoorProg.lean LOADS. Nothing in Lean hashes anything: it is a label: what it is worth is what the hold of that sum in a sandbox is worth. -/
noncomputable def Tryd.pinned : Pinned := { name := "ytenhbfbfkcjimaadoor", sum := "dbce7380600532eb3a5b98fc4f438f69300773e4633cfdd3c93a96a969bf95e8", checked := Tryd.checked }
namespace Rows
def none {H : Type} : Left H := { results := [], args := [] }

/- WHAT THE LISTED PACKAGE-LEVEL VARIABLES READ AS WHEN THE CALL BEGINS. Each datum BY PROGRAM (the guide's laid-datum.mjs) off the statement by which the dump's own 'gosem.cut.vars' lays the variable. In a bare row this is a premise. The card (YtenhbfbfkcjimaaDoorCards.lean) ties it to the program's text. -/
def laid_math_bits_deBruijn32tab {H : Type} : DataW H := .agg [.lit (.int .u8 0), .lit (.int .u8 1), .lit (.int .u8 28), .lit (.int .u8 2), .lit (.int .u8 29), .lit (.int .u8 14), .lit (.int .u8 24), .lit (.int .u8 3), .lit (.int .u8 30), .lit (.int .u8 22), .lit (.int .u8 20), .lit (.int .u8 15), .lit (.int .u8 25), .lit (.int .u8 17), .lit (.int .u8 4), .lit (.int .u8 8), .lit (.int .u8 31), .lit (.int .u8 27), .lit (.int .u8 13), .lit (.int .u8 23), .lit (.int .u8 21), .lit (.int .u8 19), .lit (.int .u8 16), .lit (.int .u8 7), .lit (.int .u8 26), .lit (.int .u8 12), .lit (.int .u8 18), .lit (.int .u8 6), .lit (.int .u8 11), .lit (.int .u8 5), .lit (.int .u8 10), .lit (.int .u8 9)]
def laid_math_bits_deBruijn64tab {H : Type} : DataW H := .agg [.lit (.int .u8 0), .lit (.int .u8 1), .lit (.int .u8 56), .lit (.int .u8 2), .lit (.int .u8 57), .lit (.int .u8 49), .lit (.int .u8 28), .lit (.int .u8 3), .lit (.int .u8 61), .lit (.int .u8 58), .lit (.int .u8 42), .lit (.int .u8 50), .lit (.int .u8 38), .lit (.int .u8 29), .lit (.int .u8 17), .lit (.int .u8 4), .lit (.int .u8 62), .lit (.int .u8 47), .lit (.int .u8 59), .lit (.int .u8 36), .lit (.int .u8 45), .lit (.int .u8 43), .lit (.int .u8 51), .lit (.int .u8 22), .lit (.int .u8 53), .lit (.int .u8 39), .lit (.int .u8 33), .lit (.int .u8 30), .lit (.int .u8 24), .lit (.int .u8 18), .lit (.int .u8 12), .lit (.int .u8 5), .lit (.int .u8 63), .lit (.int .u8 55), .lit (.int .u8 48), .lit (.int .u8 27), .lit (.int .u8 60), .lit (.int .u8 41), .lit (.int .u8 37), .lit (.int .u8 16), .lit (.int .u8 46), .lit (.int .u8 35), .lit (.int .u8 44), .lit (.int .u8 21), .lit (.int .u8 52), .lit (.int .u8 32), .lit (.int .u8 23), .lit (.int .u8 11), .lit (.int .u8 54), .lit (.int .u8 26), .lit (.int .u8 40), .lit (.int .u8 15), .lit (.int .u8 34), .lit (.int .u8 20), .lit (.int .u8 31), .lit (.int .u8 10), .lit (.int .u8 25), .lit (.int .u8 14), .lit (.int .u8 19), .lit (.int .u8 9), .lit (.int .u8 13), .lit (.int .u8 8), .lit (.int .u8 7), .lit (.int .u8 6)]

/-- 'seepagelaw20.MinimaxNews': WHATEVER THE INPUT: true; the input reads as it did. -/
def minimaxNewsSpec : ChangeSpec := { name := "minimaxNews", fn := fun _ => fun
  | [d1, d2] => { results := [.lit (.bool true)], args := [d1, d2] }
  | _ => none }
def minimaxNewsRow : OpenClaim := { program := "ytenhbfbfkcjimaadoor", sum := "dbce7380600532eb3a5b98fc4f438f69300773e4633cfdd3c93a96a969bf95e8", func := "seepage/seepagelaw20.MinimaxNews", spec := "minimaxNews", unfollowed := true, recurses := true, named := ["math/bits.deBruijn32tab", "math/bits.deBruijn64tab"], apart := false, laid := [("math/bits.deBruijn32tab", laid_math_bits_deBruijn32tab), ("math/bits.deBruijn64tab", laid_math_bits_deBruijn64tab)] }
def MinimaxNewsSaid : Prop := minimaxNewsRow.holds Tryd.pinned (OpenSpec.ofChange minimaxNewsSpec)

/-- ITS FALSE NEIGHBOUR: 'it returns false'. Refute it at one input. -/
def minimaxNewsWrong : ChangeSpec := { name := "minimaxNews", fn := fun _ => fun
  | [d1, d2] => { results := [.lit (.bool false)], args := [d1, d2] }
  | _ => none }
def MinimaxNewsWrongFalsely : Prop := minimaxNewsRow.holds Tryd.pinned (OpenSpec.ofChange minimaxNewsWrong)

/-- 'seepagelaw20.MinimaxPaths': WHATEVER THE INPUT: true; the input reads as it did. -/
def minimaxPathsSpec : ChangeSpec := { name := "minimaxPaths", fn := fun _ => fun
  | [d1, d2, d3] => { results := [.lit (.bool true)], args := [d1, d2, d3] }
  | _ => none }
def minimaxPathsRow : OpenClaim := { program := "ytenhbfbfkcjimaadoor", sum := "dbce7380600532eb3a5b98fc4f438f69300773e4633cfdd3c93a96a969bf95e8", func := "seepage/seepagelaw20.MinimaxPaths", spec := "minimaxPaths", unfollowed := true, recurses := true, named := ["math/bits.deBruijn32tab", "math/bits.deBruijn64tab"], apart := false, laid := [("math/bits.deBruijn32tab", laid_math_bits_deBruijn32tab), ("math/bits.deBruijn64tab", laid_math_bits_deBruijn64tab)] }
def MinimaxPathsSaid : Prop := minimaxPathsRow.holds Tryd.pinned (OpenSpec.ofChange minimaxPathsSpec)

/-- ITS FALSE NEIGHBOUR: 'it returns false'. Refute it at one input. -/
def minimaxPathsWrong : ChangeSpec := { name := "minimaxPaths", fn := fun _ => fun
  | [d1, d2, d3] => { results := [.lit (.bool false)], args := [d1, d2, d3] }
  | _ => none }
def MinimaxPathsWrongFalsely : Prop := minimaxPathsRow.holds Tryd.pinned (OpenSpec.ofChange minimaxPathsWrong)

/-- 'seepagelaw20.MinimaxUltra': WHATEVER THE INPUT: true; the input reads as it did. -/
def minimaxUltraSpec : ChangeSpec := { name := "minimaxUltra", fn := fun _ => fun
  | [d1, d2, d3] => { results := [.lit (.bool true)], args := [d1, d2, d3] }
  | _ => none }
def minimaxUltraRow : OpenClaim := { program := "ytenhbfbfkcjimaadoor", sum := "dbce7380600532eb3a5b98fc4f438f69300773e4633cfdd3c93a96a969bf95e8", func := "seepage/seepagelaw20.MinimaxUltra", spec := "minimaxUltra", unfollowed := true, recurses := true, named := ["math/bits.deBruijn32tab", "math/bits.deBruijn64tab"], apart := false, laid := [("math/bits.deBruijn32tab", laid_math_bits_deBruijn32tab), ("math/bits.deBruijn64tab", laid_math_bits_deBruijn64tab)] }
def MinimaxUltraSaid : Prop := minimaxUltraRow.holds Tryd.pinned (OpenSpec.ofChange minimaxUltraSpec)

/-- ITS FALSE NEIGHBOUR: 'it returns false'. Refute it at one input. -/
def minimaxUltraWrong : ChangeSpec := { name := "minimaxUltra", fn := fun _ => fun
  | [d1, d2, d3] => { results := [.lit (.bool false)], args := [d1, d2, d3] }
  | _ => none }
def MinimaxUltraWrongFalsely : Prop := minimaxUltraRow.holds Tryd.pinned (OpenSpec.ofChange minimaxUltraWrong)

/-- 'seepagelaw20.MinimaxWeights': WHATEVER THE INPUT: true; the input reads as it did. -/
def minimaxWeightsSpec : ChangeSpec := { name := "minimaxWeights", fn := fun _ => fun
  | [d1, d2, d3, d4] => { results := [.lit (.bool true)], args := [d1, d2, d3, d4] }
  | _ => none }
def minimaxWeightsRow : OpenClaim := { program := "ytenhbfbfkcjimaadoor", sum := "dbce7380600532eb3a5b98fc4f438f69300773e4633cfdd3c93a96a969bf95e8", func := "seepage/seepagelaw20.MinimaxWeights", spec := "minimaxWeights", unfollowed := true, recurses := true, named := ["math/bits.deBruijn32tab", "math/bits.deBruijn64tab"], apart := false, laid := [("math/bits.deBruijn32tab", laid_math_bits_deBruijn32tab), ("math/bits.deBruijn64tab", laid_math_bits_deBruijn64tab)] }
def MinimaxWeightsSaid : Prop := minimaxWeightsRow.holds Tryd.pinned (OpenSpec.ofChange minimaxWeightsSpec)

/-- ITS FALSE NEIGHBOUR: 'it returns false'. Refute it at one input. -/
def minimaxWeightsWrong : ChangeSpec := { name := "minimaxWeights", fn := fun _ => fun
  | [d1, d2, d3, d4] => { results := [.lit (.bool false)], args := [d1, d2, d3, d4] }
  | _ => none }
def MinimaxWeightsWrongFalsely : Prop := minimaxWeightsRow.holds Tryd.pinned (OpenSpec.ofChange minimaxWeightsWrong)

/-- 'seepagelaw20.MinimaxPairs': WHATEVER THE INPUT: true; the input reads as it did. -/
def minimaxPairsSpec : ChangeSpec := { name := "minimaxPairs", fn := fun _ => fun
  | [d1, d2, d3, d4] => { results := [.lit (.bool true)], args := [d1, d2, d3, d4] }
  | _ => none }
def minimaxPairsRow : OpenClaim := { program := "ytenhbfbfkcjimaadoor", sum := "dbce7380600532eb3a5b98fc4f438f69300773e4633cfdd3c93a96a969bf95e8", func := "seepage/seepagelaw20.MinimaxPairs", spec := "minimaxPairs", unfollowed := true, recurses := true, named := ["math/bits.deBruijn32tab", "math/bits.deBruijn64tab"], apart := false, laid := [("math/bits.deBruijn32tab", laid_math_bits_deBruijn32tab), ("math/bits.deBruijn64tab", laid_math_bits_deBruijn64tab)] }
def MinimaxPairsSaid : Prop := minimaxPairsRow.holds Tryd.pinned (OpenSpec.ofChange minimaxPairsSpec)

/-- ITS FALSE NEIGHBOUR: 'it returns false'. Refute it at one input. -/
def minimaxPairsWrong : ChangeSpec := { name := "minimaxPairs", fn := fun _ => fun
  | [d1, d2, d3, d4] => { results := [.lit (.bool false)], args := [d1, d2, d3, d4] }
  | _ => none }
def MinimaxPairsWrongFalsely : Prop := minimaxPairsRow.holds Tryd.pinned (OpenSpec.ofChange minimaxPairsWrong)

/-- 'seepagelaw20.MinimaxDistances': WHATEVER THE INPUT: true; the input reads as it did. -/
def minimaxDistancesSpec : ChangeSpec := { name := "minimaxDistances", fn := fun _ => fun
  | [d1, d2, d3] => { results := [.lit (.bool true)], args := [d1, d2, d3] }
  | _ => none }
def minimaxDistancesRow : OpenClaim := { program := "ytenhbfbfkcjimaadoor", sum := "dbce7380600532eb3a5b98fc4f438f69300773e4633cfdd3c93a96a969bf95e8", func := "seepage/seepagelaw20.MinimaxDistances", spec := "minimaxDistances", unfollowed := true, recurses := true, named := ["math/bits.deBruijn32tab", "math/bits.deBruijn64tab"], apart := false, laid := [("math/bits.deBruijn32tab", laid_math_bits_deBruijn32tab), ("math/bits.deBruijn64tab", laid_math_bits_deBruijn64tab)] }
def MinimaxDistancesSaid : Prop := minimaxDistancesRow.holds Tryd.pinned (OpenSpec.ofChange minimaxDistancesSpec)

/-- ITS FALSE NEIGHBOUR: 'it returns false'. Refute it at one input. -/
def minimaxDistancesWrong : ChangeSpec := { name := "minimaxDistances", fn := fun _ => fun
  | [d1, d2, d3] => { results := [.lit (.bool false)], args := [d1, d2, d3] }
  | _ => none }
def MinimaxDistancesWrongFalsely : Prop := minimaxDistancesRow.holds Tryd.pinned (OpenSpec.ofChange minimaxDistancesWrong)

/-- 'seepagelaw20.MinimaxThresholds': WHATEVER THE INPUT: true; the input reads as it did. -/
def minimaxThresholdsSpec : ChangeSpec := { name := "minimaxThresholds", fn := fun _ => fun
  | [d1, d2, d3] => { results := [.lit (.bool true)], args := [d1, d2, d3] }
  | _ => none }
def minimaxThresholdsRow : OpenClaim := { program := "ytenhbfbfkcjimaadoor", sum := "dbce7380600532eb3a5b98fc4f438f69300773e4633cfdd3c93a96a969bf95e8", func := "seepage/seepagelaw20.MinimaxThresholds", spec := "minimaxThresholds", unfollowed := true, recurses := true, named := ["math/bits.deBruijn32tab", "math/bits.deBruijn64tab"], apart := false, laid := [("math/bits.deBruijn32tab", laid_math_bits_deBruijn32tab), ("math/bits.deBruijn64tab", laid_math_bits_deBruijn64tab)] }
def MinimaxThresholdsSaid : Prop := minimaxThresholdsRow.holds Tryd.pinned (OpenSpec.ofChange minimaxThresholdsSpec)

/-- ITS FALSE NEIGHBOUR: 'it returns false'. Refute it at one input. -/
def minimaxThresholdsWrong : ChangeSpec := { name := "minimaxThresholds", fn := fun _ => fun
  | [d1, d2, d3] => { results := [.lit (.bool false)], args := [d1, d2, d3] }
  | _ => none }
def MinimaxThresholdsWrongFalsely : Prop := minimaxThresholdsRow.holds Tryd.pinned (OpenSpec.ofChange minimaxThresholdsWrong)

/-- 'seepagelaw20.MinimaxCounts': WHATEVER THE INPUT: true; the input reads as it did. -/
def minimaxCountsSpec : ChangeSpec := { name := "minimaxCounts", fn := fun _ => fun
  | [d1, d2, d3] => { results := [.lit (.bool true)], args := [d1, d2, d3] }
  | _ => none }
def minimaxCountsRow : OpenClaim := { program := "ytenhbfbfkcjimaadoor", sum := "dbce7380600532eb3a5b98fc4f438f69300773e4633cfdd3c93a96a969bf95e8", func := "seepage/seepagelaw20.MinimaxCounts", spec := "minimaxCounts", unfollowed := true, recurses := true, named := ["math/bits.deBruijn32tab", "math/bits.deBruijn64tab"], apart := false, laid := [("math/bits.deBruijn32tab", laid_math_bits_deBruijn32tab), ("math/bits.deBruijn64tab", laid_math_bits_deBruijn64tab)] }
def MinimaxCountsSaid : Prop := minimaxCountsRow.holds Tryd.pinned (OpenSpec.ofChange minimaxCountsSpec)

/-- ITS FALSE NEIGHBOUR: 'it returns false'. Refute it at one input. -/
def minimaxCountsWrong : ChangeSpec := { name := "minimaxCounts", fn := fun _ => fun
  | [d1, d2, d3] => { results := [.lit (.bool false)], args := [d1, d2, d3] }
  | _ => none }
def MinimaxCountsWrongFalsely : Prop := minimaxCountsRow.holds Tryd.pinned (OpenSpec.ofChange minimaxCountsWrong)

/-- 'seepagelaw20.MinimaxFar': WHATEVER THE INPUT: true; the input reads as it did. -/
def minimaxFarSpec : ChangeSpec := { name := "minimaxFar", fn := fun _ => fun
  | [d1, d2, d3] => { results := [.lit (.bool true)], args := [d1, d2, d3] }
  | _ => none }
def minimaxFarRow : OpenClaim := { program := "ytenhbfbfkcjimaadoor", sum := "dbce7380600532eb3a5b98fc4f438f69300773e4633cfdd3c93a96a969bf95e8", func := "seepage/seepagelaw20.MinimaxFar", spec := "minimaxFar", unfollowed := true, recurses := true, named := ["math/bits.deBruijn32tab", "math/bits.deBruijn64tab"], apart := false, laid := [("math/bits.deBruijn32tab", laid_math_bits_deBruijn32tab), ("math/bits.deBruijn64tab", laid_math_bits_deBruijn64tab)] }
def MinimaxFarSaid : Prop := minimaxFarRow.holds Tryd.pinned (OpenSpec.ofChange minimaxFarSpec)

/-- ITS FALSE NEIGHBOUR: 'it returns false'. Refute it at one input. -/
def minimaxFarWrong : ChangeSpec := { name := "minimaxFar", fn := fun _ => fun
  | [d1, d2, d3] => { results := [.lit (.bool false)], args := [d1, d2, d3] }
  | _ => none }
def MinimaxFarWrongFalsely : Prop := minimaxFarRow.holds Tryd.pinned (OpenSpec.ofChange minimaxFarWrong)

/-- 'seepagelaw20.MinimaxNil': WHATEVER THE INPUT: true; the input reads as it did. -/
def minimaxNilSpec : ChangeSpec := { name := "minimaxNil", fn := fun _ => fun
  | [d] => { results := [.lit (.bool true)], args := [d] }
  | _ => none }
def minimaxNilRow : OpenClaim := { program := "ytenhbfbfkcjimaadoor", sum := "dbce7380600532eb3a5b98fc4f438f69300773e4633cfdd3c93a96a969bf95e8", func := "seepage/seepagelaw20.MinimaxNil", spec := "minimaxNil", unfollowed := true, recurses := true, named := ["math/bits.deBruijn32tab", "math/bits.deBruijn64tab"], apart := false, laid := [("math/bits.deBruijn32tab", laid_math_bits_deBruijn32tab), ("math/bits.deBruijn64tab", laid_math_bits_deBruijn64tab)] }
def MinimaxNilSaid : Prop := minimaxNilRow.holds Tryd.pinned (OpenSpec.ofChange minimaxNilSpec)

/-- ITS FALSE NEIGHBOUR: 'it returns false'. Refute it at one input. -/
def minimaxNilWrong : ChangeSpec := { name := "minimaxNil", fn := fun _ => fun
  | [d] => { results := [.lit (.bool false)], args := [d] }
  | _ => none }
def MinimaxNilWrongFalsely : Prop := minimaxNilRow.holds Tryd.pinned (OpenSpec.ofChange minimaxNilWrong)

/- THE SECOND FORM. 'bulk': how many values and letters a reading holds, each counted each time it is reached (what is shared counts as often as it is met; a slice's spare places count too). A statement '..UptoSaid' is the law's where the arguments, and the package variables that the reading takes, are together of bulk at most 1048576: NARROWER than '..Said'. Prove '..Said' where nothing that the law and all that it calls make is longer than what came in: it says more and counts as full. Else prove '..UptoSaid'. A law counts once. -/
mutual
def uptoBulk {H : Type} : DataW H → Nat
  | .lit (.string bytes) => bytes.length + 1
  | .lit _ => 1
  | .nil => 1
  | .ptr d => uptoBulk d + 1
  | .slice elems spare => uptoBulkAll elems + uptoBulkAll spare + 1
  | .agg parts => uptoBulkAll parts + 1
  | .iface _ d => uptoBulk d + 1
  | .map entries => uptoBulkEntries entries + 1
  | .held _ => 1
def uptoBulkAll {H : Type} : List (DataW H) → Nat
  | [] => 0
  | d :: r => uptoBulk d + uptoBulkAll r
def uptoBulkEntries {H : Type} : List (Lit × DataW H) → Nat
  | [] => 0
  | x :: r => uptoBulkEntry x + uptoBulkEntries r
def uptoBulkEntry {H : Type} : Lit × DataW H → Nat
  | (.string bytes, d) => bytes.length + uptoBulk d + 1
  | (_, d) => uptoBulk d + 1
 end
def uptoSmall : (H : Type) → List (DataW H) → Bool := fun _ ds => decide (uptoBulkAll ds ≤ 1048576)
def OpenSpec.upto (s : _root_.Go.ChangeSpec) : _root_.Go.OpenSpec := { _root_.Go.OpenSpec.ofChange s with cond := some uptoSmall }

/-- 'seepagelaw20.MinimaxNews', WHERE WHAT IT READS IS OF BULK AT MOST 1048576: true; the input reads as it did. -/
def minimaxNewsUptoRow : OpenClaim := { program := "ytenhbfbfkcjimaadoor", sum := "dbce7380600532eb3a5b98fc4f438f69300773e4633cfdd3c93a96a969bf95e8", func := "seepage/seepagelaw20.MinimaxNews", spec := "minimaxNews", unfollowed := true, recurses := true, named := ["math/bits.deBruijn32tab", "math/bits.deBruijn64tab"], apart := false, laid := [("math/bits.deBruijn32tab", laid_math_bits_deBruijn32tab), ("math/bits.deBruijn64tab", laid_math_bits_deBruijn64tab)], narrowed := true }
def MinimaxNewsUptoSaid : Prop := minimaxNewsUptoRow.holds Tryd.pinned (OpenSpec.upto minimaxNewsSpec)

/-- 'seepagelaw20.MinimaxPaths', WHERE WHAT IT READS IS OF BULK AT MOST 1048576: true; the input reads as it did. -/
def minimaxPathsUptoRow : OpenClaim := { program := "ytenhbfbfkcjimaadoor", sum := "dbce7380600532eb3a5b98fc4f438f69300773e4633cfdd3c93a96a969bf95e8", func := "seepage/seepagelaw20.MinimaxPaths", spec := "minimaxPaths", unfollowed := true, recurses := true, named := ["math/bits.deBruijn32tab", "math/bits.deBruijn64tab"], apart := false, laid := [("math/bits.deBruijn32tab", laid_math_bits_deBruijn32tab), ("math/bits.deBruijn64tab", laid_math_bits_deBruijn64tab)], narrowed := true }
def MinimaxPathsUptoSaid : Prop := minimaxPathsUptoRow.holds Tryd.pinned (OpenSpec.upto minimaxPathsSpec)

/-- 'seepagelaw20.MinimaxUltra', WHERE WHAT IT READS IS OF BULK AT MOST 1048576: true; the input reads as it did. -/
def minimaxUltraUptoRow : OpenClaim := { program := "ytenhbfbfkcjimaadoor", sum := "dbce7380600532eb3a5b98fc4f438f69300773e4633cfdd3c93a96a969bf95e8", func := "seepage/seepagelaw20.MinimaxUltra", spec := "minimaxUltra", unfollowed := true, recurses := true, named := ["math/bits.deBruijn32tab", "math/bits.deBruijn64tab"], apart := false, laid := [("math/bits.deBruijn32tab", laid_math_bits_deBruijn32tab), ("math/bits.deBruijn64tab", laid_math_bits_deBruijn64tab)], narrowed := true }
def MinimaxUltraUptoSaid : Prop := minimaxUltraUptoRow.holds Tryd.pinned (OpenSpec.upto minimaxUltraSpec)

/-- 'seepagelaw20.MinimaxWeights', WHERE WHAT IT READS IS OF BULK AT MOST 1048576: true; the input reads as it did. -/
def minimaxWeightsUptoRow : OpenClaim := { program := "ytenhbfbfkcjimaadoor", sum := "dbce7380600532eb3a5b98fc4f438f69300773e4633cfdd3c93a96a969bf95e8", func := "seepage/seepagelaw20.MinimaxWeights", spec := "minimaxWeights", unfollowed := true, recurses := true, named := ["math/bits.deBruijn32tab", "math/bits.deBruijn64tab"], apart := false, laid := [("math/bits.deBruijn32tab", laid_math_bits_deBruijn32tab), ("math/bits.deBruijn64tab", laid_math_bits_deBruijn64tab)], narrowed := true }
def MinimaxWeightsUptoSaid : Prop := minimaxWeightsUptoRow.holds Tryd.pinned (OpenSpec.upto minimaxWeightsSpec)

/-- 'seepagelaw20.MinimaxPairs', WHERE WHAT IT READS IS OF BULK AT MOST 1048576: true; the input reads as it did. -/
def minimaxPairsUptoRow : OpenClaim := { program := "ytenhbfbfkcjimaadoor", sum := "dbce7380600532eb3a5b98fc4f438f69300773e4633cfdd3c93a96a969bf95e8", func := "seepage/seepagelaw20.MinimaxPairs", spec := "minimaxPairs", unfollowed := true, recurses := true, named := ["math/bits.deBruijn32tab", "math/bits.deBruijn64tab"], apart := false, laid := [("math/bits.deBruijn32tab", laid_math_bits_deBruijn32tab), ("math/bits.deBruijn64tab", laid_math_bits_deBruijn64tab)], narrowed := true }
def MinimaxPairsUptoSaid : Prop := minimaxPairsUptoRow.holds Tryd.pinned (OpenSpec.upto minimaxPairsSpec)

/-- 'seepagelaw20.MinimaxDistances', WHERE WHAT IT READS IS OF BULK AT MOST 1048576: true; the input reads as it did. -/
def minimaxDistancesUptoRow : OpenClaim := { program := "ytenhbfbfkcjimaadoor", sum := "dbce7380600532eb3a5b98fc4f438f69300773e4633cfdd3c93a96a969bf95e8", func := "seepage/seepagelaw20.MinimaxDistances", spec := "minimaxDistances", unfollowed := true, recurses := true, named := ["math/bits.deBruijn32tab", "math/bits.deBruijn64tab"], apart := false, laid := [("math/bits.deBruijn32tab", laid_math_bits_deBruijn32tab), ("math/bits.deBruijn64tab", laid_math_bits_deBruijn64tab)], narrowed := true }
def MinimaxDistancesUptoSaid : Prop := minimaxDistancesUptoRow.holds Tryd.pinned (OpenSpec.upto minimaxDistancesSpec)

/-- 'seepagelaw20.MinimaxThresholds', WHERE WHAT IT READS IS OF BULK AT MOST 1048576: true; the input reads as it did. -/
def minimaxThresholdsUptoRow : OpenClaim := { program := "ytenhbfbfkcjimaadoor", sum := "dbce7380600532eb3a5b98fc4f438f69300773e4633cfdd3c93a96a969bf95e8", func := "seepage/seepagelaw20.MinimaxThresholds", spec := "minimaxThresholds", unfollowed := true, recurses := true, named := ["math/bits.deBruijn32tab", "math/bits.deBruijn64tab"], apart := false, laid := [("math/bits.deBruijn32tab", laid_math_bits_deBruijn32tab), ("math/bits.deBruijn64tab", laid_math_bits_deBruijn64tab)], narrowed := true }
def MinimaxThresholdsUptoSaid : Prop := minimaxThresholdsUptoRow.holds Tryd.pinned (OpenSpec.upto minimaxThresholdsSpec)

/-- 'seepagelaw20.MinimaxCounts', WHERE WHAT IT READS IS OF BULK AT MOST 1048576: true; the input reads as it did. -/
def minimaxCountsUptoRow : OpenClaim := { program := "ytenhbfbfkcjimaadoor", sum := "dbce7380600532eb3a5b98fc4f438f69300773e4633cfdd3c93a96a969bf95e8", func := "seepage/seepagelaw20.MinimaxCounts", spec := "minimaxCounts", unfollowed := true, recurses := true, named := ["math/bits.deBruijn32tab", "math/bits.deBruijn64tab"], apart := false, laid := [("math/bits.deBruijn32tab", laid_math_bits_deBruijn32tab), ("math/bits.deBruijn64tab", laid_math_bits_deBruijn64tab)], narrowed := true }
def MinimaxCountsUptoSaid : Prop := minimaxCountsUptoRow.holds Tryd.pinned (OpenSpec.upto minimaxCountsSpec)

/-- 'seepagelaw20.MinimaxFar', WHERE WHAT IT READS IS OF BULK AT MOST 1048576: true; the input reads as it did. -/
def minimaxFarUptoRow : OpenClaim := { program := "ytenhbfbfkcjimaadoor", sum := "dbce7380600532eb3a5b98fc4f438f69300773e4633cfdd3c93a96a969bf95e8", func := "seepage/seepagelaw20.MinimaxFar", spec := "minimaxFar", unfollowed := true, recurses := true, named := ["math/bits.deBruijn32tab", "math/bits.deBruijn64tab"], apart := false, laid := [("math/bits.deBruijn32tab", laid_math_bits_deBruijn32tab), ("math/bits.deBruijn64tab", laid_math_bits_deBruijn64tab)], narrowed := true }
def MinimaxFarUptoSaid : Prop := minimaxFarUptoRow.holds Tryd.pinned (OpenSpec.upto minimaxFarSpec)

/-- 'seepagelaw20.MinimaxNil', WHERE WHAT IT READS IS OF BULK AT MOST 1048576: true; the input reads as it did. -/
def minimaxNilUptoRow : OpenClaim := { program := "ytenhbfbfkcjimaadoor", sum := "dbce7380600532eb3a5b98fc4f438f69300773e4633cfdd3c93a96a969bf95e8", func := "seepage/seepagelaw20.MinimaxNil", spec := "minimaxNil", unfollowed := true, recurses := true, named := ["math/bits.deBruijn32tab", "math/bits.deBruijn64tab"], apart := false, laid := [("math/bits.deBruijn32tab", laid_math_bits_deBruijn32tab), ("math/bits.deBruijn64tab", laid_math_bits_deBruijn64tab)], narrowed := true }
def MinimaxNilUptoSaid : Prop := minimaxNilUptoRow.holds Tryd.pinned (OpenSpec.upto minimaxNilSpec)

end Rows
end Go.Proofs.YtenhbfbfkcjimaaDoor
