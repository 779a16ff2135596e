/-
  No cell of these rows narrows 'for every input' (looked for: loops, veiled, ifaces, maps, wideKeys, modest, calm, conditions, laid).
  DERIVED. THE GIVEN ROWS OF THIS SEAT. 18 by the template 'for every input the law returns true; each argument reads behind the call as it read before'; 0 by the template 'total and deterministic' (their statements: YtebclbpibafkdaaTotals.lean).
  GIVEN WITH THE SEED: the statements are not yours to turn. If you find one false, say at which input.
  Laid BY PROGRAM, IN A SANDBOX (cutbox-rows.mjs): the forced cells as the released guide's own fill.sh prints them over the translation 1b20631a03965f6f… (all of the seat's roots in one cut). By AI agents, Wed Nov 11 2026. No macro, syntax, notation, axiom, sorry.
-/
import Derived.Test.YtebclbpibafkdaaChecked
import GoSem.Claim
import GoSem.ClaimJoined
import GoSem.ClaimMapViews
import Derived.JoinedTies
import Derived.KernelRfl
namespace Go.Proofs.Ytebclbpibafkdaa
/- THE CELL 'sum', in the pinned program and in every row, IS THE sha256 OF THE DUMP (.gsa) THAT YtebclbpibafkdaaProg.lean LOADS. Nothing in Lean hashes anything: it is a label: what it is worth is what the hold of that sum in a sandbox is worth. -/
noncomputable def Try.pinned : Pinned := { name := "ytebclbpibafkdaa", sum := "1b20631a03965f6f56518f662d983656d6d1ac50c182698dc5c76b831eabe4ff", checked := Try.checked }
namespace Rows
def none {H : Type} : Left H := { results := [], args := [] }

/-- 'seepagelaw04.HeapSorts': WHATEVER THE INPUT: true; the input reads as it did. -/
def heapSortsSpec : ChangeSpec := { name := "heapSorts", fn := fun _ => fun
  | [d] => { results := [.lit (.bool true)], args := [d] }
  | _ => none }
def heapSortsRow : OpenClaim := { program := "ytebclbpibafkdaa", sum := "1b20631a03965f6f56518f662d983656d6d1ac50c182698dc5c76b831eabe4ff", func := "seepage/seepagelaw04.HeapSorts", spec := "heapSorts", unfollowed := true, recurses := true, apart := false }
def HeapSortsSaid : Prop := heapSortsRow.holds Try.pinned (OpenSpec.ofChange heapSortsSpec)

/-- ITS FALSE NEIGHBOUR: 'it returns false'. Refute it at one input. -/
def heapSortsWrong : ChangeSpec := { name := "heapSorts", fn := fun _ => fun
  | [d] => { results := [.lit (.bool false)], args := [d] }
  | _ => none }
def HeapSortsWrongFalsely : Prop := heapSortsRow.holds Try.pinned (OpenSpec.ofChange heapSortsWrong)

/-- 'seepagelaw35.ExpiryMoves': WHATEVER THE INPUT: true; the input reads as it did. -/
def expiryMovesSpec : ChangeSpec := { name := "expiryMoves", fn := fun _ => fun
  | [d1, d2, d3] => { results := [.lit (.bool true)], args := [d1, d2, d3] }
  | _ => none }
def expiryMovesRow : OpenClaim := { program := "ytebclbpibafkdaa", sum := "1b20631a03965f6f56518f662d983656d6d1ac50c182698dc5c76b831eabe4ff", func := "seepage/seepagelaw35.ExpiryMoves", spec := "expiryMoves", unfollowed := true, recurses := true, apart := false }
def ExpiryMovesSaid : Prop := expiryMovesRow.holds Try.pinned (OpenSpec.ofChange expiryMovesSpec)

/-- ITS FALSE NEIGHBOUR: 'it returns false'. Refute it at one input. -/
def expiryMovesWrong : ChangeSpec := { name := "expiryMoves", fn := fun _ => fun
  | [d1, d2, d3] => { results := [.lit (.bool false)], args := [d1, d2, d3] }
  | _ => none }
def ExpiryMovesWrongFalsely : Prop := expiryMovesRow.holds Try.pinned (OpenSpec.ofChange expiryMovesWrong)

/-- 'seepagelaw35.ExpiryEnds': WHATEVER THE INPUT: true; the input reads as it did. -/
def expiryEndsSpec : ChangeSpec := { name := "expiryEnds", fn := fun _ => fun
  | [d1, d2] => { results := [.lit (.bool true)], args := [d1, d2] }
  | _ => none }
def expiryEndsRow : OpenClaim := { program := "ytebclbpibafkdaa", sum := "1b20631a03965f6f56518f662d983656d6d1ac50c182698dc5c76b831eabe4ff", func := "seepage/seepagelaw35.ExpiryEnds", spec := "expiryEnds", unfollowed := true, recurses := true, apart := false }
def ExpiryEndsSaid : Prop := expiryEndsRow.holds Try.pinned (OpenSpec.ofChange expiryEndsSpec)

/-- ITS FALSE NEIGHBOUR: 'it returns false'. Refute it at one input. -/
def expiryEndsWrong : ChangeSpec := { name := "expiryEnds", fn := fun _ => fun
  | [d1, d2] => { results := [.lit (.bool false)], args := [d1, d2] }
  | _ => none }
def ExpiryEndsWrongFalsely : Prop := expiryEndsRow.holds Try.pinned (OpenSpec.ofChange expiryEndsWrong)

/-- 'seepagelaw35.ExpiryNews': WHATEVER THE INPUT: true; the input reads as it did. -/
def expiryNewsSpec : ChangeSpec := { name := "expiryNews", fn := fun _ => fun
  | [d1, d2, d3] => { results := [.lit (.bool true)], args := [d1, d2, d3] }
  | _ => none }
def expiryNewsRow : OpenClaim := { program := "ytebclbpibafkdaa", sum := "1b20631a03965f6f56518f662d983656d6d1ac50c182698dc5c76b831eabe4ff", func := "seepage/seepagelaw35.ExpiryNews", spec := "expiryNews", unfollowed := true, recurses := true, apart := false }
def ExpiryNewsSaid : Prop := expiryNewsRow.holds Try.pinned (OpenSpec.ofChange expiryNewsSpec)

/-- ITS FALSE NEIGHBOUR: 'it returns false'. Refute it at one input. -/
def expiryNewsWrong : ChangeSpec := { name := "expiryNews", fn := fun _ => fun
  | [d1, d2, d3] => { results := [.lit (.bool false)], args := [d1, d2, d3] }
  | _ => none }
def ExpiryNewsWrongFalsely : Prop := expiryNewsRow.holds Try.pinned (OpenSpec.ofChange expiryNewsWrong)

/-- 'seepagelaw35.ExpiryOrder': WHATEVER THE INPUT: true; the input reads as it did. -/
def expiryOrderSpec : ChangeSpec := { name := "expiryOrder", fn := fun _ => fun
  | [d] => { results := [.lit (.bool true)], args := [d] }
  | _ => none }
def expiryOrderRow : OpenClaim := { program := "ytebclbpibafkdaa", sum := "1b20631a03965f6f56518f662d983656d6d1ac50c182698dc5c76b831eabe4ff", func := "seepage/seepagelaw35.ExpiryOrder", spec := "expiryOrder", unfollowed := true, recurses := true, apart := false }
def ExpiryOrderSaid : Prop := expiryOrderRow.holds Try.pinned (OpenSpec.ofChange expiryOrderSpec)

/-- ITS FALSE NEIGHBOUR: 'it returns false'. Refute it at one input. -/
def expiryOrderWrong : ChangeSpec := { name := "expiryOrder", fn := fun _ => fun
  | [d] => { results := [.lit (.bool false)], args := [d] }
  | _ => none }
def ExpiryOrderWrongFalsely : Prop := expiryOrderRow.holds Try.pinned (OpenSpec.ofChange expiryOrderWrong)

/-- 'seepagelaw35.ExpiryTwice': WHATEVER THE INPUT: true; the input reads as it did. -/
def expiryTwiceSpec : ChangeSpec := { name := "expiryTwice", fn := fun _ => fun
  | [d1, d2, d3] => { results := [.lit (.bool true)], args := [d1, d2, d3] }
  | _ => none }
def expiryTwiceRow : OpenClaim := { program := "ytebclbpibafkdaa", sum := "1b20631a03965f6f56518f662d983656d6d1ac50c182698dc5c76b831eabe4ff", func := "seepage/seepagelaw35.ExpiryTwice", spec := "expiryTwice", unfollowed := true, recurses := true, apart := false }
def ExpiryTwiceSaid : Prop := expiryTwiceRow.holds Try.pinned (OpenSpec.ofChange expiryTwiceSpec)

/-- ITS FALSE NEIGHBOUR: 'it returns false'. Refute it at one input. -/
def expiryTwiceWrong : ChangeSpec := { name := "expiryTwice", fn := fun _ => fun
  | [d1, d2, d3] => { results := [.lit (.bool false)], args := [d1, d2, d3] }
  | _ => none }
def ExpiryTwiceWrongFalsely : Prop := expiryTwiceRow.holds Try.pinned (OpenSpec.ofChange expiryTwiceWrong)

/-- 'seepagelaw35.ExpiryKeeps': WHATEVER THE INPUT: true; the input reads as it did. -/
def expiryKeepsSpec : ChangeSpec := { name := "expiryKeeps", fn := fun _ => fun
  | [d1, d2] => { results := [.lit (.bool true)], args := [d1, d2] }
  | _ => none }
def expiryKeepsRow : OpenClaim := { program := "ytebclbpibafkdaa", sum := "1b20631a03965f6f56518f662d983656d6d1ac50c182698dc5c76b831eabe4ff", func := "seepage/seepagelaw35.ExpiryKeeps", spec := "expiryKeeps", unfollowed := true, recurses := true, apart := false }
def ExpiryKeepsSaid : Prop := expiryKeepsRow.holds Try.pinned (OpenSpec.ofChange expiryKeepsSpec)

/-- ITS FALSE NEIGHBOUR: 'it returns false'. Refute it at one input. -/
def expiryKeepsWrong : ChangeSpec := { name := "expiryKeeps", fn := fun _ => fun
  | [d1, d2] => { results := [.lit (.bool false)], args := [d1, d2] }
  | _ => none }
def ExpiryKeepsWrongFalsely : Prop := expiryKeepsRow.holds Try.pinned (OpenSpec.ofChange expiryKeepsWrong)

/-- 'seepagelaw35.ExpiryCopies': WHATEVER THE INPUT: true; the input reads as it did. -/
def expiryCopiesSpec : ChangeSpec := { name := "expiryCopies", fn := fun _ => fun
  | [d1, d2, d3] => { results := [.lit (.bool true)], args := [d1, d2, d3] }
  | _ => none }
def expiryCopiesRow : OpenClaim := { program := "ytebclbpibafkdaa", sum := "1b20631a03965f6f56518f662d983656d6d1ac50c182698dc5c76b831eabe4ff", func := "seepage/seepagelaw35.ExpiryCopies", spec := "expiryCopies", unfollowed := true, recurses := true, apart := false }
def ExpiryCopiesSaid : Prop := expiryCopiesRow.holds Try.pinned (OpenSpec.ofChange expiryCopiesSpec)

/-- ITS FALSE NEIGHBOUR: 'it returns false'. Refute it at one input. -/
def expiryCopiesWrong : ChangeSpec := { name := "expiryCopies", fn := fun _ => fun
  | [d1, d2, d3] => { results := [.lit (.bool false)], args := [d1, d2, d3] }
  | _ => none }
def ExpiryCopiesWrongFalsely : Prop := expiryCopiesRow.holds Try.pinned (OpenSpec.ofChange expiryCopiesWrong)

/-- 'seepagelaw35.ExpirySets': WHATEVER THE INPUT: true; the input reads as it did. -/
def expirySetsSpec : ChangeSpec := { name := "expirySets", fn := fun _ => fun
  | [d1, d2, d3] => { results := [.lit (.bool true)], args := [d1, d2, d3] }
  | _ => none }
def expirySetsRow : OpenClaim := { program := "ytebclbpibafkdaa", sum := "1b20631a03965f6f56518f662d983656d6d1ac50c182698dc5c76b831eabe4ff", func := "seepage/seepagelaw35.ExpirySets", spec := "expirySets", unfollowed := true, recurses := true, apart := false }
def ExpirySetsSaid : Prop := expirySetsRow.holds Try.pinned (OpenSpec.ofChange expirySetsSpec)

/-- ITS FALSE NEIGHBOUR: 'it returns false'. Refute it at one input. -/
def expirySetsWrong : ChangeSpec := { name := "expirySets", fn := fun _ => fun
  | [d1, d2, d3] => { results := [.lit (.bool false)], args := [d1, d2, d3] }
  | _ => none }
def ExpirySetsWrongFalsely : Prop := expirySetsRow.holds Try.pinned (OpenSpec.ofChange expirySetsWrong)

/-- 'seepagelaw35.ExpiryPlays': WHATEVER THE INPUT: true; the input reads as it did. -/
def expiryPlaysSpec : ChangeSpec := { name := "expiryPlays", fn := fun _ => fun
  | [d1, d2, d3, d4] => { results := [.lit (.bool true)], args := [d1, d2, d3, d4] }
  | _ => none }
def expiryPlaysRow : OpenClaim := { program := "ytebclbpibafkdaa", sum := "1b20631a03965f6f56518f662d983656d6d1ac50c182698dc5c76b831eabe4ff", func := "seepage/seepagelaw35.ExpiryPlays", spec := "expiryPlays", unfollowed := true, recurses := true, apart := false }
def ExpiryPlaysSaid : Prop := expiryPlaysRow.holds Try.pinned (OpenSpec.ofChange expiryPlaysSpec)

/-- ITS FALSE NEIGHBOUR: 'it returns false'. Refute it at one input. -/
def expiryPlaysWrong : ChangeSpec := { name := "expiryPlays", fn := fun _ => fun
  | [d1, d2, d3, d4] => { results := [.lit (.bool false)], args := [d1, d2, d3, d4] }
  | _ => none }
def ExpiryPlaysWrongFalsely : Prop := expiryPlaysRow.holds Try.pinned (OpenSpec.ofChange expiryPlaysWrong)

/-- 'seepagelaw35.ExpiryNil': WHATEVER THE INPUT: true; the input reads as it did. -/
def expiryNilSpec : ChangeSpec := { name := "expiryNil", fn := fun _ => fun
  | [d1, d2] => { results := [.lit (.bool true)], args := [d1, d2] }
  | _ => none }
def expiryNilRow : OpenClaim := { program := "ytebclbpibafkdaa", sum := "1b20631a03965f6f56518f662d983656d6d1ac50c182698dc5c76b831eabe4ff", func := "seepage/seepagelaw35.ExpiryNil", spec := "expiryNil", unfollowed := true, recurses := true, apart := false }
def ExpiryNilSaid : Prop := expiryNilRow.holds Try.pinned (OpenSpec.ofChange expiryNilSpec)

/-- ITS FALSE NEIGHBOUR: 'it returns false'. Refute it at one input. -/
def expiryNilWrong : ChangeSpec := { name := "expiryNil", fn := fun _ => fun
  | [d1, d2] => { results := [.lit (.bool false)], args := [d1, d2] }
  | _ => none }
def ExpiryNilWrongFalsely : Prop := expiryNilRow.holds Try.pinned (OpenSpec.ofChange expiryNilWrong)

/-- 'seepagelaw04.HeapOrder': WHATEVER THE INPUT: true; the input reads as it did. -/
def heapOrderSpec : ChangeSpec := { name := "heapOrder", fn := fun _ => fun
  | [d] => { results := [.lit (.bool true)], args := [d] }
  | _ => none }
def heapOrderRow : OpenClaim := { program := "ytebclbpibafkdaa", sum := "1b20631a03965f6f56518f662d983656d6d1ac50c182698dc5c76b831eabe4ff", func := "seepage/seepagelaw04.HeapOrder", spec := "heapOrder", unfollowed := true, recurses := true, apart := false }
def HeapOrderSaid : Prop := heapOrderRow.holds Try.pinned (OpenSpec.ofChange heapOrderSpec)

/-- ITS FALSE NEIGHBOUR: 'it returns false'. Refute it at one input. -/
def heapOrderWrong : ChangeSpec := { name := "heapOrder", fn := fun _ => fun
  | [d] => { results := [.lit (.bool false)], args := [d] }
  | _ => none }
def HeapOrderWrongFalsely : Prop := heapOrderRow.holds Try.pinned (OpenSpec.ofChange heapOrderWrong)

/-- 'seepagelaw04.HeapNews': WHATEVER THE INPUT: true; the input reads as it did. -/
def heapNewsSpec : ChangeSpec := { name := "heapNews", fn := fun _ => fun
  | [d1, d2] => { results := [.lit (.bool true)], args := [d1, d2] }
  | _ => none }
def heapNewsRow : OpenClaim := { program := "ytebclbpibafkdaa", sum := "1b20631a03965f6f56518f662d983656d6d1ac50c182698dc5c76b831eabe4ff", func := "seepage/seepagelaw04.HeapNews", spec := "heapNews", unfollowed := true, recurses := true, apart := false }
def HeapNewsSaid : Prop := heapNewsRow.holds Try.pinned (OpenSpec.ofChange heapNewsSpec)

/-- ITS FALSE NEIGHBOUR: 'it returns false'. Refute it at one input. -/
def heapNewsWrong : ChangeSpec := { name := "heapNews", fn := fun _ => fun
  | [d1, d2] => { results := [.lit (.bool false)], args := [d1, d2] }
  | _ => none }
def HeapNewsWrongFalsely : Prop := heapNewsRow.holds Try.pinned (OpenSpec.ofChange heapNewsWrong)

/-- 'seepagelaw04.HeapRemoves': WHATEVER THE INPUT: true; the input reads as it did. -/
def heapRemovesSpec : ChangeSpec := { name := "heapRemoves", fn := fun _ => fun
  | [d1, d2] => { results := [.lit (.bool true)], args := [d1, d2] }
  | _ => none }
def heapRemovesRow : OpenClaim := { program := "ytebclbpibafkdaa", sum := "1b20631a03965f6f56518f662d983656d6d1ac50c182698dc5c76b831eabe4ff", func := "seepage/seepagelaw04.HeapRemoves", spec := "heapRemoves", unfollowed := true, recurses := true, apart := false }
def HeapRemovesSaid : Prop := heapRemovesRow.holds Try.pinned (OpenSpec.ofChange heapRemovesSpec)

/-- ITS FALSE NEIGHBOUR: 'it returns false'. Refute it at one input. -/
def heapRemovesWrong : ChangeSpec := { name := "heapRemoves", fn := fun _ => fun
  | [d1, d2] => { results := [.lit (.bool false)], args := [d1, d2] }
  | _ => none }
def HeapRemovesWrongFalsely : Prop := heapRemovesRow.holds Try.pinned (OpenSpec.ofChange heapRemovesWrong)

/-- 'seepagelaw04.HeapChanges': WHATEVER THE INPUT: true; the input reads as it did. -/
def heapChangesSpec : ChangeSpec := { name := "heapChanges", fn := fun _ => fun
  | [d1, d2, d3] => { results := [.lit (.bool true)], args := [d1, d2, d3] }
  | _ => none }
def heapChangesRow : OpenClaim := { program := "ytebclbpibafkdaa", sum := "1b20631a03965f6f56518f662d983656d6d1ac50c182698dc5c76b831eabe4ff", func := "seepage/seepagelaw04.HeapChanges", spec := "heapChanges", unfollowed := true, recurses := true, apart := false }
def HeapChangesSaid : Prop := heapChangesRow.holds Try.pinned (OpenSpec.ofChange heapChangesSpec)

/-- ITS FALSE NEIGHBOUR: 'it returns false'. Refute it at one input. -/
def heapChangesWrong : ChangeSpec := { name := "heapChanges", fn := fun _ => fun
  | [d1, d2, d3] => { results := [.lit (.bool false)], args := [d1, d2, d3] }
  | _ => none }
def HeapChangesWrongFalsely : Prop := heapChangesRow.holds Try.pinned (OpenSpec.ofChange heapChangesWrong)

/-- 'seepagelaw04.HeapCopies': WHATEVER THE INPUT: true; the input reads as it did. -/
def heapCopiesSpec : ChangeSpec := { name := "heapCopies", fn := fun _ => fun
  | [d1, d2, d3] => { results := [.lit (.bool true)], args := [d1, d2, d3] }
  | _ => none }
def heapCopiesRow : OpenClaim := { program := "ytebclbpibafkdaa", sum := "1b20631a03965f6f56518f662d983656d6d1ac50c182698dc5c76b831eabe4ff", func := "seepage/seepagelaw04.HeapCopies", spec := "heapCopies", unfollowed := true, recurses := true, apart := false }
def HeapCopiesSaid : Prop := heapCopiesRow.holds Try.pinned (OpenSpec.ofChange heapCopiesSpec)

/-- ITS FALSE NEIGHBOUR: 'it returns false'. Refute it at one input. -/
def heapCopiesWrong : ChangeSpec := { name := "heapCopies", fn := fun _ => fun
  | [d1, d2, d3] => { results := [.lit (.bool false)], args := [d1, d2, d3] }
  | _ => none }
def HeapCopiesWrongFalsely : Prop := heapCopiesRow.holds Try.pinned (OpenSpec.ofChange heapCopiesWrong)

/-- 'seepagelaw04.HeapPlays': WHATEVER THE INPUT: true; the input reads as it did. -/
def heapPlaysSpec : ChangeSpec := { name := "heapPlays", fn := fun _ => fun
  | [d1, d2, d3] => { results := [.lit (.bool true)], args := [d1, d2, d3] }
  | _ => none }
def heapPlaysRow : OpenClaim := { program := "ytebclbpibafkdaa", sum := "1b20631a03965f6f56518f662d983656d6d1ac50c182698dc5c76b831eabe4ff", func := "seepage/seepagelaw04.HeapPlays", spec := "heapPlays", unfollowed := true, recurses := true, apart := false }
def HeapPlaysSaid : Prop := heapPlaysRow.holds Try.pinned (OpenSpec.ofChange heapPlaysSpec)

/-- ITS FALSE NEIGHBOUR: 'it returns false'. Refute it at one input. -/
def heapPlaysWrong : ChangeSpec := { name := "heapPlays", fn := fun _ => fun
  | [d1, d2, d3] => { results := [.lit (.bool false)], args := [d1, d2, d3] }
  | _ => none }
def HeapPlaysWrongFalsely : Prop := heapPlaysRow.holds Try.pinned (OpenSpec.ofChange heapPlaysWrong)

/-- 'seepagelaw04.HeapNil': WHATEVER THE INPUT: true; the input reads as it did. -/
def heapNilSpec : ChangeSpec := { name := "heapNil", fn := fun _ => fun
  | [d1, d2] => { results := [.lit (.bool true)], args := [d1, d2] }
  | _ => none }
def heapNilRow : OpenClaim := { program := "ytebclbpibafkdaa", sum := "1b20631a03965f6f56518f662d983656d6d1ac50c182698dc5c76b831eabe4ff", func := "seepage/seepagelaw04.HeapNil", spec := "heapNil", unfollowed := true, recurses := true, apart := false }
def HeapNilSaid : Prop := heapNilRow.holds Try.pinned (OpenSpec.ofChange heapNilSpec)

/-- ITS FALSE NEIGHBOUR: 'it returns false'. Refute it at one input. -/
def heapNilWrong : ChangeSpec := { name := "heapNil", fn := fun _ => fun
  | [d1, d2] => { results := [.lit (.bool false)], args := [d1, d2] }
  | _ => none }
def HeapNilWrongFalsely : Prop := heapNilRow.holds Try.pinned (OpenSpec.ofChange heapNilWrong)

/- THE SECOND FORM. 'bulk': how many values and letters a reading holds, each counted each time it is reached (what is shared counts as often as it is met; a slice's spare places count too). A statement '..UptoSaid' is the law's where the arguments, and the package variables that the reading takes, are together of bulk at most 1048576: NARROWER than '..Said'. Prove '..Said' where nothing that the law and all that it calls make is longer than what came in: it says more and counts as full. Else prove '..UptoSaid'. A law counts once. -/
mutual
def uptoBulk {H : Type} : DataW H → Nat
  | .lit (.string bytes) => bytes.length + 1
  | .lit _ => 1
  | .nil => 1
  | .ptr d => uptoBulk d + 1
  | .slice elems spare => uptoBulkAll elems + uptoBulkAll spare + 1
  | .agg parts => uptoBulkAll parts + 1
  | .iface _ d => uptoBulk d + 1
  | .map entries => uptoBulkEntries entries + 1
  | .held _ => 1
def uptoBulkAll {H : Type} : List (DataW H) → Nat
  | [] => 0
  | d :: r => uptoBulk d + uptoBulkAll r
def uptoBulkEntries {H : Type} : List (Lit × DataW H) → Nat
  | [] => 0
  | x :: r => uptoBulkEntry x + uptoBulkEntries r
def uptoBulkEntry {H : Type} : Lit × DataW H → Nat
  | (.string bytes, d) => bytes.length + uptoBulk d + 1
  | (_, d) => uptoBulk d + 1
 end
def uptoSmall : (H : Type) → List (DataW H) → Bool := fun _ ds => decide (uptoBulkAll ds ≤ 1048576)
def OpenSpec.upto (s : _root_.Go.ChangeSpec) : _root_.Go.OpenSpec := { _root_.Go.OpenSpec.ofChange s with cond := some uptoSmall }

/-- 'seepagelaw04.HeapSorts', WHERE WHAT IT READS IS OF BULK AT MOST 1048576: true; the input reads as it did. -/
def heapSortsUptoRow : OpenClaim := { program := "ytebclbpibafkdaa", sum := "1b20631a03965f6f56518f662d983656d6d1ac50c182698dc5c76b831eabe4ff", func := "seepage/seepagelaw04.HeapSorts", spec := "heapSorts", unfollowed := true, recurses := true, apart := false, narrowed := true }
def HeapSortsUptoSaid : Prop := heapSortsUptoRow.holds Try.pinned (OpenSpec.upto heapSortsSpec)

/-- 'seepagelaw35.ExpiryMoves', WHERE WHAT IT READS IS OF BULK AT MOST 1048576: true; the input reads as it did. -/
def expiryMovesUptoRow : OpenClaim := { program := "ytebclbpibafkdaa", sum := "1b20631a03965f6f56518f662d983656d6d1ac50c182698dc5c76b831eabe4ff", func := "seepage/seepagelaw35.ExpiryMoves", spec := "expiryMoves", unfollowed := true, recurses := true, apart := false, narrowed := true }
def ExpiryMovesUptoSaid : Prop := expiryMovesUptoRow.holds Try.pinned (OpenSpec.upto expiryMovesSpec)

/-- 'seepagelaw35.ExpiryEnds', WHERE WHAT IT READS IS OF BULK AT MOST 1048576: true; the input reads as it did. -/
def expiryEndsUptoRow : OpenClaim := { program := "ytebclbpibafkdaa", sum := "1b20631a03965f6f56518f662d983656d6d1ac50c182698dc5c76b831eabe4ff", func := "seepage/seepagelaw35.ExpiryEnds", spec := "expiryEnds", unfollowed := true, recurses := true, apart := false, narrowed := true }
def ExpiryEndsUptoSaid : Prop := expiryEndsUptoRow.holds Try.pinned (OpenSpec.upto expiryEndsSpec)

/-- 'seepagelaw35.ExpiryNews', WHERE WHAT IT READS IS OF BULK AT MOST 1048576: true; the input reads as it did. -/
def expiryNewsUptoRow : OpenClaim := { program := "ytebclbpibafkdaa", sum := "1b20631a03965f6f56518f662d983656d6d1ac50c182698dc5c76b831eabe4ff", func := "seepage/seepagelaw35.ExpiryNews", spec := "expiryNews", unfollowed := true, recurses := true, apart := false, narrowed := true }
def ExpiryNewsUptoSaid : Prop := expiryNewsUptoRow.holds Try.pinned (OpenSpec.upto expiryNewsSpec)

/-- 'seepagelaw35.ExpiryOrder', WHERE WHAT IT READS IS OF BULK AT MOST 1048576: true; the input reads as it did. -/
def expiryOrderUptoRow : OpenClaim := { program := "ytebclbpibafkdaa", sum := "1b20631a03965f6f56518f662d983656d6d1ac50c182698dc5c76b831eabe4ff", func := "seepage/seepagelaw35.ExpiryOrder", spec := "expiryOrder", unfollowed := true, recurses := true, apart := false, narrowed := true }
def ExpiryOrderUptoSaid : Prop := expiryOrderUptoRow.holds Try.pinned (OpenSpec.upto expiryOrderSpec)

/-- 'seepagelaw35.ExpiryTwice', WHERE WHAT IT READS IS OF BULK AT MOST 1048576: true; the input reads as it did. -/
def expiryTwiceUptoRow : OpenClaim := { program := "ytebclbpibafkdaa", sum := "1b20631a03965f6f56518f662d983656d6d1ac50c182698dc5c76b831eabe4ff", func := "seepage/seepagelaw35.ExpiryTwice", spec := "expiryTwice", unfollowed := true, recurses := true, apart := false, narrowed := true }
def ExpiryTwiceUptoSaid : Prop := expiryTwiceUptoRow.holds Try.pinned (OpenSpec.upto expiryTwiceSpec)

/-- 'seepagelaw35.ExpiryKeeps', WHERE WHAT IT READS IS OF BULK AT MOST 1048576: true; the input reads as it did. -/
def expiryKeepsUptoRow : OpenClaim := { program := "ytebclbpibafkdaa", sum := "1b20631a03965f6f56518f662d983656d6d1ac50c182698dc5c76b831eabe4ff", func := "seepage/seepagelaw35.ExpiryKeeps", spec := "expiryKeeps", unfollowed := true, recurses := true, apart := false, narrowed := true }
def ExpiryKeepsUptoSaid : Prop := expiryKeepsUptoRow.holds Try.pinned (OpenSpec.upto expiryKeepsSpec)

/-- 'seepagelaw35.ExpiryCopies', WHERE WHAT IT READS IS OF BULK AT MOST 1048576: true; the input reads as it did. -/
def expiryCopiesUptoRow : OpenClaim := { program := "ytebclbpibafkdaa", sum := "1b20631a03965f6f56518f662d983656d6d1ac50c182698dc5c76b831eabe4ff", func := "seepage/seepagelaw35.ExpiryCopies", spec := "expiryCopies", unfollowed := true, recurses := true, apart := false, narrowed := true }
def ExpiryCopiesUptoSaid : Prop := expiryCopiesUptoRow.holds Try.pinned (OpenSpec.upto expiryCopiesSpec)

/-- 'seepagelaw35.ExpirySets', WHERE WHAT IT READS IS OF BULK AT MOST 1048576: true; the input reads as it did. -/
def expirySetsUptoRow : OpenClaim := { program := "ytebclbpibafkdaa", sum := "1b20631a03965f6f56518f662d983656d6d1ac50c182698dc5c76b831eabe4ff", func := "seepage/seepagelaw35.ExpirySets", spec := "expirySets", unfollowed := true, recurses := true, apart := false, narrowed := true }
def ExpirySetsUptoSaid : Prop := expirySetsUptoRow.holds Try.pinned (OpenSpec.upto expirySetsSpec)

/-- 'seepagelaw35.ExpiryPlays', WHERE WHAT IT READS IS OF BULK AT MOST 1048576: true; the input reads as it did. -/
def expiryPlaysUptoRow : OpenClaim := { program := "ytebclbpibafkdaa", sum := "1b20631a03965f6f56518f662d983656d6d1ac50c182698dc5c76b831eabe4ff", func := "seepage/seepagelaw35.ExpiryPlays", spec := "expiryPlays", unfollowed := true, recurses := true, apart := false, narrowed := true }
def ExpiryPlaysUptoSaid : Prop := expiryPlaysUptoRow.holds Try.pinned (OpenSpec.upto expiryPlaysSpec)

/-- 'seepagelaw35.ExpiryNil', WHERE WHAT IT READS IS OF BULK AT MOST 1048576: true; the input reads as it did. -/
def expiryNilUptoRow : OpenClaim := { program := "ytebclbpibafkdaa", sum := "1b20631a03965f6f56518f662d983656d6d1ac50c182698dc5c76b831eabe4ff", func := "seepage/seepagelaw35.ExpiryNil", spec := "expiryNil", unfollowed := true, recurses := true, apart := false, narrowed := true }
def ExpiryNilUptoSaid : Prop := expiryNilUptoRow.holds Try.pinned (OpenSpec.upto expiryNilSpec)

/-- 'seepagelaw04.HeapOrder', WHERE WHAT IT READS IS OF BULK AT MOST 1048576: true; the input reads as it did. -/
def heapOrderUptoRow : OpenClaim := { program := "ytebclbpibafkdaa", sum := "1b20631a03965f6f56518f662d983656d6d1ac50c182698dc5c76b831eabe4ff", func := "seepage/seepagelaw04.HeapOrder", spec := "heapOrder", unfollowed := true, recurses := true, apart := false, narrowed := true }
def HeapOrderUptoSaid : Prop := heapOrderUptoRow.holds Try.pinned (OpenSpec.upto heapOrderSpec)

/-- 'seepagelaw04.HeapNews', WHERE WHAT IT READS IS OF BULK AT MOST 1048576: true; the input reads as it did. -/
def heapNewsUptoRow : OpenClaim := { program := "ytebclbpibafkdaa", sum := "1b20631a03965f6f56518f662d983656d6d1ac50c182698dc5c76b831eabe4ff", func := "seepage/seepagelaw04.HeapNews", spec := "heapNews", unfollowed := true, recurses := true, apart := false, narrowed := true }
def HeapNewsUptoSaid : Prop := heapNewsUptoRow.holds Try.pinned (OpenSpec.upto heapNewsSpec)

/-- 'seepagelaw04.HeapRemoves', WHERE WHAT IT READS IS OF BULK AT MOST 1048576: true; the input reads as it did. -/
def heapRemovesUptoRow : OpenClaim := { program := "ytebclbpibafkdaa", sum := "1b20631a03965f6f56518f662d983656d6d1ac50c182698dc5c76b831eabe4ff", func := "seepage/seepagelaw04.HeapRemoves", spec := "heapRemoves", unfollowed := true, recurses := true, apart := false, narrowed := true }
def HeapRemovesUptoSaid : Prop := heapRemovesUptoRow.holds Try.pinned (OpenSpec.upto heapRemovesSpec)

/-- 'seepagelaw04.HeapChanges', WHERE WHAT IT READS IS OF BULK AT MOST 1048576: true; the input reads as it did. -/
def heapChangesUptoRow : OpenClaim := { program := "ytebclbpibafkdaa", sum := "1b20631a03965f6f56518f662d983656d6d1ac50c182698dc5c76b831eabe4ff", func := "seepage/seepagelaw04.HeapChanges", spec := "heapChanges", unfollowed := true, recurses := true, apart := false, narrowed := true }
def HeapChangesUptoSaid : Prop := heapChangesUptoRow.holds Try.pinned (OpenSpec.upto heapChangesSpec)

/-- 'seepagelaw04.HeapCopies', WHERE WHAT IT READS IS OF BULK AT MOST 1048576: true; the input reads as it did. -/
def heapCopiesUptoRow : OpenClaim := { program := "ytebclbpibafkdaa", sum := "1b20631a03965f6f56518f662d983656d6d1ac50c182698dc5c76b831eabe4ff", func := "seepage/seepagelaw04.HeapCopies", spec := "heapCopies", unfollowed := true, recurses := true, apart := false, narrowed := true }
def HeapCopiesUptoSaid : Prop := heapCopiesUptoRow.holds Try.pinned (OpenSpec.upto heapCopiesSpec)

/-- 'seepagelaw04.HeapPlays', WHERE WHAT IT READS IS OF BULK AT MOST 1048576: true; the input reads as it did. -/
def heapPlaysUptoRow : OpenClaim := { program := "ytebclbpibafkdaa", sum := "1b20631a03965f6f56518f662d983656d6d1ac50c182698dc5c76b831eabe4ff", func := "seepage/seepagelaw04.HeapPlays", spec := "heapPlays", unfollowed := true, recurses := true, apart := false, narrowed := true }
def HeapPlaysUptoSaid : Prop := heapPlaysUptoRow.holds Try.pinned (OpenSpec.upto heapPlaysSpec)

/-- 'seepagelaw04.HeapNil', WHERE WHAT IT READS IS OF BULK AT MOST 1048576: true; the input reads as it did. -/
def heapNilUptoRow : OpenClaim := { program := "ytebclbpibafkdaa", sum := "1b20631a03965f6f56518f662d983656d6d1ac50c182698dc5c76b831eabe4ff", func := "seepage/seepagelaw04.HeapNil", spec := "heapNil", unfollowed := true, recurses := true, apart := false, narrowed := true }
def HeapNilUptoSaid : Prop := heapNilUptoRow.holds Try.pinned (OpenSpec.upto heapNilSpec)

end Rows
end Go.Proofs.Ytebclbpibafkdaa
