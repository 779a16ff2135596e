/- recon.leasts: its conditions. -/
import Derived.Test.YthacjealoomioaaDoorZRcIn
namespace Go.Proofs.YthacjealoomioaaDoor
set_option linter.unusedVariables false
set_option linter.unusedSimpArgs false
open Go.RowKit

def okB (t : Tr) (ls : List Nat) (x : Nat) : Bool := decide (OkAt t ls x)
theorem okB_eq (t : Tr) (ls : List Nat) (x : Nat) : okB t ls x = (decide (t.lv ≤ x ∨ LeafAt t x) && (decide ((x : Int) < t.lv ∨ InnAt t ls x) && belB t x)) := by
  unfold okB OkAt belB
  rw [Bool.eq_iff_iff]
  simp only [Bool.and_eq_true, decide_eq_true_eq]
  exact decide_eq_true_iff

end Go.Proofs.YthacjealoomioaaDoor
