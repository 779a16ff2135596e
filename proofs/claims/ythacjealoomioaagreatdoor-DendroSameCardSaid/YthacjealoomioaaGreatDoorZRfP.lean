/- RfP. -/
import Derived.Test.YthacjealoomioaaGreatDoorZGj
/- Reference of layers 17 and 18, plainly: an insertion sort; the tree that grows node by node. No program in sight. -/
namespace Go.Proofs.YthacjealoomioaaGreatDoor
set_option linter.unusedVariables false
set_option linter.unusedSimpArgs false
open Go.RowKit

/- The insertion sort. -/
/-- i leaves. -/
def lvT (n i : Nat) : Tr := ⟨n, List.replicate i (-1), List.replicate i (-1), List.replicate i (-1), List.replicate i 0, List.replicate i 1⟩
theorem lvT_succ (n i : Nat) : lvT n (i + 1) = ⟨(lvT n i).lv, (lvT n i).left ++ [-1], (lvT n i).right ++ [-1], (lvT n i).par ++ [-1], (lvT n i).hgt ++ [0], (lvT n i).siz ++ [1]⟩ := by
  unfold lvT
  simp only [List.replicate_succ']
end Go.Proofs.YthacjealoomioaaGreatDoor
