/- RfO. -/
import Derived.Test.YthacjealoomioaaGreatDoorZRfP
import Derived.Test.YthacjealoomioaaGreatDoorZGd
import Derived.RegionTactic
import Derived.BigRegion
import Derived.Deep.DeepCutAuto
/- Reference of layer 17: Order. -/
namespace Go.Proofs.YthacjealoomioaaGreatDoor
set_option linter.unusedVariables false
set_option linter.unusedSimpArgs false
open Go.RowKit

theorem natV_snoc (l : List Nat) (x : Nat) : natV (l ++ [x]) = natV l ++ [.int .i64 (x : Int)] := by simp [natV]

end Go.Proofs.YthacjealoomioaaGreatDoor
