/- RcQ. -/
import Derived.Test.YthacjealoomioaaGreatDoorZGf
import Derived.Test.YthacjealoomioaaGreatDoorZGd
import Derived.Sort.Grow
import Derived.BigRegion
import Derived.Deep.DeepCutAuto
/- cmp.Compare, cmp.Or; kruskal.Order. -/
namespace Go.Proofs.YthacjealoomioaaGreatDoor
set_option linter.unusedVariables false
set_option linter.unusedSimpArgs false
open Go.RowKit

def cmpI (a b : Int) : Int := if a < b then -1 else if b < a then 1 else 0
set_option maxHeartbeats 400000 in
theorem isNaN64 (a : Int) (w : World) : Calls Tryz.prog 111 #[.int .i64 a] w (Ret (.bool false) w) := by
  go_enter Tryz.func111, Tryz.ntmps111
  go_wp2
  go_ret
  exact ⟨by simp, rfl⟩

set_option maxHeartbeats 400000 in
theorem isNaNi (a : Int) (w : World) : Calls Tryz.prog 116 #[.int .i64 a] w (Ret (.bool false) w) := by
  go_enter Tryz.func116, Tryz.ntmps116
  go_wp2
  go_ret
  exact ⟨by simp, rfl⟩

set_option maxHeartbeats 400000 in
theorem compare64 (a b : Int) (w : World) : Calls Tryz.prog 79 #[.int .i64 a, .int .i64 b] w (Ret (.int .i64 (cmpI a b)) w) := by
  go_enter Tryz.func79, Tryz.ntmps79
  go_wp2_with (go_at_call 111; refine (isNaN64 _ _).mono ?_; rintro e w' ⟨rfl, rfl⟩)
  all_goals
    go_ret
    exact ⟨ret_int (by unfold cmpI; repeat' split; all_goals omega), rfl⟩

set_option maxHeartbeats 400000 in
theorem comparei (a b : Int) (w : World) : Calls Tryz.prog 89 #[.int .i64 a, .int .i64 b] w (Ret (.int .i64 (cmpI a b)) w) := by
  go_enter Tryz.func89, Tryz.ntmps89
  go_wp2_with (go_at_call 116; refine (isNaNi _ _).mono ?_; rintro e w' ⟨rfl, rfl⟩)
  all_goals
    go_ret
    exact ⟨ret_int (by unfold cmpI; repeat' split; all_goals omega), rfl⟩

end Go.Proofs.YthacjealoomioaaGreatDoor
