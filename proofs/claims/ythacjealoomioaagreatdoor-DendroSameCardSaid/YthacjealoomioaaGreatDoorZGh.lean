/- RcL. -/
import Derived.Test.YthacjealoomioaaGreatDoorZGd
import Derived.Test.YthacjealoomioaaGreatDoorZGb
import Derived.BigRegion
import Derived.Deep.DeepCutAuto
/- dsu: New, Union. -/
namespace Go.Proofs.YthacjealoomioaaGreatDoor
set_option linter.unusedVariables false
set_option linter.unusedSimpArgs false
open Go.RowKit

theorem run_minI (x y : Int) (w : World) : (Builtin.min_ #[3, 3] 3 #[Value.int IntKind.i64 x, .int .i64 y]).run Tryz.prog w = .ok (.int .i64 (min x y)) w := by
  by_cases h : x < y
  · have h2 : ¬ y < x := by omega
    rw [Int.min_eq_left (by omega)]
    simp [go_sem, h, h2]
  · rw [Int.min_eq_right (by omega)]
    by_cases h3 : y < x
    · simp [go_sem, h, h3]
    · have : x = y := by omega
      subst this
      simp [go_sem]

end Go.Proofs.YthacjealoomioaaGreatDoor
