/- RcU. -/
import Derived.Test.YthacjealoomioaaGreatDoorZGg
import Derived.Test.YthacjealoomioaaGreatDoorZGb
import Derived.Test.YthacjealoomioaaGreatDoorZGh
import Derived.Deep.RegionHeld3
/- kruskal.Forest. -/
namespace Go.Proofs.YthacjealoomioaaGreatDoor
set_option linter.unusedVariables false
set_option linter.unusedSimpArgs false
open Go.RowKit

/-- What Forest returns. -/
structure FoPost (w : World) (n : Int) (l : List Ed) (e : Ending) (w' : World) : Prop where
  bad : newErr n l ≠ 0 → e = .returned (.tuple #[.slice none 0 0, .int .i64 (newErr n l)])
  ok : newErr n l = 0 → ∃ v, e = .returned (.tuple #[v, .int .i64 0]) ∧ w'.ownsRow 0 3 1 v (forL n.toNat l).length (natV (forL n.toNat l)) ∧ ∀ k, v.ownBlock = some k → w.heap.size ≤ k
  bel : Below w.heap.size w w'

end Go.Proofs.YthacjealoomioaaGreatDoor
