/- RfH. -/
import Derived.Test.YthacjealoomioaaGreatDoorZRfO
import Derived.Test.YthacjealoomioaaGreatDoorZGg
import Derived.Test.YthacjealoomioaaGreatDoorZGb
import Derived.Test.YthacjealoomioaaGreatDoorZGh
import Derived.Deep.RegionHeld3
/- Reference of layer 17: grown, Forest. -/
namespace Go.Proofs.YthacjealoomioaaGreatDoor
set_option linter.unusedVariables false
set_option linter.unusedSimpArgs false
open Go.RowKit

theorem own_rowN {w : World} {T : TypeId} {v : Value} {n : Nat} {l : List Nat} (h : w.ownsRow 0 T 1 v n (natV l)) (hl : l.length = n) : ∃ ao cap b, v = .slice ao n cap ∧ InRow .i64 w ao n b 0 (nI l) ∧ ∀ k, v.ownBlock = some k → k = b := by
  rw [natV_nI] at h
  subst hl
  have h' : w.ownsRow 0 T 1 v (nI l).length ((nI l).map fun x => .int .i64 x) := by rw [nI_len]; exact h
  have := owns_row h'
  rw [nI_len] at this
  exact this

theorem own_lt {w : World} {T size n : Nat} {v : Value} {xs : List Value} (h : w.ownsRow 0 T size v n xs) {k : Nat} (hk : v.ownBlock = some k) : k < w.heap.size := by
  rcases h.2 with ⟨rfl, _⟩ | ⟨g, cap, cur, rfl, _, hg, _⟩
  · cases hk
  · injection hk with hk
    subst hk
    exact (Array.getElem?_eq_some_iff.1 hg).1

end Go.Proofs.YthacjealoomioaaGreatDoor
