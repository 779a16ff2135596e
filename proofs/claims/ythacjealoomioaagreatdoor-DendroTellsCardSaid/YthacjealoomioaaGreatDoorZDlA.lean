/- DlA. -/
import Derived.Test.YthacjealoomioaaGreatDoorZHg
import Derived.Test.YthacjealoomioaaGreatDoorZGc
import Derived.Test.YthacjealoomioaaGreatDoorZGh
import Derived.Test.YthacjealoomioaaGreatDoorZGg
import Derived.Test.YthacjealoomioaaGreatDoorZHd
import Derived.Test.YthacjealoomioaaGreatDoorZGb
import Derived.Test.YthacjealoomioaaGreatDoorZGd
import Derived.Deep.RegionHeld3
/- The statements about the trees of graphs, layer 22: what they begin with. -/
namespace Go.Proofs.YthacjealoomioaaGreatDoor
set_option linter.unusedVariables false
set_option linter.unusedSimpArgs false
open Go.RowKit

theorem GTree.hgt_in {n m : Nat} {L : List Ed} {T : Tr} {ls : List Nat} (h : GTree n m L T ls) (hw : ∀ i, i < L.length → -5 ≤ wI L i ∧ wI L i ≤ 10) : ∀ x, x < m → -5 ≤ gi T.hgt x ∧ gi T.hgt x ≤ 10 := fun x hx => by
  by_cases c : x < n
  · rw [(h.tv.leaf x c).2.2.1]; omega
  · have hm := h.meq
    have e := bdL_hgt h.g (i := x - n) (by omega)
    rw [show n + (x - n) = x by omega, ← h.eq] at e
    rw [e]
    refine hw _ ?_
    have hm : fe n L (x - n) ∈ forL n L := by
      unfold fe
      rw [List.getD_eq_getElem?_getD, List.getElem?_eq_getElem (show x - n < (forL n L).length by unfold FN at hm; omega)]
      exact List.getElem_mem _
    exact forL_mem hm
theorem GTree.h64 {n m : Nat} {L : List Ed} {T : Tr} {ls : List Nat} (h : GTree n m L T ls) (hw : ∀ i, i < L.length → -5 ≤ wI L i ∧ wI L i ≤ 10) : Hgt64 T := fun x hx => by
  have := h.hgt_in hw x (by rw [← h.tv.hl]; exact hx)
  unfold In64
  omega

end Go.Proofs.YthacjealoomioaaGreatDoor
