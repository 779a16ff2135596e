/- RfB. -/
import Derived.Test.YthacjealoomioaaGreatDoorZGd
import Derived.Test.YthacjealoomioaaGreatDoorZGl
import Derived.Test.YthacjealoomioaaGreatDoorZGj
import Derived.Test.YthacjealoomioaaGreatDoorZGb
/- Reference of layer 18: Build. -/
namespace Go.Proofs.YthacjealoomioaaGreatDoor
set_option linter.unusedVariables false
set_option linter.unusedSimpArgs false
open Go.RowKit

def nilV : RV := ⟨.slice none 0 0, .slice none 0 0, .slice none 0 0, .slice none 0 0, .slice none 0 0⟩

theorem RTr.start {B : Nat} {W : World} {tb : Nat} {n : Nat} (h : Blk W tb 27 [.int .i64 (n : Int), .slice none 0 0, .slice none 0 0, .slice none 0 0, .slice none 0 0, .slice none 0 0]) (hB : B ≤ tb) : RTr B W tb nilV (lvT n 0) := by
  have e : ∀ i, i < 5 → nilV.at i = .slice none 0 0 := fun i hi => by
    have h1 : i = 0 ∨ i = 1 ∨ i = 2 ∨ i = 3 ∨ i = 4 := by omega
    rcases h1 with rfl | rfl | rfl | rfl | rfl <;> rfl
  have e2 : ∀ i, i < 5 → (lvT n 0).at i = [] := fun i hi => by
    have h1 : i = 0 ∨ i = 1 ∨ i = 2 ∨ i = 3 ∨ i = 4 := by omega
    rcases h1 with rfl | rfl | rfl | rfl | rfl <;> rfl
  refine ⟨h, fun i hi => ?_, fun i j hi hj _ x hx => ?_, fun i hi x hx => ?_, hB⟩
  · rw [e i hi, e2 i hi]; exact World.ownsRow_nil _ _ _ _
  · rw [e i hi] at hx; cases hx
  · rw [e i hi] at hx; cases hx

theorem own_int {w : World} {T : TypeId} {g n cap : Nat} {l : List Int} (h : w.ownsRow 0 T 1 (.slice (some ⟨g, 0, none⟩) n cap) n (intV l)) (hl : l.length = n) {i : Nat} (hi : i < n) :
    w.cell? ⟨g, i, none⟩ = some (.int .i64 (gi l i)) ∧ w.frozen? ⟨g, i, none⟩ = false := by
  obtain ⟨g', cap', e, _, _, _, hc, hf⟩ := owns_form h (by omega)
  injection e with e
  injection e with e
  injection e with e
  subst e
  refine ⟨?_, hf i⟩
  rw [hc i (by omega)]
  unfold intV gi
  rw [List.getElem?_map, List.getD_eq_getElem?_getD, List.getElem?_eq_getElem (by omega)]; rfl

theorem lv_at_len (n i j : Nat) (hj : j < 5) : ((lvT n i).at j).length = i := by
  have h1 : j = 0 ∨ j = 1 ∨ j = 2 ∨ j = 3 ∨ j = 4 := by omega
  rcases h1 with rfl | rfl | rfl | rfl | rfl <;> exact List.length_replicate

end Go.Proofs.YthacjealoomioaaGreatDoor
