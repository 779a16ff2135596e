/- DpE. -/
import Derived.Test.YthacjealoomioaaGreatDoorZGt
import Derived.Test.YthacjealoomioaaGreatDoorZRfB
import Derived.Test.YthacjealoomioaaGreatDoorZGc2
import Derived.Test.YthacjealoomioaaGreatDoorZGp
/- The reference's made: what lies in memory. -/
namespace Go.Proofs.YthacjealoomioaaGreatDoor
set_option linter.unusedVariables false
set_option linter.unusedSimpArgs false
open Go.RowKit

theorem pt_at : ∀ (l : List Pt) (k : Nat), k < l.length → (ptCells l)[k * 4]? = some (.int .i64 (PA l k).leaf) ∧ (ptCells l)[k * 4 + 1]? = some (.int .i64 (PA l k).left) ∧ (ptCells l)[k * 4 + 2]? = some (.int .i64 (PA l k).right) ∧ (ptCells l)[k * 4 + 3]? = some (.int .i64 (PA l k).h)
  | [], k, hk => by simp at hk
  | j :: l, 0, hk => ⟨rfl, rfl, rfl, rfl⟩
  | j :: l, k + 1, hk => by
    obtain ⟨a, b, c, d⟩ := pt_at l k (by simpa using hk)
    have e1 : ptCells (j :: l) = [.int .i64 j.leaf, .int .i64 j.left, .int .i64 j.right, .int .i64 j.h] ++ ptCells l := rfl
    have e2 : PA (j :: l) (k + 1) = PA l k := rfl
    have key : ∀ q, (k + 1) * 4 + q - [Value.int .i64 j.leaf, .int .i64 j.left, .int .i64 j.right, .int .i64 j.h].length = k * 4 + q := fun q => by simp; omega
    rw [e1, e2, List.getElem?_append_right (by simp; omega), List.getElem?_append_right (by simp; omega), List.getElem?_append_right (by simp; omega), List.getElem?_append_right (by simp; omega)]
    have k0 := key 0
    simp only [Nat.add_zero] at k0
    rw [k0, key 1, key 2, key 3]
    exact ⟨a, b, c, d⟩

/-- Parts that are read. -/
structure PRow (W : World) (g : Nat) (L : List Pt) : Prop where
  c : ∀ k, k < L.length → W.cell? ⟨g, k * 4, none⟩ = some (.int .i64 (PA L k).leaf) ∧ W.cell? ⟨g, k * 4 + 1, none⟩ = some (.int .i64 (PA L k).left) ∧ W.cell? ⟨g, k * 4 + 2, none⟩ = some (.int .i64 (PA L k).right) ∧ W.cell? ⟨g, k * 4 + 3, none⟩ = some (.int .i64 (PA L k).h)
theorem PRow.mod {F : Nat → Prop} {W W' : World} {g : Nat} {L : List Pt} (h : PRow W g L) (hm : Mod F W W') (hF : 0 < L.length → ¬ F g) : PRow W' g L :=
  ⟨fun k hk => by
    have hF := hF (by omega)
    obtain ⟨a, b, c, d⟩ := h.c k hk
    exact ⟨(hm.cell (World.block_lt_of_cell? W _ a) hF).trans a, (hm.cell (World.block_lt_of_cell? W _ b) hF).trans b, (hm.cell (World.block_lt_of_cell? W _ c) hF).trans c, (hm.cell (World.block_lt_of_cell? W _ d) hF).trans d⟩⟩
theorem PRow.below {W W' : World} {g : Nat} {L : List Pt} (h : PRow W g L) (hb : Below W.heap.size W W') : PRow W' g L := h.mod (Mod.of_below (F := fun _ => False) hb) (fun _ => id)
theorem PRow.lt {W : World} {g : Nat} {L : List Pt} (h : PRow W g L) (hl : 0 < L.length) : g < W.heap.size := World.block_lt_of_cell? W _ (h.c 0 hl).1
theorem PRow.of_owns {W : World} {B : Nat} {v : Value} {L : List Pt} (h : W.ownsRow B 140 4 v L.length (ptCells L)) : ∃ ao cap g, v = .slice ao L.length cap ∧ PRow W g L ∧ (0 < L.length → ao = some ⟨g, 0, none⟩) := by
  obtain ⟨o, c, rfl⟩ := owns_slice h
  by_cases hj : 0 < L.length
  · obtain ⟨g, cap, e, _, _, _, hcell, _⟩ := owns_form h hj
    refine ⟨o, c, g, rfl, ⟨fun k hk => ?_⟩, fun _ => by injection e⟩
    obtain ⟨a1, a2, a3, a4⟩ := pt_at L k hk
    exact ⟨(hcell (k * 4) (by omega)).trans a1, (hcell (k * 4 + 1) (by omega)).trans a2, (hcell (k * 4 + 2) (by omega)).trans a3, (hcell (k * 4 + 3) (by omega)).trans a4⟩
  · exact ⟨o, c, 0, rfl, ⟨fun k hk => absurd (Nat.lt_of_le_of_lt (Nat.zero_le _) hk) hj⟩, fun h => absurd h hj⟩

/-- A row of booleans. -/
def boolV (n : Nat) (f : Nat → Bool) : List Value := (List.range n).map fun i => .bool (f i)
theorem boolV_get {n : Nat} {f : Nat → Bool} {i : Nat} (h : i < n) : (boolV n f)[i]? = some (.bool (f i)) := by
  unfold boolV; rw [List.getElem?_map, List.getElem?_range h]; rfl
theorem boolV_false (n : Nat) : List.replicate n (Value.bool false) = boolV n fun _ => false := by
  unfold boolV
  apply List.ext_getElem (by simp)
  intro i h1 h2
  simp
theorem boolV_congr {n : Nat} {f g : Nat → Bool} (h : ∀ x, x < n → f x = g x) : boolV n f = boolV n g := by
  unfold boolV
  exact List.map_congr_left fun x hx => by rw [h x (List.mem_range.1 hx)]
theorem boolV_set {n : Nat} {f : Nat → Bool} {p : Nat} (v : Bool) : (boolV n f).set p (.bool v) = boolV n fun x => if x = p then v else f x := by
  unfold boolV
  apply List.ext_getElem (by simp)
  intro i h1 h2
  rw [List.getElem_set]
  simp only [List.getElem_map, List.getElem_range]
  by_cases e : p = i
  · subst e; simp
  · rw [if_neg e, if_neg (fun q => e q.symm)]

/-- A list of the tree. -/
theorem RTr.form {B : Nat} {W : World} {tb : Nat} {V : RV} {t : Tr} (h : RTr B W tb V t) {i : Nat} (hi : i < 5) (hl : 0 < (t.at i).length) : ∃ g cap, V.at i = .slice (some ⟨g, 0, none⟩) (t.at i).length cap ∧ ∀ j, j < (t.at i).length → W.cell? ⟨g, j, none⟩ = some (.int .i64 (gi (t.at i) j)) ∧ W.frozen? ⟨g, j, none⟩ = false := by
  have ho := h.own i hi
  obtain ⟨g, cap, e, _⟩ := owns_form ho hl
  refine ⟨g, cap, e, fun j hj => ?_⟩
  have ho' : W.ownsRow 0 (rvT i) 1 (V.at i) (t.at i).length (intV (t.at i)) := ho
  rw [e] at ho'
  exact own_int ho' rfl hj
theorem RTr.modF {F : Nat → Prop} {B : Nat} {W W' : World} {tb : Nat} {V : RV} {t : Tr} (h : RTr B W tb V t) (m : Mod F W W') (hF : ∀ x, B ≤ x → ¬ F x) : RTr B W' tb V t :=
  ⟨h.box.mod m (hF tb h.tbn), fun i hi => owns_mod (h.own i hi) m (fun x hx => hF x (h.nb i hi x hx).2), h.ne, h.nb, h.tbn⟩
theorem RTr.drewN {B : Nat} {W : World} {tb : Nat} {V : RV} {t : Tr} (h : RTr B W tb V t) (n : Nat) : RTr B (W.drewN n) tb V t := h.below (bel_drewN (Below.refl _ _) n)

end Go.Proofs.YthacjealoomioaaGreatDoor
