/- Rows of edges and of numbers in memory. No program in sight. -/
import Derived.Test.YthacjealoomioaaZMgA
import Derived.Test.YthacjealoomioaaZMgB
namespace Go.Proofs.Ythacjealoomioaa
set_option linter.unusedVariables false
set_option linter.unusedSimpArgs false
open Go.RowKit

/-- A slice of edges that is read. -/
structure ERow (w : World) (ao : Option Addr) (len b off : Nat) (l : List Ed) : Prop where
  size : l.length = len
  adr : 0 < len → ao = some ⟨b, off, none⟩
  cell : ∀ i, i < len → w.cell? ⟨b, off + i * 3, none⟩ = some (.int .i64 (EA l i).U) ∧ w.cell? ⟨b, off + i * 3 + 1, none⟩ = some (.int .i64 (EA l i).V) ∧ w.cell? ⟨b, off + i * 3 + 2, none⟩ = some (.int .i64 (EA l i).W)

theorem ERow.lt {w : World} {ao : Option Addr} {len b off : Nat} {l : List Ed} (h : ERow w ao len b off l) (hl : 0 < len) : b < w.heap.size := World.block_lt_of_cell? w _ (h.cell 0 hl).1

theorem ERow.below {w w' : World} {ao : Option Addr} {len b off : Nat} {l : List Ed} (h : ERow w ao len b off l) (hb : Below w.heap.size w w') : ERow w' ao len b off l :=
  ⟨h.size, h.adr, fun i hi => ⟨(hb.cell (h.lt (by omega))).trans (h.cell i hi).1, (hb.cell (h.lt (by omega))).trans (h.cell i hi).2.1, (hb.cell (h.lt (by omega))).trans (h.cell i hi).2.2⟩⟩

theorem ERow.mod {w w' : World} {ao : Option Addr} {len b off : Nat} {l : List Ed} {F : Nat → Prop} (h : ERow w ao len b off l) (hm : Mod F w w') (hn : 0 < len → ¬ F b) : ERow w' ao len b off l :=
  ⟨h.size, h.adr, fun i hi => ⟨(hm.cell (h.lt (by omega)) (hn (by omega))).trans (h.cell i hi).1, (hm.cell (h.lt (by omega)) (hn (by omega))).trans (h.cell i hi).2.1, (hm.cell (h.lt (by omega)) (hn (by omega))).trans (h.cell i hi).2.2⟩⟩

def edCells (l : List Ed) : List Value := l.flatMap Ed.cells

theorem edCells_len (l : List Ed) : (edCells l).length = l.length * 3 := by
  induction l with
  | nil => rfl
  | cons e l ih => unfold edCells at *; rw [List.flatMap_cons, List.length_append, ih]; simp [Ed.cells]; omega

theorem edCells_at (l : List Ed) : ∀ (i j : Nat), i < l.length → j < 3 → (edCells l)[i * 3 + j]? = (EA l i).cells[j]? := by
  induction l with
  | nil => intro i j hi; simp at hi
  | cons e l ih =>
    intro i j hi hj
    unfold edCells
    rw [List.flatMap_cons]
    cases i with
    | zero => rw [Nat.zero_mul, Nat.zero_add, List.getElem?_append_left (by simp [Ed.cells]; omega)]; rfl
    | succ i =>
      rw [List.getElem?_append_right (by simp [Ed.cells]; omega)]
      have : (i + 1) * 3 + j - e.cells.length = i * 3 + j := by simp [Ed.cells]; omega
      rw [this]
      exact ih i j (by simpa using hi) hj

theorem edCells_one (l : List Ed) : ∀ u ∈ edCells l, u.oneCell' = true := by
  intro u hu
  unfold edCells at hu
  obtain ⟨e, _, he⟩ := List.mem_flatMap.1 hu
  simp only [Ed.cells, List.mem_cons, List.not_mem_nil, or_false] at he
  rcases he with rfl | rfl | rfl <;> rfl

theorem ERow.of_owns {w : World} {T : TypeId} {v : Value} {l : List Ed} (h : w.ownsRow 0 T 3 v l.length (edCells l)) : ∃ ao cap b, v = .slice ao l.length cap ∧ ERow w ao l.length b 0 l ∧ (∀ k, v.ownBlock = some k → k = b) := by
  by_cases hz : 0 < l.length
  · obtain ⟨g, cap, rfl, hcap, _, _, hc, _⟩ := owns_form h hz
    refine ⟨_, _, g, rfl, ⟨rfl, fun _ => rfl, fun i hi => ?_⟩, fun k hk => by simpa [Value.ownBlock] using hk.symm⟩
    have key : ∀ j u, j < 3 → (EA l i).cells[j]? = some u → w.cell? ⟨g, i * 3 + j, none⟩ = some u := fun j u hj hu => by
      rw [hc (i * 3 + j) (by omega), edCells_at l i j hi hj]; exact hu
    rw [Nat.zero_add]
    exact ⟨key 0 _ (by omega) rfl, key 1 _ (by omega) rfl, key 2 _ (by omega) rfl⟩
  · obtain ⟨ao, cap, rfl⟩ := owns_slice h
    refine ⟨ao, cap, (ao.map (·.block)).getD 0, rfl, ⟨rfl, fun h => by omega, fun i hi => by omega⟩, fun k hk => ?_⟩
    cases ao with
    | none => cases hk
    | some a => simpa [Value.ownBlock] using hk.symm

/-- Numbers from 0 on, as cells. -/
def natV (l : List Nat) : List Value := l.map fun x : Nat => Value.int .i64 (x : Int)

theorem natV_len (l : List Nat) : (natV l).length = l.length := by simp [natV]
theorem natV_one (l : List Nat) : ∀ u ∈ natV l, u.oneCell' = true := by
  intro u hu
  obtain ⟨x, _, rfl⟩ := List.mem_map.1 hu
  rfl
theorem natV_zero (n : Nat) : natV (List.replicate n 0) = List.replicate n (.int .i64 0) := by simp [natV]
theorem natV_get {l : List Nat} {i : Nat} (hi : i < l.length) : (natV l)[i]? = some (.int .i64 ((l.getD i 0 : Nat) : Int)) := by
  unfold natV
  rw [List.getElem?_map, List.getD_eq_getElem?_getD, List.getElem?_eq_getElem hi]; rfl
theorem natV_set (l : List Nat) (i x : Nat) : (natV l).set i (.int .i64 (x : Int)) = natV (l.set i x) := by unfold natV; rw [List.map_set]

theorem blkN {w : World} {b : Nat} {T : TypeId} {l : List Nat} (h : Blk w b T (natV l)) {i : Nat} (hi : i < l.length) : w.cell? ⟨b, i, none⟩ = some (.int .i64 ((l.getD i 0 : Nat) : Int)) := h.cell (natV_get hi)
theorem blkN_set {w : World} {b : Nat} {T : TypeId} {l : List Nat} (h : Blk w b T (natV l)) (i x : Nat) : Blk (w.setCell ⟨b, i, none⟩ (.int .i64 (x : Int))) b T (natV (l.set i x)) := by
  have := h.set i (.int .i64 (x : Int))
  rw [natV_set] at this
  exact this

theorem blkI {w : World} {b : Nat} {T : TypeId} {l : List Int} (h : Blk w b T (l.map fun y => .int .i64 y)) {i : Nat} (hi : i < l.length) : w.cell? ⟨b, i, none⟩ = some (.int .i64 (l.getD i 0)) := by
  refine h.cell ?_
  rw [List.getElem?_map, List.getD_eq_getElem?_getD, List.getElem?_eq_getElem hi]; rfl
theorem blkI_set {w : World} {b : Nat} {T : TypeId} {l : List Int} (h : Blk w b T (l.map fun y => .int .i64 y)) (i : Nat) (x : Int) : Blk (w.setCell ⟨b, i, none⟩ (.int .i64 x)) b T ((l.set i x).map fun y => .int .i64 y) := by
  have := h.set i (.int .i64 x)
  rw [← List.map_set] at this
  exact this

/-- Numbers from 0 on that are read: a row of integers. -/
def nI (l : List Nat) : List Int := l.map fun x : Nat => (x : Int)
theorem nI_len (l : List Nat) : (nI l).length = l.length := by simp [nI]
theorem nI_at {l : List Nat} {i : Nat} (hi : i < l.length) : (nI l).getD i 0 = ((l.getD i 0 : Nat) : Int) := by
  unfold nI
  rw [List.getD_eq_getElem?_getD, List.getElem?_map, List.getD_eq_getElem?_getD, List.getElem?_eq_getElem hi]; rfl
theorem natV_nI (l : List Nat) : natV l = (nI l).map fun y => .int .i64 y := by simp [natV, nI]
theorem rowN {w : World} {b : Nat} {T : TypeId} {l : List Nat} (h : Blk w b T (natV l)) : InRow .i64 w (some ⟨b, 0, none⟩) l.length b 0 (nI l) := by
  rw [natV_nI] at h
  have := InRow.of_blk h
  rw [nI_len] at this
  exact this

theorem bel_then {w wy w' : World} (h1 : Below w.heap.size w wy) (h2 : Below wy.heap.size wy w') : Below w.heap.size w w' := h1.trans (h2.mono h1.size)

theorem bel_set {W w' : World} {p i : Nat} {v : Value} (h : Below W.heap.size W w') (hp : W.heap.size ≤ p) : Below W.heap.size W (w'.setCell ⟨p, i, none⟩ v) :=
  h.trans (Mod.below (F := fun k => k = p) (Mod.setCell (Mod.refl (fun k => k = p) w') ⟨p, i, none⟩ (fun _ => rfl) v) h.size (fun x hx => by have hx' : x = p := hx; omega))

theorem bel_mod {F : Nat → Prop} {w w1 w2 : World} (h : Below w.heap.size w w1) (m : Mod F w1 w2) (hF : ∀ x, F x → w.heap.size ≤ x) : Below w.heap.size w w2 := h.trans (m.below h.size hF)

theorem ownN {w : World} {T : TypeId} {g n cap : Nat} {l : List Nat} (h : w.ownsRow 0 T 1 (.slice (some ⟨g, 0, none⟩) n cap) n (natV l)) (hl : l.length = n) {i : Nat} (hi : i < n) :
    w.cell? ⟨g, i, none⟩ = some (.int .i64 ((l.getD i 0 : Nat) : Int)) ∧ w.frozen? ⟨g, i, none⟩ = false := by
  obtain ⟨g', cap', e, _, _, _, hc, hf⟩ := owns_form h (by omega)
  injection e with e
  injection e with e
  injection e with e
  subst e
  exact ⟨by rw [hc i (by omega), natV_get (by omega)], hf i⟩

theorem ownN_set {w : World} {T : TypeId} {g n cap : Nat} {l : List Nat} (h : w.ownsRow 0 T 1 (.slice (some ⟨g, 0, none⟩) n cap) n (natV l)) {i : Nat} (hi : i < n) (x : Nat) :
    (w.setCell ⟨g, i, none⟩ (.int .i64 (x : Int))).ownsRow 0 T 1 (.slice (some ⟨g, 0, none⟩) n cap) n (natV (l.set i x)) := by
  have := owns_set h i (by omega) (.int .i64 (x : Int))
  rw [natV_set] at this
  exact this

/-- w2 is w behind a draw. -/
def DrewOf (w w2 : World) : Prop := w2 = w.drew
theorem DrewOf.cell {w w2 : World} (h : DrewOf w w2) {p : Addr} {v : Value} (hc : w.cell? p = some v) : w2.cell? p = some v := by unfold DrewOf at h; subst h; exact hc
theorem DrewOf.frozen {w w2 : World} (h : DrewOf w w2) {p : Addr} {v : Bool} (hc : w.frozen? p = v) : w2.frozen? p = v := by unfold DrewOf at h; subst h; exact hc
theorem DrewOf.blk {w w2 : World} (h : DrewOf w w2) {b : Nat} {T : TypeId} {cs : List Value} (hc : Blk w b T cs) : Blk w2 b T cs := by unfold DrewOf at h; subst h; exact hc
theorem DrewOf.mod {F : Nat → Prop} {a w w2 : World} (h : DrewOf w w2) (hc : Mod F a w) : Mod F a w2 := by unfold DrewOf at h; subst h; exact hc.drew
theorem DrewOf.bel {B : Nat} {a w w2 : World} (h : DrewOf w w2) (hc : Below B a w) : Below B a w2 := by unfold DrewOf at h; subst h; exact hc.drew
theorem DrewOf.self {w w2 : World} (h : DrewOf w w2) : Below w.heap.size w w2 := h.bel (Below.refl _ _)
theorem DrewOf.size {w w2 : World} (h : DrewOf w w2) : w2.heap.size = w.heap.size := by unfold DrewOf at h; subst h; rfl

theorem region_tailD {P : Program} {id : Nat} {Q : Exit → Act → World → Prop} {a : Act} {w : World} {l : List Oper} (n : Nat) (hm : P.follows .mixedOrders = true) (hB : Region.lexTailB .any l.toArray n = true)
    (h : ∀ w2, DrewOf w w2 → wpStill P l.toArray w2 (fun a' => wpList P l.toArray Q (l.drop n) a' w2) (l.take n) a) : (Code.region id l.toArray true).wp P Q a w := region_tail n hm hB h

end Go.Proofs.Ythacjealoomioaa
