/- What the laid variable 'methods' gives a walk. -/
import Derived.Test.YthhddjknjnjbhaaDoorTie
import Derived.Test.YthhddjknjnjbhaaDoorCards
import Derived.ProofKit
import Derived.LaidLaws
import Derived.LaidMore
import Derived.LaidHandle
import Derived.OpenShut
import Derived.Stop.Joined
namespace Go.Proofs.YthhddjknjnjbhaaDoor
open Go.ChangeShapes Go.WideShapes Go.ChangeAt Go.RowKit
set_option linter.unusedVariables false
set_option linter.unusedSimpArgs false

def laidMs : List (String × DataW Unit) := [("seepage/seepagelaw23.methods", Rows.laid_seepage_seepagelaw23_methods)]

theorem gMethods : Tryd.prog.globalNamed "seepage/seepagelaw23.methods" = some 0 := by kernel_rfl
theorem tMethods : (Tryd.prog.globals[0]?).map (·.type) = some 26 := by kernel_rfl
theorem cMethod : Tryd.prog.cellsOf 25 = 1 := by kernel_rfl
theorem cMethods : Tryd.prog.cellsOf 26 = 3 := by kernel_rfl

/-- The three methods in the variable's cells. -/
structure Mets (w : World) : Prop where
  lt : 0 < w.heap.size
  c0 : w.cell? ⟨0, 0, none⟩ = some (.int .i64 1)
  c1 : w.cell? ⟨0, 1, none⟩ = some (.int .i64 2)
  c2 : w.cell? ⟨0, 2, none⟩ = some (.int .i64 3)

theorem Mets.below {w w' : World} {B : Nat} (h : Mets w) (hb : Below B w w') (hB : 0 < B) : Mets w' :=
  ⟨Nat.lt_of_lt_of_le h.lt hb.size, (hb.cell (p := ⟨_, _, none⟩) hB).trans h.c0, (hb.cell (p := ⟨_, _, none⟩) hB).trans h.c1, (hb.cell (p := ⟨_, _, none⟩) hB).trans h.c2⟩

theorem mets_of_laid {W : World} (h : laidMetH Tryd.prog laidMs W) : Mets W := by
  rw [MakeChecks.laidMetH_plain _ _ _ (by kernel_rfl)] at h
  obtain ⟨ps, ⟨g0, t0, cs0, f0, p0, q0, hg0, ht0, hv0, hd0, _, _⟩, _⟩ := h
  obtain rfl := Option.some.inj (gMethods.symm.trans hg0)
  obtain rfl := Option.some.inj (tMethods.symm.trans ht0)
  obtain ⟨xs, m1, rfl, hx1, hlen, hn3, hel⟩ := DataW.trod_array Tryd.underlying26 hd0
  have h0 := hel 0 (by decide)
  have h1 := hel 1 (by decide)
  have h2 := hel 2 (by decide)
  simp only [Prod.mk.injEq, Rows.laid_seepage_seepagelaw23_methods, DataW.agg.injEq] at hx1
  match xs, hn3, hx1, h0, h1, h2 with
  | [x0, x1, x2], _, hx1, h0, h1, h2 =>
    simp only [List.map_cons, List.map_nil, List.cons.injEq] at hx1
    obtain ⟨k0, a0, b0, _⟩ := DataW.trod_int Tryd.underlying25 (show DataW.trod _ Tryd.prog W 0 _ false m1 25 _ = some x0 from h0)
    obtain ⟨k1, a1, b1, _⟩ := DataW.trod_int Tryd.underlying25 (show DataW.trod _ Tryd.prog W 0 _ false m1 25 _ = some x1 from h1)
    obtain ⟨k2, a2, b2, _⟩ := DataW.trod_int Tryd.underlying25 (show DataW.trod _ Tryd.prog W 0 _ false m1 25 _ = some x2 from h2)
    have e0 : k0 = 1 := by rw [b0] at hx1; simpa using hx1.1.1.symm
    have e1 : k1 = 2 := by rw [b1] at hx1; simpa using hx1.1.2.1.symm
    have e2 : k2 = 3 := by rw [b2] at hx1; simpa using hx1.1.2.2.1.symm
    subst e0; subst e1; subst e2
    have v0 := World.var?_cell hg0 hv0 0
    have v1 := World.var?_cell hg0 hv0 1
    have v2 := World.var?_cell hg0 hv0 2
    obtain ⟨l1⟩ := cs0
    rw [cMethod] at a0 a1 a2
    match l1, a0, a1, a2 with
    | [y0, y1, y2], a0, a1, a2 =>
      simp at a0 a1 a2
      subst a0; subst a1; subst a2
      have v0' : W.cell? ⟨0, 0, none⟩ = some (.int .i64 1) := by simpa using v0
      exact ⟨World.block_lt_of_cell? W _ v0', v0', by simpa using v1, by simpa using v2⟩

/-- The door's own heap meets the condition. -/
theorem door_met (os : Os) (args : Array Value) : laidMetH Tryd.prog laidMs ((World.doorLaid Tryd.prog 400 os).forCall (fun _ _ => 0) ⟨#[], args, []⟩).memory :=
  laidMetH_of_parts3 (fuel := 8) (laidMet_of_run' 8 (by kernel_rfl) (by kernel_rfl)) (by kernel_rfl) (by kernel_rfl)

/-- The i-th method. -/
theorem met_index {i : Nat} (hi : i < 3) : ∃ m : Int, (m = 1 ∨ m = 2 ∨ m = 3) ∧ (Instr.index 26 (.agg #[Value.int IntKind.i64 1, Value.int IntKind.i64 2, Value.int IntKind.i64 3]) (.int .i64 i)).run Tryd.prog = fun w => .ok (.int .i64 m) w := by
  have : i = 0 ∨ i = 1 ∨ i = 2 := by omega
  rcases this with rfl | rfl | rfl
  · exact ⟨1, by omega, rfl⟩
  · exact ⟨2, by omega, rfl⟩
  · exact ⟨3, by omega, rfl⟩

end Go.Proofs.YthhddjknjnjbhaaDoor
