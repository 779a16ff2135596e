/- DmLaid. -/
import Derived.Test.YthacjealoomioaaGreatDoorTie
import Derived.Test.YthacjealoomioaaGreatDoorCards
import Derived.Test.YthacjealoomioaaGreatDoorZGs
import Derived.ProofKit
import Derived.LaidLaws
import Derived.LaidMore
import Derived.LaidHandle
import Derived.OpenShut
import Derived.Stop.Joined
import Derived.Lib.LaidU8
/- What the laid variables of math/bits and strconv give a walk. -/
namespace Go.Proofs.YthacjealoomioaaGreatDoor
open Go.ChangeShapes Go.WideShapes Go.ChangeAt Go.RowKit
set_option linter.unusedVariables false
set_option linter.unusedSimpArgs false

def laidMs : List (String × DataW Unit) := [("math/bits.deBruijn32tab", Rows.laid_math_bits_deBruijn32tab), ("math/bits.deBruijn64tab", Rows.laid_math_bits_deBruijn64tab), ("internal/strconv.uint64pow10", Rows.laid_internal_strconv_uint64pow10), ("strconv.ErrRange", Rows.laid_strconv_ErrRange), ("strconv.ErrSyntax", Rows.laid_strconv_ErrSyntax)]

theorem g64 : Tryz.prog.globalNamed "math/bits.deBruijn64tab" = some 4 := by kernel_rfl
theorem t64 : (Tryz.prog.globals[4]?).map (·.type) = some 220 := by kernel_rfl
theorem c64 : Tryz.prog.cellsOf 220 = 64 := by kernel_rfl
theorem c8 : Tryz.prog.cellsOf 5 = 1 := by kernel_rfl
theorem laid64 : (Rows.laid_math_bits_deBruijn64tab : DataW Unit) = Go.Lib.tabData .u8 (Lib.deBruijn64tab.map fun x : Nat => (x : Int)) := by kernel_rfl
theorem gP : Tryz.prog.globalNamed "internal/strconv.uint64pow10" = some 0 := by kernel_rfl
theorem tP : (Tryz.prog.globals[0]?).map (·.type) = some 203 := by kernel_rfl
theorem cP : Tryz.prog.cellsOf 203 = 20 := by kernel_rfl
theorem cU : Tryz.prog.cellsOf 45 = 1 := by kernel_rfl
theorem laidP : (Rows.laid_internal_strconv_uint64pow10 : DataW Unit) = Go.Lib.tabData .u64 Lib.pow10Tab := by kernel_rfl
theorem gS : Tryz.prog.globalNamed "strconv.ErrSyntax" = some 1 := by kernel_rfl
theorem tS : (Tryz.prog.globals[1]?).map (·.type) = some 166 := by kernel_rfl
theorem gR : Tryz.prog.globalNamed "strconv.ErrRange" = some 2 := by kernel_rfl
theorem tR : (Tryz.prog.globals[2]?).map (·.type) = some 166 := by kernel_rfl

structure Mets (w : World) : Prop where
  err : ErrV w
  pow : Pow10 w.heap.size w
  tab : Tab64 w

theorem mets_of_laid {W : World} (h : laidMetH Tryz.prog laidMs W) : Mets W := by
  rw [MakeChecks.laidMetH_plain _ _ _ (by kernel_rfl)] at h
  obtain ⟨ps, hv, _⟩ := h
  refine ⟨⟨?_, ?_⟩, ?_, ?_⟩
  · obtain ⟨g, t, cs, fuel, p, hg, hty, hvar, hd⟩ := Go.Lib.LaidVars_reads hv "strconv.ErrSyntax" _ (by unfold laidMs; exact List.mem_cons_of_mem _ (List.mem_cons_of_mem _ (List.mem_cons_of_mem _ (List.mem_cons_of_mem _ (List.mem_cons_self ..)))))
    obtain rfl := Option.some.inj (gS.symm.trans hg)
    obtain rfl := Option.some.inj (tS.symm.trans hty)
    obtain ⟨_, u, v, hcs, _⟩ := iface_of_trod Tryz.underlying166 hd
    refine ⟨.iface u v, ?_, .inr ⟨_, _, rfl⟩⟩
    have := World.var?_cell hg hvar 0
    rw [this, ← Array.getElem?_toList, hcs]
    rfl
  · obtain ⟨g, t, cs, fuel, p, hg, hty, hvar, hd⟩ := Go.Lib.LaidVars_reads hv "strconv.ErrRange" _ (by unfold laidMs; exact List.mem_cons_of_mem _ (List.mem_cons_of_mem _ (List.mem_cons_of_mem _ (List.mem_cons_self ..))))
    obtain rfl := Option.some.inj (gR.symm.trans hg)
    obtain rfl := Option.some.inj (tR.symm.trans hty)
    obtain ⟨_, u, v, hcs, _⟩ := iface_of_trod Tryz.underlying166 hd
    refine ⟨.iface u v, ?_, .inr ⟨_, _, rfl⟩⟩
    have := World.var?_cell hg hvar 0
    rw [this, ← Array.getElem?_toList, hcs]
    rfl
  · refine Lib.tabBelow_of_tabIs ?_
    obtain ⟨g, t, cs, fuel, p, hg, hty, hvar, hd⟩ := Go.Lib.LaidVars_reads hv "internal/strconv.uint64pow10" _ (by unfold laidMs; exact List.mem_cons_of_mem _ (List.mem_cons_of_mem _ (List.mem_cons_self ..)))
    obtain rfl := Option.some.inj (gP.symm.trans hg)
    obtain rfl := Option.some.inj (tP.symm.trans hty)
    rw [laidP] at hd
    have hcs := Go.Lib.cells_of_tab Tryz.underlying203 Tryz.underlying45 cU cP hd
    unfold Lib.TabIs
    rw [hvar, ← hcs]
  · obtain ⟨g, t, cs, fuel, p, hg, hty, hvar, hd⟩ := Go.Lib.LaidVars_reads hv "math/bits.deBruijn64tab" _ (List.mem_cons_of_mem _ (List.mem_cons_self ..))
    obtain rfl := Option.some.inj (g64.symm.trans hg)
    obtain rfl := Option.some.inj (t64.symm.trans hty)
    rw [laid64] at hd
    have hcs := Go.Lib.cells_of_tab Tryz.underlying220 Tryz.underlying5 c8 c64 hd
    intro j hj
    have := World.var?_cell hg hvar j
    rw [this, ← Array.getElem?_toList, hcs, List.getElem?_map, List.getElem?_map, List.getElem?_eq_getElem hj, List.getD_eq_getElem?_getD, List.getElem?_eq_getElem hj]
    rfl

/-- The door's own heap meets the condition. -/
theorem door_met (os : Os) (args : Array Value) : laidMetH Tryz.prog laidMs ((World.doorLaid Tryz.prog 400 os).forCall (fun _ _ => 0) ⟨#[], args, []⟩).memory :=
  laidMetH_of_parts3 (fuel := 8) (laidMet_of_run' 8 (by kernel_rfl) (by kernel_rfl)) (by kernel_rfl) (by kernel_rfl)

end Go.Proofs.YthacjealoomioaaGreatDoor
