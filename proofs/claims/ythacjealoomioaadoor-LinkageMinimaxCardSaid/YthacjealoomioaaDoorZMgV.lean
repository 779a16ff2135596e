/- Several texts in one: MmQ, MmLaidQ. -/
import Derived.Test.YthacjealoomioaaDoorZMmN
import Derived.Test.YthacjealoomioaaDoorTie
import Derived.Test.YthacjealoomioaaDoorCards
import Derived.ProofKit
import Derived.LaidLaws
import Derived.LaidMore
import Derived.LaidHandle
import Derived.OpenShut
import Derived.Stop.Joined
import Derived.Lib.LaidU8
/- minimax: has, meeting, Minimax, Joined, Edge. -/
namespace Go.Proofs.YthacjealoomioaaDoor
set_option linter.unusedVariables false
set_option linter.unusedSimpArgs false
open Go.RowKit

/-- The inner node that joins two different vertices. -/
def mV (n : Nat) (l : List Ed) (u v : Int) : Option Nat := if (0 ≤ u ∧ u < n) ∧ (0 ≤ v ∧ v < n) ∧ u ≠ v then comV (bdL n l) (n + FN n l) u.toNat v.toNat else none
/-- The minimax distance. -/
def mmV (n : Nat) (l : List Ed) (u v : Int) : Option Int := if (0 ≤ u ∧ u < n) ∧ u = v then some (-9223372036854775808) else (mV n l u v).map fun c => wI l (fe n l (c - n))
def edV (n : Nat) (l : List Ed) (u v : Int) : Option Nat := (mV n l u v).map fun c => fe n l (c - n)
def intR (o : Option Int) : Value := .tuple #[.int .i64 (o.getD 0), .bool o.isSome]
def jnV (n : Nat) (l : List Ed) (u v th : Int) : Bool := match mmV n l u v with | none => false | some d => decide (d ≤ th)

theorem MObj.f0 {W : World} {M : MB} {n : Nat} {l : List Ed} (h : MObj W M n l) : W.cell? ⟨M.f, 0, none⟩ = some (.pointer (some ⟨M.tr, 0, none⟩)) := h.fin.cell (i := 0) rfl
theorem MObj.t0 {W : World} {M : MB} {n : Nat} {l : List Ed} (h : MObj W M n l) : W.cell? ⟨M.tr, 0, none⟩ = some (.pointer (some ⟨M.lb.p, 0, none⟩)) := h.tre.cell (i := 0) rfl
theorem MObj.t1 {W : World} {M : MB} {n : Nat} {l : List Ed} (h : MObj W M n l) : W.cell? ⟨M.tr, 1, none⟩ = some (.int .i64 (n : Int)) := h.tre.cell (i := 1) rfl
theorem MObj.t5 {W : World} {M : MB} {n : Nat} {l : List Ed} (h : MObj W M n l) : W.cell? ⟨M.tr, 5, none⟩ = some (.slice M.ta.h.o (n + FN n l) M.ta.h.c) := h.tre.cell (i := 5) rfl
theorem MObj.t7 {W : World} {M : MB} {n : Nat} {l : List Ed} (h : MObj W M n l) : W.cell? ⟨M.tr, 7, none⟩ = some (.slice M.fo (FN n l) M.fc) := h.tre.cell (i := 7) rfl
theorem MObj.t8 {W : World} {M : MB} {n : Nat} {l : List Ed} (h : MObj W M n l) : W.cell? ⟨M.tr, 8, none⟩ = some (.map (some M.mp)) := h.tre.cell (i := 8) rfl

section
variable (W : World) (M : MB) (n : Nat) (l : List Ed) (hM : MObj W M n l)
include hM

set_option maxHeartbeats 1000000 in
theorem mhas_ok (v : Int) : Calls Tryd.prog 33 #[.pointer (some ⟨M.f, 0, none⟩), .int .i64 v] W (Ret (.bool (inB v n)) W) := by
  have f0 := hM.f0
  have t1 := hM.t1
  by_cases hv : 0 ≤ v
  · have e1 : decide (0 ≤ v) = true := by simpa using hv
    have HIN : Hid (inB v n = decide (v < (n : Int))) := by show _ = _; unfold inB; rw [e1, Bool.true_and]
    go_enter Tryd.func33, Tryd.ntmps33
    go_wp2_with fail
    go_ret
    rw [HIN.out]
    exact ⟨rfl, rfl⟩
  · have e1 : decide (0 ≤ v) = false := by simpa using hv
    have HIN : Hid (inB v n = false) := by show _ = _; unfold inB; rw [e1, Bool.false_and]
    go_enter Tryd.func33, Tryd.ntmps33
    go_wp2_with fail
    go_ret
    rw [HIN.out]
    exact ⟨rfl, rfl⟩

variable (hg : GOk n l)
include hg

set_option maxHeartbeats 2000000 in
set_option maxRecDepth 100000 in
theorem meeting_ok (hT : Tab64 W) (u v : Int) : Calls Tryd.prog 34 #[.pointer (some ⟨M.f, 0, none⟩), .int .i64 u, .int .i64 v] W (RetB (comR (mV n l u v)) W) := by
  have HM := Lib.hid hM
  have HG := Lib.hid hg
  have HT := Lib.hid hT
  have f0 := hM.f0
  have t0 := hM.t0
  clear hM hg hT
  by_cases hu : 0 ≤ u ∧ u < n
  · have eu : inB u n = true := by unfold inB; simp; omega
    by_cases hv : 0 ≤ v ∧ v < n
    · have ev : inB v n = true := by unfold inB; simp; omega
      obtain ⟨a, rfl⟩ := Int.eq_ofNat_of_zero_le hu.1
      obtain ⟨b, rfl⟩ := Int.eq_ofNat_of_zero_le hv.1
      have ha : a < n := by omega
      have hb : b < n := by omega
      by_cases hab : a = b
      · have e1 : ((a : Int) == (b : Int)) = true := by simp [hab]
        have HR : Hid (mV n l (a : Int) (b : Int) = none) := by show _ = _; unfold mV; rw [if_neg (by omega)]
        clear hab
        have HU := Lib.hid eu
        have HV := Lib.hid ev
        clear eu ev
        go_enter Tryd.func34, Tryd.ntmps34
        go_wp2_with fail
        with_reducible refine (mhas_ok W M n l HM.out _).mono ?_
        rintro e w1 ⟨rfl, rfl⟩
        rw [HU.out]
        go_wp2_with fail
        with_reducible refine (mhas_ok W M n l HM.out _).mono ?_
        rintro e w1 ⟨rfl, rfl⟩
        rw [HV.out]
        go_wp2_with fail
        go_ret2
        exact ⟨by rw [HR.out]; rfl, Below.refl _ _⟩
      · have e1 : ((a : Int) == (b : Int)) = false := by simp; omega
        have HR : Hid (mV n l (a : Int) (b : Int) = comV (bdL n l) (n + FN n l) a b) := by show _ = _; unfold mV; rw [if_pos (by omega)]; rfl
        clear hab
        have HU := Lib.hid eu
        have HV := Lib.hid ev
        clear eu ev
        go_enter Tryd.func34, Tryd.ntmps34
        go_wp2_with fail
        with_reducible refine (mhas_ok W M n l HM.out _).mono ?_
        rintro e w1 ⟨rfl, rfl⟩
        rw [HU.out]
        go_wp2_with fail
        with_reducible refine (mhas_ok W M n l HM.out _).mono ?_
        rintro e w1 ⟨rfl, rfl⟩
        rw [HV.out]
        go_wp2_with fail
        with_reducible refine (common_ok W M.lb (bdL n l) n (n + FN n l) _ (bdL_tv3 HG.out) HM.out.tab HT.out a b (by omega) (by omega)).mono ?_
        rintro e w1 ⟨rfl, hb1⟩
        have HB := Lib.hid hb1
        clear hb1
        rw [← HR.out]
        generalize mV n l (a : Int) (b : Int) = o at *
        unfold comR
        go_wp2_with fail
        go_ret2
        exact ⟨rfl, HB.out⟩
    · have HV : Hid (inB v n = false) := by show _ = _; unfold inB; simp; omega
      have HR : Hid (mV n l u v = none) := by show _ = _; unfold mV; rw [if_neg (fun h => hv h.2.1)]
      have HU := Lib.hid eu
      clear eu hu hv
      go_enter Tryd.func34, Tryd.ntmps34
      go_wp2_with fail
      with_reducible refine (mhas_ok W M n l HM.out _).mono ?_
      rintro e w1 ⟨rfl, rfl⟩
      rw [HU.out]
      go_wp2_with fail
      with_reducible refine (mhas_ok W M n l HM.out _).mono ?_
      rintro e w1 ⟨rfl, rfl⟩
      rw [HV.out]
      go_wp2_with fail
      go_ret2
      exact ⟨by rw [HR.out]; rfl, Below.refl _ _⟩
  · have HU : Hid (inB u n = false) := by show _ = _; unfold inB; simp; omega
    have HR : Hid (mV n l u v = none) := by show _ = _; unfold mV; rw [if_neg (fun h => hu h.1)]
    clear hu
    go_enter Tryd.func34, Tryd.ntmps34
    go_wp2_with fail
    with_reducible refine (mhas_ok W M n l HM.out _).mono ?_
    rintro e w1 ⟨rfl, rfl⟩
    rw [HU.out]
    go_wp2_with fail
    go_ret2
    exact ⟨by rw [HR.out]; rfl, Below.refl _ _⟩

set_option maxHeartbeats 2000000 in
set_option maxRecDepth 100000 in
theorem minimax_ok (hT : Tab64 W) (u v : Int) : Calls Tryd.prog 16 #[.pointer (some ⟨M.f, 0, none⟩), .int .i64 u, .int .i64 v] W (RetB (intR (mmV n l u v)) W) := by
  have HM := Lib.hid hM
  have HG := Lib.hid hg
  have HT := Lib.hid hT
  have HMEET := Lib.hid (meeting_ok W M n l hM hg hT u v)
  clear hM hg hT
  have HC : Hid (∀ c, mV n l u v = some c → n ≤ c ∧ c < n + FN n l) := fun c hc => by
    unfold mV at hc
    split at hc
    · rename_i h
      exact comV_inner (bdL_tv3 HG.out) (by omega) (by omega) (by omega) hc
    · cases hc
  by_cases hu : 0 ≤ u ∧ u < n
  · have HU : Hid (inB u n = true) := by show _ = _; unfold inB; simp; omega
    by_cases huv : u = v
    · have e1 : (u == v) = true := by simp [huv]
      have HR : Hid (mmV n l u v = some (-9223372036854775808)) := by show _ = _; unfold mmV; rw [if_pos ⟨hu, huv⟩]
      clear hu huv
      go_enter Tryd.func16, Tryd.ntmps16
      go_wp2_with fail
      with_reducible refine (mhas_ok W M n l HM.out _).mono ?_
      rintro e w1 ⟨rfl, rfl⟩
      rw [HU.out]
      go_wp2_with fail
      go_ret2
      exact ⟨by rw [HR.out]; rfl, Below.refl _ _⟩
    · have e1 : (u == v) = false := by simp [huv]
      have HR : Hid (mmV n l u v = (mV n l u v).map fun c => wI l (fe n l (c - n))) := by show _ = _; unfold mmV; rw [if_neg (fun h => huv h.2)]
      clear hu huv
      go_enter Tryd.func16, Tryd.ntmps16
      go_wp2_with fail
      with_reducible refine (mhas_ok W M n l HM.out _).mono ?_
      rintro e w1 ⟨rfl, rfl⟩
      rw [HU.out]
      go_wp2_with fail
      with_reducible refine HMEET.out.mono ?_
      rintro e w1 ⟨rfl, hb1⟩
      have HB := Lib.hid hb1
      have HM1 := Lib.hid (HM.out.below hb1)
      clear hb1
      cases hc : mV n l u v with
      | none =>
        have HV1 : Hid (intR (mmV n l u v) = .tuple #[.int .i64 0, .bool false]) := by show _ = _; rw [HR.out, hc]; rfl
        clear hc
        unfold comR
        simp only [Option.getD_none, Option.isSome_none]
        go_wp2_with fail
        go_ret2
        exact ⟨by rw [HV1.out]; rfl, HB.out⟩
      | some c =>
        have HV1 : Hid (intR (mmV n l u v) = .tuple #[.int .i64 (wI l (fe n l (c - n))), .bool true]) := by show _ = _; rw [HR.out, hc]; rfl
        obtain ⟨h1, h2⟩ := HC.out c hc
        have f0 := HM1.out.f0
        have t5 := HM1.out.t5
        have hh := HM1.out.tree.h.cell (c) (by rw [(bdL_tv3 HG.out).hl]; exact h2)
        have hha := HM1.out.tree.h.adr (by rw [(bdL_tv3 HG.out).hl]; omega)
        have hgi : (bdL n l).hgt.getD c 0 = wI l (fe n l (c - n)) := by
          have := bdL_hgt HG.out (i := c - n) (by omega)
          rw [show n + (c - n) = c by omega] at this
          exact this
        rw [hgi] at hh
        rw [hha] at t5
        have t1 : (c : Int) < ((n + FN n l : Nat) : Int) := by omega
        have t0 : (0 : Int) ≤ (c : Int) := by omega
        generalize n + FN n l = mm at *
        clear hc hgi hha h1
        unfold comR
        simp only [Option.getD_some, Option.isSome_some]
        generalize wI l (fe n l (c - n)) = z at *
        go_wp2_with fail
        go_ret2
        exact ⟨by rw [HV1.out]; rfl, HB.out⟩
  · have HU : Hid (inB u n = false) := by show _ = _; unfold inB; simp; omega
    have HR : Hid (mmV n l u v = none) := by
      show _ = _
      unfold mmV mV
      rw [if_neg (fun h => hu h.1), if_neg (fun h => hu h.1)]
      rfl
    have HR2 : Hid (mV n l u v = none) := by show _ = _; unfold mV; rw [if_neg (fun h => hu h.1)]
    clear hu
    go_enter Tryd.func16, Tryd.ntmps16
    go_wp2_with fail
    with_reducible refine (mhas_ok W M n l HM.out _).mono ?_
    rintro e w1 ⟨rfl, rfl⟩
    rw [HU.out]
    go_wp2_with fail
    with_reducible refine HMEET.out.mono ?_
    rintro e w1 ⟨rfl, hb1⟩
    have HB := Lib.hid hb1
    clear hb1
    rw [HR2.out]
    unfold comR
    simp only [Option.getD_none, Option.isSome_none]
    go_wp2_with fail
    go_ret2
    exact ⟨by rw [HR.out]; rfl, HB.out⟩

end

end Go.Proofs.YthacjealoomioaaDoor

/- What the laid variables of math/bits give a walk. -/
namespace Go.Proofs.YthacjealoomioaaDoor
open Go.ChangeShapes Go.WideShapes Go.ChangeAt Go.RowKit
set_option linter.unusedVariables false
set_option linter.unusedSimpArgs false

def laidMs : List (String × DataW Unit) := [("math/bits.deBruijn32tab", Rows.laid_math_bits_deBruijn32tab), ("math/bits.deBruijn64tab", Rows.laid_math_bits_deBruijn64tab)]

theorem g64 : Tryd.prog.globalNamed "math/bits.deBruijn64tab" = some 1 := by kernel_rfl
theorem t64 : (Tryd.prog.globals[1]?).map (·.type) = some 164 := by kernel_rfl
theorem c64 : Tryd.prog.cellsOf 164 = 64 := by kernel_rfl
theorem c8 : Tryd.prog.cellsOf 5 = 1 := by kernel_rfl
theorem laid64 : (Rows.laid_math_bits_deBruijn64tab : DataW Unit) = Go.Lib.tabData .u8 (Lib.deBruijn64tab.map fun x : Nat => (x : Int)) := by kernel_rfl

abbrev Mets (w : World) : Prop := Tab64 w

theorem mets_of_laid {W : World} (h : laidMetH Tryd.prog laidMs W) : Mets W := by
  rw [MakeChecks.laidMetH_plain _ _ _ (by kernel_rfl)] at h
  obtain ⟨ps, hv, _⟩ := h
  obtain ⟨g, t, cs, fuel, p, hg, hty, hvar, hd⟩ := Go.Lib.LaidVars_reads hv "math/bits.deBruijn64tab" _ (List.mem_cons_of_mem _ (List.mem_cons_self ..))
  obtain rfl := Option.some.inj (g64.symm.trans hg)
  obtain rfl := Option.some.inj (t64.symm.trans hty)
  rw [laid64] at hd
  have hcs := Go.Lib.cells_of_tab Tryd.underlying164 Tryd.underlying5 c8 c64 hd
  intro j hj
  have := World.var?_cell hg hvar j
  rw [this, ← Array.getElem?_toList, hcs, List.getElem?_map, List.getElem?_map, List.getElem?_eq_getElem hj, List.getD_eq_getElem?_getD, List.getElem?_eq_getElem hj]
  rfl

/-- The door's own heap meets the condition. -/
theorem door_met (os : Os) (args : Array Value) : laidMetH Tryd.prog laidMs ((World.doorLaid Tryd.prog 400 os).forCall (fun _ _ => 0) ⟨#[], args, []⟩).memory :=
  laidMetH_of_parts3 (fuel := 8) (laidMet_of_run' 8 (by kernel_rfl) (by kernel_rfl)) (by kernel_rfl) (by kernel_rfl)

end Go.Proofs.YthacjealoomioaaDoor
