/- The statements' comparisons: equal lists. -/
import Derived.Test.YthhddjknjnjbhaaDoorLkC
import Derived.Test.YthhddjknjnjbhaaDoorLkO
namespace Go.Proofs.YthhddjknjnjbhaaDoor
set_option linter.unusedVariables false
set_option linter.unusedSimpArgs false
open Go.RowKit

def mg0 : Mg := ⟨0, 0, 0, 0, 0⟩

/-- A slice of merges. -/
structure MRow (w : World) (ao : Option Addr) (len b off : Nat) (ms : List Mg) : Prop where
  size : ms.length = len
  adr : 0 < len → ao = some ⟨b, off, none⟩
  cell : ∀ i, i < len → w.cell? ⟨b, off + i * 5, none⟩ = some (.int .i64 (ms.getD i mg0).A) ∧ w.cell? ⟨b, off + i * 5 + 1, none⟩ = some (.int .i64 (ms.getD i mg0).B) ∧ w.cell? ⟨b, off + i * 5 + 2, none⟩ = some (.int .i64 (ms.getD i mg0).N) ∧
    w.cell? ⟨b, off + i * 5 + 3, none⟩ = some (.int .i64 (ms.getD i mg0).D) ∧ w.cell? ⟨b, off + i * 5 + 4, none⟩ = some (.int .i64 (ms.getD i mg0).S)

theorem MRow.lt {w : World} {ao : Option Addr} {len b off : Nat} {ms : List Mg} (h : MRow w ao len b off ms) (hl : 0 < len) : b < w.heap.size :=
  World.block_lt_of_cell? w _ (h.cell 0 hl).1

theorem MRow.mod {w w' : World} {ao : Option Addr} {len b off : Nat} {ms : List Mg} {F : Nat → Prop} (h : MRow w ao len b off ms) (hm : Mod F w w') (hn : 0 < len → ¬ F b) : MRow w' ao len b off ms :=
  ⟨h.size, h.adr, fun i hi => by
    have hb := h.lt (by omega)
    have hF := hn (by omega)
    have := h.cell i hi
    exact ⟨(hm.cell hb hF).trans this.1, (hm.cell hb hF).trans this.2.1, (hm.cell hb hF).trans this.2.2.1, (hm.cell hb hF).trans this.2.2.2.1, (hm.cell hb hF).trans this.2.2.2.2⟩⟩

theorem MRow.below {w w' : World} {ao : Option Addr} {len b off : Nat} {ms : List Mg} (h : MRow w ao len b off ms) (hb : Below w.heap.size w w') : MRow w' ao len b off ms :=
  h.mod (Mod.of_below (F := fun _ => False) hb) (fun _ h => h)

theorem cells_at : ∀ (ms : List Mg) (i j : Nat), i < ms.length → j < 5 → (ms.flatMap Mg.cells)[i * 5 + j]? = (ms.getD i mg0).cells[j]?
  | [], i, j, h, _ => by simp at h
  | x :: l, 0, j, _, hj => by
    rw [List.flatMap_cons, Nat.zero_mul, Nat.zero_add, List.getElem?_append_left (by simp [Mg.cells]; omega)]; rfl
  | x :: l, i + 1, j, h, hj => by
    rw [List.flatMap_cons, List.getElem?_append_right (by simp [Mg.cells]; omega), show (i + 1) * 5 + j - x.cells.length = i * 5 + j by simp [Mg.cells]; omega, cells_at l i j (by simpa using h) hj]
    rfl

theorem MRow.of_owns {w : World} {v : Value} {ms : List Mg} {T : TypeId} (h : w.ownsRow 0 T 5 v ms.length (ms.flatMap Mg.cells)) : ∃ ao cap b, v = .slice ao ms.length cap ∧ MRow w ao ms.length b 0 ms ∧ ms.length ≤ cap ∧ ∀ k, v.ownBlock = some k → k = b := by
  by_cases hz : 0 < ms.length
  · obtain ⟨g, cap, rfl, hcap, _, _, hc, _⟩ := owns_form h hz
    refine ⟨_, _, g, rfl, ⟨rfl, fun _ => rfl, fun i hi => ?_⟩, hcap, fun k hk => by simpa [Value.ownBlock] using hk.symm⟩
    have key : ∀ j u, j < 5 → (ms.getD i mg0).cells[j]? = some u → w.cell? ⟨g, i * 5 + j, none⟩ = some u := fun j u hj hu => by
      rw [hc (i * 5 + j) (by omega), cells_at ms i j hi hj]; exact hu
    rw [Nat.zero_add]
    exact ⟨key 0 _ (by omega) rfl, key 1 _ (by omega) rfl, key 2 _ (by omega) rfl, key 3 _ (by omega) rfl, key 4 _ (by omega) rfl⟩
  · obtain ⟨ao, cap, rfl⟩ := owns_slice h
    refine ⟨ao, cap, (ao.map (·.block)).getD 0, rfl, ⟨rfl, fun h => by omega, fun i hi => by omega⟩, by omega, fun k hk => ?_⟩
    cases ao with
    | none => cases hk
    | some a => simpa [Value.ownBlock] using hk.symm

set_option maxHeartbeats 2000000 in
theorem alike_ok (w : World) (ao ao' : Option Addr) (len cap cap' b b' off off' : Nat) (z : List Int) (hu : InRow .i64 w ao len b off z) (hv : InRow .i64 w ao' len b' off' z) (hl : len ≤ 1000000000) :
    Calls Tryd.prog 24 #[.slice ao len cap, .slice ao' len cap'] w (RetB (.bool true) w) := by
  have HC := Lib.hid hu
  have HD := Lib.hid hv
  clear hu hv
  have t0 : ((len : Int) != (len : Int)) = false := by simp
  go_enter Tryd.func24, Tryd.ntmps24
  go_wp2_with fail
  go_loopw [5] (fun s wr => ∃ k : Nat, k ≤ len ∧ s = .int .i64 k ∧ Mod (fun _ => False) w wr) (fun s _ => len - (intOf s).toNat)
  case atStart => exact ⟨0, Nat.zero_le _, rfl, Mod.refl _ _⟩
  case round =>
    obtain ⟨k, hk, rfl, hm⟩ := hrel
    have HM := Lib.hid hm
    by_cases hkn : k < len
    · obtain rfl := HC.out.adr (by omega)
      obtain rfl := HD.out.adr (by omega)
      have c0 := (HC.out.mod hm (fun _ h => h)).cell k hkn
      have d0 := (HD.out.mod hm (fun _ h => h)).cell k hkn
      generalize z.getD k 0 = x at c0 d0
      clear hm
      have t1 : (k : Int) < (len : Int) := by omega
      have t2 : (x != x) = false := by simp
      go_wp2_with fail
      go_quiet (fail)
      go_wp2_with fail
      go_roundw
      case rel => exact ⟨k + 1, by omega, by go_num, HM.out.drewN _⟩
      case measure => simp [intOf]; omega
    · obtain rfl : k = len := by omega
      clear hm
      go_wp2_with fail
      go_ret
      exact ⟨rfl, HM.out.below (Nat.le_refl _) (fun _ h => h.elim)⟩

set_option maxHeartbeats 4000000 in
theorem same_ok (w : World) (ao ao' : Option Addr) (len cap cap' b b' off off' : Nat) (ms : List Mg) (hu : MRow w ao len b off ms) (hv : MRow w ao' len b' off' ms) (hl : len ≤ 1000000000) :
    Calls Tryd.prog 23 #[.slice ao len cap, .slice ao' len cap'] w (RetB (.bool true) w) := by
  have HC := Lib.hid hu
  have HD := Lib.hid hv
  clear hu hv
  have t0 : ((len : Int) != (len : Int)) = false := by simp
  go_enter Tryd.func23, Tryd.ntmps23
  go_wp2_with fail
  go_loopw [5] (fun s wr => ∃ k : Nat, k ≤ len ∧ s = .int .i64 k ∧ Mod (fun _ => False) w wr) (fun s _ => len - (intOf s).toNat)
  case atStart => exact ⟨0, Nat.zero_le _, rfl, Mod.refl _ _⟩
  case round =>
    obtain ⟨k, hk, rfl, hm⟩ := hrel
    have HM := Lib.hid hm
    by_cases hkn : k < len
    · obtain rfl := HC.out.adr (by omega)
      obtain rfl := HD.out.adr (by omega)
      obtain ⟨c0, c1, c2, c3, c4⟩ := (HC.out.mod hm (fun _ h => h)).cell k hkn
      obtain ⟨d0, d1, d2, d3, d4⟩ := (HD.out.mod hm (fun _ h => h)).cell k hkn
      generalize ms.getD k mg0 = x at c0 c1 c2 c3 c4 d0 d1 d2 d3 d4
      clear hm
      have t1 : (k : Int) < (len : Int) := by omega
      go_wp2_with fail
      go_quiet (fail)
      go_wp2_with fail
      go_roundw
      case rel => exact ⟨k + 1, by omega, by go_num, HM.out.drewN _⟩
      case measure => simp [intOf]; omega
    · obtain rfl : k = len := by omega
      clear hm
      go_wp2_with fail
      go_ret
      exact ⟨rfl, HM.out.below (Nat.le_refl _) (fun _ h => h.elim)⟩

end Go.Proofs.YthhddjknjnjbhaaDoor
