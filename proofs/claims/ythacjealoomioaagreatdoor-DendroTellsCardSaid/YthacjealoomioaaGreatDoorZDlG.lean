/- DlG. -/
import Derived.Test.YthacjealoomioaaGreatDoorZDlA
import Derived.Test.YthacjealoomioaaGreatDoorZGs
import Derived.Deep.RegionHeld3
import Derived.BigQuiet
/- The statement DendroGap: the walk. (printed by dlg.py) -/
namespace Go.Proofs.YthacjealoomioaaGreatDoor
set_option linter.unusedVariables false
set_option linter.unusedSimpArgs false
open Go.RowKit

theorem mgTo_len (t : Tr) (n : Nat) (ls : List Nat) : ∀ K, (mgTo t n ls K).length = K * 5
  | 0 => rfl
  | K + 1 => by rw [mgTo, List.length_append, mgTo_len t n ls K]; show K * 5 + 5 = _; omega
theorem mgTo_at (t : Tr) (n : Nat) (ls : List Nat) : ∀ K i j, i < K → j < 5 → (mgTo t n ls K)[i * 5 + j]? = (mgV t ls (n + i))[j]?
  | 0, i, j, h, _ => by omega
  | K + 1, i, j, h, hj => by
    rw [mgTo]
    by_cases c : i = K
    · subst c
      rw [List.getElem?_append_right (by rw [mgTo_len]; omega), mgTo_len, Nat.add_sub_cancel_left]
    · rw [List.getElem?_append_left (by rw [mgTo_len]; omega)]
      exact mgTo_at t n ls K i j (by omega) hj
/-- The list of merges in memory. -/
structure MRow (w : World) (a : Option Addr) (b K : Nat) (t : Tr) (n : Nat) (ls : List Nat) : Prop where
  adr : 0 < K → a = some ⟨b, 0, none⟩
  cell : ∀ i, i < K → w.cell? ⟨b, i * 5, none⟩ = some (.int .i64 ((ls.getD (lc t (n + i)) 0 : Nat) : Int)) ∧ w.cell? ⟨b, i * 5 + 1, none⟩ = some (.int .i64 ((ls.getD (rc t (n + i)) 0 : Nat) : Int)) ∧
    w.cell? ⟨b, i * 5 + 2, none⟩ = some (.int .i64 (gi t.hgt (n + i))) ∧ w.cell? ⟨b, i * 5 + 3, none⟩ = some (.int .i64 1) ∧ w.cell? ⟨b, i * 5 + 4, none⟩ = some (.int .i64 (gi t.siz (n + i)))
theorem MRow.below {w w' : World} {a : Option Addr} {b K : Nat} {t : Tr} {n : Nat} {ls : List Nat} (h : MRow w a b K t n ls) (hb : Below w.heap.size w w') : MRow w' a b K t n ls := by
  refine ⟨h.adr, fun i hi => ?_⟩
  obtain ⟨h1, h2, h3, h4, h5⟩ := h.cell i hi
  exact ⟨(hb.cell (World.block_lt_of_cell? w _ h1)).trans h1, (hb.cell (World.block_lt_of_cell? w _ h2)).trans h2, (hb.cell (World.block_lt_of_cell? w _ h3)).trans h3, (hb.cell (World.block_lt_of_cell? w _ h4)).trans h4, (hb.cell (World.block_lt_of_cell? w _ h5)).trans h5⟩
theorem MRow.of_owns {w : World} {v : Value} {K : Nat} {t : Tr} {n : Nat} {ls : List Nat} (h : w.ownsRow 0 51 5 v K (mgTo t n ls K)) : ∃ a c b, v = .slice a K c ∧ MRow w a b K t n ls := by
  by_cases hz : 0 < K
  · obtain ⟨g, cap, rfl, hcap, _, _, hc, _⟩ := owns_form h hz
    refine ⟨_, _, g, rfl, ⟨fun _ => rfl, fun i hi => ?_⟩⟩
    have key : ∀ j u, j < 5 → (mgV t ls (n + i))[j]? = some u → w.cell? ⟨g, i * 5 + j, none⟩ = some u := fun j u hj hu => by
      rw [hc (i * 5 + j) (by omega), mgTo_at t n ls K i j hi hj]; exact hu
    exact ⟨key 0 _ (by omega) rfl, key 1 _ (by omega) rfl, key 2 _ (by omega) rfl, key 3 _ (by omega) rfl, key 4 _ (by omega) rfl⟩
  · obtain rfl : K = 0 := by omega
    rcases h.2 with ⟨rfl, _⟩ | ⟨g, cap, cur, rfl, _⟩
    · exact ⟨_, _, 0, rfl, ⟨fun h => by omega, fun i hi => by omega⟩⟩
    · exact ⟨_, _, 0, rfl, ⟨fun h => by omega, fun i hi => by omega⟩⟩

end Go.Proofs.YthacjealoomioaaGreatDoor
