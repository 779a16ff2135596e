/- The statements' comparison of two lists of entries: equal lists. -/
import Derived.Test.YtebclbpibafkdaaRefE
namespace Go.Proofs.Ytebclbpibafkdaa
set_option linter.unusedVariables false
set_option linter.unusedSimpArgs false
open Go.RowKit

set_option maxHeartbeats 2000000 in
theorem same04 (w : World) (u v : Value) (L : List Ent) (hu : w.ownsRow 0 28 2 u L.length (ents L)) (hv : w.ownsRow 0 28 2 v L.length (ents L)) (hl : L.length ≤ 65536) :
    Calls Try.prog 43 #[u, v] w (RetB (.bool true) w) := by
  obtain ⟨ao, cap, rfl, hc⟩ := erow_form hu
  obtain ⟨bo, dap, rfl, hd⟩ := erow_form hv
  have HC := Lib.hid hc
  have HD := Lib.hid hd
  clear hu hv hc hd
  obtain ⟨n, hn⟩ : ∃ n, n = L.length := ⟨_, rfl⟩
  rw [← hn] at hl ⊢
  have HN := Lib.hid hn
  clear hn
  have t0 : ((n : Int) != (n : Int)) = false := by simp
  go_enter Try.func43, Try.ntmps43
  go_wp2_with fail
  go_loopw [5] (fun s wr => ∃ k : Nat, k ≤ n ∧ s = .int .i64 k ∧ Mod (fun _ => False) w wr) (fun s _ => n - (intOf s).toNat)
  case atStart => exact ⟨0, Nat.zero_le _, rfl, Mod.refl _ _⟩
  case round =>
    obtain ⟨k, hk, rfl, hm⟩ := hrel
    have HM := Lib.hid hm
    by_cases hkn : k < n
    · obtain ⟨b, rfl, _, hc1, hc2, hc⟩ := HC.out (by rw [← HN.out]; omega)
      obtain ⟨d, rfl, _, hd1, hd2, hd⟩ := HD.out (by rw [← HN.out]; omega)
      obtain ⟨c0, c1⟩ := hc k (by rw [← HN.out]; exact hkn)
      obtain ⟨d0, d1⟩ := hd k (by rw [← HN.out]; exact hkn)
      have c0' := (hm.cell (p := ⟨b, k * 2, none⟩) (World.block_lt_of_cell? w _ c0) (fun h => h)).trans c0
      have c1' := (hm.cell (p := ⟨b, k * 2 + 1, none⟩) (World.block_lt_of_cell? w _ c1) (fun h => h)).trans c1
      have d0' := (hm.cell (p := ⟨d, k * 2, none⟩) (World.block_lt_of_cell? w _ d0) (fun h => h)).trans d0
      have d1' := (hm.cell (p := ⟨d, k * 2 + 1, none⟩) (World.block_lt_of_cell? w _ d1) (fun h => h)).trans d1
      rw [← HN.out] at hc1 hd1
      unfold maxLen at hc2 hd2
      generalize ent L k = x at c0' c1' d0' d1'
      clear hc hd c0 c1 d0 d1 hm
      have t1 : (k : Int) < (n : Int) := by omega
      go_wp2_with fail
      go_quiet (fail)
      go_wp2_with fail
      go_roundw
      case rel => exact ⟨k + 1, by omega, by go_num, HM.out.drewN _⟩
      case measure => simp [intOf]; omega
    · obtain rfl : k = n := by omega
      clear hm
      go_wp2_with fail
      go_ret
      exact ⟨rfl, HM.out.below (Nat.le_refl _) (fun _ h => h.elim)⟩

end Go.Proofs.Ytebclbpibafkdaa
