/- RlA. -/
import Derived.Test.YthacjealoomioaaGreatDoorZRcRh
import Derived.Test.YthacjealoomioaaGreatDoorZRfH
/- The statements' comparisons of layer 18: equal lists, equal trees. -/
namespace Go.Proofs.YthacjealoomioaaGreatDoor
set_option linter.unusedVariables false
set_option linter.unusedSimpArgs false
open Go.RowKit

set_option maxHeartbeats 2000000 in
theorem rsame_ok (w : World) (ao ao' : Option Addr) (len cap cap' b b' off off' : Nat) (z : List Int) (hu : InRow .i64 w ao len b off z) (hv : InRow .i64 w ao' len b' off' z) (hl : len ≤ 9223372036854775807) :
    Calls Tryz.prog 33 #[.slice ao len cap, .slice ao' len cap'] w (RetB (.bool true) w) := by
  have HC := Lib.hid hu
  have HD := Lib.hid hv
  clear hu hv
  have t0 : ((len : Int) != (len : Int)) = false := by simp
  go_enter Tryz.func33, Tryz.ntmps33
  go_wp2_with fail
  go_loopw [5] (fun s wr => ∃ k : Nat, k ≤ len ∧ s = .int .i64 k ∧ Mod (fun _ => False) w wr) (fun s _ => len - (intOf s).toNat)
  case atStart => exact ⟨0, Nat.zero_le _, rfl, Mod.refl _ _⟩
  case round =>
    obtain ⟨k, hk, rfl, hm⟩ := hrel
    have HM := Lib.hid hm
    by_cases hkn : k < len
    · obtain rfl := HC.out.adr (by omega)
      obtain rfl := HD.out.adr (by omega)
      have c0 := (HC.out.mod hm (fun _ h => h)).cell k hkn
      have d0 := (HD.out.mod hm (fun _ h => h)).cell k hkn
      generalize z.getD k 0 = x at c0 d0
      clear hm
      have t1 : (k : Int) < (len : Int) := by omega
      have t2 : (x != x) = false := by simp
      go_wp2_with fail
      go_quiet (fail)
      go_wp2_with fail
      go_roundw
      case rel => exact ⟨k + 1, by omega, by go_num, HM.out.drewN _⟩
      case measure => simp [intOf]; omega
    · obtain rfl : k = len := by omega
      clear hm
      go_wp2_with fail
      go_ret
      exact ⟨rfl, HM.out.below (Nat.le_refl _) (fun _ h => h.elim)⟩

/-- What was appended or returned, as a row. -/
theorem LnPost.row {w w' : World} {o : Option (List Nat)} {e : Ending} (h : LnPost w o e w') : ∃ ao cap b, e = .returned (.slice ao (o.getD []).length cap) ∧ InRow .i64 w' ao (o.getD []).length b 0 (nI (o.getD [])) := by
  cases o with
  | none => exact ⟨none, 0, 0, h.bad rfl, ⟨rfl, fun h => absurd h (by simp), fun i hi => absurd hi (by simp)⟩⟩
  | some l =>
    obtain ⟨v, rfl, ho, _⟩ := h.ok l rfl
    obtain ⟨ao, cap, b, rfl, hr, _⟩ := own_rowN ho rfl
    exact ⟨ao, cap, b, rfl, hr⟩

theorem roots_le {t : Tr} : ((rootsO t).getD []).length ≤ 8192 := by
  cases h : lsL t with
  | none => rw [rootsO_none h]; simp
  | some ls =>
    rw [rootsO_some h]
    obtain ⟨n, hn, hv⟩ := tv_of h
    have := hv.hn
    show (rootsL _ _ _ _).length ≤ _
    unfold rootsL
    rw [List.length_map]
    have h2 := List.length_filter_le (fun v => decide (ls.getD (rt t t.par.length v) 0 = v)) (List.range t.lv.toNat)
    rw [List.length_range] at h2
    omega
end Go.Proofs.YthacjealoomioaaGreatDoor
