/- The statements' comparisons of layer 18: equal lists, equal trees. -/
import Derived.Test.YtenhbfbfkcjimaaZRcRh
import Derived.Test.YtenhbfbfkcjimaaZRfH
namespace Go.Proofs.Ytenhbfbfkcjimaa
set_option linter.unusedVariables false
set_option linter.unusedSimpArgs false
open Go.RowKit

set_option maxHeartbeats 2000000 in
theorem rsame_ok (w : World) (ao ao' : Option Addr) (len cap cap' b b' off off' : Nat) (z : List Int) (hu : InRow .i64 w ao len b off z) (hv : InRow .i64 w ao' len b' off' z) (hl : len ≤ 9223372036854775807) :
    Calls Try.prog 23 #[.slice ao len cap, .slice ao' len cap'] w (RetB (.bool true) w) := by
  have HC := Lib.hid hu
  have HD := Lib.hid hv
  clear hu hv
  have t0 : ((len : Int) != (len : Int)) = false := by simp
  go_enter Try.func23, Try.ntmps23
  go_wp2_with fail
  go_loopw [5] (fun s wr => ∃ k : Nat, k ≤ len ∧ s = .int .i64 k ∧ Mod (fun _ => False) w wr) (fun s _ => len - (intOf s).toNat)
  case atStart => exact ⟨0, Nat.zero_le _, rfl, Mod.refl _ _⟩
  case round =>
    obtain ⟨k, hk, rfl, hm⟩ := hrel
    have HM := Lib.hid hm
    by_cases hkn : k < len
    · obtain rfl := HC.out.adr (by omega)
      obtain rfl := HD.out.adr (by omega)
      have c0 := (HC.out.mod hm (fun _ h => h)).cell k hkn
      have d0 := (HD.out.mod hm (fun _ h => h)).cell k hkn
      generalize z.getD k 0 = x at c0 d0
      clear hm
      have t1 : (k : Int) < (len : Int) := by omega
      have t2 : (x != x) = false := by simp
      go_wp2_with fail
      go_quiet (fail)
      go_wp2_with fail
      go_roundw
      case rel => exact ⟨k + 1, by omega, by go_num, HM.out.drewN _⟩
      case measure => simp [intOf]; omega
    · obtain rfl : k = len := by omega
      clear hm
      go_wp2_with fail
      go_ret
      exact ⟨rfl, HM.out.below (Nat.le_refl _) (fun _ h => h.elim)⟩

/-- What was appended or returned, as a row. -/
theorem LnPost.row {w w' : World} {o : Option (List Nat)} {e : Ending} (h : LnPost w o e w') : ∃ ao cap b, e = .returned (.slice ao (o.getD []).length cap) ∧ InRow .i64 w' ao (o.getD []).length b 0 (nI (o.getD [])) := by
  cases o with
  | none => exact ⟨none, 0, 0, h.bad rfl, ⟨rfl, fun h => absurd h (by simp), fun i hi => absurd hi (by simp)⟩⟩
  | some l =>
    obtain ⟨v, rfl, ho, _⟩ := h.ok l rfl
    obtain ⟨ao, cap, b, rfl, hr, _⟩ := own_rowN ho rfl
    exact ⟨ao, cap, b, rfl, hr⟩

def lbErr (o : Option (List Nat)) : Int := match o with | none => 2 | some _ => 0

theorem LbPost.row {w w' : World} {t : Tr} {th : Int} {e : Ending} (h : LbPost w t th e w') : ∃ ao cap b, e = .returned (.tuple #[.slice ao ((labsO t th).getD []).length cap, .int .i64 (lbErr (labsO t th))]) ∧ InRow .i64 w' ao ((labsO t th).getD []).length b 0 (nI ((labsO t th).getD [])) := by
  have h1 := h.bad
  have h2 := h.ok
  cases e1 : labsO t th with
  | none => exact ⟨none, 0, 0, h1 e1, ⟨rfl, fun h => absurd h (by simp), fun i hi => absurd hi (by simp)⟩⟩
  | some l =>
    obtain ⟨v, rfl, ho, _⟩ := h2 l e1
    obtain ⟨ao, cap, b, rfl, hr, _⟩ := own_rowN ho rfl
    exact ⟨ao, cap, b, rfl, hr⟩

theorem labs_le {t : Tr} {th : Int} : ((labsO t th).getD []).length ≤ 8192 := by
  cases h : lsL t with
  | none => rw [labsO_none h]; simp
  | some ls =>
    rw [labsO_some h]
    obtain ⟨n, hn, hv⟩ := tv_of h
    have := hv.hn
    show (labelsL _ _ _ _ _).length ≤ _
    unfold labelsL
    rw [List.length_map, List.length_range, hn]; omega
theorem roots_le {t : Tr} : ((rootsO t).getD []).length ≤ 8192 := by
  cases h : lsL t with
  | none => rw [rootsO_none h]; simp
  | some ls =>
    rw [rootsO_some h]
    obtain ⟨n, hn, hv⟩ := tv_of h
    have := hv.hn
    show (rootsL _ _ _ _).length ≤ _
    unfold rootsL
    rw [List.length_map]
    have h2 := List.length_filter_le (fun v => decide (ls.getD (rt t t.par.length v) 0 = v)) (List.range t.lv.toNat)
    rw [List.length_range] at h2
    omega
theorem leaves_le {t : Tr} {node : Int} : ((leavesO t node).getD []).length ≤ 8192 := by
  cases h : lsL t with
  | none => rw [leavesO_none h]; simp
  | some ls =>
    by_cases h2 : node < 0 ∨ (t.par.length : Int) ≤ node
    · rw [leavesO_out h2]; simp
    · rw [leavesO_some h h2]
      obtain ⟨n, hn, hv⟩ := tv_of h
      have := hv.hn
      show (leavesL _ _ _ _).length ≤ _
      unfold leavesL
      have h2 := List.length_filter_le (fun v => bl t t.par.length node.toNat v) (List.range t.lv.toNat)
      rw [List.length_range] at h2
      omega
theorem lsg_le {t : Tr} : ((lsL t).getD []).length ≤ 8192 := by
  cases h : lsL t with
  | none => simp
  | some ls => exact (ls_le h).2

theorem six_keep {W w' : World} {g : Nat} {v1 v2 v3 v4 v5 v6 : Value} (h1 : Hid (W.cell? ⟨g, 0, none⟩ = some v1)) (h2 : Hid (W.cell? ⟨g, 1, none⟩ = some v2)) (h3 : Hid (W.cell? ⟨g, 2, none⟩ = some v3)) (h4 : Hid (W.cell? ⟨g, 3, none⟩ = some v4)) (h5 : Hid (W.cell? ⟨g, 4, none⟩ = some v5)) (h6 : Hid (W.cell? ⟨g, 5, none⟩ = some v6)) (hb : Below W.heap.size W w') :
    w'.cell? ⟨g, 0, none⟩ = some v1 ∧ w'.cell? ⟨g, 1, none⟩ = some v2 ∧ w'.cell? ⟨g, 2, none⟩ = some v3 ∧ w'.cell? ⟨g, 3, none⟩ = some v4 ∧ w'.cell? ⟨g, 4, none⟩ = some v5 ∧ w'.cell? ⟨g, 5, none⟩ = some v6 ∧ Below W.heap.size W w' := by
  have k : ∀ i v, W.cell? ⟨g, i, none⟩ = some v → w'.cell? ⟨g, i, none⟩ = some v := fun i v h => (hb.cell (p := ⟨g, i, none⟩) (World.block_lt_of_cell? W _ h)).trans h
  exact ⟨k _ _ h1.out, k _ _ h2.out, k _ _ h3.out, k _ _ h4.out, k _ _ h5.out, k _ _ h6.out, hb⟩

end Go.Proofs.Ytenhbfbfkcjimaa
