/- cmp.Compare, cmp.Or; kruskal.Order. -/
import Derived.Test.YthacjealoomioaaZRcO
import Derived.Test.YthacjealoomioaaZRcI
import Derived.Sort.Grow
namespace Go.Proofs.Ythacjealoomioaa
set_option linter.unusedVariables false
set_option linter.unusedSimpArgs false
open Go.RowKit

def cmpI (a b : Int) : Int := if a < b then -1 else if b < a then 1 else 0
def orI (x y : Int) : Int := if x = 0 then y else x

set_option maxHeartbeats 400000 in
theorem isNaN64 (a : Int) (w : World) : Calls Try.prog 43 #[.int .i64 a] w (Ret (.bool false) w) := by
  go_enter Try.func43, Try.ntmps43
  go_wp2
  go_ret
  exact ⟨by simp, rfl⟩

set_option maxHeartbeats 400000 in
theorem isNaNi (a : Int) (w : World) : Calls Try.prog 44 #[.int .i64 a] w (Ret (.bool false) w) := by
  go_enter Try.func44, Try.ntmps44
  go_wp2
  go_ret
  exact ⟨by simp, rfl⟩

set_option maxHeartbeats 400000 in
theorem compare64 (a b : Int) (w : World) : Calls Try.prog 27 #[.int .i64 a, .int .i64 b] w (Ret (.int .i64 (cmpI a b)) w) := by
  go_enter Try.func27, Try.ntmps27
  go_wp2_with (go_at_call 43; refine (isNaN64 _ _).mono ?_; rintro e w' ⟨rfl, rfl⟩)
  all_goals
    go_ret
    exact ⟨ret_int (by unfold cmpI; repeat' split; all_goals omega), rfl⟩

set_option maxHeartbeats 400000 in
theorem comparei (a b : Int) (w : World) : Calls Try.prog 28 #[.int .i64 a, .int .i64 b] w (Ret (.int .i64 (cmpI a b)) w) := by
  go_enter Try.func28, Try.ntmps28
  go_wp2_with (go_at_call 44; refine (isNaNi _ _).mono ?_; rintro e w' ⟨rfl, rfl⟩)
  all_goals
    go_ret
    exact ⟨ret_int (by unfold cmpI; repeat' split; all_goals omega), rfl⟩

set_option maxHeartbeats 400000 in
theorem or2 (b : Nat) (x y : Int) (w : World) (hx : w.cell? ⟨b, 0, none⟩ = some (.int .i64 x)) (hy : w.cell? ⟨b, 1, none⟩ = some (.int .i64 y)) :
    Calls Try.prog 26 #[.slice (some ⟨b, 0, none⟩) 2 2] w (Ret (.int .i64 (orI x y)) w) := by
  go_enter Try.func26, Try.ntmps26
  go_wp2
  go_loop [8] (fun i => ∃ k : Nat, k ≤ 2 ∧ i = .int .i64 k ∧ Hid (0 < k → x = 0) ∧ Hid (1 < k → y = 0)) (fun i => 2 - (intOf i).toNat)
  case atStart => exact ⟨0, by omega, rfl, by intro h; omega, by intro h; omega⟩
  case round =>
    obtain ⟨k, hk, rfl, H0, H1⟩ := hrel
    obtain rfl | rfl | rfl : k = 0 ∨ k = 1 ∨ k = 2 := by omega
    · by_cases hz : x = 0
      · have hb : (x != 0) = false := by simp [hz]
        have HZ := Lib.hid hz
        clear hz
        go_wp2
        go_round
        case rel => exact ⟨1, by omega, rfl, fun _ => HZ.out, by intro h; omega⟩
        case measure => simp [intOf]
      · have hb : (x != 0) = true := by simp [hz]
        have HZ := Lib.hid hz
        clear hz
        go_wp2
        go_ret
        exact ⟨ret_int (by unfold orI; rw [if_neg HZ.out]), rfl⟩
    · by_cases hz : y = 0
      · have hb : (y != 0) = false := by simp [hz]
        have HZ := Lib.hid hz
        clear hz
        go_wp2
        go_round
        case rel => exact ⟨2, by omega, rfl, fun _ => H0.out (by omega), fun _ => HZ.out⟩
        case measure => simp [intOf]
      · have hb : (y != 0) = true := by simp [hz]
        have HZ := Lib.hid hz
        clear hz
        go_wp2
        go_ret
        exact ⟨ret_int (by unfold orI; rw [if_pos (H0.out (by omega))]), rfl⟩
    · go_wp2
      go_ret
      exact ⟨ret_int (by unfold orI; rw [if_pos (H0.out (by omega)), H1.out (by omega)]), rfl⟩

/-- The order of two edges, by their numbers. -/
def ordC (l : List Ed) (i j : Nat) : Int := orI (cmpI (wI l i) (wI l j)) (cmpI i j)

theorem ordC_neg (l : List Ed) (i j : Nat) : ordC l i j < 0 ↔ olt l i j := by
  unfold ordC orI cmpI olt
  constructor
  · intro h
    by_cases h1 : wI l i < wI l j
    · exact .inl h1
    · by_cases h2 : wI l j < wI l i
      · rw [if_neg h1, if_pos h2, if_neg (by decide)] at h; omega
      · rw [if_neg h1, if_neg h2, if_pos rfl] at h
        by_cases h3 : (i : Int) < (j : Int)
        · exact .inr ⟨by omega, by omega⟩
        · rw [if_neg h3] at h
          split at h <;> omega
  · rintro (h1 | ⟨h1, h2⟩)
    · rw [if_pos h1, if_neg (by decide)]; decide
    · have a1 : (if wI l i < wI l j then (-1 : Int) else if wI l j < wI l i then 1 else 0) = 0 := by rw [if_neg (by omega), if_neg (by omega)]
      have a2 : (if (i : Int) < (j : Int) then (-1 : Int) else if (j : Int) < (i : Int) then 1 else 0) = -1 := if_pos (by omega)
      rw [a1, a2, if_pos rfl]
      decide

set_option maxRecDepth 100000 in
set_option maxHeartbeats 1000000 in
theorem ordf_ok (w : World) (pb : Nat) (ao : Option Addr) (m cap b off : Nat) (l : List Ed) (hc : w.cell? ⟨pb, 0, none⟩ = some (.slice ao m cap)) (he : ERow w ao m b off l) (hm : m ≤ 16384) (i j : Nat) (hi : i < m) (hj : j < m) :
    Calls Try.prog 25 #[.int .i64 i, .int .i64 j, .pointer (some ⟨pb, 0, none⟩)] w (fun e w' => e = .returned (.int .i64 (ordC l i j)) ∧ ∃ q os', w' = Go.Sort.grow (w.drewN q) os') := by
  obtain ⟨_, _, ci⟩ := he.cell i hi
  obtain ⟨_, _, cj⟩ := he.cell j hj
  obtain rfl := he.adr (by omega)
  have ei : (EA l i).W = wI l i := rfl
  have ej : (EA l j).W = wI l j := rfl
  rw [ei] at ci
  rw [ej] at cj
  have HO : Hid (orI (cmpI (wI l i) (wI l j)) (cmpI i j) = ordC l i j) := rfl
  generalize wI l i = wi at *
  generalize wI l j = wj at *
  have HH : Hid (∀ x : Obj, ∃ q os', ((w.drew).alloc x) = Go.Sort.grow (w.drewN q) os') := by
    intro x
    exact ⟨1, _, by rw [Go.Sort.alloc_eq_grow]; rfl⟩
  have t1 : (i : Int) < (m : Int) := by omega
  have t2 : (j : Int) < (m : Int) := by omega
  have t3 : (0 : Int) ≤ (i : Int) := by omega
  have t4 : (0 : Int) ≤ (j : Int) := by omega
  clear he ei ej
  go_enter Try.func25, Try.ntmps25
  go_wp2_with fail
  refine region_tail 14 (by kernel_rfl) (by kernel_rfl) ?_
  intro w2 hw2
  rw [← hw2] at HH
  have d0 : w2.cell? ⟨pb, 0, none⟩ = some (.slice (some ⟨b, off, none⟩) m cap) := by rw [hw2]; exact hc
  have d1 : w2.cell? ⟨b, off + i * 3 + 2, none⟩ = some (.int .i64 wi) := by rw [hw2]; exact ci
  have d2 : w2.cell? ⟨b, off + j * 3 + 2, none⟩ = some (.int .i64 wj) := by rw [hw2]; exact cj
  clear hw2 hc ci cj
  simp only [List.take_succ_cons, List.take_zero, List.drop_succ_cons, List.drop_zero]
  repeat still_step
  still_call (Ret.still (compare64 wi wj _))
  repeat still_step
  still_call (Ret.still (comparei i j _))
  refine wpStill_nil ?_
  clear d0 d1 d2
  go_wp2_with (go_at_call 26; refine (or2 _ (cmpI wi wj) (cmpI i j) _ (by simp) (by simp)).mono ?_; rintro e w' ⟨rfl, rfl⟩)
  go_ret
  exact ⟨ret_int HO.out, HH.out _⟩

end Go.Proofs.Ythacjealoomioaa
