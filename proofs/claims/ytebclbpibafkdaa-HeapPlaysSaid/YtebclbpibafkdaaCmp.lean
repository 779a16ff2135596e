/- What cmp.Compare, cmp.Or and heap.order return. -/
import Derived.Test.YtebclbpibafkdaaRows
import Derived.Test.YtebclbpibafkdaaBase
import Derived.Test.YtebclbpibafkdaaHeapP
namespace Go.Proofs.Ytebclbpibafkdaa
set_option linter.unusedVariables false
set_option linter.unusedSimpArgs false
open Go.RowKit

set_option maxHeartbeats 400000 in
theorem isNaN64 (a : Int) (w : World) : Calls Try.prog 110 #[.int .i64 a] w (Ret (.bool false) w) := by
  go_enter Try.func110, Try.ntmps110
  go_wp2
  go_ret
  exact ⟨by simp, rfl⟩

set_option maxHeartbeats 400000 in
theorem isNaNi (a : Int) (w : World) : Calls Try.prog 111 #[.int .i64 a] w (Ret (.bool false) w) := by
  go_enter Try.func111, Try.ntmps111
  go_wp2
  go_ret
  exact ⟨by simp, rfl⟩

set_option maxHeartbeats 400000 in
theorem compare64 (a b : Int) (w : World) : Calls Try.prog 94 #[.int .i64 a, .int .i64 b] w (Ret (.int .i64 (cmpI a b)) w) := by
  go_enter Try.func94, Try.ntmps94
  go_wp2_with (go_at_call 110; refine (isNaN64 _ _).mono ?_; rintro e w' ⟨rfl, rfl⟩)
  all_goals
    go_ret
    exact ⟨ret_int (by unfold cmpI; repeat' split; all_goals omega), rfl⟩

set_option maxHeartbeats 400000 in
theorem comparei (a b : Int) (w : World) : Calls Try.prog 95 #[.int .i64 a, .int .i64 b] w (Ret (.int .i64 (cmpI a b)) w) := by
  go_enter Try.func95, Try.ntmps95
  go_wp2_with (go_at_call 111; refine (isNaNi _ _).mono ?_; rintro e w' ⟨rfl, rfl⟩)
  all_goals
    go_ret
    exact ⟨ret_int (by unfold cmpI; repeat' split; all_goals omega), rfl⟩

set_option maxHeartbeats 400000 in
theorem or2 (b : Nat) (x y : Int) (w : World) (hx : w.cell? ⟨b, 0, none⟩ = some (.int .i64 x)) (hy : w.cell? ⟨b, 1, none⟩ = some (.int .i64 y)) :
    Calls Try.prog 93 #[.slice (some ⟨b, 0, none⟩) 2 2] w (Ret (.int .i64 (orI x y)) w) := by
  go_enter Try.func93, Try.ntmps93
  go_wp2
  go_loop [8] (fun i => ∃ k : Nat, k ≤ 2 ∧ i = .int .i64 k ∧ Hid (0 < k → x = 0) ∧ Hid (1 < k → y = 0)) (fun i => 2 - (intOf i).toNat)
  case atStart => exact ⟨0, by omega, rfl, by intro h; omega, by intro h; omega⟩
  case round =>
    obtain ⟨k, hk, rfl, H0, H1⟩ := hrel
    obtain rfl | rfl | rfl : k = 0 ∨ k = 1 ∨ k = 2 := by omega
    · by_cases hz : x = 0
      · have hb : (x != 0) = false := by simp [hz]
        have HZ := Lib.hid hz
        clear hz
        go_wp2
        go_round
        case rel => exact ⟨1, by omega, rfl, fun _ => HZ.out, by intro h; omega⟩
        case measure => simp [intOf]
      · have hb : (x != 0) = true := by simp [hz]
        have HZ := Lib.hid hz
        clear hz
        go_wp2
        go_ret
        exact ⟨ret_int (by unfold orI; rw [if_neg HZ.out]), rfl⟩
    · by_cases hz : y = 0
      · have hb : (y != 0) = false := by simp [hz]
        have HZ := Lib.hid hz
        clear hz
        go_wp2
        go_round
        case rel => exact ⟨2, by omega, rfl, fun _ => H0.out (by omega), fun _ => HZ.out⟩
        case measure => simp [intOf]
      · have hb : (y != 0) = true := by simp [hz]
        have HZ := Lib.hid hz
        clear hz
        go_wp2
        go_ret
        exact ⟨ret_int (by unfold orI; rw [if_pos (H0.out (by omega))]), rfl⟩
    · go_wp2
      go_ret
      exact ⟨ret_int (by unfold orI; rw [if_pos (H0.out (by omega)), H1.out (by omega)]), rfl⟩

set_option maxRecDepth 100000 in
set_option maxHeartbeats 1000000 in
theorem order_any (i j k l : Int) (w : World) :
    Calls Try.prog 76 #[.agg #[.int .i64 i, .int .i64 k], .agg #[.int .i64 j, .int .i64 l]] w (RetB (.int .i64 (ordI (i, k) (j, l))) w) := by
  go_enter Try.func76, Try.ntmps76
  go_wp2
  generalize hW : World.alloc (World.alloc w _) _ = W
  have B1 : Blk W w.heap.size 28 [.int .i64 i, .int .i64 k] := by rw [← hW]; exact (Blk.new w _ _).alloc _
  have B2 : Blk W (w.heap.size + 1) 28 [.int .i64 j, .int .i64 l] := by rw [← hW]; exact Blk.new' (w.alloc _) _ _ (by simp)
  have HB : Below w.heap.size w W := by rw [← hW]; exact ((Below.refl _ _).alloc (Nat.le_refl _) _).alloc (by simp) _
  clear hW
  have c1 := B1.drew.cell (i := 0) rfl
  have c2 := B1.drew.cell (i := 1) rfl
  have c3 := B2.drew.cell (i := 0) rfl
  have c4 := B2.drew.cell (i := 1) rfl
  have HB2 := HB.drew
  clear B1 B2 HB
  refine region_tail 10 (by kernel_rfl) (by kernel_rfl) ?_
  intro w2 hw2
  rw [← hw2] at c1 c2 c3 c4 HB2
  clear hw2
  simp only [List.take_succ_cons, List.take_zero, List.drop_succ_cons, List.drop_zero]
  repeat still_step
  still_call (Ret.still (compare64 k l _))
  repeat still_step
  still_call (Ret.still (comparei i j _))
  refine wpStill_nil ?_
  have HH := Lib.hid HB2
  clear HB2 c1 c2 c3 c4
  go_wp2_with (go_at_call 93; refine (or2 _ (cmpI k l) (cmpI i j) _ (by simp) (by simp)).mono ?_; rintro e w' ⟨rfl, rfl⟩)
  go_ret
  exact ⟨rfl, HH.out.alloc HH.out.size _⟩

end Go.Proofs.Ytebclbpibafkdaa
