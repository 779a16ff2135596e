/- heap.order: what it returns, and the very world that it leaves; the order is total. -/
import Derived.Test.YtebclbpibafkdaaCmp
import Derived.Sort.Grow
namespace Go.Proofs.Ytebclbpibafkdaa
set_option linter.unusedVariables false
set_option linter.unusedSimpArgs false
open Go.RowKit

set_option maxRecDepth 100000 in
set_option maxHeartbeats 1000000 in
theorem order_lays (i j k l : Int) (w : World) :
    Calls Try.prog 76 #[.agg #[.int .i64 i, .int .i64 k], .agg #[.int .i64 j, .int .i64 l]] w (fun e w' => e = .returned (.int .i64 (ordI (i, k) (j, l))) ∧ ∃ q os', w' = Go.Sort.grow (w.drewN q) os') := by
  have HH : Hid (∀ x : Obj, ∃ q os', ((((w.alloc (.cells #[.int .i64 i, .int .i64 k] 28)).alloc (.cells #[.int .i64 j, .int .i64 l] 28)).drew).alloc x) = Go.Sort.grow (w.drewN q) os') := by
    intro x
    exact ⟨1, _, by rw [Go.Sort.alloc_eq_grow, Go.Sort.alloc_eq_grow, Go.Sort.alloc_eq_grow, Go.Sort.drew_grow, Go.Sort.drew_grow, Go.Sort.grow_grow, Go.Sort.grow_grow]; rfl⟩
  go_enter Try.func76, Try.ntmps76
  go_wp2
  generalize hW : World.alloc (World.alloc w _) _ = W at HH ⊢
  have B1 : Blk W w.heap.size 28 [.int .i64 i, .int .i64 k] := by rw [← hW]; exact (Blk.new w _ _).alloc _
  have B2 : Blk W (w.heap.size + 1) 28 [.int .i64 j, .int .i64 l] := by rw [← hW]; exact Blk.new' (w.alloc _) _ _ (by simp)
  clear hW
  have c1 := B1.drew.cell (i := 0) rfl
  have c2 := B1.drew.cell (i := 1) rfl
  have c3 := B2.drew.cell (i := 0) rfl
  have c4 := B2.drew.cell (i := 1) rfl
  clear B1 B2
  refine region_tail 10 (by kernel_rfl) (by kernel_rfl) ?_
  intro w2 hw2
  rw [← hw2] at c1 c2 c3 c4 HH
  clear hw2
  simp only [List.take_succ_cons, List.take_zero, List.drop_succ_cons, List.drop_zero]
  repeat still_step
  still_call (Ret.still (compare64 k l _))
  repeat still_step
  still_call (Ret.still (comparei i j _))
  refine wpStill_nil ?_
  clear c1 c2 c3 c4
  go_wp2_with (go_at_call 93; refine (or2 _ (cmpI k l) (cmpI i j) _ (by simp) (by simp)).mono ?_; rintro e w' ⟨rfl, rfl⟩)
  go_ret
  exact ⟨rfl, HH.out _⟩

end Go.Proofs.Ytebclbpibafkdaa
