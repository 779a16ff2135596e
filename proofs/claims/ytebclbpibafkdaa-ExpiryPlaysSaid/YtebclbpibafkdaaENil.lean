/- Schedules that are nil, or that New did not make. -/
import Derived.Test.YtebclbpibafkdaaExpM
namespace Go.Proofs.Ytebclbpibafkdaa
set_option linter.unusedVariables false
set_option linter.unusedSimpArgs false
open Go.RowKit

/-- A nil schedule, or one without a queue. -/
structure EBad (w : World) (v : Value) : Prop where
  out : v = .pointer none ∨ ∃ s, v = .pointer (some ⟨s, 0, none⟩) ∧ w.cell? ⟨s, 1, none⟩ = some (.pointer none)

theorem EBad.below {w w' : World} {v : Value} (h : EBad w v) (k : Below w.heap.size w w') : EBad w' v := by
  rcases h.out with rfl | ⟨s, rfl, hc⟩
  · exact ⟨.inl rfl⟩
  · exact ⟨.inr ⟨s, rfl, (k.cell (World.block_lt_of_cell? w _ hc)).trans hc⟩⟩

set_option maxHeartbeats 400000 in
theorem evalid_bad (w : World) (v : Value) (h : EBad w v) :
    Calls Try.prog 63 #[v] w (Ret (.bool false) w) := by
  rcases h.out with rfl | ⟨s, rfl, c1⟩
  all_goals
    clear h
    go_enter Try.func63, Try.ntmps63
    go_wp2
    go_ret
    exact ⟨rfl, rfl⟩

set_option maxHeartbeats 1000000 in
theorem with_bad (w : World) (v : Value) (h : EBad w v) (slot : Int) (fv : Value) :
    Calls Try.prog 60 #[v, .int .i64 slot, fv] w (Ret (.int .i64 1) w) := by
  have HH := Lib.hid h
  clear h
  go_enter Try.func60, Try.ntmps60
  go_wp2_with (go_at_call 63; refine (evalid_bad w v HH.out).mono ?_; rintro e w' ⟨rfl, rfl⟩)
  go_ret
  exact ⟨rfl, rfl⟩

set_option maxHeartbeats 1000000 in
set_option maxRecDepth 100000 in
theorem eset_bad (w : World) (v : Value) (h : EBad w v) (slot at' : Int) :
    Calls Try.prog 37 #[v, .int .i64 slot, .int .i64 at'] w (RetB (.int .i64 1) w) := by
  have HH := Lib.hid h
  rcases h.out with rfl | ⟨s, rfl, _⟩
  all_goals
    clear h
    go_enter Try.func37, Try.ntmps37
    go_wp2_with fail
    generalize hW : World.alloc (World.alloc (World.alloc w _) _) _ = W
    have HB : Hid (Below w.heap.size w W) := by rw [← hW]; exact (((Below.refl _ _).alloc (Nat.le_refl _) _).alloc (by simp) _).alloc (by simp; omega) _
    clear hW
    with_reducible refine (with_bad W _ (HH.out.below HB.out) _ _).mono ?_
    rintro e w1 ⟨rfl, rfl⟩
    go_wp2_with fail
    go_ret
    exact ⟨rfl, HB.out⟩

set_option maxHeartbeats 1000000 in
set_option maxRecDepth 100000 in
theorem edrop_bad (w : World) (v : Value) (h : EBad w v) (slot : Int) :
    Calls Try.prog 35 #[v, .int .i64 slot] w (RetB (.int .i64 1) w) := by
  have HH := Lib.hid h
  rcases h.out with rfl | ⟨s, rfl, _⟩
  all_goals
    clear h
    go_enter Try.func35, Try.ntmps35
    go_wp2_with fail
    generalize hW : World.alloc (World.alloc w _) _ = W
    have HB : Hid (Below w.heap.size w W) := by rw [← hW]; exact ((Below.refl _ _).alloc (Nat.le_refl _) _).alloc (by simp) _
    clear hW
    with_reducible refine (with_bad W _ (HH.out.below HB.out) _ _).mono ?_
    rintro e w1 ⟨rfl, rfl⟩
    go_wp2_with fail
    go_ret
    exact ⟨rfl, HB.out⟩

set_option maxHeartbeats 1000000 in
set_option maxRecDepth 100000 in
theorem eleft_bad (w : World) (v : Value) (h : EBad w v) (slot now : Int) :
    Calls Try.prog 27 #[v, .int .i64 slot, .int .i64 now] w (RetB (.tuple #[.int .i64 0, .int .i64 1]) w) := by
  have HH := Lib.hid h
  rcases h.out with rfl | ⟨s, rfl, _⟩
  all_goals
    clear h
    go_enter Try.func27, Try.ntmps27
    go_wp2_with fail
    generalize hW : World.alloc (World.alloc (World.alloc (World.alloc w _) _) _) _ = W
    have HB : Hid (Below w.heap.size w W) := by rw [← hW]; exact ((((Below.refl _ _).alloc (Nat.le_refl _) _).alloc (by simp) _).alloc (by simp; omega) _).alloc (by simp; omega) _
    clear hW
    with_reducible refine (with_bad W _ (HH.out.below HB.out) _ _).mono ?_
    rintro e w1 ⟨rfl, rfl⟩
    go_wp2_with fail
    go_ret2
    exact ⟨rfl, HB.out⟩

set_option maxHeartbeats 1000000 in
theorem enext_bad (w : World) (v : Value) (h : EBad w v) :
    Calls Try.prog 34 #[v] w (RetB (.tuple #[.agg #[.int .i64 0, .int .i64 0], .bool false]) w) := by
  have HH := Lib.hid h
  clear h
  have hb : Below w.heap.size w (w.alloc (.cells #[.int .i64 0, .int .i64 0] 28)) := (Below.refl _ _).alloc (Nat.le_refl _) _
  have HB := Lib.hid hb
  clear hb
  go_enter Try.func34, Try.ntmps34
  go_wp2_with (go_at_call 63; refine (evalid_bad _ v (HH.out.below HB.out)).mono ?_; rintro e w' ⟨rfl, rfl⟩)
  exact bodyPost_ret (v := .tuple #[.agg #[.int .i64 0, .int .i64 0], .bool false]) (by simp [results, Try.results34, go_sem]) rfl ⟨rfl, HB.out⟩

set_option maxHeartbeats 1000000 in
theorem elen_bad (w : World) (v : Value) (h : EBad w v) :
    Calls Try.prog 33 #[v] w (Ret (.int .i64 0) w) := by
  have HH := Lib.hid h
  clear h
  go_enter Try.func33, Try.ntmps33
  go_wp2_with (go_at_call 63; refine (evalid_bad w v HH.out).mono ?_; rintro e w' ⟨rfl, rfl⟩)
  go_ret
  exact ⟨rfl, rfl⟩

set_option maxHeartbeats 1000000 in
theorem ecopy_bad (w : World) (v : Value) (h : EBad w v) :
    Calls Try.prog 36 #[v] w (Ret (.pointer none) w) := by
  have HH := Lib.hid h
  clear h
  go_enter Try.func36, Try.ntmps36
  go_wp2_with (go_at_call 63; refine (evalid_bad w v HH.out).mono ?_; rintro e w' ⟨rfl, rfl⟩)
  go_ret
  exact ⟨rfl, rfl⟩

set_option maxHeartbeats 1000000 in
theorem edue_bad (w : World) (v : Value) (h : EBad w v) (now : Int) :
    Calls Try.prog 29 #[v, .int .i64 now] w (Ret (.slice none 0 0) w) := by
  have HH := Lib.hid h
  clear h
  go_enter Try.func29, Try.ntmps29
  go_wp2_with (go_at_call 63; refine (evalid_bad w v HH.out).mono ?_; rintro e w' ⟨rfl, rfl⟩)
  go_ret
  exact ⟨rfl, rfl⟩

end Go.Proofs.Ytebclbpibafkdaa
