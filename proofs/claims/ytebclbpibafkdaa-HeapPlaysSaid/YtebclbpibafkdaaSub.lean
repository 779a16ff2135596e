/- What checked.Sub returns. -/
import Derived.Test.YtebclbpibafkdaaRows
import Derived.Test.YtebclbpibafkdaaBase
namespace Go.Proofs.Ytebclbpibafkdaa
set_option linter.unusedVariables false
set_option linter.unusedSimpArgs false
open Go.RowKit

/-- A number of 64 bits. -/
def I64 (a : Int) : Prop := -9223372036854775808 ≤ a ∧ a ≤ 9223372036854775807

theorem wrap_neg (d : Int) (h1 : -18446744073709551615 ≤ d) (h2 : d < -9223372036854775808) : ¬ wrap64 d < 0 := by
  unfold wrap64; omega
theorem wrap_pos (d : Int) (h1 : d ≤ 18446744073709551615) (h2 : 9223372036854775807 < d) : wrap64 d < 0 := by
  unfold wrap64; omega

set_option maxHeartbeats 1000000 in
theorem sub_fits (a b : Int) (w : World) (ha : I64 a) (hb : I64 b) (hd : I64 (a - b)) :
    Calls Try.prog 62 #[.int .i64 a, .int .i64 b] w (Ret (.tuple #[.int .i64 (a - b), .int .i64 0]) w) := by
  obtain ⟨a1, a2⟩ := ha
  obtain ⟨b1, b2⟩ := hb
  obtain ⟨d1, d2⟩ := hd
  by_cases h1 : a < 0 <;> by_cases h2 : b < 0
  · go_enter Try.func62, Try.ntmps62
    go_wp2
    go_ret2
    exact ⟨rfl, rfl⟩
  · have t : decide (a - b < 0) = true := by simp; omega
    go_enter Try.func62, Try.ntmps62
    go_wp2
    go_ret2
    exact ⟨rfl, rfl⟩
  · have t : decide (a - b < 0) = false := by simp; omega
    go_enter Try.func62, Try.ntmps62
    go_wp2
    go_ret2
    exact ⟨rfl, rfl⟩
  · go_enter Try.func62, Try.ntmps62
    go_wp2
    go_ret2
    exact ⟨rfl, rfl⟩

set_option maxHeartbeats 1000000 in
theorem sub_over (a b : Int) (w : World) (ha : I64 a) (hb : I64 b) (hd : ¬ I64 (a - b)) :
    Calls Try.prog 62 #[.int .i64 a, .int .i64 b] w (Ret (.tuple #[.int .i64 0, .int .i64 7]) w) := by
  obtain ⟨a1, a2⟩ := ha
  obtain ⟨b1, b2⟩ := hb
  unfold I64 at hd
  by_cases h1 : a < 0
  · have h2 : ¬ b < 0 := by omega
    have t : decide (wrap64 (a - b) < 0) = false := decide_eq_false (wrap_neg _ (by omega) (by omega))
    go_enter Try.func62, Try.ntmps62
    go_wp2
    go_ret2
    exact ⟨rfl, rfl⟩
  · have h2 : b < 0 := by omega
    have t : decide (wrap64 (a - b) < 0) = true := decide_eq_true (wrap_pos _ (by omega) (by omega))
    go_enter Try.func62, Try.ntmps62
    go_wp2
    go_ret2
    exact ⟨rfl, rfl⟩

end Go.Proofs.Ytebclbpibafkdaa
