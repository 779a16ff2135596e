/- Small facts on what comes in, for the tied laws. -/
import Derived.Test.YthhddjknjnjbhaaDoorLkX
import Derived.Test.YthhddjknjnjbhaaDoorLkV
import Derived.Test.YthhddjknjnjbhaaDoorLkLaid
namespace Go.Proofs.YthhddjknjnjbhaaDoor
set_option linter.unusedVariables false
set_option linter.unusedSimpArgs false
open Go.RowKit

theorem u8_of {a : Int} (h : (Lit.int .u8 a).wf = true) : 0 ≤ a ∧ a ≤ 255 := by
  simp [Lit.wf, IntKind.min, IntKind.max, IntKind.signed, IntKind.bits] at h
  exact ⟨by omega, by omega⟩

theorem u16_of {a : Int} (h : (Lit.int .u16 a).wf = true) : 0 ≤ a ∧ a ≤ 65535 := by
  simp [Lit.wf, IntKind.min, IntKind.max, IntKind.signed, IntKind.bits] at h
  exact ⟨by omega, by omega⟩

theorem u64_of {a : Int} (h : (Lit.int .u64 a).wf = true) : 0 ≤ a ∧ a < 18446744073709551616 := by
  simp [Lit.wf, IntKind.min, IntKind.max, IntKind.signed, IntKind.bits] at h
  exact ⟨by omega, by omega⟩

theorem pts_row {w : World} {k b : Nat} {z : List Int} {T : TypeId} (h : Blk w b T ((ptsL k z).map fun y => .int .i64 y)) : InRow .i64 w (some ⟨b, 0, none⟩) (k * k) b 0 (ptsL k z) := by
  have := InRow.of_blk h
  rw [pts_len] at this
  exact this

theorem runL_len (n : Nat) (m : Int) (d : List Int) : (runL n m d).length = n - 1 := runS_ms_length n m d (n - 1)

theorem row_merges {w : World} {v : Value} {n : Nat} {m : Int} {d : List Int} {T : TypeId} (h : w.ownsRow 0 T 5 v (n - 1) ((runL n m d).flatMap Mg.cells)) : ∃ ao cap b, v = .slice ao (n - 1) cap ∧ MRow w ao (n - 1) b 0 (runL n m d) := by
  rw [← runL_len n m d] at h
  obtain ⟨ao, cap, b, h1, h2, _⟩ := MRow.of_owns h
  rw [runL_len] at h1 h2
  exact ⟨ao, cap, b, h1, h2⟩

theorem mod_nat (n : Nat) (c : Nat) (hc : 0 < c) : Int.tmod (n : Int) (c : Int) = ((n % c : Nat) : Int) := by
  rw [Int.tmod_eq_emod_of_nonneg (by omega)]; simp

end Go.Proofs.YthhddjknjnjbhaaDoor
