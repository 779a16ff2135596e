/- What comes in: lines. -/
import Derived.Test.YthacjealoomioaaDoorZMgW
import Derived.Test.YthacjealoomioaaDoorZMgA
namespace Go.Proofs.YthacjealoomioaaDoor.Lk
set_option linter.unusedVariables false
set_option linter.unusedSimpArgs false
open Go.RowKit

theorem u8_natM {x : Int} (h : (Lit.int .u8 x).wf = true) : ∃ k : Nat, x = (k : Int) ∧ k ≤ 255 := by
  simp [Lit.wf, IntKind.min, IntKind.max, IntKind.signed, IntKind.bits] at h
  exact ⟨x.toNat, by omega, by omega⟩
theorem u32_natM {x : Int} (h : (Lit.int .u32 x).wf = true) : ∃ k : Nat, x = (k : Int) ∧ k ≤ 4294967295 := by
  simp [Lit.wf, IntKind.min, IntKind.max, IntKind.signed, IntKind.bits] at h
  exact ⟨x.toNat, by omega, by omega⟩
theorem lrow_of {w : World} {ao : Option Addr} {len cap b off : Nat} {F : Nat → Nat → Int} (h : FRow w ao len cap b off [.u8, .u8, .u32] F) : LRow w ao len b off (fun i => (F i 0).toNat) (fun i => (F i 1).toNat) (fun i => (F i 2).toNat) := by
  refine ⟨h.lim, h.adr, fun i hi => ?_, fun i hi => ?_⟩
  · obtain ⟨k0, e0, _⟩ := u8_natM (h.wf i hi 0 .u8 rfl)
    obtain ⟨k1, e1, _⟩ := u8_natM (h.wf i hi 1 .u8 rfl)
    obtain ⟨k2, e2, _⟩ := u32_natM (h.wf i hi 2 .u32 rfl)
    have c0 := h.cell i hi 0 .u8 rfl
    have c1 := h.cell i hi 1 .u8 rfl
    have c2 := h.cell i hi 2 .u32 rfl
    rw [e0] at c0
    rw [e1] at c1
    rw [e2] at c2
    simp only [e0, e1, e2, Int.toNat_natCast]
    refine ⟨c0, ?_, ?_⟩
    · rw [Nat.add_assoc]; exact c1
    · rw [Nat.add_assoc]; exact c2
  · obtain ⟨k0, e0, h0⟩ := u8_natM (h.wf i hi 0 .u8 rfl)
    obtain ⟨k1, e1, h1⟩ := u8_natM (h.wf i hi 1 .u8 rfl)
    obtain ⟨k2, e2, h2⟩ := u32_natM (h.wf i hi 2 .u32 rfl)
    simp only [e0, e1, e2, Int.toNat_natCast]
    exact ⟨h0, h1, h2⟩

end Go.Proofs.YthacjealoomioaaDoor.Lk
