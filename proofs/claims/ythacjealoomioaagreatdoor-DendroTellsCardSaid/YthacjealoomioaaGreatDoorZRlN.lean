/- RlN. -/
import Derived.Test.YthacjealoomioaaGreatDoorZHg
import Derived.Test.YthacjealoomioaaGreatDoorZGa
/- What comes in: a byte, triples of bytes. -/
namespace Go.Proofs.YthacjealoomioaaGreatDoor
set_option linter.unusedVariables false
set_option linter.unusedSimpArgs false
open Go.RowKit

theorem u8_nat {x : Int} (h : (Lit.int .u8 x).wf = true) : ∃ k : Nat, x = (k : Int) ∧ k ≤ 255 := by
  simp [Lit.wf, IntKind.min, IntKind.max, IntKind.signed, IntKind.bits] at h
  exact ⟨x.toNat, by omega, by omega⟩
theorem u16_nat {x : Int} (h : (Lit.int .u16 x).wf = true) : ∃ k : Nat, x = (k : Int) ∧ k ≤ 65535 := by
  simp [Lit.wf, IntKind.min, IntKind.max, IntKind.signed, IntKind.bits] at h
  exact ⟨x.toNat, by omega, by omega⟩
theorem i8_bd {x : Int} (h : (Lit.int .i8 x).wf = true) : -128 ≤ x ∧ x ≤ 127 := by
  simp [Lit.wf, IntKind.min, IntKind.max, IntKind.signed, IntKind.bits] at h
  exact ⟨by omega, by omega⟩

theorem brow_of {w : World} {ao : Option Addr} {len cap b off : Nat} {F : Nat → Nat → Int} (h : FRow w ao len cap b off [.u8, .u8, .u8] F) : BRow w ao len b off (fun i j => (F i j).toNat) := by
  have hk : ∀ j, j < 3 → ([.u8, .u8, .u8] : List IntKind)[j]? = some .u8 := fun j hj => by
    have h3 : j = 0 ∨ j = 1 ∨ j = 2 := by omega
    rcases h3 with rfl | rfl | rfl <;> rfl
  have key : ∀ i, i < len → ∀ j, j < 3 → 0 ≤ F i j ∧ F i j ≤ 255 := fun i hi j hj => by
    obtain ⟨k, e, hk2⟩ := u8_nat (h.wf i hi j .u8 (hk j hj))
    omega
  refine ⟨h.lim, h.adr, fun i hi j hj => ?_, fun i hi j hj => by have := key i hi j hj; omega⟩
  have e : (((F i j).toNat : Nat) : Int) = F i j := by have := key i hi j hj; omega
  rw [e]
  exact h.cell i hi j .u8 (hk j hj)

end Go.Proofs.YthacjealoomioaaGreatDoor
