/- What comes into the statements of layer 20. -/
import Derived.Test.YtenhbfbfkcjimaaDoorZFlatV
import Derived.Test.YtenhbfbfkcjimaaDoorZRcA
namespace Go.Proofs.YtenhbfbfkcjimaaDoor
set_option linter.unusedVariables false
set_option linter.unusedSimpArgs false
open Go.RowKit

/-- The weights are such of the type. -/
def WOk (l : List Ed) : Prop := ∀ i, i < l.length → -9223372036854775808 ≤ (EA l i).W ∧ (EA l i).W ≤ 9223372036854775807

theorem i64_b {x : Int} (h : (Lit.int .i64 x).wf = true) : -9223372036854775808 ≤ x ∧ x ≤ 9223372036854775807 := by
  simp [Lit.wf, IntKind.min, IntKind.max, IntKind.signed, IntKind.bits] at h
  exact ⟨by omega, by omega⟩

/-- Edges that came in. -/
def edF (len : Nat) (F : Nat → Nat → Int) : List Ed := (List.range len).map fun i => ⟨F i 0, F i 1, F i 2⟩
theorem edF_at {len : Nat} {F : Nat → Nat → Int} {i : Nat} (hi : i < len) : EA (edF len F) i = ⟨F i 0, F i 1, F i 2⟩ := by
  unfold EA edF
  rw [List.getD_eq_getElem?_getD, List.getElem?_map, List.getElem?_range hi]; rfl
theorem erow_in {w : World} {ao : Option Addr} {len cap b off : Nat} {F : Nat → Nat → Int} (h : FRow w ao len cap b off [.i64, .i64, .i64] F) : ERow w ao len b off (edF len F) := by
  refine ⟨by unfold edF; simp, h.adr, fun i hi => ?_⟩
  rw [edF_at hi]
  exact ⟨h.cell i hi 0 .i64 rfl, h.cell i hi 1 .i64 rfl, h.cell i hi 2 .i64 rfl⟩
theorem wok_in {w : World} {ao : Option Addr} {len cap b off : Nat} {F : Nat → Nat → Int} (h : FRow w ao len cap b off [.i64, .i64, .i64] F) : WOk (edF len F) := by
  intro i hi
  have hi' : i < len := by unfold edF at hi; simpa using hi
  rw [edF_at hi']
  exact i64_b (h.wf i hi' 2 .i64 rfl)

end Go.Proofs.YtenhbfbfkcjimaaDoor
