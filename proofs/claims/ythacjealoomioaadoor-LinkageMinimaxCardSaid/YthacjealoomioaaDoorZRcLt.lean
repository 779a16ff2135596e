/- recon.leasts. -/
import Derived.Test.YthacjealoomioaaDoorZRcLs
namespace Go.Proofs.YthacjealoomioaaDoor
set_option linter.unusedVariables false
set_option linter.unusedSimpArgs false
open Go.RowKit

/-- What leasts returns. -/
structure LsPost (w : World) (t : Tr) (e : Ending) (w' : World) : Prop where
  bad : lsL t = none → e = .returned (.tuple #[.slice none 0 0, .bool false])
  ok : ∀ ls, lsL t = some ls → ∃ lb, e = .returned (.tuple #[.slice (some ⟨lb, 0, none⟩) ls.length ls.length, .bool true]) ∧ Blk w' lb 3 (natV ls) ∧ w.heap.size ≤ lb
  bel : Below w.heap.size w w'

theorem LsPost.no {w w' : World} {t : Tr} (h : lsL t = none) (hb : Below w.heap.size w w') : LsPost w t (.returned (.tuple #[.slice none 0 0, .bool false])) w' :=
  ⟨fun _ => rfl, fun ls e => by (rw [h] at e; cases e), hb⟩

theorem head_no {t : Tr} (h : ¬ HeadOk t) : lsL t = none := lsL_none (.inl h)

/-- A row being filled: numbers up to x, zeros behind. -/
def lsZ (t : Tr) (m x : Nat) : List Nat := lowF t x ++ List.replicate (m - x) 0

theorem lsZ_len {t : Tr} {m x : Nat} (h : x ≤ m) : (lsZ t m x).length = m := by unfold lsZ; rw [List.length_append, lowF_len, List.length_replicate]; omega
theorem lsZ_at {t : Tr} {m x y : Nat} (h : y < x) : (lsZ t m x).getD y 0 = (lowF t x).getD y 0 := by unfold lsZ; rw [getD_app_left (by rw [lowF_len]; exact h)]
theorem lsZ_set {t : Tr} {m x : Nat} (h : x < m) (v : Nat) (hv : v = lsNext t (lowF t x) x) : (lsZ t m x).set x v = lsZ t m (x + 1) := by
  unfold lsZ
  rw [lowF, List.set_append_right _ _ (by rw [lowF_len]; exact Nat.le_refl _), lowF_len, Nat.sub_self, show m - x = (m - (x + 1)) + 1 by omega, List.replicate_succ, List.set_cons_zero, hv, List.append_assoc]
  rfl
theorem lsZ_end {t : Tr} {m : Nat} : lsZ t m m = lowF t m := by unfold lsZ; rw [Nat.sub_self]; simp

end Go.Proofs.YthacjealoomioaaDoor
