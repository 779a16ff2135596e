/- recon.inner. -/
import Derived.Test.YthacjealoomioaaDoorZRcTm
namespace Go.Proofs.YthacjealoomioaaDoor
set_option linter.unusedVariables false
set_option linter.unusedSimpArgs false
open Go.RowKit

theorem inn_iff {t : Tr} {ls : List Nat} {x : Nat} {a b : Int} (ha : gi t.left x = a) (hb : gi t.right x = b) : innB t ls x = true ↔ (((0 ≤ a ∧ a < x) ∧ (0 ≤ b ∧ b < x) ∧ a ≠ b) ∧
    (gi t.par a.toNat = x ∧ gi t.par b.toNat = x ∧ ls.getD a.toNat 0 < ls.getD b.toNat 0) ∧ gi t.siz x = IntKind.i64.wrap (gi t.siz a.toNat + gi t.siz b.toNat) ∧ ((x : Int) = t.lv ∨ gi t.hgt (x - 1) ≤ gi t.hgt x)) := by
  subst ha hb; exact decide_eq_true_iff

end Go.Proofs.YthacjealoomioaaDoor
