/- The lists of a tree that was built, as rows. -/
import Derived.Test.YthacjealoomioaaDoorZRcBx
namespace Go.Proofs.YthacjealoomioaaDoor
set_option linter.unusedVariables false
set_option linter.unusedSimpArgs false
open Go.RowKit

theorem ERow.of_blk {w : World} {b : Nat} {T : TypeId} {l : List Ed} (h : Blk w b T (edCells l)) : ERow w (some ⟨b, 0, none⟩) l.length b 0 l := by
  refine ⟨rfl, fun _ => rfl, fun i hi => ?_⟩
  have key : ∀ j u, j < 3 → (EA l i).cells[j]? = some u → w.cell? ⟨b, i * 3 + j, none⟩ = some u := fun j u hj hu => h.cell (by rw [edCells_at l i j hi hj]; exact hu)
  rw [Nat.zero_add]
  exact ⟨key 0 _ (by omega) rfl, key 1 _ (by omega) rfl, key 2 _ (by omega) rfl⟩

/-- Where the lists of a tree that was built lie. -/
def BB.ta (B : BB) (m : Nat) : TA := ⟨⟨some ⟨B.lb, 0, none⟩, B.lb, 0, m⟩, ⟨some ⟨B.rb, 0, none⟩, B.rb, 0, m⟩, ⟨some ⟨B.pb, 0, none⟩, B.pb, 0, m⟩, ⟨some ⟨B.hb, 0, none⟩, B.hb, 0, m⟩, ⟨some ⟨B.sb, 0, none⟩, B.sb, 0, m⟩⟩

theorem row_blk {w : World} {b : Nat} {T : TypeId} {l : List Int} (h : Blk w b T (intV l)) : InRow .i64 w (some ⟨b, 0, none⟩) l.length b 0 l :=
  ⟨rfl, fun _ => rfl, fun i hi => by rw [Nat.zero_add]; exact blkIV h hi⟩

theorem BdT.tree {w : World} {B : BB} {n m : Nat} {t : Tr} (h : BdT w B n m t) (hlv : -9223372036854775808 ≤ t.lv ∧ t.lv ≤ 9223372036854775807) (hm : m ≤ 9223372036854775807) : TreeAt w (B.ta m) t :=
  ⟨row_blk h.l, row_blk h.r, row_blk h.p, row_blk h.h, row_blk h.s, ⟨by rw [h.ll]; exact hm, by rw [h.rl]; exact hm, by rw [h.pl]; exact hm, by rw [h.hl]; exact hm, by rw [h.sl]; exact hm⟩, hlv⟩

end Go.Proofs.YthacjealoomioaaDoor
