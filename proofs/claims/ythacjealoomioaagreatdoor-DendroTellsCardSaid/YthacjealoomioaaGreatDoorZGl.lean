/- RlW. -/
import Derived.Test.YthacjealoomioaaGreatDoorZHh
import Derived.Test.YthacjealoomioaaGreatDoorZGk
import Derived.Test.YthacjealoomioaaGreatDoorZGi
import Derived.Test.YthacjealoomioaaGreatDoorZGb
import Derived.Outline
import Derived.Deep.RegionHeld3
/- The statements' example of layer 18. -/
namespace Go.Proofs.YthacjealoomioaaGreatDoor
set_option linter.unusedVariables false
set_option linter.unusedSimpArgs false
open Go.RowKit

/-- Where the lists of a tree that was built lie. -/
def BB.ta (B : BB) (m : Nat) : TA := ⟨⟨some ⟨B.lb, 0, none⟩, B.lb, 0, m⟩, ⟨some ⟨B.rb, 0, none⟩, B.rb, 0, m⟩, ⟨some ⟨B.pb, 0, none⟩, B.pb, 0, m⟩, ⟨some ⟨B.hb, 0, none⟩, B.hb, 0, m⟩, ⟨some ⟨B.sb, 0, none⟩, B.sb, 0, m⟩⟩

theorem row_blk {w : World} {b : Nat} {T : TypeId} {l : List Int} (h : Blk w b T (intV l)) : InRow .i64 w (some ⟨b, 0, none⟩) l.length b 0 l :=
  ⟨rfl, fun _ => rfl, fun i hi => by rw [Nat.zero_add]; exact blkIV h hi⟩

theorem BdT.tree {w : World} {B : BB} {n m : Nat} {t : Tr} (h : BdT w B n m t) (hlv : -9223372036854775808 ≤ t.lv ∧ t.lv ≤ 9223372036854775807) (hm : m ≤ 9223372036854775807) : TreeAt w (B.ta m) t :=
  ⟨row_blk h.l, row_blk h.r, row_blk h.p, row_blk h.h, row_blk h.s, ⟨by rw [h.ll]; exact hm, by rw [h.rl]; exact hm, by rw [h.pl]; exact hm, by rw [h.hl]; exact hm, by rw [h.sl]; exact hm⟩, hlv⟩

theorem six_cells {W : World} {g : Nat} {A : TA} {t : Tr} (h : TBox W g A t) : W.cell? ⟨g, 0, none⟩ = some (.int .i64 t.lv) ∧ W.cell? ⟨g, 1, none⟩ = some (.slice A.l.o t.left.length A.l.c) ∧ W.cell? ⟨g, 2, none⟩ = some (.slice A.r.o t.right.length A.r.c) ∧
    W.cell? ⟨g, 3, none⟩ = some (.slice A.p.o t.par.length A.p.c) ∧ W.cell? ⟨g, 4, none⟩ = some (.slice A.h.o t.hgt.length A.h.c) ∧ W.cell? ⟨g, 5, none⟩ = some (.slice A.s.o t.siz.length A.s.c) := ⟨TBox.c0 h, TBox.c1 h, TBox.c2 h, TBox.c3 h, TBox.c4 h, TBox.c5 h⟩

theorem row_lit {w w' : World} {T : TypeId} {l : List Int} (h : w' = w.alloc (.cells (intV l).toArray T)) : InRow .i64 w' (some ⟨w.heap.size, 0, none⟩) l.length w.heap.size 0 l := by
  subst h; exact row_blk (Blk.new w T (intV l))

end Go.Proofs.YthacjealoomioaaGreatDoor
