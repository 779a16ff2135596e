/- The tree of a graph with the places of its lists. -/
import Derived.Test.YtenhbfbfkcjimaaZRlG
import Derived.Test.YtenhbfbfkcjimaaZRlM
namespace Go.Proofs.Ytenhbfbfkcjimaa
set_option linter.unusedVariables false
set_option linter.unusedSimpArgs false
open Go.RowKit

abbrev hA (lb rb pb hb sb m : Nat) : TA := ⟨⟨some ⟨lb, 0, none⟩, lb, 0, m⟩, ⟨some ⟨rb, 0, none⟩, rb, 0, m⟩, ⟨some ⟨pb, 0, none⟩, pb, 0, m⟩, ⟨some ⟨hb, 0, none⟩, hb, 0, m⟩, ⟨some ⟨sb, 0, none⟩, sb, 0, m⟩⟩

def HBox (W : World) (x n m lb rb pb hb sb : Nat) : Prop := Blk W x 27 [.int .i64 (n : Int), .slice (some ⟨lb, 0, none⟩) m m, .slice (some ⟨rb, 0, none⟩) m m, .slice (some ⟨pb, 0, none⟩) m m, .slice (some ⟨hb, 0, none⟩) m m, .slice (some ⟨sb, 0, none⟩) m m]
theorem HBox.below {W W' : World} {x n m lb rb pb hb sb : Nat} (h : HBox W x n m lb rb pb hb sb) (hb2 : Below W.heap.size W W') : HBox W' x n m lb rb pb hb sb := Blk.below h hb2 (Blk.lt h)
theorem HBox.mod {F : Nat → Prop} {W W' : World} {x n m lb rb pb hb sb : Nat} (h : HBox W x n m lb rb pb hb sb) (hm : Mod F W W') (hn : ¬ F x) : HBox W' x n m lb rb pb hb sb := Blk.mod h hm hn
theorem HBox.six {W : World} {x n m lb rb pb hb sb : Nat} (h : HBox W x n m lb rb pb hb sb) : W.cell? ⟨x, 0, none⟩ = some (.int .i64 (n : Int)) ∧ W.cell? ⟨x, 1, none⟩ = some (.slice (some ⟨lb, 0, none⟩) m m) ∧ W.cell? ⟨x, 2, none⟩ = some (.slice (some ⟨rb, 0, none⟩) m m) ∧ W.cell? ⟨x, 3, none⟩ = some (.slice (some ⟨pb, 0, none⟩) m m) ∧
    W.cell? ⟨x, 4, none⟩ = some (.slice (some ⟨hb, 0, none⟩) m m) ∧ W.cell? ⟨x, 5, none⟩ = some (.slice (some ⟨sb, 0, none⟩) m m) :=
  ⟨Blk.cell h (i := 0) rfl, Blk.cell h (i := 1) rfl, Blk.cell h (i := 2) rfl, Blk.cell h (i := 3) rfl, Blk.cell h (i := 4) rfl, Blk.cell h (i := 5) rfl⟩

theorem row_at {w : World} {b k : Nat} {z : List Int} (h : InRow .i64 w (some ⟨b, 0, none⟩) k b 0 z) {i : Nat} (hi : i < k) : w.cell? ⟨b, i, none⟩ = some (.int .i64 (gi z i)) := by
  have := h.cell i hi
  rw [Nat.zero_add] at this
  exact this

section
variable {n m : Nat} {L : List Ed} {T : Tr} {ls : List Nat} (hg : GTree n m L T ls) {lb rb pb hb sb : Nat} {W : World} (ht : TreeAt W (hA lb rb pb hb sb m) T) {i : Nat} (hi : i < m)
include hg ht hi
theorem hL : W.cell? ⟨lb, i, none⟩ = some (.int .i64 (gi T.left i)) := by
  have := ht.l
  rw [hg.tv.ll] at this
  exact row_at this hi
theorem hR : W.cell? ⟨rb, i, none⟩ = some (.int .i64 (gi T.right i)) := by
  have := ht.r
  rw [hg.tv.rl] at this
  exact row_at this hi
theorem hP : W.cell? ⟨pb, i, none⟩ = some (.int .i64 (gi T.par i)) := by
  have := ht.p
  rw [hg.tv.pl] at this
  exact row_at this hi
theorem hH : W.cell? ⟨hb, i, none⟩ = some (.int .i64 (gi T.hgt i)) := by
  have := ht.h
  rw [hg.tv.hl] at this
  exact row_at this hi
theorem hS : W.cell? ⟨sb, i, none⟩ = some (.int .i64 (gi T.siz i)) := by
  have := ht.s
  rw [hg.tv.sl] at this
  exact row_at this hi
end

theorem keepH {W w' : World} {x n m lb rb pb hb sb : Nat} {p1 p2 : Addr} {v1 v2 : Value} (h : Hid (HBox W x n m lb rb pb hb sb)) (h1 : Hid (W.cell? p1 = some v1)) (h2 : Hid (W.cell? p2 = some v2)) (hb2 : Below W.heap.size W w') :
    w'.cell? ⟨x, 0, none⟩ = some (.int .i64 (n : Int)) ∧ w'.cell? ⟨x, 1, none⟩ = some (.slice (some ⟨lb, 0, none⟩) m m) ∧ w'.cell? ⟨x, 2, none⟩ = some (.slice (some ⟨rb, 0, none⟩) m m) ∧ w'.cell? ⟨x, 3, none⟩ = some (.slice (some ⟨pb, 0, none⟩) m m) ∧
    w'.cell? ⟨x, 4, none⟩ = some (.slice (some ⟨hb, 0, none⟩) m m) ∧ w'.cell? ⟨x, 5, none⟩ = some (.slice (some ⟨sb, 0, none⟩) m m) ∧ w'.cell? p1 = some v1 ∧ w'.cell? p2 = some v2 ∧ Below W.heap.size W w' := by
  obtain ⟨a, b, c, d, e, f⟩ := (h.out.below hb2).six
  exact ⟨a, b, c, d, e, f, (hb2.cell (World.block_lt_of_cell? W _ h1.out)).trans h1.out, (hb2.cell (World.block_lt_of_cell? W _ h2.out)).trans h2.out, hb2⟩

theorem MgAt.two {M a b : List Nat} (hM : M.Pairwise (· < ·)) (ha : a.Pairwise (· < ·)) (hb : b.Pairwise (· < ·)) (hp : M.Perm (a ++ b)) : MgAt M [] a b := ⟨hM, ⟨M, rfl, hp.symm⟩, ha, hb⟩

end Go.Proofs.Ytenhbfbfkcjimaa
