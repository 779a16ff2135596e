/- The statements' example of layer 18. -/
import Derived.Test.YtenhbfbfkcjimaaZRlA
import Derived.Test.YtenhbfbfkcjimaaZRcBx
import Derived.Outline
namespace Go.Proofs.Ytenhbfbfkcjimaa
set_option linter.unusedVariables false
set_option linter.unusedSimpArgs false
open Go.RowKit

theorem ERow.of_blk {w : World} {b : Nat} {T : TypeId} {l : List Ed} (h : Blk w b T (edCells l)) : ERow w (some ⟨b, 0, none⟩) l.length b 0 l := by
  refine ⟨rfl, fun _ => rfl, fun i hi => ?_⟩
  have key : ∀ j u, j < 3 → (EA l i).cells[j]? = some u → w.cell? ⟨b, i * 3 + j, none⟩ = some u := fun j u hj hu => h.cell (by rw [edCells_at l i j hi hj]; exact hu)
  rw [Nat.zero_add]
  exact ⟨key 0 _ (by omega) rfl, key 1 _ (by omega) rfl, key 2 _ (by omega) rfl⟩

/-- Where the lists of a tree that was built lie. -/
def BB.ta (B : BB) (m : Nat) : TA := ⟨⟨some ⟨B.lb, 0, none⟩, B.lb, 0, m⟩, ⟨some ⟨B.rb, 0, none⟩, B.rb, 0, m⟩, ⟨some ⟨B.pb, 0, none⟩, B.pb, 0, m⟩, ⟨some ⟨B.hb, 0, none⟩, B.hb, 0, m⟩, ⟨some ⟨B.sb, 0, none⟩, B.sb, 0, m⟩⟩

theorem row_blk {w : World} {b : Nat} {T : TypeId} {l : List Int} (h : Blk w b T (intV l)) : InRow .i64 w (some ⟨b, 0, none⟩) l.length b 0 l :=
  ⟨rfl, fun _ => rfl, fun i hi => by rw [Nat.zero_add]; exact blkIV h hi⟩

theorem BdT.tree {w : World} {B : BB} {n m : Nat} {t : Tr} (h : BdT w B n m t) (hlv : -9223372036854775808 ≤ t.lv ∧ t.lv ≤ 9223372036854775807) (hm : m ≤ 9223372036854775807) : TreeAt w (B.ta m) t :=
  ⟨row_blk h.l, row_blk h.r, row_blk h.p, row_blk h.h, row_blk h.s, ⟨by rw [h.ll]; exact hm, by rw [h.rl]; exact hm, by rw [h.pl]; exact hm, by rw [h.hl]; exact hm, by rw [h.sl]; exact hm⟩, hlv⟩

def exE : List Ed := [⟨0, 1, 5⟩, ⟨2, 1, 3⟩, ⟨0, 2, 4⟩]
def exT : Tr := ⟨4, [-1, -1, -1, -1, 1, 0], [-1, -1, -1, -1, 2, 4], [5, 4, 4, -1, 5, -1], [0, 0, 0, 0, 3, 4], [1, 1, 1, 1, 2, 3]⟩
theorem ex_err : newErr 4 exE = 0 := by decide +kernel
theorem ex_ord : ordL exE = [1, 2, 0] := (ord_unique (L := [1, 2, 0]) (by decide) (by decide)).symm
theorem ex_for : forL 4 exE = [1, 2] := by
  unfold forL
  show (foTo 4 exE 3).out = _
  unfold foTo foTo foTo foTo
  rw [ex_ord]
  decide +kernel
theorem ex_bd : bdL 4 exE = exT := by
  unfold bdL
  rw [ex_for]
  kernel_rfl
theorem ex_ls : lsL exT = some [0, 1, 2, 3, 1, 0] := by decide +kernel
theorem ex_chk : chk exT = 0 := chk_some ex_ls
theorem ex_top : topV exT 1 3 = (4, 0) := by decide +kernel
theorem ex_lab : labsO exT 3 = some [0, 1, 1, 3] := by rw [labsO_some ex_ls]; decide +kernel
theorem ex_roots : rootsO exT = some [5, 3] := by rw [rootsO_some ex_ls]; decide +kernel
theorem ex_leaves : leavesO exT 5 = some [0, 1, 2] := by rw [leavesO_some ex_ls (by decide)]; decide +kernel

theorem six_cells {W : World} {g : Nat} {A : TA} {t : Tr} (h : TBox W g A t) : W.cell? ⟨g, 0, none⟩ = some (.int .i64 t.lv) ∧ W.cell? ⟨g, 1, none⟩ = some (.slice A.l.o t.left.length A.l.c) ∧ W.cell? ⟨g, 2, none⟩ = some (.slice A.r.o t.right.length A.r.c) ∧
    W.cell? ⟨g, 3, none⟩ = some (.slice A.p.o t.par.length A.p.c) ∧ W.cell? ⟨g, 4, none⟩ = some (.slice A.h.o t.hgt.length A.h.c) ∧ W.cell? ⟨g, 5, none⟩ = some (.slice A.s.o t.siz.length A.s.c) := ⟨TBox.c0 h, TBox.c1 h, TBox.c2 h, TBox.c3 h, TBox.c4 h, TBox.c5 h⟩

theorem ex_six {W : World} {g : Nat} {B : BB} (h : TBox W g (B.ta 6) exT) : W.cell? ⟨g, 0, none⟩ = some (.int .i64 4) ∧ W.cell? ⟨g, 1, none⟩ = some (.slice (some ⟨B.lb, 0, none⟩) 6 6) ∧ W.cell? ⟨g, 2, none⟩ = some (.slice (some ⟨B.rb, 0, none⟩) 6 6) ∧
    W.cell? ⟨g, 3, none⟩ = some (.slice (some ⟨B.pb, 0, none⟩) 6 6) ∧ W.cell? ⟨g, 4, none⟩ = some (.slice (some ⟨B.hb, 0, none⟩) 6 6) ∧ W.cell? ⟨g, 5, none⟩ = some (.slice (some ⟨B.sb, 0, none⟩) 6 6) := six_cells h

theorem row_lit {w w' : World} {T : TypeId} {l : List Int} (h : w' = w.alloc (.cells (intV l).toArray T)) : InRow .i64 w' (some ⟨w.heap.size, 0, none⟩) l.length w.heap.size 0 l := by
  subst h; exact row_blk (Blk.new w T (intV l))

theorem row_lit1 {w : World} {o : Obj} {T : TypeId} {l : List Int} : InRow .i64 ((w.alloc o).alloc (.cells (intV l).toArray T)) (some ⟨w.heap.size + 1, 0, none⟩) l.length (w.heap.size + 1) 0 l := by
  have := row_lit (w := w.alloc o) (T := T) (l := l) rfl
  rw [show (w.alloc o).heap.size = w.heap.size + 1 by simp] at this
  exact this

set_option maxHeartbeats 8000000 in
set_option maxRecDepth 100000 in
theorem rworks_ok (w : World) : Calls Try.prog 11 #[] w (RetB (.bool true) w) := by
  have HER : Hid (ERow (w.alloc (.cells #[.int .i64 0, .int .i64 1, .int .i64 5, .int .i64 2, .int .i64 1, .int .i64 3, .int .i64 0, .int .i64 2, .int .i64 4] 59)) (some ⟨w.heap.size, 0, none⟩) 3 w.heap.size 0 exE) := ERow.of_blk (l := exE) (Blk.new w 59 (edCells exE))
  have HB1 := Lib.hid (bel_alloc w (.cells #[.int .i64 0, .int .i64 1, .int .i64 5, .int .i64 2, .int .i64 1, .int .i64 3, .int .i64 0, .int .i64 2, .int .i64 4] 59))
  go_enter Try.func11, Try.ntmps11
  go_wp2_with fail
  with_reducible refine (rbuild_ok _ 4 (some ⟨w.heap.size, 0, none⟩) 3 3 w.heap.size 0 exE HER.out (by omega) (fun h => by cases h) (by omega)).mono ?_
  rintro e w2 ⟨_, hok, hb⟩
  obtain ⟨B, rfl, hbt, hbn⟩ := hok ex_err
  rw [show (4 : Int).toNat = 4 from rfl, ex_bd] at hbt
  rw [show (4 : Int).toNat = 4 from rfl, ex_bd]
  have HTA : Hid (TreeAt w2 (B.ta 6) exT) := hbt.tree (by decide) (by decide)
  have HB2 := Lib.hid (bel_then HB1.out hb)
  have HX := Lib.hid (TBox.new w2 (B.ta 6) exT)
  have HBX := Lib.hid (bel_alloc w2 (.cells #[.int .i64 4, .slice (some ⟨B.lb, 0, none⟩) 6 6, .slice (some ⟨B.rb, 0, none⟩) 6 6, .slice (some ⟨B.pb, 0, none⟩) 6 6, .slice (some ⟨B.hb, 0, none⟩) 6 6, .slice (some ⟨B.sb, 0, none⟩) 6 6] 27))
  clear hb hbt hbn hok HER HB1
  -- BEGIN
  rw [show exT.par.length = 6 from rfl]
  have HT2 := Lib.hid (HTA.out.below HBX.out)
  have HBW := Lib.hid (bel_then HB2.out HBX.out)
  have HR1 : Hid (InRow .i64 ((w2.alloc (.cells #[.int .i64 4, .slice (some ⟨B.lb, 0, none⟩) 6 6, .slice (some ⟨B.rb, 0, none⟩) 6 6, .slice (some ⟨B.pb, 0, none⟩) 6 6, .slice (some ⟨B.hb, 0, none⟩) 6 6, .slice (some ⟨B.sb, 0, none⟩) 6 6] 27)).alloc (.cells #[.int .i64 5, .int .i64 4, .int .i64 4, .int .i64 (-1), .int .i64 5, .int .i64 (-1)] 3)) (some ⟨w2.heap.size + 1, 0, none⟩) 6 (w2.heap.size + 1) 0 [5, 4, 4, -1, 5, -1]) := row_lit1 (l := [5, 4, 4, -1, 5, -1])
  have HBL := Lib.hid (bel_alloc (w2.alloc (.cells #[.int .i64 4, .slice (some ⟨B.lb, 0, none⟩) 6 6, .slice (some ⟨B.rb, 0, none⟩) 6 6, .slice (some ⟨B.pb, 0, none⟩) 6 6, .slice (some ⟨B.hb, 0, none⟩) 6 6, .slice (some ⟨B.sb, 0, none⟩) 6 6] 27)) (.cells #[.int .i64 5, .int .i64 4, .int .i64 4, .int .i64 (-1), .int .i64 5, .int .i64 (-1)] 3))
  have HX1 : Hid (TBox (w2.alloc (.cells #[.int .i64 4, .slice (some ⟨B.lb, 0, none⟩) 6 6, .slice (some ⟨B.rb, 0, none⟩) 6 6, .slice (some ⟨B.pb, 0, none⟩) 6 6, .slice (some ⟨B.hb, 0, none⟩) 6 6, .slice (some ⟨B.sb, 0, none⟩) 6 6] 27)) w2.heap.size (B.ta 6) exT) := HX.out
  go_wp2_with fail
  generalize w2.heap.size + 1 = q1 at *
  generalize w2.heap.size = xb at *
  generalize ((w2.alloc (.cells #[.int .i64 4, .slice (some ⟨B.lb, 0, none⟩) 6 6, .slice (some ⟨B.rb, 0, none⟩) 6 6, .slice (some ⟨B.pb, 0, none⟩) 6 6, .slice (some ⟨B.hb, 0, none⟩) 6 6, .slice (some ⟨B.sb, 0, none⟩) 6 6] 27))) = w3 at *
  generalize w3.alloc (.cells #[.int .i64 5, .int .i64 4, .int .i64 4, .int .i64 (-1), .int .i64 5, .int .i64 (-1)] 3) = w4 at *
  have HRA : Hid (InRow .i64 w4 (some ⟨B.pb, 0, none⟩) 6 B.pb 0 [5, 4, 4, -1, 5, -1]) := (HT2.out.below HBL.out).p
  with_reducible refine (rsame_ok w4 (some ⟨B.pb, 0, none⟩) (some ⟨q1, 0, none⟩) 6 6 6 B.pb q1 0 0 [5, 4, 4, -1, 5, -1] HRA.out HR1.out (by decide)).mono ?_
  rintro e w5 ⟨rfl, hb⟩
  have HB5 := Lib.hid (bel_then HBW.out (bel_then HBL.out hb))
  have HX5 := Lib.hid (Blk.below HX1.out (bel_then HBL.out hb) (Blk.lt HX1.out))
  have HT5 := Lib.hid (HT2.out.below (bel_then HBL.out hb))
  clear hb HRA HX HX1 HT2 HBW HR1 HBL HTA HB2 HBX
  obtain ⟨c0, c1, c2, c3, c4, c5⟩ := ex_six HX5.out
  have HR : Hid (InRow .i64 (w5.alloc (.cells #[.int .i64 (-1), .int .i64 (-1), .int .i64 (-1), .int .i64 (-1), .int .i64 1, .int .i64 0] 3)) (some ⟨w5.heap.size, 0, none⟩) 6 w5.heap.size 0 [-1, -1, -1, -1, 1, 0]) := row_lit (l := [-1, -1, -1, -1, 1, 0]) rfl
  have HBL := Lib.hid (bel_alloc w5 (.cells #[.int .i64 (-1), .int .i64 (-1), .int .i64 (-1), .int .i64 (-1), .int .i64 1, .int .i64 0] 3))
  have HRA : Hid (InRow .i64 (w5.alloc (.cells #[.int .i64 (-1), .int .i64 (-1), .int .i64 (-1), .int .i64 (-1), .int .i64 1, .int .i64 0] 3)) (some ⟨B.lb, 0, none⟩) 6 B.lb 0 [-1, -1, -1, -1, 1, 0]) := (HT5.out.below HBL.out).l
  go_wp2_with fail
  with_reducible refine (rsame_ok _ (some ⟨B.lb, 0, none⟩) (some ⟨w5.heap.size, 0, none⟩) 6 6 6 B.lb w5.heap.size 0 0 [-1, -1, -1, -1, 1, 0] HRA.out HR.out (by decide)).mono ?_
  rintro e w6 ⟨rfl, hb⟩
  have HB6 := Lib.hid (bel_then HB5.out (bel_then HBL.out hb))
  have HX6 := Lib.hid (Blk.below HX5.out (bel_then HBL.out hb) (Blk.lt HX5.out))
  have HT6 := Lib.hid (HT5.out.below (bel_then HBL.out hb))
  clear hb HRA HR HBL HB5 HX5 HT5
  clear c0 c1 c2 c3 c4 c5
  obtain ⟨c0, c1, c2, c3, c4, c5⟩ := ex_six HX6.out
  go_wp2_with fail
  have hcon : Calls Try.prog 16 #[.agg #[.int .i64 4, .slice (some ⟨B.lb, 0, none⟩) 6 6, .slice (some ⟨B.rb, 0, none⟩) 6 6, .slice (some ⟨B.pb, 0, none⟩) 6 6, .slice (some ⟨B.hb, 0, none⟩) 6 6, .slice (some ⟨B.sb, 0, none⟩) 6 6]] w6 (RetB (.int .i64 (chk exT)) w6) := check_ok w6 (B.ta 6) exT HT6.out
  with_reducible refine hcon.mono ?_
  clear hcon
  rintro e w7 ⟨rfl, hb⟩
  rw [ex_chk]
  have HB7 := Lib.hid (bel_then HB6.out hb)
  have HX7 := Lib.hid (Blk.below HX6.out hb (Blk.lt HX6.out))
  have HT7 := Lib.hid (HT6.out.below hb)
  clear hb HB6 HX6 HT6
  clear c0 c1 c2 c3 c4 c5
  obtain ⟨c0, c1, c2, c3, c4, c5⟩ := ex_six HX7.out
  go_wp2_with fail
  have hcon : Calls Try.prog 19 #[.agg #[.int .i64 4, .slice (some ⟨B.lb, 0, none⟩) 6 6, .slice (some ⟨B.rb, 0, none⟩) 6 6, .slice (some ⟨B.pb, 0, none⟩) 6 6, .slice (some ⟨B.hb, 0, none⟩) 6 6, .slice (some ⟨B.sb, 0, none⟩) 6 6], .int .i64 1, .int .i64 3] w7 (RetB (.tuple #[.int .i64 (topV exT 1 3).1, .int .i64 (topV exT 1 3).2]) w7) := top_ok w7 (B.ta 6) exT HT7.out 1 3
  with_reducible refine hcon.mono ?_
  clear hcon
  rintro e w8 ⟨rfl, hb⟩
  rw [ex_top]
  have HB8 := Lib.hid (bel_then HB7.out hb)
  have HX8 := Lib.hid (Blk.below HX7.out hb (Blk.lt HX7.out))
  have HT8 := Lib.hid (HT7.out.below hb)
  clear hb HB7 HX7 HT7
  clear c0 c1 c2 c3 c4 c5
  obtain ⟨c0, c1, c2, c3, c4, c5⟩ := ex_six HX8.out
  go_wp2_with fail
  have hcon : Calls Try.prog 18 #[.agg #[.int .i64 4, .slice (some ⟨B.lb, 0, none⟩) 6 6, .slice (some ⟨B.rb, 0, none⟩) 6 6, .slice (some ⟨B.pb, 0, none⟩) 6 6, .slice (some ⟨B.hb, 0, none⟩) 6 6, .slice (some ⟨B.sb, 0, none⟩) 6 6], .int .i64 3] w8 (LbPost w8 exT 3) := labels_ok w8 (B.ta 6) exT HT8.out 3
  with_reducible refine hcon.mono ?_
  clear hcon
  rintro e w9 hp
  obtain ⟨a1, k1, b1, rfl, hr1⟩ := hp.row
  have hb := hp.bel
  rw [ex_lab] at hr1
  rw [ex_lab]
  rw [show lbErr (some [0, 1, 1, 3]) = 0 from rfl, show ((some [0, 1, 1, 3] : Option (List Nat)).getD []).length = 4 from rfl]
  have HL9 : Hid (InRow .i64 w9 a1 4 b1 0 [0, 1, 1, 3]) := hr1
  have HB9 := Lib.hid (bel_then HB8.out hb)
  have HX9 := Lib.hid (Blk.below HX8.out hb (Blk.lt HX8.out))
  have HT9 := Lib.hid (HT8.out.below hb)
  clear hb hp hr1 HB8 HX8 HT8
  clear c0 c1 c2 c3 c4 c5
  obtain ⟨c0, c1, c2, c3, c4, c5⟩ := ex_six HX9.out
  have HR : Hid (InRow .i64 (w9.alloc (.cells #[.int .i64 0, .int .i64 1, .int .i64 1, .int .i64 3] 3)) (some ⟨w9.heap.size, 0, none⟩) 4 w9.heap.size 0 [0, 1, 1, 3]) := row_lit (l := [0, 1, 1, 3]) rfl
  have HBL := Lib.hid (bel_alloc w9 (.cells #[.int .i64 0, .int .i64 1, .int .i64 1, .int .i64 3] 3))
  go_wp2_with fail
  with_reducible refine (rsame_ok _ a1 (some ⟨w9.heap.size, 0, none⟩) 4 k1 4 b1 w9.heap.size 0 0 [0, 1, 1, 3] (HL9.out.below HBL.out) HR.out (by decide)).mono ?_
  rintro e w10 ⟨rfl, hb⟩
  have HB10 := Lib.hid (bel_then HB9.out (bel_then HBL.out hb))
  have HX10 := Lib.hid (Blk.below HX9.out (bel_then HBL.out hb) (Blk.lt HX9.out))
  have HT10 := Lib.hid (HT9.out.below (bel_then HBL.out hb))
  clear hb HR HBL HB9 HX9 HT9 HL9
  clear c0 c1 c2 c3 c4 c5
  obtain ⟨c0, c1, c2, c3, c4, c5⟩ := ex_six HX10.out
  go_wp2_with fail
  have hcon : Calls Try.prog 17 #[.agg #[.int .i64 4, .slice (some ⟨B.lb, 0, none⟩) 6 6, .slice (some ⟨B.rb, 0, none⟩) 6 6, .slice (some ⟨B.pb, 0, none⟩) 6 6, .slice (some ⟨B.hb, 0, none⟩) 6 6, .slice (some ⟨B.sb, 0, none⟩) 6 6]] w10 (LnPost w10 (rootsO exT)) := roots_ok w10 (B.ta 6) exT HT10.out
  with_reducible refine hcon.mono ?_
  clear hcon
  rintro e w11 hp
  obtain ⟨a1, k1, b1, rfl, hr1⟩ := hp.row
  have hb := hp.bel
  rw [ex_roots] at hr1
  rw [ex_roots]
  rw [show ((some [5, 3] : Option (List Nat)).getD []).length = 2 from rfl]
  have HL11 : Hid (InRow .i64 w11 a1 2 b1 0 [5, 3]) := hr1
  have HB11 := Lib.hid (bel_then HB10.out hb)
  have HX11 := Lib.hid (Blk.below HX10.out hb (Blk.lt HX10.out))
  have HT11 := Lib.hid (HT10.out.below hb)
  clear hb hp hr1 HB10 HX10 HT10
  clear c0 c1 c2 c3 c4 c5
  obtain ⟨c0, c1, c2, c3, c4, c5⟩ := ex_six HX11.out
  have HR : Hid (InRow .i64 (w11.alloc (.cells #[.int .i64 5, .int .i64 3] 3)) (some ⟨w11.heap.size, 0, none⟩) 2 w11.heap.size 0 [5, 3]) := row_lit (l := [5, 3]) rfl
  have HBL := Lib.hid (bel_alloc w11 (.cells #[.int .i64 5, .int .i64 3] 3))
  go_wp2_with fail
  with_reducible refine (rsame_ok _ a1 (some ⟨w11.heap.size, 0, none⟩) 2 k1 2 b1 w11.heap.size 0 0 [5, 3] (HL11.out.below HBL.out) HR.out (by decide)).mono ?_
  rintro e w12 ⟨rfl, hb⟩
  have HB12 := Lib.hid (bel_then HB11.out (bel_then HBL.out hb))
  have HX12 := Lib.hid (Blk.below HX11.out (bel_then HBL.out hb) (Blk.lt HX11.out))
  have HT12 := Lib.hid (HT11.out.below (bel_then HBL.out hb))
  clear hb HR HBL HB11 HX11 HT11 HL11
  clear c0 c1 c2 c3 c4 c5
  obtain ⟨c0, c1, c2, c3, c4, c5⟩ := ex_six HX12.out
  go_wp2_with fail
  have hcon : Calls Try.prog 22 #[.agg #[.int .i64 4, .slice (some ⟨B.lb, 0, none⟩) 6 6, .slice (some ⟨B.rb, 0, none⟩) 6 6, .slice (some ⟨B.pb, 0, none⟩) 6 6, .slice (some ⟨B.hb, 0, none⟩) 6 6, .slice (some ⟨B.sb, 0, none⟩) 6 6], .int .i64 5] w12 (LnPost w12 (leavesO exT 5)) := leaves_ok w12 (B.ta 6) exT HT12.out 5
  with_reducible refine hcon.mono ?_
  clear hcon
  rintro e w13 hp
  obtain ⟨a1, k1, b1, rfl, hr1⟩ := hp.row
  have hb := hp.bel
  rw [ex_leaves] at hr1
  rw [ex_leaves]
  rw [show ((some [0, 1, 2] : Option (List Nat)).getD []).length = 3 from rfl]
  have HL13 : Hid (InRow .i64 w13 a1 3 b1 0 [0, 1, 2]) := hr1
  have HB13 := Lib.hid (bel_then HB12.out hb)
  have HX13 := Lib.hid (Blk.below HX12.out hb (Blk.lt HX12.out))
  have HT13 := Lib.hid (HT12.out.below hb)
  clear hb hp hr1 HB12 HX12 HT12
  clear c0 c1 c2 c3 c4 c5
  obtain ⟨c0, c1, c2, c3, c4, c5⟩ := ex_six HX13.out
  have HR : Hid (InRow .i64 (w13.alloc (.cells #[.int .i64 0, .int .i64 1, .int .i64 2] 3)) (some ⟨w13.heap.size, 0, none⟩) 3 w13.heap.size 0 [0, 1, 2]) := row_lit (l := [0, 1, 2]) rfl
  have HBL := Lib.hid (bel_alloc w13 (.cells #[.int .i64 0, .int .i64 1, .int .i64 2] 3))
  go_wp2_with fail
  with_reducible refine (rsame_ok _ a1 (some ⟨w13.heap.size, 0, none⟩) 3 k1 3 b1 w13.heap.size 0 0 [0, 1, 2] (HL13.out.below HBL.out) HR.out (by decide)).mono ?_
  rintro e w14 ⟨rfl, hb⟩
  have HB14 := Lib.hid (bel_then HB13.out (bel_then HBL.out hb))
  have HX14 := Lib.hid (Blk.below HX13.out (bel_then HBL.out hb) (Blk.lt HX13.out))
  have HT14 := Lib.hid (HT13.out.below (bel_then HBL.out hb))
  clear hb HR HBL HB13 HX13 HT13 HL13
  clear c0 c1 c2 c3 c4 c5
  go_wp2_with fail
  go_ret
  exact ⟨rfl, HB14.out⟩

end Go.Proofs.Ytenhbfbfkcjimaa
