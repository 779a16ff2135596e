/- Reference of layer 18: node. -/
import Derived.Test.YtenhbfbfkcjimaaZRfD
namespace Go.Proofs.Ytenhbfbfkcjimaa
set_option linter.unusedVariables false
set_option linter.unusedSimpArgs false
open Go.RowKit

def Tr.add (t : Tr) (l r h s : Int) : Tr := ⟨t.lv, t.left ++ [l], t.right ++ [r], t.par ++ [-1], t.hgt ++ [h], t.siz ++ [s]⟩

theorem news_set (w : World) (p : Addr) (u : Value) (T : TypeId) (cs : List Value) : ∀ j x, cs[j]? = some x → ((w.setCell p u).alloc (.cells cs.toArray T)).cell? ((⟨w.heap.size, 0, none⟩ : Addr).add j) = some x := by
  have := news_new (w.setCell p u) T cs
  rw [show (w.setCell p u).heap.size = w.heap.size by simp [World.setCell]] at this
  exact this

structure NdPost (B : Nat) (w : World) (tb : Nat) (t : Tr) (e : Ending) (w' : World) : Prop where
  val : e = .returned (.tuple #[])
  ex : ∃ V, RTr B w' tb V t
  bel : Below B w w'

set_option maxHeartbeats 4000000 in
set_option maxRecDepth 100000 in
theorem rnode_ok (B : Nat) (w : World) (tb : Nat) (V : RV) (t : Tr) (hr : RTr B w tb V t) (hl : ∀ i, i < 5 → (t.at i).length ≤ 100000) (hB : B ≤ w.heap.size) (l r h s : Int) :
    Calls Try.prog 32 #[.pointer (some ⟨tb, 0, none⟩), .int .i64 l, .int .i64 r, .int .i64 h, .int .i64 s] w (NdPost B w tb (t.add l r h s)) := by
  have HR0 := Lib.hid hr
  have HL := Lib.hid hl
  have HB0 := Lib.hid (Below.refl B w)
  have HZ0 := Lib.hid hB
  have c1 := hr.box.cell (i := 1) rfl
  clear hr hl hB
  go_enter Try.func32, Try.ntmps32
  have HOW0 : Hid ((w.alloc (.cells #[.int .i64 l] 3)).ownsRow 0 3 1 V.l t.left.length (intV t.left)) := (HR0.out.own 0 (by omega)).alloc _
  have HNW0 := Lib.hid (news_new w 3 [.int .i64 l])
  have hln : t.left.length ≤ 100000 := HL.out 0 (by omega)
  go_wp2_with (at_builtin; apply keepIt)
  apply Lib.hid
  clear c1
  refine wpList_appendB 3 (.int .i64 0) 1 8 Try.underlying24 Try.infoInt rfl (by decide) _ t.left.length _ rfl HOW0.out ⟨w.heap.size, 0, none⟩ 1 1 [.int .i64 l] rfl rfl HNW0.out (by simp [Value.oneCell']) (by unfold maxLen; omega) (by omega) ?_
  intro v1 w1 ho1 hg1 hn1
  obtain ⟨a1, k1, rfl⟩ := owns_slice ho1
  obtain ⟨hr1, hb1, hx1⟩ := HR0.out.app (i := 0) (by omega) HZ0.out ho1 hg1 hn1
  have HR1 := Lib.hid hr1
  have HB1 := Lib.hid (HB0.out.trans hb1)
  have HZ1 := Lib.hid (Nat.le_trans HZ0.out hb1.size)
  have c1 := hx1.cell (i := 1) rfl
  have f1 := hx1.free 1
  have c2 := hx1.cell (i := 2) rfl
  clear ho1 hg1 hn1 hr1 hb1 hx1 HOW0 HNW0 hln HR0 HB0 HZ0
  have HOW1 : Hid (((w1.setCell ⟨tb, 1, none⟩ (.slice a1 (t.left.length + 1) k1)).alloc (.cells #[.int .i64 r] 3)).ownsRow 0 3 1 V.r t.right.length (intV t.right)) := (HR1.out.own 1 (by omega)).alloc _
  have HNW1 := Lib.hid (news_set w1 ⟨tb, 1, none⟩ (.slice a1 (t.left.length + 1) k1) 3 [.int .i64 r])
  have hln : t.right.length ≤ 100000 := HL.out 1 (by omega)
  go_wp2_with (at_builtin; apply keepIt)
  apply Lib.hid
  clear c2
  refine wpList_appendB 3 (.int .i64 0) 1 8 Try.underlying24 Try.infoInt rfl (by decide) _ t.right.length _ rfl HOW1.out ⟨w1.heap.size, 0, none⟩ 1 1 [.int .i64 r] rfl rfl HNW1.out (by simp [Value.oneCell']) (by unfold maxLen; omega) (by omega) ?_
  intro v2 w2 ho2 hg2 hn2
  obtain ⟨a2, k2, rfl⟩ := owns_slice ho2
  obtain ⟨hr2, hb2, hx2⟩ := HR1.out.app (i := 1) (by omega) HZ1.out ho2 hg2 hn2
  have HR2 := Lib.hid hr2
  have HB2 := Lib.hid (HB1.out.trans hb2)
  have HZ2 := Lib.hid (Nat.le_trans HZ1.out hb2.size)
  have c2 := hx2.cell (i := 2) rfl
  have f2 := hx2.free 2
  have c3 := hx2.cell (i := 3) rfl
  clear ho2 hg2 hn2 hr2 hb2 hx2 HOW1 HNW1 hln HR1 HB1 HZ1
  have HOW2 : Hid (((w2.setCell ⟨tb, 2, none⟩ (.slice a2 (t.right.length + 1) k2)).alloc (.cells #[.int .i64 (-1)] 3)).ownsRow 0 3 1 V.p t.par.length (intV t.par)) := (HR2.out.own 2 (by omega)).alloc _
  have HNW2 := Lib.hid (news_set w2 ⟨tb, 2, none⟩ (.slice a2 (t.right.length + 1) k2) 3 [.int .i64 (-1)])
  have hln : t.par.length ≤ 100000 := HL.out 2 (by omega)
  go_wp2_with (at_builtin; apply keepIt)
  apply Lib.hid
  clear c3
  refine wpList_appendB 3 (.int .i64 0) 1 8 Try.underlying24 Try.infoInt rfl (by decide) _ t.par.length _ rfl HOW2.out ⟨w2.heap.size, 0, none⟩ 1 1 [.int .i64 (-1)] rfl rfl HNW2.out (by simp [Value.oneCell']) (by unfold maxLen; omega) (by omega) ?_
  intro v3 w3 ho3 hg3 hn3
  obtain ⟨a3, k3, rfl⟩ := owns_slice ho3
  obtain ⟨hr3, hb3, hx3⟩ := HR2.out.app (i := 2) (by omega) HZ2.out ho3 hg3 hn3
  have HR3 := Lib.hid hr3
  have HB3 := Lib.hid (HB2.out.trans hb3)
  have HZ3 := Lib.hid (Nat.le_trans HZ2.out hb3.size)
  have c3 := hx3.cell (i := 3) rfl
  have f3 := hx3.free 3
  have c4 := hx3.cell (i := 4) rfl
  clear ho3 hg3 hn3 hr3 hb3 hx3 HOW2 HNW2 hln HR2 HB2 HZ2
  have HOW3 : Hid (((w3.setCell ⟨tb, 3, none⟩ (.slice a3 (t.par.length + 1) k3)).alloc (.cells #[.int .i64 h] 2)).ownsRow 0 2 1 V.h t.hgt.length (intV t.hgt)) := (HR3.out.own 3 (by omega)).alloc _
  have HNW3 := Lib.hid (news_set w3 ⟨tb, 3, none⟩ (.slice a3 (t.par.length + 1) k3) 2 [.int .i64 h])
  have hln : t.hgt.length ≤ 100000 := HL.out 3 (by omega)
  go_wp2_with (at_builtin; apply keepIt)
  apply Lib.hid
  clear c4
  refine wpList_appendB 2 (.int .i64 0) 1 8 Try.underlying25 Try.infoI64 rfl (by decide) _ t.hgt.length _ rfl HOW3.out ⟨w3.heap.size, 0, none⟩ 1 1 [.int .i64 h] rfl rfl HNW3.out (by simp [Value.oneCell']) (by unfold maxLen; omega) (by omega) ?_
  intro v4 w4 ho4 hg4 hn4
  obtain ⟨a4, k4, rfl⟩ := owns_slice ho4
  obtain ⟨hr4, hb4, hx4⟩ := HR3.out.app (i := 3) (by omega) HZ3.out ho4 hg4 hn4
  have HR4 := Lib.hid hr4
  have HB4 := Lib.hid (HB3.out.trans hb4)
  have HZ4 := Lib.hid (Nat.le_trans HZ3.out hb4.size)
  have c4 := hx4.cell (i := 4) rfl
  have f4 := hx4.free 4
  have c5 := hx4.cell (i := 5) rfl
  clear ho4 hg4 hn4 hr4 hb4 hx4 HOW3 HNW3 hln HR3 HB3 HZ3
  have HOW4 : Hid (((w4.setCell ⟨tb, 4, none⟩ (.slice a4 (t.hgt.length + 1) k4)).alloc (.cells #[.int .i64 s] 3)).ownsRow 0 3 1 V.s t.siz.length (intV t.siz)) := (HR4.out.own 4 (by omega)).alloc _
  have HNW4 := Lib.hid (news_set w4 ⟨tb, 4, none⟩ (.slice a4 (t.hgt.length + 1) k4) 3 [.int .i64 s])
  have hln : t.siz.length ≤ 100000 := HL.out 4 (by omega)
  go_wp2_with (at_builtin; apply keepIt)
  apply Lib.hid
  clear c5
  refine wpList_appendB 3 (.int .i64 0) 1 8 Try.underlying24 Try.infoInt rfl (by decide) _ t.siz.length _ rfl HOW4.out ⟨w4.heap.size, 0, none⟩ 1 1 [.int .i64 s] rfl rfl HNW4.out (by simp [Value.oneCell']) (by unfold maxLen; omega) (by omega) ?_
  intro v5 w5 ho5 hg5 hn5
  obtain ⟨a5, k5, rfl⟩ := owns_slice ho5
  obtain ⟨hr5, hb5, hx5⟩ := HR4.out.app (i := 4) (by omega) HZ4.out ho5 hg5 hn5
  have HR5 := Lib.hid hr5
  have HB5 := Lib.hid (HB4.out.trans hb5)
  have HZ5 := Lib.hid (Nat.le_trans HZ4.out hb5.size)
  have c5 := hx5.cell (i := 5) rfl
  have f5 := hx5.free 5
  clear ho5 hg5 hn5 hr5 hb5 hx5 HOW4 HNW4 hln HR4 HB4 HZ4
  go_wp2_with fail
  go_end0
  exact ⟨rfl, ⟨_, HR5.out⟩, HB5.out⟩

end Go.Proofs.Ytenhbfbfkcjimaa
