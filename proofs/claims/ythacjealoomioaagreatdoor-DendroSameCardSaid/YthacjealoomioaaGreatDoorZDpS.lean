/- DpS. -/
import Derived.Test.YthacjealoomioaaGreatDoorZGo
import Derived.Test.YthacjealoomioaaGreatDoorZGu
import Derived.BigQuiet
/- The reference's Same. -/
namespace Go.Proofs.YthacjealoomioaaGreatDoor
set_option linter.unusedVariables false
set_option linter.unusedSimpArgs false
open Go.RowKit

/-- What is left of two texts. -/
theorem smB_nl (o : Option (List UInt8)) : smB none o = false := by cases o <;> rfl
set_option maxHeartbeats 8000000 in
set_option maxRecDepth 100000 in
theorem r22same_ok (w : World) (A A' : TA) (t u : Tr) (ht : TreeAt w A t) (ht' : TreeAt w A' u) (hmm : t.left.length ≤ 1000000) (kmm : u.left.length ≤ 1000000) (h64 : Hgt64 t) (k64 : Hgt64 u) : Calls Tryz.prog 20 #[A.agg t, A'.agg u] w (RetB (.bool (smB (txtO t) (txtO u))) w) := by
  have HW1 := Lib.hid (bel_alloc w (.cells #[.int .i64 t.lv, .slice A.l.o t.left.length A.l.c, .slice A.r.o t.right.length A.r.c, .slice A.p.o t.par.length A.p.c, .slice A.h.o t.hgt.length A.h.c, .slice A.s.o t.siz.length A.s.c] 27))
  have HW2 := Lib.hid (bel_alloc (w.alloc (.cells #[.int .i64 t.lv, .slice A.l.o t.left.length A.l.c, .slice A.r.o t.right.length A.r.c, .slice A.p.o t.par.length A.p.c, .slice A.h.o t.hgt.length A.h.c, .slice A.s.o t.siz.length A.s.c] 27)) (.cells #[.int .i64 u.lv, .slice A'.l.o u.left.length A'.l.c, .slice A'.r.o u.right.length A'.r.c, .slice A'.p.o u.par.length A'.p.c, .slice A'.h.o u.hgt.length A'.h.c, .slice A'.s.o u.siz.length A'.s.c] 27))
  have HX := Lib.hid (Blk.below (TBox.new w A t) HW2.out (Blk.lt (TBox.new w A t)))
  have HY := Lib.hid (TBox.new1 w (.cells #[.int .i64 t.lv, .slice A.l.o t.left.length A.l.c, .slice A.r.o t.right.length A.r.c, .slice A.p.o t.par.length A.p.c, .slice A.h.o t.hgt.length A.h.c, .slice A.s.o t.siz.length A.s.c] 27) A' u)
  have HW := Lib.hid (bel_then HW1.out HW2.out)
  have HT := Lib.hid (ht.below HW.out)
  have HT' := Lib.hid (ht'.below HW.out)
  have HM1 := Lib.hid hmm
  have HM2 := Lib.hid kmm
  have H1 := Lib.hid h64
  obtain ⟨o1, HO1⟩ : ∃ o, Hid (txtO t = o) := ⟨_, rfl⟩
  obtain ⟨o2, HO2⟩ : ∃ o, Hid (txtO u = o) := ⟨_, rfl⟩
  rw [HO1.out, HO2.out]
  have H2 := Lib.hid k64
  have c0 := TBox.c0 HX.out
  have c1 := TBox.c1 HX.out
  have c2 := TBox.c2 HX.out
  have c3 := TBox.c3 HX.out
  have c4 := TBox.c4 HX.out
  have c5 := TBox.c5 HX.out
  clear ht ht' HW1 HW2 h64 k64 hmm kmm
  show Calls _ _ #[.agg #[.int .i64 t.lv, .slice A.l.o t.left.length A.l.c, .slice A.r.o t.right.length A.r.c, .slice A.p.o t.par.length A.p.c, .slice A.h.o t.hgt.length A.h.c, .slice A.s.o t.siz.length A.s.c], .agg #[.int .i64 u.lv, .slice A'.l.o u.left.length A'.l.c, .slice A'.r.o u.right.length A'.r.c, .slice A'.p.o u.par.length A'.p.c, .slice A'.h.o u.hgt.length A'.h.c, .slice A'.s.o u.siz.length A'.s.c]] _ _
  go_enter Tryz.func20, Tryz.ntmps20
  go_wp2_with fail
  generalize w.heap.size + 1 = y at *
  generalize hxe : w.heap.size = x at *
  have HXE := Lib.hid hxe
  clear hxe
  generalize (w.alloc (.cells #[.int .i64 t.lv, .slice A.l.o t.left.length A.l.c, .slice A.r.o t.right.length A.r.c, .slice A.p.o t.par.length A.p.c, .slice A.h.o t.hgt.length A.h.c, .slice A.s.o t.siz.length A.s.c] 27)).alloc (.cells #[.int .i64 u.lv, .slice A'.l.o u.left.length A'.l.c, .slice A'.r.o u.right.length A'.r.c, .slice A'.p.o u.par.length A'.p.c, .slice A'.h.o u.hgt.length A'.h.c, .slice A'.s.o u.siz.length A'.s.c] 27) = W at *
  have hcon := r22rtext_ok W A t HT.out HM1.out H1.out
  rw [HO1.out] at hcon
  with_reducible refine hcon.mono ?_
  rintro e w2 ⟨rfl, hb⟩
  have HB2 := Lib.hid hb
  have HY2 := Lib.hid (Blk.below HY.out hb (Blk.lt HY.out))
  have HT2 := Lib.hid (HT'.out.below hb)
  clear hb c0 c1 c2 c3 c4 c5 HX HT hcon HO1
  have d0 := TBox.c0 HY2.out
  have d1 := TBox.c1 HY2.out
  have d2 := TBox.c2 HY2.out
  have d3 := TBox.c3 HY2.out
  have d4 := TBox.c4 HY2.out
  have d5 := TBox.c5 HY2.out
  cases o1 with
  | none =>
    rw [txR]
    go_wp2_with fail
    have hcon := r22rtext_ok w2 A' u HT2.out HM2.out H2.out
    rw [HO2.out] at hcon
    with_reducible refine hcon.mono ?_
    rintro e w3 ⟨rfl, hb⟩
    have HB3 : Hid (Below w.heap.size w w3) := by have h := HW.out; rw [← HXE.out] at h; exact bel_then h (bel_then HB2.out hb)
    have HS : Hid (smB none o2 = false) := smB_nl o2
    clear hb d0 d1 d2 d3 d4 d5 hcon HO2
    cases o2 with
    | none =>
      rw [txR]
      go_wp2_with fail
      go_ret
      exact ⟨rfl, HB3.out⟩
    | some l2 =>
      rw [txR]
      go_wp2_with fail
      go_ret
      exact ⟨rfl, HB3.out⟩
  | some l1 =>
    rw [txR]
    go_wp2_with fail
    have hcon := r22rtext_ok w2 A' u HT2.out HM2.out H2.out
    rw [HO2.out] at hcon
    with_reducible refine hcon.mono ?_
    rintro e w3 ⟨rfl, hb⟩
    have HB3 : Hid (Below w.heap.size w w3) := by have h := HW.out; rw [← HXE.out] at h; exact bel_then h (bel_then HB2.out hb)
    clear hb d0 d1 d2 d3 d4 d5 hcon HO2
    cases o2 with
    | none =>
      rw [txR]
      go_wp2_with fail
      go_ret
      exact ⟨rfl, HB3.out⟩
    | some l2 =>
      rw [txR]
      have HS : Hid (smB (some l1) (some l2) = (l1 == l2)) := by
        show decide (l1 = l2) = _
        by_cases h : l1 = l2
        · subst h; simp
        · rw [decide_eq_false h, eq_comm, beq_eq_false_iff_ne]; exact h
      go_wp2_with fail
      go_ret
      exact ⟨by rw [HS.out]; rfl, HB3.out⟩

end Go.Proofs.YthacjealoomioaaGreatDoor
