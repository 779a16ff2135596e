/- The statements' comparison of trees. -/
import Derived.Test.YtenhbfbfkcjimaaZRlA
import Derived.Test.YtenhbfbfkcjimaaZRlW
namespace Go.Proofs.Ytenhbfbfkcjimaa
set_option linter.unusedVariables false
set_option linter.unusedSimpArgs false
open Go.RowKit

theorem TBox.new1 (w : World) (o : Obj) (A : TA) (t : Tr) : TBox ((w.alloc o).alloc (.cells #[.int .i64 t.lv, .slice A.l.o t.left.length A.l.c, .slice A.r.o t.right.length A.r.c, .slice A.p.o t.par.length A.p.c, .slice A.h.o t.hgt.length A.h.c, .slice A.s.o t.siz.length A.s.c] 27)) (w.heap.size + 1) A t := by
  have := TBox.new (w.alloc o) A t
  rw [show (w.alloc o).heap.size = w.heap.size + 1 by simp] at this
  exact this

set_option maxHeartbeats 8000000 in
set_option maxRecDepth 100000 in
theorem rsametree_ok (w : World) (A A' : TA) (t : Tr) (ht : TreeAt w A t) (ht' : TreeAt w A' t) : Calls Try.prog 14 #[A.agg t, A'.agg t] w (RetB (.bool true) w) := by
  have HW1 := Lib.hid (bel_alloc w (.cells #[.int .i64 t.lv, .slice A.l.o t.left.length A.l.c, .slice A.r.o t.right.length A.r.c, .slice A.p.o t.par.length A.p.c, .slice A.h.o t.hgt.length A.h.c, .slice A.s.o t.siz.length A.s.c] 27))
  have HW2 := Lib.hid (bel_alloc (w.alloc (.cells #[.int .i64 t.lv, .slice A.l.o t.left.length A.l.c, .slice A.r.o t.right.length A.r.c, .slice A.p.o t.par.length A.p.c, .slice A.h.o t.hgt.length A.h.c, .slice A.s.o t.siz.length A.s.c] 27)) (.cells #[.int .i64 t.lv, .slice A'.l.o t.left.length A'.l.c, .slice A'.r.o t.right.length A'.r.c, .slice A'.p.o t.par.length A'.p.c, .slice A'.h.o t.hgt.length A'.h.c, .slice A'.s.o t.siz.length A'.s.c] 27))
  have HX := Lib.hid (Blk.below (TBox.new w A t) HW2.out (Blk.lt (TBox.new w A t)))
  have HY := Lib.hid (TBox.new1 w (.cells #[.int .i64 t.lv, .slice A.l.o t.left.length A.l.c, .slice A.r.o t.right.length A.r.c, .slice A.p.o t.par.length A.p.c, .slice A.h.o t.hgt.length A.h.c, .slice A.s.o t.siz.length A.s.c] 27) A' t)
  have HW := Lib.hid (bel_then HW1.out HW2.out)
  have HT := Lib.hid (ht.below HW.out)
  have HT' := Lib.hid (ht'.below HW.out)
  have c4 := TBox.c4 HX.out
  have d4 := TBox.c4 HY.out
  have hhl := ht.ln.2.2.2.1
  clear ht ht' HW1 HW2
  have t0 : ((t.hgt.length : Int) != (t.hgt.length : Int)) = false := by simp
  show Calls _ _ #[.agg #[.int .i64 t.lv, .slice A.l.o t.left.length A.l.c, .slice A.r.o t.right.length A.r.c, .slice A.p.o t.par.length A.p.c, .slice A.h.o t.hgt.length A.h.c, .slice A.s.o t.siz.length A.s.c], .agg #[.int .i64 t.lv, .slice A'.l.o t.left.length A'.l.c, .slice A'.r.o t.right.length A'.r.c, .slice A'.p.o t.par.length A'.p.c, .slice A'.h.o t.hgt.length A'.h.c, .slice A'.s.o t.siz.length A'.s.c]] _ _
  go_enter Try.func14, Try.ntmps14
  go_wp2_with fail
  generalize w.heap.size + 1 = y at *
  generalize hxe : w.heap.size = x at *
  have HXE := Lib.hid hxe
  clear hxe
  generalize (w.alloc (.cells #[.int .i64 t.lv, .slice A.l.o t.left.length A.l.c, .slice A.r.o t.right.length A.r.c, .slice A.p.o t.par.length A.p.c, .slice A.h.o t.hgt.length A.h.c, .slice A.s.o t.siz.length A.s.c] 27)).alloc (.cells #[.int .i64 t.lv, .slice A'.l.o t.left.length A'.l.c, .slice A'.r.o t.right.length A'.r.c, .slice A'.p.o t.par.length A'.p.c, .slice A'.h.o t.hgt.length A'.h.c, .slice A'.s.o t.siz.length A'.s.c] 27) = W at *
  clear c4 d4
  go_loopw [5] (fun s wr => ∃ k : Nat, k ≤ t.hgt.length ∧ s = .int .i64 k ∧ Below W.heap.size W wr) (fun s _ => t.hgt.length - (intOf s).toNat)
  case atStart => exact ⟨0, Nat.zero_le _, rfl, Below.refl _ _⟩
  case round =>
    obtain ⟨k, hk, rfl, hb⟩ := hrel
    have HB := Lib.hid hb
    have HXR := Lib.hid (Blk.below HX.out hb (Blk.lt HX.out))
    have HYR := Lib.hid (Blk.below HY.out hb (Blk.lt HY.out))
    have HTR := Lib.hid (HT.out.below hb)
    have HTR' := Lib.hid (HT'.out.below hb)
    have c4 := TBox.c4 HXR.out
    have d4 := TBox.c4 HYR.out
    by_cases hkn : k < t.hgt.length
    · obtain ⟨e1, c0⟩ := HTR.out.h.get hkn
      obtain ⟨e2, d0⟩ := HTR'.out.h.get hkn
      rw [e1] at c4
      rw [e2] at d4
      generalize gi t.hgt k = z at *
      clear hb e1 e2
      have t1 : (k : Int) < (t.hgt.length : Int) := by omega
      have t2 : (z != z) = false := by simp
      have t3 : (0 : Int) ≤ (k : Int) := by omega
      go_wp2_with fail
      go_quiet (fail)
      go_wp2_with fail
      go_roundw
      case rel => exact ⟨k + 1, by omega, by go_num, bel_drewN HB.out _⟩
      case measure => simp [intOf]; omega
    · have hke : k = t.hgt.length := by omega
      have t1 : decide ((k : Int) < (t.hgt.length : Int)) = false := by simp; omega
      have t1' : decide (k < t.hgt.length) = false := by simp; omega
      clear hb hke hkn
      have c0 := TBox.c0 HXR.out
      have d0 := TBox.c0 HYR.out
      have c1 := TBox.c1 HXR.out
      have d1 := TBox.c1 HYR.out
      have tv : (t.lv == t.lv) = true := by simp
      generalize hlv : t.lv = lv at *
      have HLV := Lib.hid hlv
      clear hlv
      go_wp2_with fail
      with_reducible refine (rsame_ok _ A.l.o A'.l.o t.left.length A.l.c A'.l.c A.l.b A'.l.b A.l.f A'.l.f t.left HTR.out.l HTR'.out.l HTR.out.ln.1).mono ?_
      rintro e w2 ⟨rfl, hb⟩
      have HB2 := Lib.hid (bel_then HB.out hb)
      have HX2 := Lib.hid (Blk.below HXR.out hb (Blk.lt HXR.out))
      have HY2 := Lib.hid (Blk.below HYR.out hb (Blk.lt HYR.out))
      have HT2 := Lib.hid (HTR.out.below hb)
      have HU2 := Lib.hid (HTR'.out.below hb)
      clear hb c1 d1
      clear c0 d0 c4 d4
      have c2 := TBox.c2 HX2.out
      have d2 := TBox.c2 HY2.out
      go_wp2_with fail
      with_reducible refine (rsame_ok _ A.r.o A'.r.o t.right.length A.r.c A'.r.c A.r.b A'.r.b A.r.f A'.r.f t.right HT2.out.r HU2.out.r HT2.out.ln.2.1).mono ?_
      rintro e w3 ⟨rfl, hb⟩
      have HB3 := Lib.hid (bel_then HB2.out hb)
      have HX3 := Lib.hid (Blk.below HX2.out hb (Blk.lt HX2.out))
      have HY3 := Lib.hid (Blk.below HY2.out hb (Blk.lt HY2.out))
      have HT3 := Lib.hid (HT2.out.below hb)
      have HU3 := Lib.hid (HU2.out.below hb)
      clear hb c2 d2
      have c3 := TBox.c3 HX3.out
      have d3 := TBox.c3 HY3.out
      go_wp2_with fail
      with_reducible refine (rsame_ok _ A.p.o A'.p.o t.par.length A.p.c A'.p.c A.p.b A'.p.b A.p.f A'.p.f t.par HT3.out.p HU3.out.p HT3.out.ln.2.2.1).mono ?_
      rintro e w4 ⟨rfl, hb⟩
      have HB4 := Lib.hid (bel_then HB3.out hb)
      have HX4 := Lib.hid (Blk.below HX3.out hb (Blk.lt HX3.out))
      have HY4 := Lib.hid (Blk.below HY3.out hb (Blk.lt HY3.out))
      have HT4 := Lib.hid (HT3.out.below hb)
      have HU4 := Lib.hid (HU3.out.below hb)
      clear hb c3 d3
      have c5 := TBox.c5 HX4.out
      have d5 := TBox.c5 HY4.out
      go_wp2_with fail
      with_reducible refine (rsame_ok _ A.s.o A'.s.o t.siz.length A.s.c A'.s.c A.s.b A'.s.b A.s.f A'.s.f t.siz HT4.out.s HU4.out.s HT4.out.ln.2.2.2.2).mono ?_
      rintro e w5 ⟨rfl, hb⟩
      have HB5 := Lib.hid (bel_then HB4.out hb)
      have HX5 := Lib.hid (Blk.below HX4.out hb (Blk.lt HX4.out))
      have HY5 := Lib.hid (Blk.below HY4.out hb (Blk.lt HY4.out))
      have HT5 := Lib.hid (HT4.out.below hb)
      have HU5 := Lib.hid (HU4.out.below hb)
      clear hb c5 d5
      go_wp2_with fail
      go_ret
      exact ⟨rfl, HW.out.trans (HB5.out.mono (by have := HW.out.size; rw [HXE.out] at this; exact this)) |> fun h => by rw [HXE.out]; exact h⟩

end Go.Proofs.Ytenhbfbfkcjimaa
