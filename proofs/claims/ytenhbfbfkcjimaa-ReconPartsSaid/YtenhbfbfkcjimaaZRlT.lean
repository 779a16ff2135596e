/- The statements' question to a tree: tells. -/
import Derived.Test.YtenhbfbfkcjimaaZRlA
namespace Go.Proofs.Ytenhbfbfkcjimaa
set_option linter.unusedVariables false
set_option linter.unusedSimpArgs false
open Go.RowKit

set_option maxHeartbeats 8000000 in
set_option maxRecDepth 100000 in
theorem tells_ok (w : World) (A : TA) (t : Tr) (ht : TreeAt w A t) (hmm : t.left.length ≤ 1000000) (node leaf th : Int) : Calls Try.prog 20 #[A.agg t, .int .i64 node, .int .i64 leaf, .int .i64 th] w (RetB (.bool true) w) := by
  have HB := Lib.hid (TBox.new w A t)
  have HW := Lib.hid (bel_alloc w (.cells #[.int .i64 t.lv, .slice A.l.o t.left.length A.l.c, .slice A.r.o t.right.length A.r.c, .slice A.p.o t.par.length A.p.c, .slice A.h.o t.hgt.length A.h.c, .slice A.s.o t.siz.length A.s.c] 27))
  have HT := Lib.hid (ht.below HW.out)
  have HMM := Lib.hid hmm
  have c0 := HB.out.c0
  have c1 := HB.out.c1
  have c2 := HB.out.c2
  have c3 := HB.out.c3
  have c4 := HB.out.c4
  have c5 := HB.out.c5
  clear ht hmm
  obtain ⟨ch, HCH⟩ : ∃ c, Hid (chk t = c) := ⟨_, rfl⟩
  have t0 : (ch != ch) = false := by simp
  show Calls _ _ #[.agg #[.int .i64 t.lv, .slice A.l.o t.left.length A.l.c, .slice A.r.o t.right.length A.r.c, .slice A.p.o t.par.length A.p.c, .slice A.h.o t.hgt.length A.h.c, .slice A.s.o t.siz.length A.s.c], _, _, _] _ _
  go_enter Try.func20, Try.ntmps20
  go_wp2_with fail
  generalize w.alloc (.cells #[.int .i64 t.lv, .slice A.l.o t.left.length A.l.c, .slice A.r.o t.right.length A.r.c, .slice A.p.o t.par.length A.p.c, .slice A.h.o t.hgt.length A.h.c, .slice A.s.o t.siz.length A.s.c] 27) = W at *
  have C0 := Lib.hid c0
  have C1 := Lib.hid c1
  have C2 := Lib.hid c2
  have C3 := Lib.hid c3
  have C4 := Lib.hid c4
  have C5 := Lib.hid c5
  go_upto_region 1 with fail
  go_cut [47] (fun s wx => s = .bool false ∧ Below W.heap.size W wx)
  case first =>
    go_region_held3 (fun w' => w'.cell? ⟨w.heap.size, 0, none⟩ = some (.int .i64 t.lv) ∧ w'.cell? ⟨w.heap.size, 1, none⟩ = some (.slice A.l.o t.left.length A.l.c) ∧ w'.cell? ⟨w.heap.size, 2, none⟩ = some (.slice A.r.o t.right.length A.r.c) ∧ w'.cell? ⟨w.heap.size, 3, none⟩ = some (.slice A.p.o t.par.length A.p.c) ∧ w'.cell? ⟨w.heap.size, 4, none⟩ = some (.slice A.h.o t.hgt.length A.h.c) ∧ w'.cell? ⟨w.heap.size, 5, none⟩ = some (.slice A.s.o t.siz.length A.s.c) ∧ Below W.heap.size W w')
      (((try go_split_ands); refine six_keep C0 C1 C2 C3 C4 C5 ?_; first | assumption | exact (Below.refl _ _).drew | exact Below.drew (by assumption)))
      (first
        | (go_at_call 16; (try go_split_ands); have hbw := (by assumption : Below W.heap.size W _); (with_reducible refine (check_ok _ A t (HT.out.below hbw)).mono ?_); rintro e w1 ⟨rfl, hx⟩; rw [HCH.out]; have hy0 := bel_then hbw hx; clear hbw hx)
        | (go_at_call 41; (try go_split_ands); have hbw := (by assumption : Below W.heap.size W w1); (with_reducible refine (rcheck_ok _ A t (HT.out.below hbw) HMM.out).mono ?_); rintro e w2 ⟨rfl, hx⟩; rw [HCH.out]; have hz0 := bel_then hbw hx; clear hbw hx hy0)
        | (go_at_call 17; (try go_split_ands); have hbw := (by assumption : Below W.heap.size W _); (with_reducible refine (roots_ok _ A t (HT.out.below hbw)).mono ?_); rintro e wa1 hp1; obtain ⟨aa1, ka1, ba1, rfl, ra1⟩ := hp1.row; have hx1 := hp1.bel; have hy1 := bel_then hbw hx1; clear hbw hx1 hp1)
        | (go_at_call 42; (try go_split_ands); have hbw := (by assumption : Below W.heap.size W wa1); (with_reducible refine (rroots_ok _ A t (HT.out.below hbw) HMM.out).mono ?_); rintro e wb1 hp1; obtain ⟨ab1, kb1, bb1, rfl, rb1⟩ := hp1.row; have hx1 := hp1.bel; have hz1 := bel_then hbw hx1; have rc1 := ra1.below hx1; clear hbw hx1 hp1 ra1 hy1)
        | (go_at_call 23; (try go_split_ands); have hbw := (by assumption : Below W.heap.size W wb1); (with_reducible refine (rsame_ok _ aa1 ab1 _ ka1 kb1 ba1 bb1 0 0 _ rc1 rb1 (Nat.le_trans roots_le (by omega))).mono ?_); rintro e wc1 ⟨rfl, hx1⟩; have hu1 := bel_then hbw hx1; clear hbw hx1 rc1 rb1 hz1)
        | (go_at_call 22; (try go_split_ands); have hbw := (by assumption : Below W.heap.size W _); (with_reducible refine (leaves_ok _ A t (HT.out.below hbw) node).mono ?_); rintro e wa2 hp2; obtain ⟨aa2, ka2, ba2, rfl, ra2⟩ := hp2.row; have hx2 := hp2.bel; have hy2 := bel_then hbw hx2; clear hbw hx2 hp2)
        | (go_at_call 43; (try go_split_ands); have hbw := (by assumption : Below W.heap.size W wa2); (with_reducible refine (rleaves_ok _ A t (HT.out.below hbw) HMM.out node).mono ?_); rintro e wb2 hp2; obtain ⟨ab2, kb2, bb2, rfl, rb2⟩ := hp2.row; have hx2 := hp2.bel; have hz2 := bel_then hbw hx2; have rc2 := ra2.below hx2; clear hbw hx2 hp2 ra2 hy2)
        | (go_at_call 23; (try go_split_ands); have hbw := (by assumption : Below W.heap.size W wb2); (with_reducible refine (rsame_ok _ aa2 ab2 _ ka2 kb2 ba2 bb2 0 0 _ rc2 rb2 (Nat.le_trans leaves_le (by omega))).mono ?_); rintro e wc2 ⟨rfl, hx2⟩; have hu2 := bel_then hbw hx2; clear hbw hx2 rc2 rb2 hz2)
        | (go_at_call 21; (try go_split_ands); have hbw := (by assumption : Below W.heap.size W _); (with_reducible refine (least_ok _ A t (HT.out.below hbw)).mono ?_); rintro e wa3 hp3; obtain ⟨aa3, ka3, ba3, rfl, ra3⟩ := hp3.row; have hx3 := hp3.bel; have hy3 := bel_then hbw hx3; clear hbw hx3 hp3)
        | (go_at_call 44; (try go_split_ands); have hbw := (by assumption : Below W.heap.size W wa3); (with_reducible refine (rLeast_ok _ A t (HT.out.below hbw) HMM.out).mono ?_); rintro e wb3 hp3; obtain ⟨ab3, kb3, bb3, rfl, rb3⟩ := hp3.row; have hx3 := hp3.bel; have hz3 := bel_then hbw hx3; have rc3 := ra3.below hx3; clear hbw hx3 hp3 ra3 hy3)
        | (go_at_call 23; (try go_split_ands); have hbw := (by assumption : Below W.heap.size W wb3); (with_reducible refine (rsame_ok _ aa3 ab3 _ ka3 kb3 ba3 bb3 0 0 _ rc3 rb3 (Nat.le_trans lsg_le (by omega))).mono ?_); rintro e wc3 ⟨rfl, hx3⟩; have hu3 := bel_then hbw hx3; clear hbw hx3 rc3 rb3 hz3))
    all_goals
      go_wp2_with fail
      go_meet
      exact ⟨rfl, by assumption⟩
  case rest =>
    obtain ⟨rfl, hb⟩ := hcut
    rename_i wx
    have HB2 := Lib.hid hb
    have HX2 := Lib.hid (Blk.below HB.out hb (Blk.lt HB.out))
    have HT2 := Lib.hid (HT.out.below hb)
    clear hb c0 c1 c2 c3 c4 c5 C0 C1 C2 C3 C4 C5
    have c0 := TBox.c0 HX2.out
    have c1 := TBox.c1 HX2.out
    have c2 := TBox.c2 HX2.out
    have c3 := TBox.c3 HX2.out
    have c4 := TBox.c4 HX2.out
    have c5 := TBox.c5 HX2.out
    obtain ⟨T1, H1⟩ : ∃ c, Hid ((topV t leaf th).1 = c) := ⟨_, rfl⟩
    obtain ⟨T2, H2⟩ : ∃ c, Hid ((topV t leaf th).2 = c) := ⟨_, rfl⟩
    go_wp2_with fail
    with_reducible refine (top_ok _ A t HT2.out leaf th).mono ?_
    rintro e w3 ⟨rfl, hb⟩
    rw [H1.out, H2.out]
    have HB3 := Lib.hid (bel_then HB2.out hb)
    have HX3 := Lib.hid (Blk.below HX2.out hb (Blk.lt HX2.out))
    have HT3 := Lib.hid (HT2.out.below hb)
    clear hb c0 c1 c2 c3 c4 c5 HB2 HX2 HT2
    have c0 := TBox.c0 HX3.out
    have c1 := TBox.c1 HX3.out
    have c2 := TBox.c2 HX3.out
    have c3 := TBox.c3 HX3.out
    have c4 := TBox.c4 HX3.out
    have c5 := TBox.c5 HX3.out
    go_wp2_with fail
    with_reducible refine (rtop_ok _ A t HT3.out HMM.out leaf th).mono ?_
    rintro e w4 ⟨rfl, hb⟩
    rw [H1.out, H2.out]
    have HB4 := Lib.hid (bel_then HB3.out hb)
    have HX4 := Lib.hid (Blk.below HX3.out hb (Blk.lt HX3.out))
    have HT4 := Lib.hid (HT3.out.below hb)
    clear hb c0 c1 c2 c3 c4 c5 HB3 HX3 HT3
    have c0 := TBox.c0 HX4.out
    have c1 := TBox.c1 HX4.out
    have c2 := TBox.c2 HX4.out
    have c3 := TBox.c3 HX4.out
    have c4 := TBox.c4 HX4.out
    have c5 := TBox.c5 HX4.out
    obtain ⟨N, HN⟩ : ∃ c, Hid (((labsO t th).getD []).length = c) := ⟨_, rfl⟩
    obtain ⟨L1, HL1⟩ : ∃ c, Hid (lbErr (labsO t th) = c) := ⟨_, rfl⟩
    have hN : N ≤ 8192 := by rw [← HN.out]; exact labs_le
    go_wp2_with fail
    with_reducible refine (labels_ok _ A t HT4.out th).mono ?_
    rintro e w5 hp
    obtain ⟨a1, k1, b1, rfl, hr1⟩ := hp.row
    have hb := hp.bel
    rw [HN.out] at hr1
    rw [HN.out, HL1.out]
    have HR5 := Lib.hid hr1
    have HB5 := Lib.hid (bel_then HB4.out hb)
    have HX5 := Lib.hid (Blk.below HX4.out hb (Blk.lt HX4.out))
    have HT5 := Lib.hid (HT4.out.below hb)
    clear hp hr1 hb c0 c1 c2 c3 c4 c5 HB4 HX4 HT4
    have c0 := TBox.c0 HX5.out
    have c1 := TBox.c1 HX5.out
    have c2 := TBox.c2 HX5.out
    have c3 := TBox.c3 HX5.out
    have c4 := TBox.c4 HX5.out
    have c5 := TBox.c5 HX5.out
    go_wp2_with fail
    with_reducible refine (rlabels_ok _ A t HT5.out HMM.out th).mono ?_
    rintro e w6 hp
    obtain ⟨a2, k2, b2, rfl, hr2⟩ := hp.row
    have hb := hp.bel
    rw [HN.out] at hr2
    rw [HN.out, HL1.out]
    have HR6 := Lib.hid hr2
    have HR5' := Lib.hid (HR5.out.below hb)
    have HB6 := Lib.hid (bel_then HB5.out hb)
    clear hp hr2 hb c0 c1 c2 c3 c4 c5 HB5 HX5 HT5 HR5
    have t1 : (T1 == T1) = true := by simp
    have t2 : (T2 == T2) = true := by simp
    have t3 : (L1 == L1) = true := by simp
    go_wp2_with fail
    with_reducible refine (rsame_ok _ a1 a2 N k1 k2 b1 b2 0 0 _ HR5'.out HR6.out (by omega)).mono ?_
    rintro e w7 ⟨rfl, hb⟩
    have HB7 := Lib.hid (bel_then HW.out (bel_then HB6.out hb))
    clear hb
    go_wp2_with fail
    go_ret
    exact ⟨rfl, HB7.out⟩

end Go.Proofs.Ytenhbfbfkcjimaa
