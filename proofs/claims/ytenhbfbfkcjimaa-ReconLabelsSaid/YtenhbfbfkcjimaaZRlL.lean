/- The statement ReconLabels: the walk. -/
import Derived.Test.YtenhbfbfkcjimaaZRlG
import Derived.Test.YtenhbfbfkcjimaaZMgC
namespace Go.Proofs.Ytenhbfbfkcjimaa
set_option linter.unusedVariables false
set_option linter.unusedSimpArgs false
open Go.RowKit

theorem GTree.under {n m : Nat} {L : List Ed} {T : Tr} {ls : List Nat} (h : GTree n m L T ls) (th : Int) : parK n (undL L th) (undL L th).length = labelsL T n m ls th := by
  rw [und_labels h.g th, ← labels_graph h.g th, h.eq, h.meq, h.lseq]

set_option maxHeartbeats 60000000 in
set_option maxRecDepth 100000 in
theorem labels_law (w : World) (sz : Nat) (hsz : sz ≤ 255) (ao : Option Addr) (len cap b off : Nat) (F : Nat → Nat → Nat) (hr : BRow w ao len b off F) (th0 : Int) (hth : -9223372036854775808 ≤ th0 ∧ th0 ≤ 9223372036854775807) :
    Calls Try.prog 10 #[.int .u8 sz, .slice ao len cap, .int .i64 th0] w (RetB (.bool true) w) := by
  obtain ⟨q0, hq0⟩ : ∃ q, th0.tmod 16 = q := ⟨_, rfl⟩
  have hqb : -15 ≤ q0 ∧ q0 ≤ 15 := by rw [← hq0]; have h1 := Int.tmod_lt_of_pos th0 (show (0 : Int) < 16 by decide); have h2 := Int.lt_tmod_of_pos th0 (show (0 : Int) < 16 by decide); omega
  have HQ0 := Lib.hid hq0
  clear hq0
  have HR := Lib.hid hr
  clear hr
  go_enter Try.func10, Try.ntmps10
  go_wp2_with fail
  with_reducible refine (edges_ok w sz hsz ao len cap b off F HR.out).mono ?_
  rintro e w2 ⟨v, rfl, hnr⟩
  have hn50 : 1 ≤ 1 + sz % 50 ∧ 1 + sz % 50 ≤ 50 := by omega
  have hg := egF_ok hn50 F len
  obtain ⟨L, hL⟩ : ∃ L, egF (1 + sz % 50) F len = L := ⟨_, rfl⟩
  rw [hL] at hnr hg
  clear hL
  generalize 1 + sz % 50 = n at *
  obtain ⟨a1, k1, rfl, hcon⟩ := build_g w2 n v L hg hnr.own
  have HNR := Lib.hid hnr
  have HB2 := Lib.hid hnr.bel
  have hgt0 := gtree hg
  have HCON := Lib.hid hcon
  clear hnr hcon hg HR
  go_wp2_with fail
  with_reducible refine (HCON.out).mono ?_
  rintro e w3 ⟨⟨B, rfl, hbt, hbm⟩, hb⟩
  clear HCON
  obtain ⟨T, hT⟩ : ∃ T, bdL n L = T := ⟨_, rfl⟩
  obtain ⟨m, hm⟩ : ∃ m, n + FN n L = m := ⟨_, rfl⟩
  obtain ⟨ls, hls⟩ : ∃ ls, lsB n L (FN n L) = ls := ⟨_, rfl⟩
  rw [hT, hm, hls] at hgt0
  rw [hT, hm] at hbt
  rw [hT, hm]
  have HGT := Lib.hid hgt0
  have hm2 := hgt0.two
  have hnm := hgt0.tv.nm
  have hn4 := hgt0.tv.hn
  have hbq := Lib.hid hb
  have ht3 := hbt.tree (by rw [hgt0.tv.lv]; omega) (by omega)
  have HBT := Lib.hid hbt
  have HBM := Lib.hid hbm
  clear hT hm hls hbt hbm
  obtain ⟨A, hA⟩ : ∃ A, B.ta m = A := ⟨_, rfl⟩
  rw [hA] at ht3
  rw [hA, hgt0.agg A]
  have HBX := Lib.hid (bel_alloc w3 (.cells #[.int .i64 (n : Int), .slice A.l.o m A.l.c, .slice A.r.o m A.r.c, .slice A.p.o m A.p.c, .slice A.h.o m A.h.c, .slice A.s.o m A.s.c] 27))
  have HX := Lib.hid (GBox.new w3 n m A)
  have HT := Lib.hid (ht3.below HBX.out)
  have HB3 := Lib.hid (bel_then HB2.out (bel_then hb HBX.out))
  have HAB := Lib.hid hA
  clear ht3 hb hA hgt0
  obtain ⟨aoe, cpe, be, ee, her, _⟩ := ERow.of_owns HNR.out.own
  injection ee with ee1 _ ee2
  subst ee1 ee2
  have HER := Lib.hid (her.below (bel_then hbq.out HBX.out))
  have HNC := Lib.hid (owns_nil_cap HNR.out.own)
  have hll : L.length ≤ 16384 := HGT.out.g.hl
  clear her
  go_wp2_with fail
  clear HBX
  generalize w3.heap.size = xb at *
  generalize w3.alloc (.cells #[.int .i64 (n : Int), .slice A.l.o m A.l.c, .slice A.r.o m A.r.c, .slice A.p.o m A.p.c, .slice A.h.o m A.h.c, .slice A.s.o m A.s.c] 27) = W at *
  with_reducible refine (new_ok W n a1 L.length k1 be 0 L HER.out (by omega) HNC.out (by omega)).mono ?_
  rintro e w4 ⟨⟨p, rfl, _, hgo⟩, hb⟩
  have hz := HGT.out.g.err
  obtain ⟨g, rfl, hgob⟩ := hgo hz
  rw [hz]
  rw [Int.toNat_natCast] at hgob
  have HGO := Lib.hid hgob
  have HX4 := Lib.hid (HX.out.below hb)
  have HT4 := Lib.hid (HT.out.below hb)
  have HB4 := Lib.hid (bel_then HB3.out hb)
  clear hb hz hgo hgob HX HT HB3 HER hbq
  have hq0 := HQ0.out
  go_wp2_with fail
  clear hq0
  have HTL : Hid (Blk (w4.alloc (.cells #[.int .i64 th0, .int .i64 (q0 - 5), .int .i64 (-6), .int .i64 0, .int .i64 11] 2)) w4.heap.size 2 (intV [th0, q0 - 5, -6, 0, 11])) := Blk.new w4 2 (intV [th0, q0 - 5, -6, 0, 11])
  have hbl := bel_alloc w4 (.cells #[.int .i64 th0, .int .i64 (q0 - 5), .int .i64 (-6), .int .i64 0, .int .i64 11] 2)
  have HX5 := Lib.hid (HX4.out.below hbl)
  have HT5 := Lib.hid (HT4.out.below hbl)
  have HB5 := Lib.hid (bel_then HB4.out hbl)
  have HGO5 := Lib.hid (HGO.out.below hbl)
  clear hbl HX4 HT4 HB4 HGO HQ0
  generalize w4.heap.size = tb at *
  generalize w4.alloc (.cells #[.int .i64 th0, .int .i64 (q0 - 5), .int .i64 (-6), .int .i64 0, .int .i64 11] 2) = w5 at *
  go_loopw [47] (fun s wr => ∃ i : Nat, i ≤ 5 ∧ s = .int .i64 i ∧ Below w5.heap.size w5 wr) (fun s _ => 5 - (intOf s).toNat)
  case atStart => exact ⟨0, Nat.zero_le _, rfl, Below.refl _ _⟩
  case round =>
    obtain ⟨i, hi, rfl, hbr⟩ := hrel
    have HBR := Lib.hid hbr
    have HXR := Lib.hid (HX5.out.below hbr)
    have HTR := Lib.hid (HT5.out.below hbr)
    have HGR := Lib.hid (HGO5.out.below hbr)
    have HTLR := Lib.hid (HTL.out.below hbr HTL.out.lt)
    clear hbr
    by_cases hi5 : i < 5
    · have e1 := blkIV HTLR.out (i := i) (by simpa using hi5)
      generalize gi [th0, q0 - 5, -6, 0, 11] i = th at *
      have t1 : (i : Int) < 5 := by omega
      have t2 : (0 : Int) ≤ (i : Int) := by omega
      obtain ⟨c0, c1, c2, c3, c4, c5⟩ := HXR.out.six
      go_wp2_with fail
      with_reducible refine (glabels_ok HGT.out HTR.out th).mono ?_
      rintro e w6 ⟨v15, rfl, hnr⟩
      obtain ⟨a15, k15, b15, rfl, hin, _⟩ := own_rowN hnr.own (labels_len T n m ls th)
      have HIN := Lib.hid hin
      have HG6 := Lib.hid (HGR.out.below hnr.bel)
      have HB6 := Lib.hid (HBR.out.trans (hnr.bel.mono HBR.out.size))
      clear hnr hin e1 c0 c1 c2 c3 c4 c5
      go_wp2_with fail
      with_reducible refine (under_ok w6 g n L HG6.out HGT.out.g th).mono ?_
      rintro e w7 ⟨⟨g7, rfl, hg7⟩, hb⟩
      have HG7 := Lib.hid hg7
      have HIN7 := Lib.hid (HIN.out.below hb)
      have HB7 := Lib.hid (HB6.out.trans (hb.mono HB6.out.size))
      clear hg7 hb
      go_wp2_with fail
      with_reducible refine (grlabels_ok w7 g7 n (undL L th) HG7.out (und_ok HGT.out.g th)).mono ?_
      rintro e w8 ⟨v8, rfl, hnr⟩
      rw [HGT.out.under th] at hnr
      obtain ⟨a8, k8, b8, rfl, hin8, _⟩ := own_rowN hnr.own (labels_len T n m ls th)
      have HIN8 := Lib.hid hin8
      have HIN78 := Lib.hid (HIN7.out.below hnr.bel)
      have HB8 := Lib.hid (HB7.out.trans (hnr.bel.mono HB7.out.size))
      clear hnr hin8
      go_wp2_with fail
      with_reducible refine (rsame_ok w8 a15 a8 n k15 k8 b15 b8 0 0 _ HIN78.out HIN8.out (by omega)).mono ?_
      rintro e w9 ⟨rfl, hb⟩
      have HB9 := Lib.hid (HB8.out.trans (hb.mono HB8.out.size))
      clear hb
      go_wp2_with fail
      go_roundw
      case rel => exact ⟨i + 1, by omega, by go_num, HB9.out⟩
      case measure => simp [intOf]; omega
    · obtain rfl : i = 5 := by omega
      go_wp2_with fail
      with_reducible refine (rworks_ok wr).mono ?_
      rintro e w9 ⟨rfl, hb⟩
      have HF := Lib.hid (bel_then HB5.out (bel_then HBR.out hb))
      clear hb
      go_wp2_with fail
      go_ret
      exact ⟨rfl, HF.out⟩

end Go.Proofs.Ytenhbfbfkcjimaa
