/- DlK. -/
import Derived.Test.YthacjealoomioaaGreatDoorZDlA
import Derived.Test.YthacjealoomioaaGreatDoorZGs
import Derived.Test.YthacjealoomioaaGreatDoorZGc
import Derived.Test.YthacjealoomioaaGreatDoorZGo
import Derived.Deep.RegionHeld3
import Derived.BigQuiet
/- The statement DendroBack: the walk. (printed by dlk.py) -/
namespace Go.Proofs.YthacjealoomioaaGreatDoor
set_option linter.unusedVariables false
set_option linter.unusedSimpArgs false
open Go.RowKit

set_option maxHeartbeats 16000000 in
set_option maxRecDepth 100000 in
theorem back_law (w : World) (hE : ErrV w) (hP : Pow10 w.heap.size w) (hT64 : Tab64 w) (sz : Nat) (hsz : sz ≤ 255) (ao : Option Addr) (len cap b off : Nat) (F : Nat → Nat → Nat) (hr : BRow w ao len b off F) :
    Calls Tryz.prog 9 #[.int .u8 sz, .slice ao len cap] w (RetB (.bool true) w) := by
  have HE := Lib.hid hE
  have HP := Lib.hid hP
  have HQ := Lib.hid hT64
  have HR := Lib.hid hr
  clear hE hP hT64 hr
  go_enter Tryz.func9, Tryz.ntmps9
  go_wp2_with fail
  with_reducible refine (built_ok w sz hsz ao len cap b off F HR.out).mono ?_
  rintro e w1 ⟨n, m, L, T, ls, A, g, rfl, hn, hgt, ht, hc, hob, hwl, hb⟩
  have HAG : Hid (A.agg T = .agg #[.int .i64 (n : Int), .slice A.l.o m A.l.c, .slice A.r.o m A.r.c, .slice A.p.o m A.p.c, .slice A.h.o m A.h.c, .slice A.s.o m A.s.c]) := hgt.agg A
  have HBX := Lib.hid (bel_alloc w1 (.cells #[.int .i64 (n : Int), .slice A.l.o m A.l.c, .slice A.r.o m A.r.c, .slice A.p.o m A.p.c, .slice A.h.o m A.h.c, .slice A.s.o m A.s.c] 27))
  have HX := Lib.hid (GBox.new w1 n m A)
  have HT := Lib.hid (ht.below HBX.out)
  have HC := Lib.hid hc
  have HOB := Lib.hid (hob.below HBX.out)
  have HWL := Lib.hid hwl
  have HGT := Lib.hid hgt
  have H64 : Hid (Hgt64 T) := hgt.h64 hwl
  have HN5 := Lib.hid hn
  have HB := Lib.hid (bel_then hb HBX.out)
  have hm2 := hgt.two
  have hnm := hgt.tv.nm
  have hn5 := hn.2
  clear hn hgt ht hc hob hwl hb HR hsz
  obtain ⟨c0, c1, c2, c3, c4, c5⟩ := HX.out.six
  go_upto_region 4 with fail
  clear HBX
  generalize w1.heap.size = xb at *
  generalize (w1.alloc (.cells #[.int .i64 (n : Int), .slice A.l.o m A.l.c, .slice A.r.o m A.r.c, .slice A.p.o m A.p.c, .slice A.h.o m A.h.c, .slice A.s.o m A.s.c] 27)) = W at *
  obtain ⟨U, s, htx, hkp, htu, ⟨lu, hlu⟩, hst⟩ := text_back HGT.out.tv (fun x hx => H64.out x (by rw [HGT.out.tv.hl]; exact hx))
  have hsl : s.length ≤ 204800 := by
    have e := txtO_tv HGT.out.tv
    rw [htx] at e
    injection e with e
    rw [e]
    have hcf := frs_cf HGT.out.tv (fun y hy => H64.out y (by rw [HGT.out.tv.hl]; exact hy))
    have h1 := fTxt_len (frs T n m ls) (fun b hb => hcf.fit b hb)
    have h2 := hcf.lvs
    have h3 := hcf.n4
    omega
  have HTX := Lib.hid htx
  have HKP := Lib.hid hkp
  have HTU := Lib.hid htu
  have HLU := Lib.hid hlu
  have HST := Lib.hid hst
  obtain ⟨S, HS⟩ : ∃ S : ByteArray, Hid ((⟨s.toArray⟩ : ByteArray) = S) := ⟨_, rfl⟩
  have HSD : Hid (S.data.toList = s) := by show _ = _; rw [← HS.out]
  have hsz : S.size ≤ 204800 := by rw [← HS.out]; exact hsl
  clear htx hkp htu hlu hst hsl
  have hcon := text_ok W (HP.out.up HB.out) A T HT.out H64.out
  rw [HAG.out, HTX.out, txR, HS.out] at hcon
  go_wp2_with fail
  with_reducible refine hcon.mono ?_
  rintro e w2 ⟨rfl, hb⟩
  have HX2 := Lib.hid (HX.out.below hb)
  have HT2 := Lib.hid (HT.out.below hb)
  have HB2 := Lib.hid (bel_then HB.out hb)
  clear hb HB HX HT
  clear c0 c1 c2 c3 c4 c5 hcon HC HOB
  have hcon := dparse_ok w2 (HE.out.below HB2.out) (HP.out.up HB2.out) S (by omega)
  rw [HSD.out, HKP.out] at hcon
  go_wp2_with fail
  with_reducible refine hcon.mono ?_
  rintro e w3 ⟨_, hok, hb⟩
  obtain ⟨B, rfl, hu, _, hu64, _⟩ := hok U rfl
  have HBY := Lib.hid (bel_alloc w3 (.cells #[.int .i64 U.lv, .slice B.l.o U.left.length B.l.c, .slice B.r.o U.right.length B.r.c, .slice B.p.o U.par.length B.p.c, .slice B.h.o U.hgt.length B.h.c, .slice B.s.o U.siz.length B.s.c] 27))
  have HY := Lib.hid (TBox.new w3 B U)
  have HU := Lib.hid (hu.below HBY.out)
  have HU64 := Lib.hid hu64
  have HX3 := Lib.hid (HX2.out.below (bel_then hb HBY.out))
  have HT3 := Lib.hid (HT2.out.below (bel_then hb HBY.out))
  have HB3 := Lib.hid (bel_then HB2.out (bel_then hb HBY.out))
  clear hok hu hu64 hb HX2 HT2 HB2 hcon
  go_upto_region 6 with fail
  clear HBY
  generalize w3.heap.size = yb at *
  generalize (w3.alloc (.cells #[.int .i64 U.lv, .slice B.l.o U.left.length B.l.c, .slice B.r.o U.right.length B.r.c, .slice B.p.o U.par.length B.p.c, .slice B.h.o U.hgt.length B.h.c, .slice B.s.o U.siz.length B.s.c] 27)) = w4 at *
  have hcon := text_ok w4 (HP.out.up HB3.out) B U HU.out HU64.out
  rw [HTU.out, txR, HS.out] at hcon
  have d0 := TBox.c0 HY.out
  have d1 := TBox.c1 HY.out
  have d2 := TBox.c2 HY.out
  have d3 := TBox.c3 HY.out
  have d4 := TBox.c4 HY.out
  have d5 := TBox.c5 HY.out
  go_wp2_with fail
  with_reducible refine hcon.mono ?_
  rintro e w5 ⟨rfl, hb⟩
  have HX5 := Lib.hid (HX3.out.below hb)
  have HT5 := Lib.hid (HT3.out.below hb)
  have HY5 := Lib.hid (Blk.below HY.out hb (Blk.lt HY.out))
  have HU5 := Lib.hid (HU.out.below hb)
  have HB5 := Lib.hid (bel_then HB3.out hb)
  clear hb hcon HX3 HT3 HY HU HB3
  clear d0 d1 d2 d3 d4 d5
  have d0 := TBox.c0 HY5.out
  have d1 := TBox.c1 HY5.out
  have d2 := TBox.c2 HY5.out
  have d3 := TBox.c3 HY5.out
  have d4 := TBox.c4 HY5.out
  have d5 := TBox.c5 HY5.out
  obtain ⟨c0, c1, c2, c3, c4, c5⟩ := HX5.out.six
  have hcon := dsame_ok w5 (HP.out.up HB5.out) A B T U HT5.out HU5.out H64.out HU64.out
  rw [HAG.out, HTX.out, HTU.out, show smB (some s) (some s) = true from decide_eq_true rfl] at hcon
  go_wp2_with fail
  with_reducible refine hcon.mono ?_
  rintro e w6 ⟨rfl, hb⟩
  have HX6 := Lib.hid (HX5.out.below hb)
  have HT6 := Lib.hid (HT5.out.below hb)
  have HY6 := Lib.hid (Blk.below HY5.out hb (Blk.lt HY5.out))
  have HU6 := Lib.hid (HU5.out.below hb)
  have HB6 := Lib.hid (bel_then HB5.out hb)
  clear hb hcon HX5 HT5 HY5 HU5 HB5 c0 c1 c2 c3 c4 c5
  clear d0 d1 d2 d3 d4 d5
  have d0 := TBox.c0 HY6.out
  have d1 := TBox.c1 HY6.out
  have d2 := TBox.c2 HY6.out
  have d3 := TBox.c3 HY6.out
  have d4 := TBox.c4 HY6.out
  have d5 := TBox.c5 HY6.out
  have hcon := check_ok w6 B U HU6.out
  rw [chk_some HLU.out] at hcon
  go_wp2_with fail
  with_reducible refine hcon.mono ?_
  rintro e w7 ⟨rfl, hb⟩
  have HX7 := Lib.hid (HX6.out.below hb)
  have HT7 := Lib.hid (HT6.out.below hb)
  have HY7 := Lib.hid (Blk.below HY6.out hb (Blk.lt HY6.out))
  have HU7 := Lib.hid (HU6.out.below hb)
  have HB7 := Lib.hid (bel_then HB6.out hb)
  clear hb hcon HX6 HT6 HY6 HU6 HB6
  clear d0 d1 d2 d3 d4 d5
  obtain ⟨c0, _, _, _, c4, _⟩ := HX7.out.six
  obtain ⟨n1, HN1⟩ : ∃ n1, Hid (n + 1 = n1) := ⟨_, rfl⟩
  have en : (n : Int) + 1 = (n1 : Int) := by have := HN1.out; omega
  have wn : IntKind.i64.wrap (n1 : Int) = (n1 : Int) := IntWalk.i64_in _ (by have := HN1.out; omega)
  go_wp2_with fail
  clear c0 c4 en wn
  go_loopw [14] (fun s wr => ∃ x : Nat, n1 ≤ x ∧ (x ≤ m ∨ x = n1) ∧ s = .int .i64 (x : Int) ∧ Below w7.heap.size w7 wr ∧ Hid (∀ y, n < y → y < x → gi T.hgt (y - 1) ≠ gi T.hgt y)) (fun s _ => m - (intOf s).toNat)
  case atStart => exact ⟨n1, Nat.le_refl _, .inr rfl, rfl, Below.refl _ _, fun y h1 h2 => by have := HN1.out; omega⟩
  case round =>
    obtain ⟨x, hx1, hx2, rfl, hbr, HD⟩ := hrel
    have HBR := Lib.hid hbr
    have HXR := Lib.hid (HX7.out.below hbr)
    have HTR := Lib.hid (HT7.out.below hbr)
    have HYR := Lib.hid (Blk.below HY7.out hbr (Blk.lt HY7.out))
    have HUR := Lib.hid (HU7.out.below hbr)
    clear hbr
    by_cases hxm : x < m
    · obtain ⟨j, HJ⟩ : ∃ j, Hid (x - 1 = j) := ⟨_, rfl⟩
      have hj1 : n ≤ j := by have := HJ.out; have := HN1.out; omega
      have hj2 : j < m := by have := HJ.out; omega
      have ej : (x : Int) - 1 = (j : Int) := by have := HJ.out; have := HN1.out; omega
      have wj : IntKind.i64.wrap (j : Int) = (j : Int) := IntWalk.i64_in _ (by omega)
      obtain ⟨_, _, _, _, c4, _⟩ := HXR.out.six
      obtain ⟨ea, e1⟩ := HTR.out.h.get (i := x) (by rw [HGT.out.tv.hl]; exact hxm)
      obtain ⟨_, e2⟩ := HTR.out.h.get (i := j) (by rw [HGT.out.tv.hl]; exact hj2)
      rw [ea] at c4
      have HGX : Hid (gi T.hgt (x - 1) = gi T.hgt j) := by show _ = _; rw [HJ.out]
      obtain ⟨p, HPP⟩ : ∃ p, Hid (gi T.hgt x = p) := ⟨_, rfl⟩
      obtain ⟨q, HQQ⟩ : ∃ q, Hid (gi T.hgt j = q) := ⟨_, rfl⟩
      rw [HPP.out] at e1
      rw [HQQ.out] at e2
      have t1 : (x : Int) < (m : Int) := by omega
      have t2 : (0 : Int) ≤ (x : Int) := by omega
      have t3 : (j : Int) < (m : Int) := by omega
      have t4 : (0 : Int) ≤ (j : Int) := by omega
      clear ea
      by_cases hpq : p = q
      · have t5 : (p == q) = true := by rw [hpq]; simp
        clear hpq
        go_wp2_with fail
        go_quiet (fail)
        have HB8 := Lib.hid (bel_then HB7.out (bel_drewN HBR.out nq))
        generalize wr.drewN nq = w8 at HB8 ⊢
        clear e1 e2 c4
        go_wp2_with fail
        with_reducible refine (dworks_ok w8 (HE.out.below HB8.out) (HP.out.up HB8.out) (HQ.out.below HB8.out)).mono ?_
        rintro e wz ⟨rfl, hb⟩
        have HZ := Lib.hid (bel_then HB8.out hb)
        clear hb
        go_wp2_with fail
        go_ret
        exact ⟨rfl, HZ.out⟩
      · have t5 : (p == q) = false := by rw [beq_eq_false_iff_ne]; exact hpq
        have HNE := Lib.hid hpq
        clear hpq
        go_wp2_with fail
        go_quiet (fail)
        have HB8 := Lib.hid (bel_drewN HBR.out nq)
        generalize wr.drewN nq = w8 at HB8 ⊢
        clear e1 e2 c4
        go_wp2_with fail
        go_roundw
        case rel => exact ⟨x + 1, by omega, .inl (by omega), by go_num, HB8.out, fun y h1 h2 => by
          by_cases hy : y = x
          · rw [hy, HGX.out, HQQ.out, HPP.out]
            exact fun e => HNE.out e.symm
          · exact HD.out y h1 (by omega)⟩
        case measure => simp [intOf]; omega
    · have t1 : ¬ (x : Int) < (m : Int) := by omega
      have t1' : ¬ x < m := hxm
      have t1'' : decide (x < m) = false := decide_eq_false hxm
      have hTU := HST.out (fun y h1 h2 => HD.out y h1 (by have := HN1.out; omega))
      subst hTU
      have HBF := Lib.hid (bel_then HB7.out HBR.out)
      have hcon := rsametree_ok wr A B T HTR.out HUR.out
      rw [HAG.out] at hcon
      obtain ⟨c0, c1, c2, c3, c4, c5⟩ := HXR.out.six
      have d0 := TBox.c0 HYR.out
      have d1 := TBox.c1 HYR.out
      have d2 := TBox.c2 HYR.out
      have d3 := TBox.c3 HYR.out
      have d4 := TBox.c4 HYR.out
      have d5 := TBox.c5 HYR.out
      clear hxm
      go_wp2_with fail
      with_reducible refine hcon.mono ?_
      rintro e w8 ⟨rfl, hb⟩
      have HB8 := Lib.hid (bel_then HBF.out hb)
      clear hb hcon c0 c1 c2 c3 c4 c5 d0 d1 d2 d3 d4 d5
      go_wp2_with fail
      with_reducible refine (dworks_ok w8 (HE.out.below HB8.out) (HP.out.up HB8.out) (HQ.out.below HB8.out)).mono ?_
      rintro e wz ⟨rfl, hb⟩
      have HZ := Lib.hid (bel_then HB8.out hb)
      clear hb
      go_wp2_with fail
      go_ret
      exact ⟨rfl, HZ.out⟩

end Go.Proofs.YthacjealoomioaaGreatDoor
