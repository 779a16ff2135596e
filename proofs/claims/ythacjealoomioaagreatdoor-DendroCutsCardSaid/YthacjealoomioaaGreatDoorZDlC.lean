/- DlC. -/
import Derived.Test.YthacjealoomioaaGreatDoorZDlC0
import Derived.Deep.RegionHeld3
import Derived.BigQuiet
import Derived.Deep.DeepCutAuto
import Derived.Deep.CutBlock
/- The statement DendroCuts: the walk. (printed by dlc.py) -/
namespace Go.Proofs.YthacjealoomioaaGreatDoor
set_option linter.unusedVariables false
set_option linter.unusedSimpArgs false
open Go.RowKit

set_option maxHeartbeats 16000000 in
set_option maxRecDepth 100000 in
theorem cuts_law (w : World) (hE : ErrV w) (hP : Pow10 w.heap.size w) (hT64 : Tab64 w) (sz : Nat) (hsz : sz ≤ 255) (ao : Option Addr) (len cap b off : Nat) (F : Nat → Nat → Nat) (hr : BRow w ao len b off F) (th : Int) (hth : -128 ≤ th ∧ th ≤ 127) :
    Calls Tryz.prog 12 #[.int .u8 sz, .slice ao len cap, .int .i8 th] w (RetB (.bool true) w) := by
  have HE := Lib.hid hE
  have HP := Lib.hid hP
  have HQ := Lib.hid hT64
  have HR := Lib.hid hr
  clear hE hP hT64 hr
  go_enter Tryz.func12, Tryz.ntmps12
  go_wp2_with fail
  with_reducible refine (built_ok w sz hsz ao len cap b off F HR.out).mono ?_
  rintro e w1 ⟨n, m, L, T, ls, A, g, rfl, hn, hgt, ht, hc, hob, hwl, hb⟩
  have HAG : Hid (A.agg T = .agg #[.int .i64 (n : Int), .slice A.l.o m A.l.c, .slice A.r.o m A.r.c, .slice A.p.o m A.p.c, .slice A.h.o m A.h.c, .slice A.s.o m A.s.c]) := hgt.agg A
  have HBX := Lib.hid (bel_alloc w1 (.cells #[.int .i64 (n : Int), .slice A.l.o m A.l.c, .slice A.r.o m A.r.c, .slice A.p.o m A.p.c, .slice A.h.o m A.h.c, .slice A.s.o m A.s.c] 27))
  have HX := Lib.hid (GBox.new w1 n m A)
  have HT := Lib.hid (ht.below HBX.out)
  have HC := Lib.hid hc
  have HOB := Lib.hid (hob.below HBX.out)
  have HWL := Lib.hid hwl
  have HGT := Lib.hid hgt
  have H64 : Hid (Hgt64 T) := hgt.h64 hwl
  have HN5 := Lib.hid hn
  have HB := Lib.hid (bel_then hb HBX.out)
  have hm2 := hgt.two
  have hnm := hgt.tv.nm
  have hn5 := hn.2
  clear hn hgt ht hc hob hwl hb HR hsz
  obtain ⟨c0, c1, c2, c3, c4, c5⟩ := HX.out.six
  go_upto_region 4 with fail
  clear HBX
  generalize w1.heap.size = xb at *
  generalize (w1.alloc (.cells #[.int .i64 (n : Int), .slice A.l.o m A.l.c, .slice A.r.o m A.r.c, .slice A.p.o m A.p.c, .slice A.h.o m A.h.c, .slice A.s.o m A.s.c] 27)) = W at *
  clear c0 c1 c2 c3 c4 c5
  have HGE : Hid (bdL n L = T ∧ n + FN n L = m) := ⟨HGT.out.eq.symm, HGT.out.meq.symm⟩
  have wth : IntKind.i64.wrap th = th := IntWalk.i64_in _ (by omega)
  obtain ⟨K, HK⟩ : ∃ K, Hid (parK n (undL L th) (undL L th).length = K) := ⟨_, rfl⟩
  have HKL : Hid (K.length = n) := by show _ = _; rw [← HK.out]; exact (parK_all (und_ok HGT.out.g th)).len
  obtain ⟨J, HJ⟩ : ∃ J, Hid (cutJ n L th = J) := ⟨_, rfl⟩
  obtain ⟨R, HR⟩ : ∃ R, Hid (roots n K = R) := ⟨_, rfl⟩
  have HJR : Hid (J + R = n ∧ J ≤ FN n L) := ⟨by rw [← HJ.out, ← HR.out, ← HK.out]; exact parK_roots HGT.out.g th, by rw [← HJ.out]; exact cutJ_le th⟩
  have HCT : Hid (ctK n L (n - R) = K) := by
    show _ = _
    rw [show n - R = J by have := HJR.out.1; omega, ← HJ.out, ctK_cut HGT.out.g th, HK.out]
  obtain ⟨R0, HR0⟩ : ∃ R, Hid (roots n (parK n L L.length) = R) := ⟨_, rfl⟩
  have HFR : Hid (FN n L + R0 = n) := by show _ = _; rw [← HR0.out]; exact parK_all_roots HGT.out.g
  have HCUT : Hid (cutO T (R : Int) = (0, K)) := by
    show _ = _
    rw [cut_eq HGT.out (by have := HJR.out; omega) (by have := HJR.out; omega), HCT.out]
  have HROW : Hid (∀ w' g', GObj w' g' n (undL L th) → Calls Tryz.prog 31 #[.pointer (some ⟨g', 0, none⟩)] w' (RwPost w' R)) := fun w' g' h => by
    have := grow_ok w' g' n (undL L th) h (und_ok HGT.out.g th)
    rw [HK.out, HR.out] at this
    exact this
  have hRn : R ≤ 50 := by have := HJR.out; omega
  go_wp2_with fail
  with_reducible refine (under_ok W g n L HOB.out HGT.out.g th).mono ?_
  rintro e w2 ⟨⟨g2, rfl, hg2⟩, hb⟩
  have HG2 := Lib.hid hg2
  clear hg2
  have HX2 := Lib.hid (HX.out.below hb)
  have HT2 := Lib.hid (HT.out.below hb)
  have HOB2 := Lib.hid (HOB.out.below hb)
  have HB2 := Lib.hid (bel_then HB.out hb)
  clear hb HB HX HT HOB
  go_wp2_with fail
  have hlab := grlabels_ok w2 g2 n (undL L th) HG2.out (und_ok HGT.out.g th)
  rw [HK.out] at hlab
  with_reducible refine hlab.mono ?_
  rintro e w3 ⟨v3, rfl, hnr⟩
  obtain ⟨a3, k3, b3, rfl, hlr⟩ := LbRow.of_owns hnr.own HKL.out
  have HL3 := Lib.hid hlr
  have hb := hnr.bel
  clear hnr hlr hlab HG2
  have HX3 := Lib.hid (HX2.out.below hb)
  have HT3 := Lib.hid (HT2.out.below hb)
  have HOB3 := Lib.hid (HOB2.out.below hb)
  have HB3 := Lib.hid (bel_then HB2.out hb)
  clear hb HB2 HX2 HT2 HOB2
  obtain ⟨c0, c1, c2, c3, c4, c5⟩ := HX3.out.six
  have HAG3 : Hid (∀ W', Below w3.heap.size w3 W' → Calls Tryz.prog 32 #[.agg #[.int .i64 (n : Int), .slice A.l.o m A.l.c, .slice A.r.o m A.r.c, .slice A.p.o m A.p.c, .slice A.h.o m A.h.c, .slice A.s.o m A.s.c], .int .i64 (R : Int)] W' (CtPost W' T (R : Int))) := fun W' hW => by
    have := cut_ok W' A T (HT3.out.below hW) (R : Int) (by omega)
    rw [HAG.out] at this
    exact this
  have hfd := Tryz.rowCnt (R : Int)
  go_upto_region 5 with fail
  go_cut [11, 12] (fun s e' wx => ∃ a k b, s = .slice a n k ∧ e' = .int .i64 0 ∧ LbRow wx a b n K ∧ Below w3.heap.size w3 wx)
  case first =>
    go_region_held3 (fun w' => w'.cell? ⟨xb, 0, none⟩ = some (.int .i64 (n : Int)) ∧ w'.cell? ⟨xb, 1, none⟩ = some (.slice A.l.o m A.l.c) ∧ w'.cell? ⟨xb, 2, none⟩ = some (.slice A.r.o m A.r.c) ∧ w'.cell? ⟨xb, 3, none⟩ = some (.slice A.p.o m A.p.c) ∧ w'.cell? ⟨xb, 4, none⟩ = some (.slice A.h.o m A.h.c) ∧ w'.cell? ⟨xb, 5, none⟩ = some (.slice A.s.o m A.s.c) ∧ Below w3.heap.size w3 w')
      (((try go_split_ands); refine six_keepG HX3 ?_; first | assumption | exact (Below.refl _ _).drew | exact Below.drew (by assumption)))
      (first
        | (go_at_call 30; (try go_split_ands); have hbw := (by assumption : Below w3.heap.size w3 _); (with_reducible refine (under_ok _ g n L (HOB3.out.below hbw) HGT.out.g th).mono ?_); rintro e wa ⟨⟨ga, rfl, hga⟩, hx⟩; have hya := bel_then hbw hx; clear hbw hx)
        | (go_at_call 31; (try go_split_ands); have hbw := (by assumption : Below w3.heap.size w3 wa); (with_reducible refine (HROW.out wa ga hga).mono ?_); rintro e wb ⟨⟨x9, z9, rfl⟩, hx⟩; have hyb := bel_then hbw hx; clear hbw hx hya hga)
        | (go_at_call 32; (try go_split_ands); have hbw := (by assumption : Below w3.heap.size w3 wb); (with_reducible refine (HAG3.out wb hbw).mono ?_); rintro e wd ⟨_, hok, hx⟩; obtain ⟨vd, rfl, hown, _⟩ := hok (by rw [HCUT.out]); have hyd := bel_then hbw hx; clear hbw hx hyb hok))
    all_goals
      rw [HCUT.out, HKL.out] at hown
      obtain ⟨ad, kd, bd, rfl, hld⟩ := LbRow.of_owns hown HKL.out
      have HLD := Lib.hid hld
      have HYD := Lib.hid hyd
      clear hown hld hyd
      go_wp2_with fail
      go_meet
      exact ⟨ad, kd, bd, rfl, rfl, HLD.out, HYD.out⟩
  case rest =>
    obtain ⟨a4, k4, b4, rfl, rfl, hl4, hb⟩ := hcut
    have HL4 := Lib.hid hl4
    have HL3' := Lib.hid (HL3.out.below hb)
    have HX4 := Lib.hid (HX3.out.below hb)
    have HT4 := Lib.hid (HT3.out.below hb)
    have HOB4 := Lib.hid (HOB3.out.below hb)
    have HB4 := Lib.hid (bel_then HB3.out hb)
    clear hl4 hb HX3 HT3 HOB3 HB3 HL3 HAG3 c0 c1 c2 c3 c4 c5 HROW HCUT HCT HJR HR HJ wth
    generalize wc = w4 at *
    clear hfd
    have hfd := Tryz.rowCnt (R0 : Int)
    go_wp2_with fail
    with_reducible refine (rsame_ok w4 a4 a3 n k4 k3 b4 b3 0 0 (nI K) (HL4.out.row HKL.out) (HL3'.out.row HKL.out) (by omega)).mono ?_
    rintro e w5 ⟨rfl, hb⟩
    have HX5 := Lib.hid (HX4.out.below hb)
    have HT5 := Lib.hid (HT4.out.below hb)
    have HOB5 := Lib.hid (HOB4.out.below hb)
    have HB5 := Lib.hid (bel_then HB4.out hb)
    clear hb HX4 HT4 HOB4 HB4 HL4 HL3'
    go_wp2_with fail
    with_reducible refine (HOB5.out.n_ok (by omega)).mono ?_
    rintro e w' ⟨rfl, rfl⟩
    go_wp2_with fail
    obtain ⟨n1, HN1⟩ : ∃ n1, Hid (n + 1 = n1) := ⟨_, rfl⟩
    have HE1 : Hid ((n : Int) + 1 = (n1 : Int)) := by show _ = _; have := HN1.out; omega
    have HW1 : Hid (IntKind.i64.wrap (n1 : Int) = (n1 : Int)) := IntWalk.i64_in _ (by have := HN1.out; omega)
    have hn1b : n1 ≤ 51 := by have := HN1.out; omega
    have HRW0 : Hid (∀ w' , Below w5.heap.size w5 w' → Calls Tryz.prog 31 #[.pointer (some ⟨g, 0, none⟩)] w' (RwPost w' R0)) := fun w' h => by
      have := grow_ok w' g n L (HOB5.out.below h) HGT.out.g
      rw [HR0.out] at this
      exact this
    go_loopw [14] (fun s wr => ∃ k : Nat, k ≤ n1 + 1 ∧ s = .int .i64 (k : Int) ∧ Below w5.heap.size w5 wr) (fun s _ => n1 + 1 - (intOf s).toNat)
    case atStart => exact ⟨0, Nat.zero_le _, rfl, Below.refl _ _⟩
    case round =>
      obtain ⟨k, hk, rfl, hbr⟩ := hrel
      have HBR := Lib.hid hbr
      clear hbr
      have en := HE1.out
      have wn := HW1.out
      by_cases hkn : k ≤ n1
      · have t1 : (k : Int) ≤ (n1 : Int) := by omega
        have t1' : k ≤ n1 := hkn
        obtain ⟨c0, c1, c2, c3, c4, c5⟩ := (HX5.out.below HBR.out).six
        have hcon := cut_ok wr A T (HT5.out.below HBR.out) (k : Int) (by have := HN1.out; omega)
        rw [HAG.out] at hcon
        clear hkn
        by_cases hbad : k < R0 ∨ n < k
        · have HCN : Hid (cutO T (k : Int) = (3, [])) := cut_no HGT.out (by have := HFR.out; omega)
          have HGV : Hid (∀ (p q : Bool), p = decide (k < R0) → q = decide (n < k) → (p || q) = true) := fun p q h1 h2 => by
            rw [h1, h2, Bool.or_eq_true, decide_eq_true_eq, decide_eq_true_eq]; exact hbad
          go_wp2_with fail
          with_reducible refine hcon.mono ?_
          rintro e w6 ⟨hno, _, hb⟩
          rw [HCN.out] at hno
          obtain rfl := hno (by decide)
          have HB6 := Lib.hid (HBR.out.trans (hb.mono HBR.out.size))
          clear hno hb hcon c0 c1 c2 c3 c4 c5 en wn
          go_wp2_with fail
          with_reducible refine (HRW0.out w6 HB6.out).mono ?_
          rintro e w7 ⟨⟨x7, z7, rfl⟩, hb⟩
          have HB7 := Lib.hid (HB6.out.trans (hb.mono HB6.out.size))
          clear hb
          by_cases h1 : k < R0
          · have u1 : decide ((k : Int) < (R0 : Int)) = true := decide_eq_true (by omega)
            have u1' : decide (k < R0) = true := decide_eq_true h1
            have u1'' : k < R0 := h1
            clear h1 hbad
            go_wp2_with fail
            go_roundw
            case rel => exact ⟨k + 1, by omega, by go_num, HB7.out⟩
            case measure => simp [intOf]; omega
          · have u1 : decide ((k : Int) < (R0 : Int)) = false := decide_eq_false (by omega)
            have u1' : decide (k < R0) = false := decide_eq_false h1
            have u2 : decide ((n : Int) < (k : Int)) = true := decide_eq_true (by omega)
            have u2' : decide (n < k) = true := decide_eq_true (by omega)
            have u2'' : n < k := by omega
            clear hbad
            go_wp2_with fail
            go_roundw
            case rel => exact ⟨k + 1, by omega, by go_num, HB7.out⟩
            case measure => simp [intOf]; omega
        · have hk2 : R0 ≤ k ∧ k ≤ n := by omega
          have HCN : Hid (cutO T (k : Int) = (0, ctK n L (n - k))) := cut_eq HGT.out (by have := HFR.out; omega) hk2.2
          have hro := ctK_roots HGT.out.g (j := n - k) (by have := HFR.out; omega)
          have HKO := Lib.hid hro.1
          have HRK : Hid (roots n (ctK n L (n - k)) = k) := by show _ = _; have := hro.2; omega
          have HLN := Lib.hid (ctK_len n L (n - k))
          obtain ⟨K', HK'⟩ : ∃ K', Hid (ctK n L (n - k) = K') := ⟨_, rfl⟩
          rw [HK'.out] at HCN HKO HRK HLN
          have u1 : decide ((k : Int) < (R0 : Int)) = false := decide_eq_false (by omega)
          have u1' : decide (k < R0) = false := decide_eq_false (by omega)
          have u2 : decide ((n : Int) < (k : Int)) = false := decide_eq_false (by omega)
          have u2' : decide (n < k) = false := decide_eq_false (by omega)
          clear hbad hro
          go_wp2_with fail
          with_reducible refine hcon.mono ?_
          rintro e w6 ⟨_, hok, hb⟩
          obtain ⟨v6, rfl, hown, _⟩ := hok (by rw [HCN.out])
          rw [HCN.out, HLN.out] at hown
          obtain ⟨a6, k6, b6, rfl, hl6⟩ := LbRow.of_owns hown HLN.out
          have HL6 := Lib.hid hl6
          have HB6 := Lib.hid (HBR.out.trans (hb.mono HBR.out.size))
          clear hok hb hcon hown hl6 c0 c1 c2 c3 c4 c5 en wn
          go_wp2_with fail
          with_reducible refine (HRW0.out w6 HB6.out).mono ?_
          rintro e w7 ⟨⟨x7, z7, rfl⟩, hb⟩
          have HB7 := Lib.hid (HB6.out.trans (hb.mono HB6.out.size))
          have HL7 := Lib.hid (HL6.out.below hb)
          clear hb
          have hcl := dclusters_ok w7 a6 b6 n k6 K' HL7.out HKO.out (by omega)
          rw [HRK.out] at hcl
          have u3 : ((n : Int) != (n : Int)) = false := by simp
          have u4 : ((k : Int) != (k : Int)) = false := by simp
          go_wp2_with fail
          with_reducible refine hcl.mono ?_
          rintro e w8 ⟨rfl, hb⟩
          have HB8 := Lib.hid (HB7.out.trans (hb.mono HB7.out.size))
          clear hb hcl
          go_wp2_with fail
          go_roundw
          case rel => exact ⟨k + 1, by omega, by go_num, HB8.out⟩
          case measure => simp [intOf]; omega
      · have t1 : ¬ (k : Int) ≤ (n1 : Int) := by omega
        have t1' : ¬ k ≤ n1 := hkn
        have HBF := Lib.hid (bel_then HB5.out HBR.out)
        clear hkn
        go_wp2_with fail
        with_reducible refine (dworks_ok wr (HE.out.below HBF.out) (HP.out.up HBF.out) (HQ.out.below HBF.out)).mono ?_
        rintro e wz ⟨rfl, hb⟩
        have HZ := Lib.hid (bel_then HBF.out hb)
        clear hb
        go_wp2_with fail
        go_ret
        exact ⟨rfl, HZ.out⟩

end Go.Proofs.YthacjealoomioaaGreatDoor
