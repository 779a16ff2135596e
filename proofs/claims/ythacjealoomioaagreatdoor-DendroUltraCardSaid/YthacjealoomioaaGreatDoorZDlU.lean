/- DlU. -/
import Derived.Test.YthacjealoomioaaGreatDoorZDlU0
import Derived.Deep.RegionHeld3
import Derived.BigQuiet
/- The statement DendroUltra: the walk. (printed by dlu.py) -/
namespace Go.Proofs.YthacjealoomioaaGreatDoor
set_option linter.unusedVariables false
set_option linter.unusedSimpArgs false
open Go.RowKit

set_option maxHeartbeats 16000000 in
set_option maxRecDepth 100000 in
theorem ultra_law (w : World) (hE : ErrV w) (hP : Pow10 w.heap.size w) (hT64 : Tab64 w) (sz : Nat) (hsz : sz ≤ 255) (ao : Option Addr) (len cap b off : Nat) (F : Nat → Nat → Nat) (hr : BRow w ao len b off F) (ii jj kk : Nat) (hii : ii ≤ 255) (hjj : jj ≤ 255) (hkk : kk ≤ 255) :
    Calls Tryz.prog 10 #[.int .u8 sz, .slice ao len cap, .int .u8 ii, .int .u8 jj, .int .u8 kk] w (RetB (.bool true) w) := by
  have HE := Lib.hid hE
  have HP := Lib.hid hP
  have HQ := Lib.hid hT64
  have HR := Lib.hid hr
  clear hE hP hT64 hr
  go_enter Tryz.func10, Tryz.ntmps10
  go_wp2_with fail
  with_reducible refine (built_ok w sz hsz ao len cap b off F HR.out).mono ?_
  rintro e w1 ⟨n, m, L, T, ls, A, g, rfl, hn, hgt, ht, hc, hob, hwl, hb⟩
  have HAG : Hid (A.agg T = .agg #[.int .i64 (n : Int), .slice A.l.o m A.l.c, .slice A.r.o m A.r.c, .slice A.p.o m A.p.c, .slice A.h.o m A.h.c, .slice A.s.o m A.s.c]) := hgt.agg A
  have HBX := Lib.hid (bel_alloc w1 (.cells #[.int .i64 (n : Int), .slice A.l.o m A.l.c, .slice A.r.o m A.r.c, .slice A.p.o m A.p.c, .slice A.h.o m A.h.c, .slice A.s.o m A.s.c] 27))
  have HX := Lib.hid (GBox.new w1 n m A)
  have HT := Lib.hid (ht.below HBX.out)
  have HC := Lib.hid hc
  have HOB := Lib.hid (hob.below HBX.out)
  have HWL := Lib.hid hwl
  have HGT := Lib.hid hgt
  have H64 : Hid (Hgt64 T) := hgt.h64 hwl
  have HN5 := Lib.hid hn
  have HB := Lib.hid (bel_then hb HBX.out)
  have hm2 := hgt.two
  have hnm := hgt.tv.nm
  have hn5 := hn.2
  clear hn hgt ht hc hob hwl hb HR hsz
  obtain ⟨c0, c1, c2, c3, c4, c5⟩ := HX.out.six
  go_upto_region 4 with fail
  clear HBX
  generalize w1.heap.size = xb at *
  generalize (w1.alloc (.cells #[.int .i64 (n : Int), .slice A.l.o m A.l.c, .slice A.r.o m A.r.c, .slice A.p.o m A.p.c, .slice A.h.o m A.h.c, .slice A.s.o m A.s.c] 27)) = W at *
  have hn1 := HN5.out.1
  obtain ⟨a, ha, haN⟩ := tmodN3 (a := ii) (show 0 < n by omega)
  obtain ⟨b2, hb2, hbN⟩ := tmodN3 (a := jj) (show 0 < n by omega)
  obtain ⟨c, hc2, hcN⟩ := tmodN3 (a := kk) (show 0 < n by omega)
  have wa : IntKind.i64.wrap (a : Int) = (a : Int) := IntWalk.i64_in _ (by omega)
  have wb : IntKind.i64.wrap (b2 : Int) = (b2 : Int) := IntWalk.i64_in _ (by omega)
  have wc : IntKind.i64.wrap (c : Int) = (c : Int) := IntWalk.i64_in _ (by omega)
  have tN : ((n : Int) == 0) = false := by rw [beq_eq_false_iff_ne]; omega
  have tN' : (n : Int) ≠ 0 := by omega
  clear c0 c1 c2 c3 c4 c5
  go_wp2_with fail
  with_reducible refine (HOB.out.n_ok (by omega)).mono ?_
  rintro e w' ⟨rfl, rfl⟩
  go_wp2_with fail
  go_quiet (fail)
  have hb := bel_drewN (Below.refl W.heap.size W) nq
  clear ha hb2 hc2 wa wb wc tN tN'
  have HX2 := Lib.hid (HX.out.below hb)
  have HT2 := Lib.hid (HT.out.below hb)
  have HOB2 := Lib.hid (HOB.out.below hb)
  have HB2 := Lib.hid (bel_then HB.out hb)
  clear hb HX HT HOB HB
  generalize W.drewN nq = w2 at *
  have HWB : Hid (∀ i, i < L.length → -9223372036854775808 < wI L i ∧ wI L i ≤ 9223372036854775807) := fun i hi => by have := HWL.out i hi; omega
  have HGE : Hid (bdL n L = T ∧ n + FN n L = m) := ⟨HGT.out.eq.symm, HGT.out.meq.symm⟩
  obtain ⟨X, HXX⟩ : ∃ X, Hid (cph T m a b2 = X) := ⟨_, rfl⟩
  obtain ⟨Y, HYY⟩ : ∃ X, Hid (cph T m b2 c = X) := ⟨_, rfl⟩
  obtain ⟨Z, HZZ⟩ : ∃ X, Hid (cph T m a c = X) := ⟨_, rfl⟩
  obtain ⟨c0, c1, c2, c3, c4, c5⟩ := HX2.out.six
  have hcon := coph_ok w2 (HQ.out.below HB2.out) A T HT2.out (a : Int) (b2 : Int)
  rw [HAG.out, cop_cph HGT.out haN hbN, HXX.out, copR] at hcon
  go_wp2_with fail
  with_reducible refine hcon.mono ?_
  rintro e w3 ⟨rfl, hb⟩
  clear c0 c1 c2 c3 c4 c5 hcon
  have HX3 := Lib.hid (HX2.out.below hb)
  have HT3 := Lib.hid (HT2.out.below hb)
  have HOB3 := Lib.hid (HOB2.out.below hb)
  have HB3 := Lib.hid (bel_then HB2.out hb)
  clear hb HB2 HX2 HT2 HOB2
  obtain ⟨c0, c1, c2, c3, c4, c5⟩ := HX3.out.six
  have hcon := coph_ok w3 (HQ.out.below HB3.out) A T HT3.out (b2 : Int) (c : Int)
  rw [HAG.out, cop_cph HGT.out hbN hcN, HYY.out, copR] at hcon
  go_wp2_with fail
  with_reducible refine hcon.mono ?_
  rintro e w4 ⟨rfl, hb⟩
  clear c0 c1 c2 c3 c4 c5 hcon
  have HX4 := Lib.hid (HX3.out.below hb)
  have HT4 := Lib.hid (HT3.out.below hb)
  have HOB4 := Lib.hid (HOB3.out.below hb)
  have HB4 := Lib.hid (bel_then HB3.out hb)
  clear hb HB3 HX3 HT3 HOB3
  obtain ⟨c0, c1, c2, c3, c4, c5⟩ := HX4.out.six
  have hcon := coph_ok w4 (HQ.out.below HB4.out) A T HT4.out (a : Int) (c : Int)
  rw [HAG.out, cop_cph HGT.out haN hcN, HZZ.out, copR] at hcon
  go_wp2_with fail
  with_reducible refine hcon.mono ?_
  rintro e w5 ⟨rfl, hb⟩
  clear c0 c1 c2 c3 c4 c5 hcon
  have HX5 := Lib.hid (HX4.out.below hb)
  have HT5 := Lib.hid (HT4.out.below hb)
  have HOB5 := Lib.hid (HOB4.out.below hb)
  have HB5 := Lib.hid (bel_then HB4.out hb)
  clear hb HB4 HX4 HT4 HOB4
  obtain ⟨c0, c1, c2, c3, c4, c5⟩ := HX5.out.six
  have hcon := coph_ok w5 (HQ.out.below HB5.out) A T HT5.out (b2 : Int) (a : Int)
  rw [HAG.out, cop_cph HGT.out hbN haN, cph_comm, HXX.out, copR] at hcon
  go_wp2_with fail
  with_reducible refine hcon.mono ?_
  rintro e w6 ⟨rfl, hb⟩
  clear c0 c1 c2 c3 c4 c5 hcon
  have HX6 := Lib.hid (HX5.out.below hb)
  have HT6 := Lib.hid (HT5.out.below hb)
  have HOB6 := Lib.hid (HOB5.out.below hb)
  have HB6 := Lib.hid (bel_then HB5.out hb)
  clear hb HB5 HX5 HT5 HOB5
  have HUL : Hid (∀ x y, X = some x → Y = some y → ∃ z, Z = some z ∧ z ≤ max x y) := fun x y h1 h2 => by
    have h := cph_ultra HGT.out.g HWB.out haN hbN hcN (x := x) (y := y) (by rw [HGE.out.1, HGE.out.2, HXX.out, h1]) (by rw [HGE.out.1, HGE.out.2, HYY.out, h2])
    rw [HGE.out.1, HGE.out.2, HZZ.out] at h
    exact h
  obtain ⟨K, HK⟩ : ∃ K, Hid (parK n L L.length = K) := ⟨_, rfl⟩
  have HKL : Hid (K.length = n) := by show _ = _; rw [← HK.out]; exact (parK_all HGT.out.g).len
  have HALL : Hid (a ≠ b2 → (K.getD a 0 = K.getD b2 0 ↔ ∃ x, X = some x)) := fun hne => by
    have h := cph_all HGT.out.g haN hbN hne
    rw [HGE.out.1, HGE.out.2, HXX.out, HK.out] at h
    exact h
  have hlab := grlabels_ok w6 g n L HOB6.out HGT.out.g
  rw [HK.out] at hlab
  have HLAB := Lib.hid hlab
  clear hlab
  have hn64 : n ≤ 9223372036854775807 := by omega
  by_cases hab : a = b2
  · subst hab
    have hX := HXX.out
    rw [cph_self] at hX
    subst hX
    have hYZ : Y = Z := by rw [← HYY.out, ← HZZ.out]
    subst hYZ
    cases Y with
    | none =>
      go_wp2_with fail
      with_reducible refine HLAB.out.mono ?_
      rintro e w7 ⟨v7, rfl, hnr⟩
      obtain ⟨a7, k7, b7, rfl, hlr⟩ := LbRow.of_owns hnr.own HKL.out
      have HL7 := Lib.hid hlr
      have hb := hnr.bel
      have HB7 := Lib.hid (bel_then HB6.out hb)
      have HOB7 := Lib.hid (HOB6.out.below hb)
      clear hnr hlr hb
      obtain rfl := HL7.out.adr (by omega)
      have e1 := HL7.out.cell a haN
      have e2 := HL7.out.cell a haN
      obtain ⟨p, HPV⟩ : ∃ p, Hid (K.getD a 0 = p) := ⟨_, rfl⟩
      obtain ⟨q, HQV⟩ : ∃ q, Hid (K.getD a 0 = q) := ⟨_, rfl⟩
      rw [HPV.out] at e1
      rw [HQV.out] at e2
      have z1 : (0 : Int) ≤ (a : Int) := by omega
      have z2 : (a : Int) < (n : Int) := by omega
      have z3 : (0 : Int) ≤ (a : Int) := by omega
      have z4 : (a : Int) < (n : Int) := by omega
      have hpq : p = q := by rw [← HPV.out, ← HQV.out]
      subst hpq
      have t5 : ((p : Int) == (p : Int)) = true := by simp
      have t5' : (p == p) = true := by simp
      have t6 : ((a : Int) == (a : Int)) = true := by simp
      have t6' : (a == a) = true := by simp
      go_wp2_with fail
      go_quiet (fail)
      have HB8 := Lib.hid (bel_then HB7.out (bel_drewN (Below.refl w7.heap.size w7) nq))
      have HOB8 := Lib.hid (HOB7.out.below (bel_drewN (Below.refl w7.heap.size w7) nq))
      generalize w7.drewN nq = w8 at *
      clear e1 e2
      go_wp2_with fail
      with_reducible refine (dworks_ok w8 (HE.out.below HB8.out) (HP.out.up HB8.out) (HQ.out.below HB8.out)).mono ?_
      rintro e wz ⟨rfl, hb⟩
      have HZ := Lib.hid (bel_then HB8.out hb)
      clear hb
      go_wp2_with fail
      go_ret
      exact ⟨rfl, HZ.out⟩
    | some y =>
      have hmx := run_max64 (-9223372036854775808) y
      obtain ⟨mx, HMX⟩ : ∃ mx, Hid (max (-9223372036854775808) y = mx) := ⟨_, rfl⟩
      rw [HMX.out] at hmx
      have t3 : decide (mx < y) = false := decide_eq_false (by have := HMX.out; omega)
      have t3' : ¬ mx < y := by have := HMX.out; omega
      go_wp2_with fail
      with_reducible refine HLAB.out.mono ?_
      rintro e w7 ⟨v7, rfl, hnr⟩
      obtain ⟨a7, k7, b7, rfl, hlr⟩ := LbRow.of_owns hnr.own HKL.out
      have HL7 := Lib.hid hlr
      have hb := hnr.bel
      have HB7 := Lib.hid (bel_then HB6.out hb)
      have HOB7 := Lib.hid (HOB6.out.below hb)
      clear hnr hlr hb
      obtain rfl := HL7.out.adr (by omega)
      have e1 := HL7.out.cell a haN
      have e2 := HL7.out.cell a haN
      obtain ⟨p, HPV⟩ : ∃ p, Hid (K.getD a 0 = p) := ⟨_, rfl⟩
      obtain ⟨q, HQV⟩ : ∃ q, Hid (K.getD a 0 = q) := ⟨_, rfl⟩
      rw [HPV.out] at e1
      rw [HQV.out] at e2
      have z1 : (0 : Int) ≤ (a : Int) := by omega
      have z2 : (a : Int) < (n : Int) := by omega
      have z3 : (0 : Int) ≤ (a : Int) := by omega
      have z4 : (a : Int) < (n : Int) := by omega
      have hpq : p = q := by rw [← HPV.out, ← HQV.out]
      subst hpq
      have t5 : ((p : Int) == (p : Int)) = true := by simp
      have t5' : (p == p) = true := by simp
      have t6 : ((a : Int) == (a : Int)) = true := by simp
      have t6' : (a == a) = true := by simp
      go_wp2_with fail
      go_quiet (fail)
      have HB8 := Lib.hid (bel_then HB7.out (bel_drewN (Below.refl w7.heap.size w7) nq))
      have HOB8 := Lib.hid (HOB7.out.below (bel_drewN (Below.refl w7.heap.size w7) nq))
      generalize w7.drewN nq = w8 at *
      clear e1 e2
      go_wp2_with fail
      with_reducible refine (dworks_ok w8 (HE.out.below HB8.out) (HP.out.up HB8.out) (HQ.out.below HB8.out)).mono ?_
      rintro e wz ⟨rfl, hb⟩
      have HZ := Lib.hid (bel_then HB8.out hb)
      clear hb
      go_wp2_with fail
      go_ret
      exact ⟨rfl, HZ.out⟩
  · have HNE := Lib.hid hab
    clear hab
    cases X with
    | none =>
      go_wp2_with fail
      with_reducible refine HLAB.out.mono ?_
      rintro e w7 ⟨v7, rfl, hnr⟩
      obtain ⟨a7, k7, b7, rfl, hlr⟩ := LbRow.of_owns hnr.own HKL.out
      have HL7 := Lib.hid hlr
      have hb := hnr.bel
      have HB7 := Lib.hid (bel_then HB6.out hb)
      have HOB7 := Lib.hid (HOB6.out.below hb)
      clear hnr hlr hb
      obtain rfl := HL7.out.adr (by omega)
      have e1 := HL7.out.cell a haN
      have e2 := HL7.out.cell b2 hbN
      obtain ⟨p, HPV⟩ : ∃ p, Hid (K.getD a 0 = p) := ⟨_, rfl⟩
      obtain ⟨q, HQV⟩ : ∃ q, Hid (K.getD b2 0 = q) := ⟨_, rfl⟩
      rw [HPV.out] at e1
      rw [HQV.out] at e2
      have z1 : (0 : Int) ≤ (a : Int) := by omega
      have z2 : (a : Int) < (n : Int) := by omega
      have z3 : (0 : Int) ≤ (b2 : Int) := by omega
      have z4 : (b2 : Int) < (n : Int) := by omega
      have hpq : p ≠ q := fun e => by
        obtain ⟨x, hx⟩ := (HALL.out HNE.out).1 (by rw [HPV.out, HQV.out]; exact e)
        cases hx
      have t5 : ((p : Int) == (q : Int)) = false := by rw [beq_eq_false_iff_ne]; omega
      have t5' : (p == q) = false := by rw [beq_eq_false_iff_ne]; exact hpq
      have t6 : ((a : Int) == (b2 : Int)) = false := by rw [beq_eq_false_iff_ne]; have := HNE.out; omega
      have t6' : (a == b2) = false := by rw [beq_eq_false_iff_ne]; exact HNE.out
      go_wp2_with fail
      go_quiet (fail)
      have HB8 := Lib.hid (bel_then HB7.out (bel_drewN (Below.refl w7.heap.size w7) nq))
      have HOB8 := Lib.hid (HOB7.out.below (bel_drewN (Below.refl w7.heap.size w7) nq))
      generalize w7.drewN nq = w8 at *
      clear e1 e2
      go_wp2_with fail
      with_reducible refine (dworks_ok w8 (HE.out.below HB8.out) (HP.out.up HB8.out) (HQ.out.below HB8.out)).mono ?_
      rintro e wz ⟨rfl, hb⟩
      have HZ := Lib.hid (bel_then HB8.out hb)
      clear hb
      go_wp2_with fail
      go_ret
      exact ⟨rfl, HZ.out⟩
    | some x =>
      cases Y with
      | none =>
        go_wp2_with fail
        with_reducible refine HLAB.out.mono ?_
        rintro e w7 ⟨v7, rfl, hnr⟩
        obtain ⟨a7, k7, b7, rfl, hlr⟩ := LbRow.of_owns hnr.own HKL.out
        have HL7 := Lib.hid hlr
        have hb := hnr.bel
        have HB7 := Lib.hid (bel_then HB6.out hb)
        have HOB7 := Lib.hid (HOB6.out.below hb)
        clear hnr hlr hb
        obtain rfl := HL7.out.adr (by omega)
        have e1 := HL7.out.cell a haN
        have e2 := HL7.out.cell b2 hbN
        obtain ⟨p, HPV⟩ : ∃ p, Hid (K.getD a 0 = p) := ⟨_, rfl⟩
        obtain ⟨q, HQV⟩ : ∃ q, Hid (K.getD b2 0 = q) := ⟨_, rfl⟩
        rw [HPV.out] at e1
        rw [HQV.out] at e2
        have z1 : (0 : Int) ≤ (a : Int) := by omega
        have z2 : (a : Int) < (n : Int) := by omega
        have z3 : (0 : Int) ≤ (b2 : Int) := by omega
        have z4 : (b2 : Int) < (n : Int) := by omega
        have hpq : p = q := by
          have := (HALL.out HNE.out).2 ⟨_, rfl⟩
          rw [HPV.out, HQV.out] at this
          exact this
        subst hpq
        have t5 : ((p : Int) == (p : Int)) = true := by simp
        have t5' : (p == p) = true := by simp
        have t6 : ((a : Int) == (b2 : Int)) = false := by rw [beq_eq_false_iff_ne]; have := HNE.out; omega
        have t6' : (a == b2) = false := by rw [beq_eq_false_iff_ne]; exact HNE.out
        have hxl : -5 ≤ x ∧ x ≤ 10 := by
          obtain ⟨i, hi, e⟩ := cph_hgt HGT.out.g haN hbN HNE.out (x := x) (by rw [HGE.out.1, HGE.out.2]; exact HXX.out)
          have := HWL.out i hi
          omega
        go_wp2_with fail
        go_quiet (fail)
        have HB8 := Lib.hid (bel_then HB7.out (bel_drewN (Below.refl w7.heap.size w7) nq))
        have HOB8 := Lib.hid (HOB7.out.below (bel_drewN (Below.refl w7.heap.size w7) nq))
        generalize w7.drewN nq = w8 at *
        clear e1 e2
        go_wp2_with fail
        clear t5 t5' t6 t6'
        obtain ⟨K1, HK1⟩ : ∃ K1, Hid (parK n (undL L x) (undL L x).length = K1) := ⟨_, rfl⟩
        obtain ⟨K2, HK2⟩ : ∃ K2, Hid (parK n (undL L (x - 1)) (undL L (x - 1)).length = K2) := ⟨_, rfl⟩
        have HKL1 : Hid (K1.length = n) := by show _ = _; rw [← HK1.out]; exact (parK_all (und_ok HGT.out.g x)).len
        have HKL2 : Hid (K2.length = n) := by show _ = _; rw [← HK2.out]; exact (parK_all (und_ok HGT.out.g (x - 1))).len
        have HEQ1 : Hid (K1.getD a 0 = K1.getD b2 0) := by
          show _ = _
          have h := (cph_at HGT.out.g haN hbN HNE.out x).2 ⟨x, by rw [HGE.out.1, HGE.out.2]; exact HXX.out, Int.le_refl _⟩
          rw [HK1.out] at h
          exact h
        have HNE2 : Hid (K2.getD a 0 ≠ K2.getD b2 0) := fun h => by
          rw [← HK2.out] at h
          obtain ⟨y, h1, h2⟩ := (cph_at HGT.out.g haN hbN HNE.out (x - 1)).1 h
          rw [HGE.out.1, HGE.out.2, HXX.out] at h1
          injection h1 with h1
          omega
        obtain ⟨x1, hx1⟩ : ∃ x1, x - 1 = x1 := ⟨_, rfl⟩
        have HXO := Lib.hid hx1
        have wx1 : IntKind.i64.wrap x1 = x1 := IntWalk.i64_in _ (by omega)
        have wx2 : wrap64 x1 = x1 := by unfold wrap64; omega
        rw [HXO.out] at HK2
        go_wp2_with fail
        with_reducible refine (under_ok w8 g n L HOB8.out HGT.out.g x).mono ?_
        rintro e w9 ⟨⟨g9, rfl, hg9⟩, hb⟩
        have HG9 := Lib.hid hg9
        have HOB9 := Lib.hid (HOB8.out.below hb)
        have HB9 := Lib.hid (bel_then HB8.out hb)
        clear hg9 hb
        go_wp2_with fail
        have hlab := grlabels_ok w9 g9 n (undL L x) HG9.out (und_ok HGT.out.g x)
        rw [HK1.out] at hlab
        with_reducible refine hlab.mono ?_
        rintro e w10 ⟨v10, rfl, hnr⟩
        clear hlab
        obtain ⟨a10, k10, b10, rfl, hlr⟩ := LbRow.of_owns hnr.own HKL1.out
        have HL10 := Lib.hid hlr
        have hb := hnr.bel
        have HOB10 := Lib.hid (HOB9.out.below hb)
        have HB10 := Lib.hid (bel_then HB9.out hb)
        clear hnr hlr hb
        go_wp2_with fail
        with_reducible refine (under_ok w10 g n L HOB10.out HGT.out.g x1).mono ?_
        rintro e w11 ⟨⟨g11, rfl, hg11⟩, hb⟩
        have HG11 := Lib.hid hg11
        have HL11 := Lib.hid (HL10.out.below hb)
        have HB11 := Lib.hid (bel_then HB10.out hb)
        clear hg11 hb
        go_wp2_with fail
        have hlab := grlabels_ok w11 g11 n (undL L x1) HG11.out (und_ok HGT.out.g x1)
        rw [HK2.out] at hlab
        with_reducible refine hlab.mono ?_
        rintro e w12 ⟨v12, rfl, hnr⟩
        clear hlab
        obtain ⟨a12, k12, b12, rfl, hlr⟩ := LbRow.of_owns hnr.own HKL2.out
        have HM12 := Lib.hid hlr
        have hb := hnr.bel
        have HL12 := Lib.hid (HL11.out.below hb)
        have HB12 := Lib.hid (bel_then HB11.out hb)
        clear hnr hlr hb hx1 wx1 wx2
        obtain rfl := HL12.out.adr (by omega)
        obtain rfl := HM12.out.adr (by omega)
        have e1 := HL12.out.cell a haN
        have e2 := HL12.out.cell b2 hbN
        have e3 := HM12.out.cell a haN
        have e4 := HM12.out.cell b2 hbN
        rw [HEQ1.out] at e1
        obtain ⟨r1, HR1⟩ : ∃ r1, Hid (K1.getD b2 0 = r1) := ⟨_, rfl⟩
        obtain ⟨r2, HR2⟩ : ∃ r1, Hid (K2.getD a 0 = r1) := ⟨_, rfl⟩
        obtain ⟨r3, HR3⟩ : ∃ r1, Hid (K2.getD b2 0 = r1) := ⟨_, rfl⟩
        rw [HR1.out] at e1 e2
        rw [HR2.out] at e3
        rw [HR3.out] at e4
        have hne3 : r2 ≠ r3 := by rw [← HR2.out, ← HR3.out]; exact HNE2.out
        have t5 : ((r1 : Int) == (r1 : Int)) = true := by simp
        have t6 : ((r2 : Int) != (r3 : Int)) = true := by rw [bne_iff_ne]; omega
        have t6' : (r2 != r3) = true := by rw [bne_iff_ne]; exact hne3
        have t6'' : ((r2 : Int) == (r3 : Int)) = false := by rw [beq_eq_false_iff_ne]; omega
        have t7 : (r2 == r3) = false := by rw [beq_eq_false_iff_ne]; exact hne3
        have E1 := Lib.hid e1
        have E2 := Lib.hid e2
        have E3 := Lib.hid e3
        have E4 := Lib.hid e4
        clear hne3
        go_wp2_with fail
        go_region_held3 (fun w' => w'.cell? ⟨b10, a, none⟩ = some (.int .i64 (r1 : Int)) ∧ w'.cell? ⟨b10, b2, none⟩ = some (.int .i64 (r1 : Int)) ∧ w'.cell? ⟨b12, a, none⟩ = some (.int .i64 (r2 : Int)) ∧ w'.cell? ⟨b12, b2, none⟩ = some (.int .i64 (r3 : Int)) ∧ Below w12.heap.size w12 w')
          (((try go_split_ands); refine keep4B E1 E2 E3 E4 ?_; first | assumption | exact (Below.refl _ _).drew | exact Below.drew (by assumption)))
          (first
            | (go_at_call 13; (try go_split_ands); have hbw := (by assumption : Below w12.heap.size w12 _); (with_reducible refine (dworks_ok _ (HE.out.below (bel_then HB12.out hbw)) (HP.out.up (bel_then HB12.out hbw)) (HQ.out.below (bel_then HB12.out hbw))).mono ?_); rintro e wz ⟨rfl, hx⟩; have hz := bel_then hbw hx; clear hbw hx))
        all_goals
          have HF := Lib.hid (bel_then HB12.out hz)
          go_wp2_with fail
          go_ret
          exact ⟨rfl, HF.out⟩
      | some y =>
        obtain ⟨z, rfl, hz⟩ := HUL.out x y rfl rfl
        have hmx := run_max64 x y
        obtain ⟨mx, HMX⟩ : ∃ mx, Hid (max x y = mx) := ⟨_, rfl⟩
        rw [HMX.out] at hmx hz
        have t3 : decide (mx < z) = false := decide_eq_false (by omega)
        have t3' : ¬ mx < z := by omega
        clear hz
        go_wp2_with fail
        with_reducible refine HLAB.out.mono ?_
        rintro e w7 ⟨v7, rfl, hnr⟩
        obtain ⟨a7, k7, b7, rfl, hlr⟩ := LbRow.of_owns hnr.own HKL.out
        have HL7 := Lib.hid hlr
        have hb := hnr.bel
        have HB7 := Lib.hid (bel_then HB6.out hb)
        have HOB7 := Lib.hid (HOB6.out.below hb)
        clear hnr hlr hb
        obtain rfl := HL7.out.adr (by omega)
        have e1 := HL7.out.cell a haN
        have e2 := HL7.out.cell b2 hbN
        obtain ⟨p, HPV⟩ : ∃ p, Hid (K.getD a 0 = p) := ⟨_, rfl⟩
        obtain ⟨q, HQV⟩ : ∃ q, Hid (K.getD b2 0 = q) := ⟨_, rfl⟩
        rw [HPV.out] at e1
        rw [HQV.out] at e2
        have z1 : (0 : Int) ≤ (a : Int) := by omega
        have z2 : (a : Int) < (n : Int) := by omega
        have z3 : (0 : Int) ≤ (b2 : Int) := by omega
        have z4 : (b2 : Int) < (n : Int) := by omega
        have hpq : p = q := by
          have := (HALL.out HNE.out).2 ⟨_, rfl⟩
          rw [HPV.out, HQV.out] at this
          exact this
        subst hpq
        have t5 : ((p : Int) == (p : Int)) = true := by simp
        have t5' : (p == p) = true := by simp
        have t6 : ((a : Int) == (b2 : Int)) = false := by rw [beq_eq_false_iff_ne]; have := HNE.out; omega
        have t6' : (a == b2) = false := by rw [beq_eq_false_iff_ne]; exact HNE.out
        have hxl : -5 ≤ x ∧ x ≤ 10 := by
          obtain ⟨i, hi, e⟩ := cph_hgt HGT.out.g haN hbN HNE.out (x := x) (by rw [HGE.out.1, HGE.out.2]; exact HXX.out)
          have := HWL.out i hi
          omega
        go_wp2_with fail
        go_quiet (fail)
        have HB8 := Lib.hid (bel_then HB7.out (bel_drewN (Below.refl w7.heap.size w7) nq))
        have HOB8 := Lib.hid (HOB7.out.below (bel_drewN (Below.refl w7.heap.size w7) nq))
        generalize w7.drewN nq = w8 at *
        clear e1 e2
        go_wp2_with fail
        clear t5 t5' t6 t6'
        obtain ⟨K1, HK1⟩ : ∃ K1, Hid (parK n (undL L x) (undL L x).length = K1) := ⟨_, rfl⟩
        obtain ⟨K2, HK2⟩ : ∃ K2, Hid (parK n (undL L (x - 1)) (undL L (x - 1)).length = K2) := ⟨_, rfl⟩
        have HKL1 : Hid (K1.length = n) := by show _ = _; rw [← HK1.out]; exact (parK_all (und_ok HGT.out.g x)).len
        have HKL2 : Hid (K2.length = n) := by show _ = _; rw [← HK2.out]; exact (parK_all (und_ok HGT.out.g (x - 1))).len
        have HEQ1 : Hid (K1.getD a 0 = K1.getD b2 0) := by
          show _ = _
          have h := (cph_at HGT.out.g haN hbN HNE.out x).2 ⟨x, by rw [HGE.out.1, HGE.out.2]; exact HXX.out, Int.le_refl _⟩
          rw [HK1.out] at h
          exact h
        have HNE2 : Hid (K2.getD a 0 ≠ K2.getD b2 0) := fun h => by
          rw [← HK2.out] at h
          obtain ⟨y, h1, h2⟩ := (cph_at HGT.out.g haN hbN HNE.out (x - 1)).1 h
          rw [HGE.out.1, HGE.out.2, HXX.out] at h1
          injection h1 with h1
          omega
        obtain ⟨x1, hx1⟩ : ∃ x1, x - 1 = x1 := ⟨_, rfl⟩
        have HXO := Lib.hid hx1
        have wx1 : IntKind.i64.wrap x1 = x1 := IntWalk.i64_in _ (by omega)
        have wx2 : wrap64 x1 = x1 := by unfold wrap64; omega
        rw [HXO.out] at HK2
        go_wp2_with fail
        with_reducible refine (under_ok w8 g n L HOB8.out HGT.out.g x).mono ?_
        rintro e w9 ⟨⟨g9, rfl, hg9⟩, hb⟩
        have HG9 := Lib.hid hg9
        have HOB9 := Lib.hid (HOB8.out.below hb)
        have HB9 := Lib.hid (bel_then HB8.out hb)
        clear hg9 hb
        go_wp2_with fail
        have hlab := grlabels_ok w9 g9 n (undL L x) HG9.out (und_ok HGT.out.g x)
        rw [HK1.out] at hlab
        with_reducible refine hlab.mono ?_
        rintro e w10 ⟨v10, rfl, hnr⟩
        clear hlab
        obtain ⟨a10, k10, b10, rfl, hlr⟩ := LbRow.of_owns hnr.own HKL1.out
        have HL10 := Lib.hid hlr
        have hb := hnr.bel
        have HOB10 := Lib.hid (HOB9.out.below hb)
        have HB10 := Lib.hid (bel_then HB9.out hb)
        clear hnr hlr hb
        go_wp2_with fail
        with_reducible refine (under_ok w10 g n L HOB10.out HGT.out.g x1).mono ?_
        rintro e w11 ⟨⟨g11, rfl, hg11⟩, hb⟩
        have HG11 := Lib.hid hg11
        have HL11 := Lib.hid (HL10.out.below hb)
        have HB11 := Lib.hid (bel_then HB10.out hb)
        clear hg11 hb
        go_wp2_with fail
        have hlab := grlabels_ok w11 g11 n (undL L x1) HG11.out (und_ok HGT.out.g x1)
        rw [HK2.out] at hlab
        with_reducible refine hlab.mono ?_
        rintro e w12 ⟨v12, rfl, hnr⟩
        clear hlab
        obtain ⟨a12, k12, b12, rfl, hlr⟩ := LbRow.of_owns hnr.own HKL2.out
        have HM12 := Lib.hid hlr
        have hb := hnr.bel
        have HL12 := Lib.hid (HL11.out.below hb)
        have HB12 := Lib.hid (bel_then HB11.out hb)
        clear hnr hlr hb hx1 wx1 wx2
        obtain rfl := HL12.out.adr (by omega)
        obtain rfl := HM12.out.adr (by omega)
        have e1 := HL12.out.cell a haN
        have e2 := HL12.out.cell b2 hbN
        have e3 := HM12.out.cell a haN
        have e4 := HM12.out.cell b2 hbN
        rw [HEQ1.out] at e1
        obtain ⟨r1, HR1⟩ : ∃ r1, Hid (K1.getD b2 0 = r1) := ⟨_, rfl⟩
        obtain ⟨r2, HR2⟩ : ∃ r1, Hid (K2.getD a 0 = r1) := ⟨_, rfl⟩
        obtain ⟨r3, HR3⟩ : ∃ r1, Hid (K2.getD b2 0 = r1) := ⟨_, rfl⟩
        rw [HR1.out] at e1 e2
        rw [HR2.out] at e3
        rw [HR3.out] at e4
        have hne3 : r2 ≠ r3 := by rw [← HR2.out, ← HR3.out]; exact HNE2.out
        have t5 : ((r1 : Int) == (r1 : Int)) = true := by simp
        have t6 : ((r2 : Int) != (r3 : Int)) = true := by rw [bne_iff_ne]; omega
        have t6' : (r2 != r3) = true := by rw [bne_iff_ne]; exact hne3
        have t6'' : ((r2 : Int) == (r3 : Int)) = false := by rw [beq_eq_false_iff_ne]; omega
        have t7 : (r2 == r3) = false := by rw [beq_eq_false_iff_ne]; exact hne3
        have E1 := Lib.hid e1
        have E2 := Lib.hid e2
        have E3 := Lib.hid e3
        have E4 := Lib.hid e4
        clear hne3
        go_wp2_with fail
        go_region_held3 (fun w' => w'.cell? ⟨b10, a, none⟩ = some (.int .i64 (r1 : Int)) ∧ w'.cell? ⟨b10, b2, none⟩ = some (.int .i64 (r1 : Int)) ∧ w'.cell? ⟨b12, a, none⟩ = some (.int .i64 (r2 : Int)) ∧ w'.cell? ⟨b12, b2, none⟩ = some (.int .i64 (r3 : Int)) ∧ Below w12.heap.size w12 w')
          (((try go_split_ands); refine keep4B E1 E2 E3 E4 ?_; first | assumption | exact (Below.refl _ _).drew | exact Below.drew (by assumption)))
          (first
            | (go_at_call 13; (try go_split_ands); have hbw := (by assumption : Below w12.heap.size w12 _); (with_reducible refine (dworks_ok _ (HE.out.below (bel_then HB12.out hbw)) (HP.out.up (bel_then HB12.out hbw)) (HQ.out.below (bel_then HB12.out hbw))).mono ?_); rintro e wz ⟨rfl, hx⟩; have hz := bel_then hbw hx; clear hbw hx))
        all_goals
          have HF := Lib.hid (bel_then HB12.out hz)
          go_wp2_with fail
          go_ret
          exact ⟨rfl, HF.out⟩

end Go.Proofs.YthacjealoomioaaGreatDoor
