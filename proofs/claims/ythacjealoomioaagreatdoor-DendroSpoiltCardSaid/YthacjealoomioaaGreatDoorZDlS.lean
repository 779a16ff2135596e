/- DlS. -/
import Derived.Test.YthacjealoomioaaGreatDoorZDlA
import Derived.Test.YthacjealoomioaaGreatDoorZGs
import Derived.Deep.RegionHeld3
import Derived.BigQuiet
/- The statement DendroSpoilt: the walk. (printed by dls.py) -/
namespace Go.Proofs.YthacjealoomioaaGreatDoor
set_option linter.unusedVariables false
set_option linter.unusedSimpArgs false
open Go.RowKit

theorem tmodN2 {a b : Nat} (hb : 0 < b) : ∃ q : Nat, Int.tmod (a : Int) (b : Int) = (q : Int) ∧ q < b := ⟨a % b, by rw [Int.tmod_eq_emod_of_nonneg (by omega)]; rfl, Nat.mod_lt _ hb⟩
theorem tree_none_keep {s : List UInt8} {o : Option Tr} {t : Tr} (h : keepT s o = some t) : txtO t = some s := by
  unfold keepT at h
  cases o with
  | none => cases h
  | some t' =>
    simp only at h
    split at h
    · rename_i hc
      injection h with h
      subst h
      exact hc
    · cases h
theorem ba_mk (s : ByteArray) : (⟨s.data.toList.toArray⟩ : ByteArray) = s := rfl
theorem txt_ls {t : Tr} {s : List UInt8} (h : txtO t = some s) : ∃ ls, lsL t = some ls := by
  unfold txtO at h
  cases hl : lsL t with
  | none => rw [hl] at h; cases h
  | some ls => exact ⟨ls, rfl⟩

set_option maxHeartbeats 16000000 in
set_option maxRecDepth 100000 in
theorem spoilt_law (w : World) (hE : ErrV w) (hP : Pow10 w.heap.size w) (hT64 : Tab64 w) (sz : Nat) (hsz : sz ≤ 255) (ao : Option Addr) (len cap b off : Nat) (F : Nat → Nat → Nat) (hr : BRow w ao len b off F) (wh whr tob : Nat) (hwh : wh ≤ 255) (hwr : whr ≤ 65535) (hto : tob ≤ 255) :
    Calls Tryz.prog 8 #[.int .u8 sz, .slice ao len cap, .int .u8 wh, .int .u16 whr, .int .u8 tob] w (RetB (.bool true) w) := by
  have HE := Lib.hid hE
  have HP := Lib.hid hP
  have HQ := Lib.hid hT64
  have HR := Lib.hid hr
  clear hE hP hT64 hr
  go_enter Tryz.func8, Tryz.ntmps8
  go_wp2_with fail
  with_reducible refine (built_ok w sz hsz ao len cap b off F HR.out).mono ?_
  rintro e w1 ⟨n, m, L, T, ls, A, g, rfl, hn, hgt, ht, hc, hob, hwl, hb⟩
  have HAG : Hid (A.agg T = .agg #[.int .i64 (n : Int), .slice A.l.o m A.l.c, .slice A.r.o m A.r.c, .slice A.p.o m A.p.c, .slice A.h.o m A.h.c, .slice A.s.o m A.s.c]) := hgt.agg A
  have HBX := Lib.hid (bel_alloc w1 (.cells #[.int .i64 (n : Int), .slice A.l.o m A.l.c, .slice A.r.o m A.r.c, .slice A.p.o m A.p.c, .slice A.h.o m A.h.c, .slice A.s.o m A.s.c] 27))
  have HX := Lib.hid (GBox.new w1 n m A)
  have HT := Lib.hid (ht.below HBX.out)
  have HC := Lib.hid hc
  have HOB := Lib.hid (hob.below HBX.out)
  have HWL := Lib.hid hwl
  have HGT := Lib.hid hgt
  have H64 : Hid (Hgt64 T) := hgt.h64 hwl
  have HN5 := Lib.hid hn
  have HB := Lib.hid (bel_then hb HBX.out)
  have hm2 := hgt.two
  have hnm := hgt.tv.nm
  have hn5 := hn.2
  clear hn hgt ht hc hob hwl hb HR hsz
  obtain ⟨c0, c1, c2, c3, c4, c5⟩ := HX.out.six
  go_upto_region 4 with fail
  clear HBX
  generalize w1.heap.size = xb at *
  generalize (w1.alloc (.cells #[.int .i64 (n : Int), .slice A.l.o m A.l.c, .slice A.r.o m A.r.c, .slice A.p.o m A.p.c, .slice A.h.o m A.h.c, .slice A.s.o m A.s.c] 27)) = W at *
  obtain ⟨x, HXX⟩ : ∃ x, Hid (txtO T = some x ∧ 0 < x.length ∧ x.length ≤ 204800) := by
    have e := txtO_tv HGT.out.tv
    have hcf := frs_cf HGT.out.tv (fun y hy => H64.out y (by rw [HGT.out.tv.hl]; exact hy))
    refine ⟨_, ⟨e, ?_, ?_⟩⟩
    · have h1 := hcf.lvs
      have hn1 := HN5.out.1
      generalize frs T n m ls = FF at *
      cases FF with
      | nil => have : fLvs [] = n := h1; simp [fLvs] at this; omega
      | cons b FF => rw [show fTxt (b :: FF) = b.txt ++ [59] ++ fTxt FF by simp [fTxt]]; simp; omega
    · have h1 := fTxt_len (frs T n m ls) (fun b hb => hcf.fit b hb)
      have h2 := hcf.lvs
      have h3 := hcf.n4
      omega
  have hcon := text_ok W (HP.out.up HB.out) A T HT.out H64.out
  rw [HAG.out, HXX.out.1, txR] at hcon
  obtain ⟨S, HS⟩ : ∃ S : ByteArray, Hid ((⟨x.toArray⟩ : ByteArray) = S) := ⟨_, rfl⟩
  have hsz2 : S.size = x.length := by rw [← HS.out]; rfl
  have hx0 := HXX.out.2.1
  have hx2 := HXX.out.2.2
  rw [HS.out] at hcon
  rw [← hsz2] at hx0 hx2
  obtain ⟨N, hN⟩ : ∃ N, S.size = N := ⟨_, rfl⟩
  rw [hN] at hx0 hx2
  obtain ⟨i, hi, hiN⟩ := tmodN2 (a := whr) hx0
  obtain ⟨r, hr3, hr4⟩ := tmodN2 (a := wh) (b := 3) (by omega)
  have hr3' : Int.tmod (wh : Int) 3 = (r : Int) := hr3
  have tN : ((N : Int) == 0) = false := by rw [beq_eq_false_iff_ne]; omega
  have tN' : (N : Int) ≠ 0 := by omega
  have tN2 : decide ((N : Int) = 0) = false := decide_eq_false tN'
  have wi : IntKind.i64.wrap (i : Int) = (i : Int) := IntWalk.i64_in _ (by omega)
  have wr2 : IntKind.u8.wrap (r : Int) = (r : Int) := by unfold IntKind.wrap; simp [IntKind.signed, IntKind.bits]; omega
  clear hsz2 hr3
  go_wp2_with fail
  with_reducible refine hcon.mono ?_
  rintro e w2 ⟨rfl, hb⟩
  have HX2 := Lib.hid (HX.out.below hb)
  have HB2 := Lib.hid (bel_then HB.out hb)
  clear hb HB HX
  clear c0 c1 c2 c3 c4 c5 hcon HT HC HOB H64
  go_upto_region 8 with fail
  clear hi tN tN' tN2
  obtain ⟨i1, HI1⟩ : ∃ i1, Hid (i + 1 = i1) := ⟨_, rfl⟩
  have ei : (i : Int) + 1 = (i1 : Int) := by have := HI1.out; omega
  have hi1N : i1 ≤ N := by have := HI1.out; omega
  have wi1 : IntKind.i64.wrap (i1 : Int) = (i1 : Int) := IntWalk.i64_in _ (by omega)
  have z1 : (0 : Int) ≤ (i : Int) := by omega
  have z2 : (i : Int) ≤ (N : Int) := by omega
  have z3 : (0 : Int) ≤ (i1 : Int) := by omega
  have z4 : (i1 : Int) ≤ (N : Int) := by omega
  have z5 : (i : Int) ≤ (i1 : Int) := by have := HI1.out; omega
  have q1 : (S.extract 0 i).size ≤ 204800 := by rw [ByteArray.size_extract]; omega
  have q3 : (S.extract i1 N).size ≤ 204800 := by rw [ByteArray.size_extract]; omega
  have q4 : (S.extract i i1).size ≤ 204800 := by rw [ByteArray.size_extract]; omega
  have q5 : (S.extract i N).size ≤ 204800 := by rw [ByteArray.size_extract]; omega
  go_upto_block 0 with (fail)
  obtain ⟨wx, hwx⟩ : ∃ wx, w2 = wx := ⟨_, rfl⟩
  subst hwx
  clear hr3'
  go_cut [14] (fun s wz => ∃ S1 : ByteArray, s = .string S1 ∧ S1.size ≤ 700000 ∧ Below w2.heap.size w2 wz)
  case first =>
   obtain rfl | rfl | rfl : r = 0 ∨ r = 1 ∨ r = 2 := by omega
   · obtain ⟨P2, HP2⟩ : ∃ P2 : ByteArray, Hid (P2 = ⟨#[UInt8.ofNat tob]⟩) := ⟨_, rfl⟩
     have q2 : P2.size = 1 := by rw [HP2.out]; rfl
     obtain ⟨P1, HP1⟩ : ∃ P1, S.extract 0 i = P1 := ⟨_, rfl⟩
     obtain ⟨P3, HP3⟩ : ∃ P3, S.extract i1 N = P3 := ⟨_, rfl⟩
     rw [HP1] at q1
     rw [HP3] at q3
     have q6 : (P1 ++ P2).size ≤ 204801 := by rw [ByteArray.size_append]; omega
     have hadd1 : ∀ w, (Op.stringOp .add P1 P2).run Tryz.prog w = .ok (.string (P1 ++ P2)) w := fun w => run_string_add_sum w _ _ (by omega)
     have hadd2 : ∀ w, (Op.stringOp .add (P1 ++ P2) P3).run Tryz.prog w = .ok (.string (P1 ++ P2 ++ P3)) w := fun w => run_string_add_sum w _ _ (by omega)
     have HSZ : Hid ((P1 ++ P2 ++ P3).size ≤ 500000) := by show _ ≤ _; rw [ByteArray.size_append]; omega
     go_wp2_with fail
     have hcv : (convert 56 9 (.slice (some ⟨w2.heap.size, 0, none⟩) 1 1)).run Tryz.prog ((w2.alloc (.cells #[.int .u8 (tob : Int)] 5)).drew) = .ok (.string P2) ((w2.alloc (.cells #[.int .u8 (tob : Int)] 5)).drew) := by
       rw [HP2.out]
       exact run_convert_bytes_back (P := Tryz.prog) ((w2.alloc (.cells #[.int .u8 (tob : Int)] 5)).drew) 56 9 5 ⟨w2.heap.size, 0, none⟩ 1 [UInt8.ofNat tob] Tryz.underlying56 Tryz.underlying5 Tryz.underlying9 (fun j hj => by
         have hj0 : j = 0 := by simpa using hj
         subst hj0
         have := (Blk.new w2 5 [.int .u8 (tob : Int)]).drew.cell (i := 0) rfl
         rw [show ((⟨w2.heap.size, 0, none⟩ : Addr).add 0) = ⟨w2.heap.size, 0, none⟩ by simp [Addr.add]]
         rw [this]
         simp only [List.getElem_cons_zero]
         rw [show (UInt8.ofNat tob).toNat = tob by simp; omega])
     have HBQ : Hid (Below w2.heap.size w2 ((w2.alloc (.cells #[.int .u8 (tob : Int)] 5)).drew)) := (bel_alloc w2 _).drew
     go_region
     all_goals
       go_wp2_with fail
       go_meet
       exact ⟨_, rfl, by have := HSZ.out; omega, HBQ.out⟩
   · obtain ⟨P1, HP1⟩ : ∃ P1, S.extract 0 i = P1 := ⟨_, rfl⟩
     obtain ⟨P3, HP3⟩ : ∃ P3, S.extract i1 N = P3 := ⟨_, rfl⟩
     rw [HP1] at q1
     rw [HP3] at q3
     have hadd1 : ∀ w, (Op.stringOp .add P1 P3).run Tryz.prog w = .ok (.string (P1 ++ P3)) w := fun w => run_string_add_sum w _ _ (by omega)
     have HSZ : Hid ((P1 ++ P3).size ≤ 500000) := by show _ ≤ _; rw [ByteArray.size_append]; omega
     go_wp2_with fail
     go_quiet (fail)
     have hb : Below w2.heap.size w2 (w2.drewN nq) := bel_drewN (Below.refl _ _) nq
     go_wp2_with fail
     go_meet
     exact ⟨_, rfl, by have := HSZ.out; omega, hb⟩
   · obtain ⟨P1, HP1⟩ : ∃ P1, S.extract 0 i = P1 := ⟨_, rfl⟩
     obtain ⟨P2, HP2⟩ : ∃ P2, S.extract i i1 = P2 := ⟨_, rfl⟩
     obtain ⟨P3, HP3⟩ : ∃ P3, S.extract i N = P3 := ⟨_, rfl⟩
     rw [HP1] at q1
     rw [HP2] at q4
     rw [HP3] at q5
     have q6 : (P1 ++ P2).size ≤ 409600 := by rw [ByteArray.size_append]; omega
     have hadd1 : ∀ w, (Op.stringOp .add P1 P2).run Tryz.prog w = .ok (.string (P1 ++ P2)) w := fun w => run_string_add_sum w _ _ (by omega)
     have hadd2 : ∀ w, (Op.stringOp .add (P1 ++ P2) P3).run Tryz.prog w = .ok (.string (P1 ++ P2 ++ P3)) w := fun w => run_string_add_sum w _ _ (by omega)
     have HSZ : Hid ((P1 ++ P2 ++ P3).size ≤ 700000) := by show _ ≤ _; rw [ByteArray.size_append]; omega
     go_wp2_with fail
     go_quiet (fail)
     have hb : Below w2.heap.size w2 (w2.drewN nq) := bel_drewN (Below.refl _ _) nq
     go_wp2_with fail
     go_meet
     exact ⟨_, rfl, by have := HSZ.out; omega, hb⟩
  case rest =>
    obtain ⟨S1, rfl, hs1, hb⟩ := hcut
    have HB3 := Lib.hid (bel_then HB2.out hb)
    clear hb HB2 HX2
    go_wp2_with fail
    with_reducible refine (dparse_ok wc (HE.out.below HB3.out) (HP.out.up HB3.out) S1 (by omega)).mono ?_
    rintro e w4 ⟨hno, hok, hb⟩
    have HB4 := Lib.hid (bel_then HB3.out hb)
    clear hb HB3
    cases hk : keepT S1.data.toList (progT (runB S1.data.toList 0 S1.data.toList rd0)) with
    | none =>
      obtain rfl := hno hk
      have HBY := Lib.hid (bel_alloc w4 (.cells #[.int .i64 0, .slice none 0 0, .slice none 0 0, .slice none 0 0, .slice none 0 0, .slice none 0 0] 27))
      have HB5 := Lib.hid (bel_then HB4.out HBY.out)
      have hz := Blk.new w4 27 [.int .i64 0, .slice none 0 0, .slice none 0 0, .slice none 0 0, .slice none 0 0, .slice none 0 0]
      have d0 := hz.cell (i := 0) rfl
      have d1 := hz.cell (i := 1) rfl
      clear hno hok hk hz
      go_upto_region 15 with fail
      clear HBY
      generalize w4.heap.size = yb at *
      generalize (w4.alloc (.cells #[.int .i64 0, .slice none 0 0, .slice none 0 0, .slice none 0 0, .slice none 0 0, .slice none 0 0] 27)) = w5 at *
      go_wp2_with fail
      clear d0 d1
      with_reducible refine (dworks_ok w5 (HE.out.below HB5.out) (HP.out.up HB5.out) (HQ.out.below HB5.out)).mono ?_
      rintro e wz ⟨rfl, hb⟩
      have HZ := Lib.hid (bel_then HB5.out hb)
      clear hb
      go_wp2_with fail
      go_ret
      exact ⟨rfl, HZ.out⟩
    | some U =>
      obtain ⟨B, rfl, hu, _, hu64, _⟩ := hok U hk
      have htx := tree_none_keep hk
      obtain ⟨lu, hlu⟩ := txt_ls htx
      have HBY := Lib.hid (bel_alloc w4 (.cells #[.int .i64 U.lv, .slice B.l.o U.left.length B.l.c, .slice B.r.o U.right.length B.r.c, .slice B.p.o U.par.length B.p.c, .slice B.h.o U.hgt.length B.h.c, .slice B.s.o U.siz.length B.s.c] 27))
      have HY := Lib.hid (TBox.new w4 B U)
      have HU := Lib.hid (hu.below HBY.out)
      have HB5 := Lib.hid (bel_then HB4.out HBY.out)
      have HU64 := Lib.hid hu64
      have HTX := Lib.hid htx
      have HLU := Lib.hid hlu
      clear hno hok hk hu hu64 htx hlu
      go_upto_region 15 with fail
      clear HBY
      generalize w4.heap.size = yb at *
      generalize (w4.alloc (.cells #[.int .i64 U.lv, .slice B.l.o U.left.length B.l.c, .slice B.r.o U.right.length B.r.c, .slice B.p.o U.par.length B.p.c, .slice B.h.o U.hgt.length B.h.c, .slice B.s.o U.siz.length B.s.c] 27)) = w5 at *
      have hcon := text_ok w5 (HP.out.up HB5.out) B U HU.out HU64.out
      rw [HTX.out, txR, ba_mk] at hcon
      have c0 := TBox.c0 HY.out
      have c1 := TBox.c1 HY.out
      have c2 := TBox.c2 HY.out
      have c3 := TBox.c3 HY.out
      have c4 := TBox.c4 HY.out
      have c5 := TBox.c5 HY.out
      go_wp2_with fail
      with_reducible refine hcon.mono ?_
      rintro e w6 ⟨rfl, hb⟩
      have HB6 := Lib.hid (bel_then HB5.out hb)
      have HY6 := Lib.hid (Blk.below HY.out hb (Blk.lt HY.out))
      have HU6 := Lib.hid (HU.out.below hb)
      clear hb hcon c0 c1 c2 c3 c4 c5 HY HU HB5
      have hcon := check_ok w6 B U HU6.out
      rw [chk_some HLU.out] at hcon
      have c0 := TBox.c0 HY6.out
      have c1 := TBox.c1 HY6.out
      have c2 := TBox.c2 HY6.out
      have c3 := TBox.c3 HY6.out
      have c4 := TBox.c4 HY6.out
      have c5 := TBox.c5 HY6.out
      go_wp2_with fail
      with_reducible refine hcon.mono ?_
      rintro e w7 ⟨rfl, hb⟩
      have HB7 := Lib.hid (bel_then HB6.out hb)
      clear hb hcon c0 c1 c2 c3 c4 c5 HY6 HU6
      go_wp2_with fail
      with_reducible refine (dworks_ok w7 (HE.out.below HB7.out) (HP.out.up HB7.out) (HQ.out.below HB7.out)).mono ?_
      rintro e wz ⟨rfl, hb⟩
      have HZ := Lib.hid (bel_then HB7.out hb)
      clear hb
      go_wp2_with fail
      go_ret
      exact ⟨rfl, HZ.out⟩

end Go.Proofs.YthacjealoomioaaGreatDoor
