/- DlM. -/
import Derived.Test.YthacjealoomioaaGreatDoorZDlC0
import Derived.Test.YthacjealoomioaaGreatDoorZDlG
import Derived.Test.YthacjealoomioaaGreatDoorZGb
import Derived.Deep.RegionHeld3
import Derived.BigQuiet
import Derived.Deep.DeepCutAuto
import Derived.Deep.CutBlock
/- The statement DendroMerges: the walk. (printed by dlm.py) -/
namespace Go.Proofs.YthacjealoomioaaGreatDoor
set_option linter.unusedVariables false
set_option linter.unusedSimpArgs false
open Go.RowKit

theorem keep3M {F : Nat → Prop} {w w' : World} {b o1 o2 o3 : Nat} {v1 v2 v3 : Value} (h1 : Hid (w.cell? ⟨b, o1, none⟩ = some v1)) (h2 : Hid (w.cell? ⟨b, o2, none⟩ = some v2)) (h3 : Hid (w.cell? ⟨b, o3, none⟩ = some v3)) (hn : ¬ F b) (hb : Mod F w w') :
    w'.cell? ⟨b, o1, none⟩ = some v1 ∧ w'.cell? ⟨b, o2, none⟩ = some v2 ∧ w'.cell? ⟨b, o3, none⟩ = some v3 ∧ Mod F w w' :=
  ⟨(hb.cell (p := ⟨b, o1, none⟩) (World.block_lt_of_cell? w _ h1.out) hn).trans h1.out, (hb.cell (p := ⟨b, o2, none⟩) (World.block_lt_of_cell? w _ h2.out) hn).trans h2.out, (hb.cell (p := ⟨b, o3, none⟩) (World.block_lt_of_cell? w _ h3.out) hn).trans h3.out, hb⟩

set_option maxHeartbeats 16000000 in
set_option maxRecDepth 100000 in
theorem merges_law (w : World) (hE : ErrV w) (hP : Pow10 w.heap.size w) (hT64 : Tab64 w) (sz : Nat) (hsz : sz ≤ 255) (ao : Option Addr) (len cap b off : Nat) (F : Nat → Nat → Nat) (hr : BRow w ao len b off F) (th : Int) (hth : -128 ≤ th ∧ th ≤ 127) :
    Calls Tryz.prog 11 #[.int .u8 sz, .slice ao len cap, .int .i8 th] w (RetB (.bool true) w) := by
  have HE := Lib.hid hE
  have HP := Lib.hid hP
  have HQ := Lib.hid hT64
  have HR := Lib.hid hr
  clear hE hP hT64 hr
  go_enter Tryz.func11, Tryz.ntmps11
  go_wp2_with fail
  with_reducible refine (built_ok w sz hsz ao len cap b off F HR.out).mono ?_
  rintro e w1 ⟨n, m, L, T, ls, A, g, rfl, hn, hgt, ht, hc, hob, hwl, hb⟩
  have HAG : Hid (A.agg T = .agg #[.int .i64 (n : Int), .slice A.l.o m A.l.c, .slice A.r.o m A.r.c, .slice A.p.o m A.p.c, .slice A.h.o m A.h.c, .slice A.s.o m A.s.c]) := hgt.agg A
  have HBX := Lib.hid (bel_alloc w1 (.cells #[.int .i64 (n : Int), .slice A.l.o m A.l.c, .slice A.r.o m A.r.c, .slice A.p.o m A.p.c, .slice A.h.o m A.h.c, .slice A.s.o m A.s.c] 27))
  have HX := Lib.hid (GBox.new w1 n m A)
  have HT := Lib.hid (ht.below HBX.out)
  have HC := Lib.hid hc
  have HOB := Lib.hid (hob.below HBX.out)
  have HWL := Lib.hid hwl
  have HGT := Lib.hid hgt
  have H64 : Hid (Hgt64 T) := hgt.h64 hwl
  have HN5 := Lib.hid hn
  have HB := Lib.hid (bel_then hb HBX.out)
  have hm2 := hgt.two
  have hnm := hgt.tv.nm
  have hn5 := hn.2
  clear hn hgt ht hc hob hwl hb HR hsz
  obtain ⟨c0, c1, c2, c3, c4, c5⟩ := HX.out.six
  go_upto_region 4 with fail
  clear HBX
  generalize w1.heap.size = xb at *
  generalize (w1.alloc (.cells #[.int .i64 (n : Int), .slice A.l.o m A.l.c, .slice A.r.o m A.r.c, .slice A.p.o m A.p.c, .slice A.h.o m A.h.c, .slice A.s.o m A.s.c] 27)) = W at *
  have hcon := merges_ok W A T HT.out
  rw [HAG.out] at hcon
  go_wp2_with fail
  with_reducible refine hcon.mono ?_
  rintro e w2 ⟨_, hok, hb⟩
  obtain ⟨v, rfl, hown, _⟩ := hok ls HGT.out.ls
  rw [HGT.out.tv.pl, HGT.out.tv.lv, Int.toNat_natCast] at hown
  obtain ⟨K, HK⟩ : ∃ K, Hid (m - n = K) := ⟨_, rfl⟩
  rw [HK.out] at hown
  obtain ⟨a2, k2, b3, rfl, hmr⟩ := MRow.of_owns hown
  have HM2 := Lib.hid hmr
  clear hok hown hmr hcon c0 c1 c2 c3 c4 c5
  have HX2 := Lib.hid (HX.out.below hb)
  have HT2 := Lib.hid (HT.out.below hb)
  have HOB2 := Lib.hid (HOB.out.below hb)
  have HB2 := Lib.hid (bel_then HB.out hb)
  clear hb HB HX HT HOB
  have hk8 : K ≤ 50 := by have := HK.out; omega
  go_wp2_with fail
  with_reducible refine (HOB2.out.n_ok (by omega)).mono ?_
  rintro e w' ⟨rfl, rfl⟩
  obtain ⟨w3, HW3⟩ : ∃ w3, Hid (w2 = w3) := ⟨_, rfl⟩
  simp only [HW3.out] at HM2 HX2 HT2 HOB2 HB2 ⊢
  go_wp2_with (at_make; apply keepIt)
  apply Lib.hid
  refine wpList_makeB 3 (.int .i64 0) 8 Tryz.underlying24 Tryz.infoInt rfl _ _ _ _ n rfl rfl rfl rfl (by omega) (by unfold maxLen; omega) ?_
  intro w4 hB hb
  have HS4 : Hid (Blk w4 w3.heap.size 3 ((onI n 0).map fun y => .int .i64 y)) := by show Blk _ _ _ _; rw [onI_zero, List.map_replicate]; exact hB
  have HB4 := Lib.hid hb
  obtain ⟨sb, HSBE⟩ : ∃ sb, Hid (w3.heap.size = sb) := ⟨_, rfl⟩
  rw [HSBE.out] at HS4
  rw [HSBE.out]
  clear hB hb HX2 HT2
  go_wp2_with fail
  go_loopw [14] (fun s wr => ∃ v : Nat, v ≤ n ∧ s = .int .i64 (v : Int) ∧ Blk wr sb 3 ((onI n v).map fun y => .int .i64 y) ∧ Below w3.heap.size w3 wr) (fun s _ => n - (intOf s).toNat)
  case atStart => exact ⟨0, Nat.zero_le _, rfl, HS4.out, HB4.out⟩
  case round =>
    obtain ⟨v, hv, rfl, hbk, hb⟩ := hrel
    clear HS4 HB4
    have HBK := Lib.hid hbk
    have HBR := Lib.hid hb
    clear hbk hb
    by_cases hvn : v < n
    · have z1 := blkI HBK.out (i := v) (by rw [onI_length (by omega)]; exact hvn)
      have f1 := HBK.out.free v
      have HN1 : Hid (Blk (wr.setCell ⟨sb, v, none⟩ (.int .i64 1)) sb 3 ((onI n (v + 1)).map fun y => .int .i64 y)) := by
        have := blkI_set HBK.out v 1
        rw [onI_step hvn] at this
        exact this
      have HN2 : Hid (Below w3.heap.size w3 (wr.setCell ⟨sb, v, none⟩ (.int .i64 1))) := bel_mod HBR.out ((Mod.refl (fun z => z = sb) wr).setAt rfl) (fun x e => by rw [e]; exact Nat.le_of_eq HSBE.out)
      generalize (onI n v).getD v 0 = old at *
      have t1 : (v : Int) < (n : Int) := by omega
      have t2 : (0 : Int) ≤ (v : Int) := by omega
      clear HBK HBR
      go_wp2_with fail
      go_roundw
      case rel => exact ⟨v + 1, by omega, by go_num, HN1.out, HN2.out⟩
      case measure => simp [intOf]; omega
    · obtain rfl : v = n := by omega
      have t1 : ¬ (v : Int) < (v : Int) := by omega
      rw [onI_end] at HBK
      obtain ⟨J, HJ⟩ : ∃ J, Hid (cutJ v L th = J) := ⟨_, rfl⟩
      have HJK : Hid (J ≤ K) := by
        show _ ≤ _
        have h1 := cutJ_le (n := v) (l := L) th
        rw [HJ.out] at h1
        have h2 := HGT.out.meq
        have := HK.out
        omega
      have HS0 := Lib.hid (sz_start HGT.out.tv)
      have wth : IntKind.i64.wrap th = th := IntWalk.i64_in _ (by omega)
      have HWT := Lib.hid wth
      clear wth
      go_wp2_with fail
      have wth := HWT.out
      go_loopw [15, 16] (fun s15 s16 wr => ∃ (i up : Nat) (s : List Int), i ≤ K ∧ s16 = .int .i64 (i : Int) ∧ s15 = .int .i64 (up : Int) ∧ up = min i J ∧ Blk wr sb 3 (s.map fun y => .int .i64 y) ∧ SzInv T v m ls (v + i) s ∧ Below w3.heap.size w3 wr) (fun _ s _ => K - (intOf s).toNat)
      case atStart => exact ⟨0, 0, _, Nat.zero_le _, rfl, rfl, by omega, HBK.out, HS0.out, HBR.out⟩
      case round =>
        obtain ⟨i, up, s, hi, rfl, rfl, hup, hbk, hsi, hb⟩ := hrel
        clear HBK HBR HS0
        have HUP := Lib.hid hup
        have HBK := Lib.hid hbk
        have HSI := Lib.hid hsi
        have HBR := Lib.hid hb
        have hupK : up ≤ K := by omega
        clear hup hbk hsi hb
        by_cases hiK : i < K
        · have him : v + i < m := by have := HK.out; omega
          obtain ⟨q1, q2, q3, q4, q5, q6⟩ := sz_step HGT.out.tv (Nat.le_add_right v i) him HSI.out
          obtain rfl := HM2.out.adr (by omega)
          obtain ⟨e0, e1, e2, e3, e4⟩ := (HM2.out.below HBR.out).cell i hiK
          have HSL := Lib.hid HSI.out.len
          have HRG := Lib.hid HSI.out.rng
          have HHT : Hid (gi T.hgt (v + i) ≤ th ↔ i < J) := by
            have h := up_cut HGT.out.g th (i := i) (by have := HGT.out.meq; have := HK.out; omega)
            rw [← HGT.out.eq, HJ.out] at h
            exact h
          have HPV : Hid (∀ j, i = j + 1 → gi T.hgt (v + j) ≤ gi T.hgt (v + i)) := fun j hj => by
            have := HGT.out.tv.mono (x := v + j) (Nat.le_add_right v j) 1 (by omega)
            rw [show v + j + 1 = v + i by omega] at this
            exact this
          obtain ⟨a, HA⟩ : ∃ a, Hid (ls.getD (lc T (v + i)) 0 = a) := ⟨_, rfl⟩
          obtain ⟨b2, HB2'⟩ : ∃ a, Hid (ls.getD (rc T (v + i)) 0 = a) := ⟨_, rfl⟩
          obtain ⟨H, HH⟩ : ∃ a, Hid (gi T.hgt (v + i) = a) := ⟨_, rfl⟩
          obtain ⟨S, HS⟩ : ∃ a, Hid (gi T.siz (v + i) = a) := ⟨_, rfl⟩
          rw [HA.out, HB2'.out] at q1
          rw [HB2'.out] at q2
          rw [HA.out] at q3
          rw [HB2'.out] at q4
          rw [HA.out, HB2'.out, HS.out] at q5
          rw [HA.out, HB2'.out, HS.out] at q6
          rw [HA.out] at e0
          rw [HB2'.out] at e1
          rw [HH.out] at e2 HHT HPV
          rw [HS.out] at e4
          have HSN : Hid (SzInv T v m ls (v + (i + 1)) ((s.set a S).set b2 0)) := q6
          have haN : a < v := by omega
          have hbN : b2 < v := q2
          have ga := HRG.out a haN
          have gb := HRG.out b2 hbN
          obtain ⟨zA, HZA⟩ : ∃ z, Hid (gi s a = z) := ⟨_, rfl⟩
          obtain ⟨zB, HZB⟩ : ∃ z, Hid (gi s b2 = z) := ⟨_, rfl⟩
          rw [HZA.out] at q3 q5 ga
          rw [HZB.out] at q4 q5 gb
          have t1 : (i : Int) < (K : Int) := by omega
          have t2 : (0 : Int) ≤ (i : Int) := by omega
          have hbx := bel_alloc wr (.cells #[.int .i64 (a : Int), .int .i64 (b2 : Int), .int .i64 H, .int .i64 1, .int .i64 S] 51)
          have HXB5 := Lib.hid (Blk.new wr 51 [.int .i64 (a : Int), .int .i64 (b2 : Int), .int .i64 H, .int .i64 1, .int .i64 S])
          have HBK5 := Lib.hid (HBK.out.below hbx HBK.out.lt)
          have HB5 := Lib.hid (HBR.out.trans (hbx.mono HBR.out.size))
          have HYS : Hid (wr.heap.size ≠ sb) := fun e => by have := HBK.out.lt; omega
          have HQ5 := Lib.hid q5
          have hS1 : 0 ≤ S ∧ S ≤ 10000 := by omega
          clear hbx q6 HBK HBR q5
          go_upto_region 18 with fail
          clear e0 e1 e2 e3 e4
          generalize wr.heap.size = yb at *
          generalize (wr.alloc (.cells #[.int .i64 (a : Int), .int .i64 (b2 : Int), .int .i64 H, .int .i64 1, .int .i64 S] 51)) = w5 at *
          have d0 := HXB5.out.cell (i := 0) rfl
          have d1 := HXB5.out.cell (i := 1) rfl
          have d4 := HXB5.out.cell (i := 4) rfl
          have z1 : w5.cell? ⟨sb, a, none⟩ = some (.int .i64 zA) := by have := blkI HBK5.out (i := a) (by rw [HSL.out]; exact haN); rw [← HZA.out]; exact this
          have z2 : w5.cell? ⟨sb, b2, none⟩ = some (.int .i64 zB) := by have := blkI HBK5.out (i := b2) (by rw [HSL.out]; exact hbN); rw [← HZB.out]; exact this
          have p1 : decide ((a : Int) < 0) = false := decide_eq_false (by omega)
          have p2 : decide ((b2 : Int) ≤ (a : Int)) = false := decide_eq_false (by omega)
          have p2' : decide (b2 ≤ a) = false := decide_eq_false (by omega)
          have p3 : decide ((v : Int) ≤ (b2 : Int)) = false := decide_eq_false (by omega)
          have p3' : decide (v ≤ b2) = false := decide_eq_false (by omega)
          have p4 : (zA == 0) = false := by rw [beq_eq_false_iff_ne]; omega
          have p5 : (zB == 0) = false := by rw [beq_eq_false_iff_ne]; omega
          have eS : zA + zB = S := HQ5.out.symm
          have wS : IntKind.i64.wrap S = S := IntWalk.i64_in _ (by omega)
          have wS2 : wrap64 S = S := by unfold wrap64; omega
          have p6 : (S != S) = false := by simp
          have x1 : (0 : Int) ≤ (a : Int) := by omega
          have x2 : (a : Int) < (v : Int) := by omega
          have x3 : (0 : Int) ≤ (b2 : Int) := by omega
          have x4 : (b2 : Int) < (v : Int) := by omega
          clear q3 q4 ga gb HSI HRG
          go_wp2_with fail
          go_quiet (fail)
          have HXB6 := Lib.hid (HXB5.out.drewN nq)
          have HBK6 := Lib.hid (HBK5.out.drewN nq)
          have HB6 := Lib.hid (bel_drewN HB5.out nq)
          clear d0 d1 d4 z1 z2 p1 p2 p2' p3 p3' p4 p5 eS wS wS2 p6 x1 x2 x3 x4 HXB5 HBK5 HB5
          generalize w5.drewN nq = w6 at *
          have HM6 := Lib.hid (HM2.out.below HB6.out)
          have d2 := HXB6.out.cell (i := 2) rfl
          have d3 := HXB6.out.cell (i := 3) rfl
          have p0 : ((1 : Int) != 1) = false := by simp
          by_cases hi0 : i = 0
          · have p1 : decide ((0 : Int) < (i : Int)) = false := decide_eq_false (by omega)
            have p1' : decide (0 < i) = false := decide_eq_false (by omega)
            clear hi0
            go_wp2_with fail
            go_quiet (fail)
            have HXQ := Lib.hid (HXB6.out.drewN nq)
            have HBKQ := Lib.hid (HBK6.out.drewN nq)
            have HBQ := Lib.hid (bel_drewN HB6.out nq)
            clear d2 d3 HXB6 HBK6 HB6 HM6
            generalize w6.drewN nq = w7 at *
            have d0 := HXQ.out.cell (i := 0) rfl
            have d1 := HXQ.out.cell (i := 1) rfl
            have d4 := HXQ.out.cell (i := 4) rfl
            have z1 := blkI HBKQ.out (i := a) (by rw [HSL.out]; exact haN)
            have z2 := blkI HBKQ.out (i := b2) (by rw [HSL.out]; exact hbN)
            have f1 := HBKQ.out.free a
            have f2 := HBKQ.out.free b2
            generalize s.getD a 0 = o1 at *
            generalize s.getD b2 0 = o2 at *
            have D0 := Lib.hid d0
            have D1 := Lib.hid d1
            have D4 := Lib.hid d4
            have n1 : b2 ≠ a := by omega
            have NF : Hid (¬ yb = sb) := HYS.out
            have x1 : (0 : Int) ≤ (a : Int) := by omega
            have x2 : (a : Int) < (v : Int) := by omega
            have x3 : (0 : Int) ≤ (b2 : Int) := by omega
            have x4 : (b2 : Int) < (v : Int) := by omega
            go_wp2_with fail
            go_cut [] (fun wx => wx = ((w7.setCell ⟨sb, a, none⟩ (.int .i64 S)).setCell ⟨sb, b2, none⟩ (.int .i64 0)).drew)
            case first =>
              go_region_held3 (fun w' => w'.cell? ⟨yb, 0, none⟩ = some (.int .i64 (a : Int)) ∧ w'.cell? ⟨yb, 1, none⟩ = some (.int .i64 (b2 : Int)) ∧ w'.cell? ⟨yb, 4, none⟩ = some (.int .i64 S) ∧ Mod (fun z => z = sb) w7 w')
                (((try go_split_ands); refine keep3M D0 D1 D4 NF.out ?_; first | assumption | (repeat (first | exact Mod.refl _ _ | apply Mod.drew | refine Mod.setAt ?_ rfl))))
                (fail)
              all_goals
                go_wp2_with fail
                go_meet
                exact rfl
            case rest =>
              obtain rfl := hcut
              have HBK9 : Hid (Blk (((w7.setCell ⟨sb, a, none⟩ (.int .i64 S)).setCell ⟨sb, b2, none⟩ (.int .i64 0)).drew) sb 3 (((s.set a S).set b2 0).map fun y => .int .i64 y)) := (blkI_set (blkI_set HBKQ.out a S) b2 0).drew
              have hm9 : Mod (fun z => z = sb) w7 (((w7.setCell ⟨sb, a, none⟩ (.int .i64 S)).setCell ⟨sb, b2, none⟩ (.int .i64 0)).drew) := (((Mod.refl (fun z => z = sb) w7).setAt rfl).setAt rfl).drew
              have HX9 := Lib.hid (HXQ.out.mod hm9 NF.out)
              have HB9 : Hid (Below w3.heap.size w3 (((w7.setCell ⟨sb, a, none⟩ (.int .i64 S)).setCell ⟨sb, b2, none⟩ (.int .i64 0)).drew)) := bel_mod HBQ.out hm9 (fun x e => by rw [e]; exact Nat.le_of_eq HSBE.out)
              clear hm9 d0 d1 d4 z1 z2 f1 f2 D0 D1 D4 HXQ HBKQ HBQ
              generalize (((w7.setCell ⟨sb, a, none⟩ (.int .i64 S)).setCell ⟨sb, b2, none⟩ (.int .i64 0)).drew) = w9 at *
              have d2 := HX9.out.cell (i := 2) rfl
              by_cases hth2 : H ≤ th
              · have u1 : decide (H ≤ th) = true := decide_eq_true hth2
                obtain ⟨r1, HR1⟩ : ∃ r1, Hid (up + 1 = r1) := ⟨_, rfl⟩
                have er : (up : Int) + 1 = (r1 : Int) := by have := HR1.out; omega
                have wr1 : IntKind.i64.wrap (r1 : Int) = (r1 : Int) := IntWalk.i64_in _ (by have := HR1.out; omega)
                have HUP2 : Hid (r1 = min (i + 1) J) := by show _ = _; have := HHT.out.1 hth2; have := HUP.out; have := HR1.out; omega
                clear hth2
                go_wp2_with fail
                go_roundw
                case rel => exact ⟨i + 1, r1, _, by omega, by go_num, rfl, HUP2.out, HBK9.out, HSN.out, HB9.out⟩
                case measure => simp [intOf]; omega
              · have u1 : decide (H ≤ th) = false := decide_eq_false hth2
                have HUP2 : Hid (up = min (i + 1) J) := by show _ = _; have hij : ¬ i < J := fun h => hth2 (HHT.out.2 h); have := HUP.out; omega
                clear hth2
                go_wp2_with fail
                go_roundw
                case rel => exact ⟨i + 1, up, _, by omega, by go_num, rfl, HUP2.out, HBK9.out, HSN.out, HB9.out⟩
                case measure => simp [intOf]; omega
          · have p1 : decide ((0 : Int) < (i : Int)) = true := decide_eq_true (by omega)
            have p1' : decide (0 < i) = true := decide_eq_true (by omega)
            obtain ⟨j, HJJ⟩ : ∃ j, Hid (i = j + 1) := ⟨i - 1, by show i = _; omega⟩
            have hj : j < K := by have := HJJ.out; omega
            obtain ⟨_, _, e2, _⟩ := HM6.out.cell j hj
            have hle := HPV.out j HJJ.out
            obtain ⟨H0, HH0⟩ : ∃ a, Hid (gi T.hgt (v + j) = a) := ⟨_, rfl⟩
            rw [HH0.out] at e2 hle
            have p2 : decide (H < H0) = false := decide_eq_false (by omega)
            have ej : (i : Int) - 1 = (j : Int) := by have := HJJ.out; omega
            have wj : IntKind.i64.wrap (j : Int) = (j : Int) := IntWalk.i64_in _ (by omega)
            have y1 : (0 : Int) ≤ (j : Int) := by omega
            have y2 : (j : Int) < (K : Int) := by omega
            clear hle
            go_wp2_with fail
            go_quiet (fail)
            have HXQ := Lib.hid (HXB6.out.drewN nq)
            have HBKQ := Lib.hid (HBK6.out.drewN nq)
            have HBQ := Lib.hid (bel_drewN HB6.out nq)
            clear d2 d3 HXB6 HBK6 HB6 HM6
            generalize w6.drewN nq = w7 at *
            have d0 := HXQ.out.cell (i := 0) rfl
            have d1 := HXQ.out.cell (i := 1) rfl
            have d4 := HXQ.out.cell (i := 4) rfl
            have z1 := blkI HBKQ.out (i := a) (by rw [HSL.out]; exact haN)
            have z2 := blkI HBKQ.out (i := b2) (by rw [HSL.out]; exact hbN)
            have f1 := HBKQ.out.free a
            have f2 := HBKQ.out.free b2
            generalize s.getD a 0 = o1 at *
            generalize s.getD b2 0 = o2 at *
            have D0 := Lib.hid d0
            have D1 := Lib.hid d1
            have D4 := Lib.hid d4
            have n1 : b2 ≠ a := by omega
            have NF : Hid (¬ yb = sb) := HYS.out
            have x1 : (0 : Int) ≤ (a : Int) := by omega
            have x2 : (a : Int) < (v : Int) := by omega
            have x3 : (0 : Int) ≤ (b2 : Int) := by omega
            have x4 : (b2 : Int) < (v : Int) := by omega
            go_wp2_with fail
            go_cut [] (fun wx => wx = ((w7.setCell ⟨sb, a, none⟩ (.int .i64 S)).setCell ⟨sb, b2, none⟩ (.int .i64 0)).drew)
            case first =>
              go_region_held3 (fun w' => w'.cell? ⟨yb, 0, none⟩ = some (.int .i64 (a : Int)) ∧ w'.cell? ⟨yb, 1, none⟩ = some (.int .i64 (b2 : Int)) ∧ w'.cell? ⟨yb, 4, none⟩ = some (.int .i64 S) ∧ Mod (fun z => z = sb) w7 w')
                (((try go_split_ands); refine keep3M D0 D1 D4 NF.out ?_; first | assumption | (repeat (first | exact Mod.refl _ _ | apply Mod.drew | refine Mod.setAt ?_ rfl))))
                (fail)
              all_goals
                go_wp2_with fail
                go_meet
                exact rfl
            case rest =>
              obtain rfl := hcut
              have HBK9 : Hid (Blk (((w7.setCell ⟨sb, a, none⟩ (.int .i64 S)).setCell ⟨sb, b2, none⟩ (.int .i64 0)).drew) sb 3 (((s.set a S).set b2 0).map fun y => .int .i64 y)) := (blkI_set (blkI_set HBKQ.out a S) b2 0).drew
              have hm9 : Mod (fun z => z = sb) w7 (((w7.setCell ⟨sb, a, none⟩ (.int .i64 S)).setCell ⟨sb, b2, none⟩ (.int .i64 0)).drew) := (((Mod.refl (fun z => z = sb) w7).setAt rfl).setAt rfl).drew
              have HX9 := Lib.hid (HXQ.out.mod hm9 NF.out)
              have HB9 : Hid (Below w3.heap.size w3 (((w7.setCell ⟨sb, a, none⟩ (.int .i64 S)).setCell ⟨sb, b2, none⟩ (.int .i64 0)).drew)) := bel_mod HBQ.out hm9 (fun x e => by rw [e]; exact Nat.le_of_eq HSBE.out)
              clear hm9 d0 d1 d4 z1 z2 f1 f2 D0 D1 D4 HXQ HBKQ HBQ
              generalize (((w7.setCell ⟨sb, a, none⟩ (.int .i64 S)).setCell ⟨sb, b2, none⟩ (.int .i64 0)).drew) = w9 at *
              have d2 := HX9.out.cell (i := 2) rfl
              by_cases hth2 : H ≤ th
              · have u1 : decide (H ≤ th) = true := decide_eq_true hth2
                obtain ⟨r1, HR1⟩ : ∃ r1, Hid (up + 1 = r1) := ⟨_, rfl⟩
                have er : (up : Int) + 1 = (r1 : Int) := by have := HR1.out; omega
                have wr1 : IntKind.i64.wrap (r1 : Int) = (r1 : Int) := IntWalk.i64_in _ (by have := HR1.out; omega)
                have HUP2 : Hid (r1 = min (i + 1) J) := by show _ = _; have := HHT.out.1 hth2; have := HUP.out; have := HR1.out; omega
                clear hth2
                go_wp2_with fail
                go_roundw
                case rel => exact ⟨i + 1, r1, _, by omega, by go_num, rfl, HUP2.out, HBK9.out, HSN.out, HB9.out⟩
                case measure => simp [intOf]; omega
              · have u1 : decide (H ≤ th) = false := decide_eq_false hth2
                have HUP2 : Hid (up = min (i + 1) J) := by show _ = _; have hij : ¬ i < J := fun h => hth2 (HHT.out.2 h); have := HUP.out; omega
                clear hth2
                go_wp2_with fail
                go_roundw
                case rel => exact ⟨i + 1, up, _, by omega, by go_num, rfl, HUP2.out, HBK9.out, HSN.out, HB9.out⟩
                case measure => simp [intOf]; omega
        · obtain rfl : i = K := by omega
          have HUJ : Hid (up = J) := by show _ = _; have := HUP.out; have := HJK.out; omega
          have t1 : ¬ (i : Int) < (i : Int) := by omega
          have HJU := HUJ.out
          subst HJU
          obtain ⟨R, HR⟩ : ∃ R, Hid (roots v (parK v (undL L th) (undL L th).length) = R) := ⟨_, rfl⟩
          obtain ⟨R0, HR0⟩ : ∃ R, Hid (roots v (parK v L L.length) = R) := ⟨_, rfl⟩
          have HUR : Hid (up + R = v) := by show _ = _; rw [← HR.out, ← HJ.out]; exact parK_roots HGT.out.g th
          have HKR : Hid (i + R0 = v) := by
            show _ = _
            have h := parK_all_roots HGT.out.g
            rw [HR0.out] at h
            have := HGT.out.meq
            have := HK.out
            omega
          have HOBR := Lib.hid (HOB2.out.below HBR.out)
          have hf1 := Tryz.rowCnt (R : Int)
          have hf2 := Tryz.rowCnt (R0 : Int)
          have g1 : (v : Int) - (up : Int) = (R : Int) := by have := HUR.out; omega
          have g2 : (v : Int) - (i : Int) = (R0 : Int) := by have := HKR.out; omega
          have g3 : IntKind.i64.wrap (R : Int) = (R : Int) := IntWalk.i64_in _ (by have := HUR.out; omega)
          have g4 : IntKind.i64.wrap (R0 : Int) = (R0 : Int) := IntWalk.i64_in _ (by have := HKR.out; omega)
          have g5 : ((R : Int) == (R : Int)) = true := by simp
          have g5' : (R == R) = true := by simp
          have g6 : ((R0 : Int) == (R0 : Int)) = true := by simp
          have g6' : (R0 == R0) = true := by simp
          go_wp2_with fail
          with_reducible refine (under_ok wr g v L HOBR.out HGT.out.g th).mono ?_
          rintro e w6 ⟨⟨g6, rfl, hg6⟩, hb⟩
          have HG6 := Lib.hid hg6
          have HOB6 := Lib.hid (HOBR.out.below hb)
          have HB6 := Lib.hid (HBR.out.trans (hb.mono HBR.out.size))
          clear hg6 hb
          have hcon := grow_ok w6 g6 v (undL L th) HG6.out (und_ok HGT.out.g th)
          rw [HR.out] at hcon
          go_wp2_with fail
          with_reducible refine hcon.mono ?_
          rintro e w7 ⟨⟨x7, z7, rfl⟩, hb⟩
          have HOB7 := Lib.hid (HOB6.out.below hb)
          have HB7 := Lib.hid (HB6.out.trans (hb.mono HB6.out.size))
          clear hb hcon
          have hcon := grow_ok w7 g v L HOB7.out HGT.out.g
          rw [HR0.out] at hcon
          go_wp2_with fail
          with_reducible refine hcon.mono ?_
          rintro e w8 ⟨⟨x8, z8, rfl⟩, hb⟩
          have HB8 := Lib.hid (bel_then HB2.out (HB7.out.trans (hb.mono HB7.out.size)))
          clear hb hcon
          go_wp2_with fail
          with_reducible refine (dworks_ok w8 (HE.out.below HB8.out) (HP.out.up HB8.out) (HQ.out.below HB8.out)).mono ?_
          rintro e wz ⟨rfl, hb⟩
          have HZ := Lib.hid (bel_then HB8.out hb)
          clear hb
          go_wp2_with fail
          go_ret
          exact ⟨rfl, HZ.out⟩

end Go.Proofs.YthacjealoomioaaGreatDoor
