/- DlG. -/
import Derived.Test.YthacjealoomioaaGreatDoorZDlA
import Derived.Test.YthacjealoomioaaGreatDoorZGs
import Derived.Deep.RegionHeld3
import Derived.BigQuiet
/- The statement DendroGap: the walk. (printed by dlg.py) -/
namespace Go.Proofs.YthacjealoomioaaGreatDoor
set_option linter.unusedVariables false
set_option linter.unusedSimpArgs false
open Go.RowKit

theorem gpA_max (t : Tr) (n : Nat) : ∀ j i, 1 ≤ i → i ≤ j → dU t n i ≤ dU t n (gpA t n j) ∧ (i < gpA t n j → dU t n i < dU t n (gpA t n j))
  | 0, i, h1, h2 => by omega
  | j + 1, i, h1, h2 => by
    have hp := gpA_pos t n j
    rw [gpA]
    split
    · rename_i h
      by_cases c : i = j + 1
      · subst c; exact ⟨Int.le_refl _, fun h => by omega⟩
      · by_cases c0 : j = 0
        · subst c0; omega
        · have ih := gpA_max t n j i h1 (by omega)
          exact ⟨by omega, fun _ => by omega⟩
    · rename_i h
      by_cases c : i = j + 1
      · subst c; exact ⟨by omega, fun h => by omega⟩
      · by_cases c0 : j = 0
        · subst c0; omega
        · exact gpA_max t n j i h1 (by omega)
theorem dU_i64 (t : Tr) (n j : Nat) : IntKind.u64.wrap (wrap64 (gi t.hgt (n + (j + 1)) - gi t.hgt (n + j))) = dU t n (j + 1) := by
  unfold dU
  rw [Nat.add_sub_cancel]
  generalize gi t.hgt (n + (j + 1)) = x
  generalize gi t.hgt (n + j) = y
  unfold IntKind.wrap wrap64
  simp [IntKind.signed, IntKind.bits]
theorem mgTo_len (t : Tr) (n : Nat) (ls : List Nat) : ∀ K, (mgTo t n ls K).length = K * 5
  | 0 => rfl
  | K + 1 => by rw [mgTo, List.length_append, mgTo_len t n ls K]; show K * 5 + 5 = _; omega
theorem mgTo_at (t : Tr) (n : Nat) (ls : List Nat) : ∀ K i j, i < K → j < 5 → (mgTo t n ls K)[i * 5 + j]? = (mgV t ls (n + i))[j]?
  | 0, i, j, h, _ => by omega
  | K + 1, i, j, h, hj => by
    rw [mgTo]
    by_cases c : i = K
    · subst c
      rw [List.getElem?_append_right (by rw [mgTo_len]; omega), mgTo_len, Nat.add_sub_cancel_left]
    · rw [List.getElem?_append_left (by rw [mgTo_len]; omega)]
      exact mgTo_at t n ls K i j (by omega) hj
/-- The list of merges in memory. -/
structure MRow (w : World) (a : Option Addr) (b K : Nat) (t : Tr) (n : Nat) (ls : List Nat) : Prop where
  adr : 0 < K → a = some ⟨b, 0, none⟩
  cell : ∀ i, i < K → w.cell? ⟨b, i * 5, none⟩ = some (.int .i64 ((ls.getD (lc t (n + i)) 0 : Nat) : Int)) ∧ w.cell? ⟨b, i * 5 + 1, none⟩ = some (.int .i64 ((ls.getD (rc t (n + i)) 0 : Nat) : Int)) ∧
    w.cell? ⟨b, i * 5 + 2, none⟩ = some (.int .i64 (gi t.hgt (n + i))) ∧ w.cell? ⟨b, i * 5 + 3, none⟩ = some (.int .i64 1) ∧ w.cell? ⟨b, i * 5 + 4, none⟩ = some (.int .i64 (gi t.siz (n + i)))
theorem MRow.below {w w' : World} {a : Option Addr} {b K : Nat} {t : Tr} {n : Nat} {ls : List Nat} (h : MRow w a b K t n ls) (hb : Below w.heap.size w w') : MRow w' a b K t n ls := by
  refine ⟨h.adr, fun i hi => ?_⟩
  obtain ⟨h1, h2, h3, h4, h5⟩ := h.cell i hi
  exact ⟨(hb.cell (World.block_lt_of_cell? w _ h1)).trans h1, (hb.cell (World.block_lt_of_cell? w _ h2)).trans h2, (hb.cell (World.block_lt_of_cell? w _ h3)).trans h3, (hb.cell (World.block_lt_of_cell? w _ h4)).trans h4, (hb.cell (World.block_lt_of_cell? w _ h5)).trans h5⟩
theorem MRow.of_owns {w : World} {v : Value} {K : Nat} {t : Tr} {n : Nat} {ls : List Nat} (h : w.ownsRow 0 51 5 v K (mgTo t n ls K)) : ∃ a c b, v = .slice a K c ∧ MRow w a b K t n ls := by
  by_cases hz : 0 < K
  · obtain ⟨g, cap, rfl, hcap, _, _, hc, _⟩ := owns_form h hz
    refine ⟨_, _, g, rfl, ⟨fun _ => rfl, fun i hi => ?_⟩⟩
    have key : ∀ j u, j < 5 → (mgV t ls (n + i))[j]? = some u → w.cell? ⟨g, i * 5 + j, none⟩ = some u := fun j u hj hu => by
      rw [hc (i * 5 + j) (by omega), mgTo_at t n ls K i j hi hj]; exact hu
    exact ⟨key 0 _ (by omega) rfl, key 1 _ (by omega) rfl, key 2 _ (by omega) rfl, key 3 _ (by omega) rfl, key 4 _ (by omega) rfl⟩
  · obtain rfl : K = 0 := by omega
    rcases h.2 with ⟨rfl, _⟩ | ⟨g, cap, cur, rfl, _⟩
    · exact ⟨_, _, 0, rfl, ⟨fun h => by omega, fun i hi => by omega⟩⟩
    · exact ⟨_, _, 0, rfl, ⟨fun h => by omega, fun i hi => by omega⟩⟩

set_option maxHeartbeats 16000000 in
set_option maxRecDepth 100000 in
theorem gap_law (w : World) (hE : ErrV w) (hP : Pow10 w.heap.size w) (hT64 : Tab64 w) (sz : Nat) (hsz : sz ≤ 255) (ao : Option Addr) (len cap b off : Nat) (F : Nat → Nat → Nat) (hr : BRow w ao len b off F) :
    Calls Tryz.prog 7 #[.int .u8 sz, .slice ao len cap] w (RetB (.bool true) w) := by
  have HE := Lib.hid hE
  have HP := Lib.hid hP
  have HQ := Lib.hid hT64
  have HR := Lib.hid hr
  clear hE hP hT64 hr
  go_enter Tryz.func7, Tryz.ntmps7
  go_wp2_with fail
  with_reducible refine (built_ok w sz hsz ao len cap b off F HR.out).mono ?_
  rintro e w1 ⟨n, m, L, T, ls, A, g, rfl, hn, hgt, ht, hc, hob, hwl, hb⟩
  have HAG : Hid (A.agg T = .agg #[.int .i64 (n : Int), .slice A.l.o m A.l.c, .slice A.r.o m A.r.c, .slice A.p.o m A.p.c, .slice A.h.o m A.h.c, .slice A.s.o m A.s.c]) := hgt.agg A
  have HBX := Lib.hid (bel_alloc w1 (.cells #[.int .i64 (n : Int), .slice A.l.o m A.l.c, .slice A.r.o m A.r.c, .slice A.p.o m A.p.c, .slice A.h.o m A.h.c, .slice A.s.o m A.s.c] 27))
  have HX := Lib.hid (GBox.new w1 n m A)
  have HT := Lib.hid (ht.below HBX.out)
  have HC := Lib.hid hc
  have HOB := Lib.hid (hob.below HBX.out)
  have HWL := Lib.hid hwl
  have HGT := Lib.hid hgt
  have H64 : Hid (Hgt64 T) := hgt.h64 hwl
  have HN5 := Lib.hid hn
  have HB := Lib.hid (bel_then hb HBX.out)
  have hm2 := hgt.two
  have hnm := hgt.tv.nm
  have hn5 := hn.2
  clear hn hgt ht hc hob hwl hb HR hsz
  obtain ⟨c0, c1, c2, c3, c4, c5⟩ := HX.out.six
  go_upto_region 4 with fail
  clear HBX
  generalize w1.heap.size = xb at *
  generalize (w1.alloc (.cells #[.int .i64 (n : Int), .slice A.l.o m A.l.c, .slice A.r.o m A.r.c, .slice A.p.o m A.p.c, .slice A.h.o m A.h.c, .slice A.s.o m A.s.c] 27)) = W at *
  have hcon := merges_ok W A T HT.out
  rw [HAG.out] at hcon
  go_wp2_with fail
  with_reducible refine hcon.mono ?_
  rintro e w2 ⟨_, hok, hb⟩
  obtain ⟨v, rfl, hown, _⟩ := hok ls HGT.out.ls
  rw [HGT.out.tv.pl, HGT.out.tv.lv, Int.toNat_natCast] at hown
  obtain ⟨K, HK⟩ : ∃ K, Hid (m - n = K) := ⟨_, rfl⟩
  rw [HK.out] at hown
  obtain ⟨a2, k2, b2, rfl, hmr⟩ := MRow.of_owns hown
  have HM2 := Lib.hid hmr
  clear hok hown hmr hcon
  have HX2 := Lib.hid (HX.out.below hb)
  have HT2 := Lib.hid (HT.out.below hb)
  have HB2 := Lib.hid (bel_then HB.out hb)
  clear hb HB HX HT
  clear c0 c1 c2 c3 c4 c5
  obtain ⟨c0, c1, c2, c3, c4, c5⟩ := HX2.out.six
  have hcon := gap_ok w2 A T HT2.out HC.out
  have HGV : Hid (gapR T = gapV T n m) := by
    show _ = _
    unfold gapR
    rw [HGT.out.ls, HGT.out.tv.lv, HGT.out.tv.pl, Int.toNat_natCast]
  rw [HAG.out, HGV.out] at hcon
  have hk8 : K ≤ 50 := by have := HK.out; omega
  by_cases h2 : (K : Int) < 2
  · have t1 : decide ((K : Int) < 2) = true := decide_eq_true h2
    have HV : Hid (gapV T n m = .tuple #[.int .i64 0, .int .u64 0, .int .i64 5]) := by show _ = _; unfold gapV; rw [if_pos (by rw [HK.out]; omega)]
    rw [HV.out] at hcon
    clear h2
    go_wp2_with fail
    with_reducible refine hcon.mono ?_
    rintro e w3 ⟨rfl, hb⟩
    have HB3 := Lib.hid (bel_then HB2.out hb)
    clear hb hcon c0 c1 c2 c3 c4 c5
    go_wp2_with fail
    with_reducible refine (dworks_ok w3 (HE.out.below HB3.out) (HP.out.up HB3.out) (HQ.out.below HB3.out)).mono ?_
    rintro e wz ⟨rfl, hb⟩
    have HZ := Lib.hid (bel_then HB3.out hb)
    clear hb
    go_wp2_with fail
    go_ret
    exact ⟨rfl, HZ.out⟩
  · have t1 : decide ((K : Int) < 2) = false := decide_eq_false h2
    have HV : Hid (gapV T n m = .tuple #[.int .i64 (gpA T n (K - 1) : Nat), .int .u64 (dU T n (gpA T n (K - 1))), .int .i64 0]) := by show _ = _; unfold gapV; rw [if_neg (by rw [HK.out]; omega), HK.out]
    have hp := gpA_pos T n (K - 1)
    obtain ⟨a, HA⟩ : ∃ a, Hid (gpA T n (K - 1) = a) := ⟨_, rfl⟩
    obtain ⟨d, HD⟩ : ∃ d, Hid (dU T n a = d) := ⟨_, rfl⟩
    rw [HV.out, HA.out, HD.out] at hcon
    rw [HA.out] at hp
    have hk2 : 2 ≤ K := by omega
    have ha1 : 1 ≤ a := hp.1
    have haK : a < K := by have := hp.2; omega
    have t2 : decide ((a : Int) < 1) = false := decide_eq_false (by omega)
    have t3 : decide ((K : Int) ≤ (a : Int)) = false := decide_eq_false (by omega)
    have t2' : ¬ (a : Int) < 1 := by omega
    have t3' : ¬ (K : Int) ≤ (a : Int) := by omega
    have HMAX : Hid (∀ i, 1 ≤ i → i < K → dU T n i ≤ d ∧ (i < a → dU T n i < d)) := fun i h1 h2 => by
      have := gpA_max T n (K - 1) i h1 (by omega)
      rw [HA.out, HD.out] at this
      exact this
    obtain rfl := HM2.out.adr (by omega)
    clear h2 hp
    go_wp2_with fail
    with_reducible refine hcon.mono ?_
    rintro e w3 ⟨rfl, hb⟩
    have HM3 := Lib.hid (HM2.out.below hb)
    have HB3 := Lib.hid (bel_then HB2.out hb)
    clear hb hcon c0 c1 c2 c3 c4 c5 HM2
    go_wp2_with fail
    clear t2 t3 t2' t3'
    go_loopw [13] (fun s wr => ∃ i : Nat, 1 ≤ i ∧ i ≤ K ∧ s = .int .i64 (i : Int) ∧ Below w3.heap.size w3 wr) (fun s _ => K - (intOf s).toNat)
    case atStart => exact ⟨1, by omega, by omega, rfl, Below.refl _ _⟩
    case round =>
      obtain ⟨i, hi1, hi, rfl, hbr⟩ := hrel
      have HBR := Lib.hid hbr
      clear hbr
      by_cases hik : i < K
      · obtain ⟨j, HJ⟩ : ∃ j, Hid (i = j + 1) := ⟨i - 1, by show i = _; omega⟩
        have hj : j < K := by have := HJ.out; omega
        obtain ⟨_, _, e1, _⟩ := (HM3.out.below HBR.out).cell i hik
        obtain ⟨_, _, e2, _⟩ := (HM3.out.below HBR.out).cell j hj
        have HDI : Hid (IntKind.u64.wrap (wrap64 (gi T.hgt (n + i) - gi T.hgt (n + j))) = dU T n i) := by show _ = _; rw [HJ.out]; exact dU_i64 T n j
        have ej : (i : Int) - 1 = (j : Int) := by have := HJ.out; omega
        have hmx := HMAX.out i hi1 hik
        have HEQ : Hid (i = a → dU T n i = d) := fun e => by rw [e]; exact HD.out
        generalize gi T.hgt (n + i) = x at *
        generalize gi T.hgt (n + j) = y at *
        generalize dU T n i = z at *
        have t1 : (i : Int) < (K : Int) := by omega
        have t2 : (0 : Int) ≤ (i : Int) := by omega
        have t3 : (j : Int) < (K : Int) := by omega
        have t4 : (0 : Int) ≤ (j : Int) := by omega
        have v1 : IntKind.i64.wrap (j : Int) = (j : Int) := IntWalk.i64_in _ (by omega)
        have t5 : decide (d < z) = false := decide_eq_false (by omega)
        by_cases h1 : (i : Int) < (a : Int)
        · have t6 : decide ((i : Int) < (a : Int)) = true := decide_eq_true h1
          have t6' : decide (i < a) = true := decide_eq_true (by omega)
          have t6'' : i < a := by omega
          have t7 : decide (d ≤ z) = false := decide_eq_false (by have := hmx.2 (by omega); omega)
          have t8 : ((i : Int) == (a : Int)) = false := by rw [beq_eq_false_iff_ne]; omega
          have t8' : (i == a) = false := by rw [beq_eq_false_iff_ne]; omega
          clear h1 hmx HJ hj hik
          go_wp2_with fail
          go_quiet (fail)
          rw [HDI.out]
          have HB7 := Lib.hid (bel_drewN HBR.out nq)
          generalize wr.drewN nq = w7 at HB7 ⊢
          clear e1 e2 HBR
          go_wp2_with fail
          go_roundw
          case rel => exact ⟨i + 1, by omega, by omega, by go_num, HB7.out⟩
          case measure => simp [intOf]; omega
        · have t6 : decide ((i : Int) < (a : Int)) = false := decide_eq_false h1
          have t6' : decide (i < a) = false := decide_eq_false (by omega)
          have t6'' : ¬ i < a := by omega
          by_cases h3 : i = a
          · have t8 : ((i : Int) == (a : Int)) = true := by rw [beq_iff_eq]; omega
            have t8' : (i == a) = true := by rw [beq_iff_eq]; omega
            have HZ := Lib.hid (HEQ.out h3)
            have t9 : (z != d) = false := by rw [HZ.out]; simp
            clear h1 h3 hmx HJ hj hik
            go_wp2_with fail
            go_quiet (fail)
            rw [HDI.out]
            have HB7 := Lib.hid (bel_drewN HBR.out nq)
            generalize wr.drewN nq = w7 at HB7 ⊢
            clear e1 e2 HBR
            go_wp2_with fail
            go_roundw
            case rel => exact ⟨i + 1, by omega, by omega, by go_num, HB7.out⟩
            case measure => simp [intOf]; omega
          · have t8 : ((i : Int) == (a : Int)) = false := by rw [beq_eq_false_iff_ne]; omega
            have t8' : (i == a) = false := by rw [beq_eq_false_iff_ne]; omega
            clear h1 h3 hmx HJ hj hik
            go_wp2_with fail
            go_quiet (fail)
            rw [HDI.out]
            have HB7 := Lib.hid (bel_drewN HBR.out nq)
            generalize wr.drewN nq = w7 at HB7 ⊢
            clear e1 e2 HBR
            go_wp2_with fail
            go_roundw
            case rel => exact ⟨i + 1, by omega, by omega, by go_num, HB7.out⟩
            case measure => simp [intOf]; omega
      · obtain rfl : i = K := by omega
        have HBF := Lib.hid (bel_then HB3.out HBR.out)
        go_wp2_with fail
        with_reducible refine (dworks_ok wr (HE.out.below HBF.out) (HP.out.up HBF.out) (HQ.out.below HBF.out)).mono ?_
        rintro e wz ⟨rfl, hb⟩
        have HZ := Lib.hid (bel_then HBF.out hb)
        clear hb
        go_wp2_with fail
        go_ret
        exact ⟨rfl, HZ.out⟩

end Go.Proofs.YthacjealoomioaaGreatDoor
