/- ExpiryPlays: the walk. -/
import Derived.Test.YtebclbpibafkdaaPlaysP
import Derived.Test.YtebclbpibafkdaaEndsW
import Derived.Test.YtebclbpibafkdaaFlat
namespace Go.Proofs.Ytebclbpibafkdaa
set_option linter.unusedVariables false
set_option linter.unusedSimpArgs false
open Go.RowKit

set_option maxHeartbeats 16000000 in
set_option maxRecDepth 100000 in
theorem plays_nil (slots : Int) (ao : Option Addr) (len cap b off : Nat) (F : Nat → Nat → Int) (slot now : Int) (w : World) (hF : FRow w ao len cap b off [.i64, .i64, .i64] F) (hl : len ≤ 200) (hnow : I64 now) (hs : slots < 0 ∨ 65536 < slots) :
    Calls Try.prog 12 #[.int .i64 slots, .slice ao len cap, .int .i64 slot, .int .i64 now] w (RetB (.bool true) w) := by
  have HF := Lib.hid hF
  have HNOW := Lib.hid hnow
  have HS := Lib.hid hs
  have START : Hid (PState w 0 (.pointer none) (.pointer none) w) := ⟨Below.refl _ _, .inl ⟨rfl, rfl⟩⟩
  clear hF hnow hs
  have hd : decide (200 < (len : Int)) = false := by simp; omega
  go_enter Try.func12, Try.ntmps12
  go_wp2_with (first
    | (go_at_call 30; refine (enew_low slots w HS.out).mono ?_; rintro e w' ⟨rfl, rfl⟩)
    | (go_at_call 31; refine (rnew_low slots w HS.out).mono ?_; rintro e w' ⟨rfl, rfl⟩))
  go_loopw [9, 11, 13] (fun s9 s11 s13 wr => ∃ (k : Nat) (p1 p2 : Option Addr), k ≤ len ∧ s13 = .int .i64 k ∧ s9 = .pointer p1 ∧ s11 = .pointer p2 ∧ PState w k s9 s11 wr) (fun _ _ s13 _ => len - (intOf s13).toNat)
  case atStart => exact ⟨0, _, _, by omega, rfl, rfl, rfl, START.out⟩
  case round =>
    obtain ⟨k, p1, p2, hk, rfl, rfl, rfl, hst⟩ := hrel
    clear START
    by_cases hlt : k < len
    · obtain rfl := HF.out.adr (by omega)
      have hfr := HF.out.keep (w' := wr) (fun p hp => hst.bel.cell hp)
      have c0 := hfr.cell k hlt 0 _ rfl
      have c1 := hfr.cell k hlt 1 _ rfl
      have c2 := hfr.cell k hlt 2 _ rfl
      have ht2 := i64_of (hfr.wf k hlt 2 _ rfl)
      simp only [List.length_cons, List.length_nil, Nat.add_zero, Nat.zero_add] at c0 c1 c2
      rw [← Nat.add_assoc] at c1 c2
      have hcap := HF.out.cap
      obtain ⟨hcap1, hcap2⟩ := hcap
      have HT2 := Lib.hid ht2
      generalize F k 0 = t0 at c0
      generalize F k 1 = t1 at c1
      generalize F k 2 = t2 at c2 HT2
      clear hfr ht2
      have PXX := Lib.hid (hst.with [.int .i64 t0, .int .i64 t1, .int .i64 t2])
      clear hst
      have PD := Lib.hid (PXX.out.below (Below.refl _ _).drew)
      have hl1 : decide (200 < len) = false := by simp; omega
      have x1 : True := trivial
      have x2 : True := trivial
      by_cases d0 : t0 = 0
      · subst d0
        obtain ⟨e0, M, C1, C2⟩ := both_set PD.out (by omega) t1 t2 HT2.out
        have H1 := Lib.hid C1
        have H2 := Lib.hid C2
        clear C1 C2 PD
        go_wp2_with fail
        go_region_held3 (fun w' => w'.cell? ⟨wr.heap.size, 1, none⟩ = some (.int .i64 t1) ∧ w'.cell? ⟨wr.heap.size, 2, none⟩ = some (.int .i64 t2)) ((first | go_keep | (refine ⟨?_, ?_⟩ <;> assumption)))
          (first
            | (go_at_call 37; refine (H1.out).mono ?_; rintro e w1 ⟨rfl, hmid, hxb⟩; have HM := Lib.hid hmid; have y1 := hxb.cell (i := 1) rfl; have y2 := hxb.cell (i := 2) rfl; clear hmid hxb)
            | (go_at_call 38; refine (H2.out _ HM.out).mono ?_; rintro e w2 ⟨rfl, hst⟩; have ST := Lib.hid hst; have z1 := hst.xb.cell (i := 1) rfl; have z2 := hst.xb.cell (i := 2) rfl; clear hst))
        clear HM y1 y2 x1 x2 z1 z2
        have x1 := ST.out.xb.cell (i := 1) rfl
        have x2 := ST.out.xb.cell (i := 2) rfl
        go_wp2_with fail
        with_reducible refine (both_agree ST.out.state _ now HNOW.out).mono ?_
        rintro e wa ⟨rfl, hba⟩
        have SA := Lib.hid (ST.out.below hba)
        have xa2 := SA.out.xb.cell (i := 2) rfl
        clear hba ST x1 x2
        go_wp2_with fail
        with_reducible refine (both_agree SA.out.state _ _ HT2.out).mono ?_
        rintro e wb ⟨rfl, hbb⟩
        have SB := Lib.hid (SA.out.below hbb).state
        clear hbb SA xa2
        go_wp2_with fail
        go_roundw
        case rel => exact ⟨k + 1, _, _, by omega, by go_num, rfl, rfl, SB.out⟩
        case measure => simp [intOf]; omega
      · have b0 : (t0 == 0) = false := beq_eq_false_iff_ne.2 d0
        by_cases d1 : t0 = 1
        · subst d1
          clear d0
          obtain ⟨e0, M, C1, C2⟩ := both_drop PD.out t1
          have H1 := Lib.hid C1
          have H2 := Lib.hid C2
          clear C1 C2 PD
          go_wp2_with fail
          go_region_held3 (fun w' => w'.cell? ⟨wr.heap.size, 1, none⟩ = some (.int .i64 t1) ∧ w'.cell? ⟨wr.heap.size, 2, none⟩ = some (.int .i64 t2)) ((first | go_keep | (refine ⟨?_, ?_⟩ <;> assumption)))
            (first
              | (go_at_call 35; refine (H1.out).mono ?_; rintro e w1 ⟨rfl, hmid, hxb⟩; have HM := Lib.hid hmid; have y1 := hxb.cell (i := 1) rfl; have y2 := hxb.cell (i := 2) rfl; clear hmid hxb)
              | (go_at_call 39; refine (H2.out _ HM.out).mono ?_; rintro e w2 ⟨rfl, hst⟩; have ST := Lib.hid hst; have z1 := hst.xb.cell (i := 1) rfl; have z2 := hst.xb.cell (i := 2) rfl; clear hst))
          clear HM y1 y2 x1 x2 z1 z2
          have x1 := ST.out.xb.cell (i := 1) rfl
          have x2 := ST.out.xb.cell (i := 2) rfl
          go_wp2_with fail
          with_reducible refine (both_agree ST.out.state _ now HNOW.out).mono ?_
          rintro e wa ⟨rfl, hba⟩
          have SA := Lib.hid (ST.out.below hba)
          have xa2 := SA.out.xb.cell (i := 2) rfl
          clear hba ST x1 x2
          go_wp2_with fail
          with_reducible refine (both_agree SA.out.state _ _ HT2.out).mono ?_
          rintro e wb ⟨rfl, hbb⟩
          have SB := Lib.hid (SA.out.below hbb).state
          clear hbb SA xa2
          go_wp2_with fail
          go_roundw
          case rel => exact ⟨k + 1, _, _, by omega, by go_num, rfl, rfl, SB.out⟩
          case measure => simp [intOf]; omega
        · have b1 : (t0 == 1) = false := beq_eq_false_iff_ne.2 d1
          by_cases d2 : t0 = 2
          · subst d2
            clear d0 d1
            obtain ⟨M, N, C1, C2, C3⟩ := both_due PD.out (by omega) t2
            have H1 := Lib.hid C1
            have H2 := Lib.hid C2
            have H3 := Lib.hid C3
            clear C1 C2 C3 PD
            go_wp2_with fail
            go_region_held3 (fun w' => w'.cell? ⟨wr.heap.size, 1, none⟩ = some (.int .i64 t1) ∧ w'.cell? ⟨wr.heap.size, 2, none⟩ = some (.int .i64 t2)) ((first | go_keep | (refine ⟨?_, ?_⟩ <;> assumption)))
              (first
                | (go_at_call 29; refine (H1.out).mono ?_; rintro e w1 ⟨⟨v1, rfl, hmid⟩, hxb⟩; have HM := Lib.hid hmid; have y1 := hxb.cell (i := 1) rfl; have y2 := hxb.cell (i := 2) rfl; clear hmid hxb)
                | (go_at_call 40; refine (H2.out _ _ HM.out).mono ?_; rintro e w2 ⟨⟨v2, rfl, hmid⟩, hxb⟩; have HN := Lib.hid hmid; have z1 := hxb.cell (i := 1) rfl; have z2 := hxb.cell (i := 2) rfl; clear hmid hxb)
                | (go_at_call 28; refine (H3.out _ _ _ HN.out).mono ?_; rintro e w3 ⟨rfl, hst⟩; have ST := Lib.hid (hst.more (Nat.le_succ k)); have u1 := hst.xb.cell (i := 1) rfl; have u2 := hst.xb.cell (i := 2) rfl; clear hst))
            clear HM HN y1 y2 z1 z2 x1 x2 u1 u2
            have x1 := ST.out.xb.cell (i := 1) rfl
            have x2 := ST.out.xb.cell (i := 2) rfl
            go_wp2_with fail
            with_reducible refine (both_agree ST.out.state _ now HNOW.out).mono ?_
            rintro e wa ⟨rfl, hba⟩
            have SA := Lib.hid (ST.out.below hba)
            have xa2 := SA.out.xb.cell (i := 2) rfl
            clear hba ST x1 x2
            go_wp2_with fail
            with_reducible refine (both_agree SA.out.state _ _ HT2.out).mono ?_
            rintro e wb ⟨rfl, hbb⟩
            have SB := Lib.hid (SA.out.below hbb).state
            clear hbb SA xa2
            go_wp2_with fail
            go_roundw
            case rel => exact ⟨k + 1, _, _, by omega, by go_num, rfl, rfl, SB.out⟩
            case measure => simp [intOf]; omega
          · have b2 : (t0 == 2) = false := beq_eq_false_iff_ne.2 d2
            by_cases d3 : t0 = 3
            · subst d3
              clear d0 d1 d2
              obtain ⟨M, C1, C2⟩ := both_copy PXX.out
              have H1 := Lib.hid C1
              have H2 := Lib.hid C2
              clear C1 C2 PD
              go_wp2_with fail
              with_reducible refine (H1.out).mono ?_
              rintro e w1 ⟨p3, rfl, hmid⟩
              have HM := Lib.hid hmid
              clear hmid
              go_wp2_with fail
              with_reducible refine (H2.out _ _ HM.out).mono ?_
              rintro e w2 ⟨p4, rfl, hst⟩
              have ST := Lib.hid (hst.more (Nat.le_succ k))
              clear hst x1 x2
              have x1 := ST.out.xb.cell (i := 1) rfl
              have x2 := ST.out.xb.cell (i := 2) rfl
              go_wp2_with fail
              with_reducible refine (both_agree ST.out.state _ now HNOW.out).mono ?_
              rintro e wa ⟨rfl, hba⟩
              have SA := Lib.hid (ST.out.below hba)
              have xa2 := SA.out.xb.cell (i := 2) rfl
              clear hba ST x1 x2
              go_wp2_with fail
              with_reducible refine (both_agree SA.out.state _ _ HT2.out).mono ?_
              rintro e wb ⟨rfl, hbb⟩
              have SB := Lib.hid (SA.out.below hbb).state
              clear hbb SA xa2
              go_wp2_with fail
              go_roundw
              case rel => exact ⟨k + 1, _, _, by omega, by go_num, rfl, rfl, SB.out⟩
              case measure => simp [intOf]; omega
            · have b3 : (t0 == 3) = false := beq_eq_false_iff_ne.2 d3
              clear d0 d1 d2 d3
              have ST := Lib.hid (PXX.out.more (Nat.le_succ k))
              clear PD
              go_wp2_with fail
              with_reducible refine (both_agree ST.out.state _ now HNOW.out).mono ?_
              rintro e wa ⟨rfl, hba⟩
              have SA := Lib.hid (ST.out.below hba)
              have xa2 := SA.out.xb.cell (i := 2) rfl
              clear hba ST x1 x2
              go_wp2_with fail
              with_reducible refine (both_agree SA.out.state _ _ HT2.out).mono ?_
              rintro e wb ⟨rfl, hbb⟩
              have SB := Lib.hid (SA.out.below hbb).state
              clear hbb SA xa2
              go_wp2_with fail
              go_roundw
              case rel => exact ⟨k + 1, _, _, by omega, by go_num, rfl, rfl, SB.out⟩
              case measure => simp [intOf]; omega
    · have hkl : k = len := by omega
      obtain ⟨M, N, Fin, C1, C2, C3, C4, C5⟩ := both_end hst (by omega)
      have H1 := Lib.hid C1
      have H2 := Lib.hid C2
      have H3 := Lib.hid C3
      have H4 := Lib.hid C4
      have H5 := Lib.hid C5
      clear C1 C2 C3 C4 C5 hst
      go_wp2_with fail
      with_reducible refine (H1.out).mono ?_
      rintro e w1 ⟨v1, rfl, hm⟩
      have HM := Lib.hid hm
      clear hm
      go_wp2_with fail
      with_reducible refine (H2.out _ _ HM.out).mono ?_
      rintro e w2 ⟨v2, rfl, hm⟩
      have HN := Lib.hid hm
      clear hm
      go_wp2_with fail
      with_reducible refine (H3.out _ _ _ HN.out).mono ?_
      rintro e w3 ⟨rfl, hfin⟩
      have HFIN := Lib.hid hfin
      clear hfin HM HN
      go_wp2_with (go_at_call 33; refine (H4.out _ HFIN.out).mono ?_; rintro e w' ⟨rfl, rfl⟩)
      with_reducible refine (works35 _).mono ?_
      rintro e w4 ⟨rfl, hb⟩
      have HB := Lib.hid ((H5.out _ HFIN.out).trans (hb.mono (H5.out _ HFIN.out).size))
      clear hb
      go_wp2_with fail
      go_ret
      exact ⟨rfl, HB.out⟩

set_option maxHeartbeats 16000000 in
set_option maxRecDepth 100000 in
theorem plays_obj (n : Nat) (ao : Option Addr) (len cap b off : Nat) (F : Nat → Nat → Int) (slot now : Int) (w : World) (hF : FRow w ao len cap b off [.i64, .i64, .i64] F) (hl : len ≤ 200) (hnow : I64 now) (hs : n ≤ 65536) :
    Calls Try.prog 12 #[.int .i64 n, .slice ao len cap, .int .i64 slot, .int .i64 now] w (RetB (.bool true) w) := by
  have HF := Lib.hid hF
  have HNOW := Lib.hid hnow
  clear hF hnow
  have hd : decide (200 < (len : Int)) = false := by simp; omega
  go_enter Try.func12, Try.ntmps12
  go_wp2_with fail
  with_reducible refine (enew_ok n w hs).mono ?_
  rintro e w1 ⟨hb1, s, q, g, ho, hf, hsz, rfl⟩
  have E1 := Lib.hid (EFresh.mk ho hb1 hf hsz)
  clear ho hf hsz hb1
  go_wp2_with fail
  with_reducible refine (rnew_ok n w1 hs).mono ?_
  rintro e w2 ⟨hb2, r, v, hr, hr1, hr2, rfl⟩
  have START : Hid (PState w 0 (.pointer (some ⟨s, 0, none⟩)) (.pointer (some ⟨r, 0, none⟩)) w2) := by
    have h1 := E1.out.below hb2
    have hs1 := E1.out.bel.size
    refine ⟨h1.bel, .inr ⟨s, n, [], q, g, r, v, rfl, rfl, ⟨h1, hr, by omega, fun x hx => by have := hr2 x hx; omega, fun x a1 a2 => ?_, by simp, by simp⟩⟩⟩
    have a3 := E1.out.obj.lt x a1
    rcases a2 with a2 | a2
    · omega
    · have := hr2 x a2; omega
  clear hb2 hr hr1 hr2 E1
  go_wp2_with fail
  go_loopw [9, 11, 13] (fun s9 s11 s13 wr => ∃ (k : Nat) (p1 p2 : Option Addr), k ≤ len ∧ s13 = .int .i64 k ∧ s9 = .pointer p1 ∧ s11 = .pointer p2 ∧ PState w k s9 s11 wr) (fun _ _ s13 _ => len - (intOf s13).toNat)
  case atStart => exact ⟨0, _, _, by omega, rfl, rfl, rfl, START.out⟩
  case round =>
    obtain ⟨k, p1, p2, hk, rfl, rfl, rfl, hst⟩ := hrel
    clear START
    by_cases hlt : k < len
    · obtain rfl := HF.out.adr (by omega)
      have hfr := HF.out.keep (w' := wr) (fun p hp => hst.bel.cell hp)
      have c0 := hfr.cell k hlt 0 _ rfl
      have c1 := hfr.cell k hlt 1 _ rfl
      have c2 := hfr.cell k hlt 2 _ rfl
      have ht2 := i64_of (hfr.wf k hlt 2 _ rfl)
      simp only [List.length_cons, List.length_nil, Nat.add_zero, Nat.zero_add] at c0 c1 c2
      rw [← Nat.add_assoc] at c1 c2
      have hcap := HF.out.cap
      obtain ⟨hcap1, hcap2⟩ := hcap
      have HT2 := Lib.hid ht2
      generalize F k 0 = t0 at c0
      generalize F k 1 = t1 at c1
      generalize F k 2 = t2 at c2 HT2
      clear hfr ht2
      have PXX := Lib.hid (hst.with [.int .i64 t0, .int .i64 t1, .int .i64 t2])
      clear hst
      have PD := Lib.hid (PXX.out.below (Below.refl _ _).drew)
      have hl1 : decide (200 < len) = false := by simp; omega
      have x1 : True := trivial
      have x2 : True := trivial
      by_cases d0 : t0 = 0
      · subst d0
        obtain ⟨e0, M, C1, C2⟩ := both_set PD.out (by omega) t1 t2 HT2.out
        have H1 := Lib.hid C1
        have H2 := Lib.hid C2
        clear C1 C2 PD
        go_wp2_with fail
        go_region_held3 (fun w' => w'.cell? ⟨wr.heap.size, 1, none⟩ = some (.int .i64 t1) ∧ w'.cell? ⟨wr.heap.size, 2, none⟩ = some (.int .i64 t2)) ((first | go_keep | (refine ⟨?_, ?_⟩ <;> assumption)))
          (first
            | (go_at_call 37; refine (H1.out).mono ?_; rintro e w1 ⟨rfl, hmid, hxb⟩; have HM := Lib.hid hmid; have y1 := hxb.cell (i := 1) rfl; have y2 := hxb.cell (i := 2) rfl; clear hmid hxb)
            | (go_at_call 38; refine (H2.out _ HM.out).mono ?_; rintro e w2 ⟨rfl, hst⟩; have ST := Lib.hid hst; have z1 := hst.xb.cell (i := 1) rfl; have z2 := hst.xb.cell (i := 2) rfl; clear hst))
        clear HM y1 y2 x1 x2 z1 z2
        have x1 := ST.out.xb.cell (i := 1) rfl
        have x2 := ST.out.xb.cell (i := 2) rfl
        go_wp2_with fail
        with_reducible refine (both_agree ST.out.state _ now HNOW.out).mono ?_
        rintro e wa ⟨rfl, hba⟩
        have SA := Lib.hid (ST.out.below hba)
        have xa2 := SA.out.xb.cell (i := 2) rfl
        clear hba ST x1 x2
        go_wp2_with fail
        with_reducible refine (both_agree SA.out.state _ _ HT2.out).mono ?_
        rintro e wb ⟨rfl, hbb⟩
        have SB := Lib.hid (SA.out.below hbb).state
        clear hbb SA xa2
        go_wp2_with fail
        go_roundw
        case rel => exact ⟨k + 1, _, _, by omega, by go_num, rfl, rfl, SB.out⟩
        case measure => simp [intOf]; omega
      · have b0 : (t0 == 0) = false := beq_eq_false_iff_ne.2 d0
        by_cases d1 : t0 = 1
        · subst d1
          clear d0
          obtain ⟨e0, M, C1, C2⟩ := both_drop PD.out t1
          have H1 := Lib.hid C1
          have H2 := Lib.hid C2
          clear C1 C2 PD
          go_wp2_with fail
          go_region_held3 (fun w' => w'.cell? ⟨wr.heap.size, 1, none⟩ = some (.int .i64 t1) ∧ w'.cell? ⟨wr.heap.size, 2, none⟩ = some (.int .i64 t2)) ((first | go_keep | (refine ⟨?_, ?_⟩ <;> assumption)))
            (first
              | (go_at_call 35; refine (H1.out).mono ?_; rintro e w1 ⟨rfl, hmid, hxb⟩; have HM := Lib.hid hmid; have y1 := hxb.cell (i := 1) rfl; have y2 := hxb.cell (i := 2) rfl; clear hmid hxb)
              | (go_at_call 39; refine (H2.out _ HM.out).mono ?_; rintro e w2 ⟨rfl, hst⟩; have ST := Lib.hid hst; have z1 := hst.xb.cell (i := 1) rfl; have z2 := hst.xb.cell (i := 2) rfl; clear hst))
          clear HM y1 y2 x1 x2 z1 z2
          have x1 := ST.out.xb.cell (i := 1) rfl
          have x2 := ST.out.xb.cell (i := 2) rfl
          go_wp2_with fail
          with_reducible refine (both_agree ST.out.state _ now HNOW.out).mono ?_
          rintro e wa ⟨rfl, hba⟩
          have SA := Lib.hid (ST.out.below hba)
          have xa2 := SA.out.xb.cell (i := 2) rfl
          clear hba ST x1 x2
          go_wp2_with fail
          with_reducible refine (both_agree SA.out.state _ _ HT2.out).mono ?_
          rintro e wb ⟨rfl, hbb⟩
          have SB := Lib.hid (SA.out.below hbb).state
          clear hbb SA xa2
          go_wp2_with fail
          go_roundw
          case rel => exact ⟨k + 1, _, _, by omega, by go_num, rfl, rfl, SB.out⟩
          case measure => simp [intOf]; omega
        · have b1 : (t0 == 1) = false := beq_eq_false_iff_ne.2 d1
          by_cases d2 : t0 = 2
          · subst d2
            clear d0 d1
            obtain ⟨M, N, C1, C2, C3⟩ := both_due PD.out (by omega) t2
            have H1 := Lib.hid C1
            have H2 := Lib.hid C2
            have H3 := Lib.hid C3
            clear C1 C2 C3 PD
            go_wp2_with fail
            go_region_held3 (fun w' => w'.cell? ⟨wr.heap.size, 1, none⟩ = some (.int .i64 t1) ∧ w'.cell? ⟨wr.heap.size, 2, none⟩ = some (.int .i64 t2)) ((first | go_keep | (refine ⟨?_, ?_⟩ <;> assumption)))
              (first
                | (go_at_call 29; refine (H1.out).mono ?_; rintro e w1 ⟨⟨v1, rfl, hmid⟩, hxb⟩; have HM := Lib.hid hmid; have y1 := hxb.cell (i := 1) rfl; have y2 := hxb.cell (i := 2) rfl; clear hmid hxb)
                | (go_at_call 40; refine (H2.out _ _ HM.out).mono ?_; rintro e w2 ⟨⟨v2, rfl, hmid⟩, hxb⟩; have HN := Lib.hid hmid; have z1 := hxb.cell (i := 1) rfl; have z2 := hxb.cell (i := 2) rfl; clear hmid hxb)
                | (go_at_call 28; refine (H3.out _ _ _ HN.out).mono ?_; rintro e w3 ⟨rfl, hst⟩; have ST := Lib.hid (hst.more (Nat.le_succ k)); have u1 := hst.xb.cell (i := 1) rfl; have u2 := hst.xb.cell (i := 2) rfl; clear hst))
            clear HM HN y1 y2 z1 z2 x1 x2 u1 u2
            have x1 := ST.out.xb.cell (i := 1) rfl
            have x2 := ST.out.xb.cell (i := 2) rfl
            go_wp2_with fail
            with_reducible refine (both_agree ST.out.state _ now HNOW.out).mono ?_
            rintro e wa ⟨rfl, hba⟩
            have SA := Lib.hid (ST.out.below hba)
            have xa2 := SA.out.xb.cell (i := 2) rfl
            clear hba ST x1 x2
            go_wp2_with fail
            with_reducible refine (both_agree SA.out.state _ _ HT2.out).mono ?_
            rintro e wb ⟨rfl, hbb⟩
            have SB := Lib.hid (SA.out.below hbb).state
            clear hbb SA xa2
            go_wp2_with fail
            go_roundw
            case rel => exact ⟨k + 1, _, _, by omega, by go_num, rfl, rfl, SB.out⟩
            case measure => simp [intOf]; omega
          · have b2 : (t0 == 2) = false := beq_eq_false_iff_ne.2 d2
            by_cases d3 : t0 = 3
            · subst d3
              clear d0 d1 d2
              obtain ⟨M, C1, C2⟩ := both_copy PXX.out
              have H1 := Lib.hid C1
              have H2 := Lib.hid C2
              clear C1 C2 PD
              go_wp2_with fail
              with_reducible refine (H1.out).mono ?_
              rintro e w1 ⟨p3, rfl, hmid⟩
              have HM := Lib.hid hmid
              clear hmid
              go_wp2_with fail
              with_reducible refine (H2.out _ _ HM.out).mono ?_
              rintro e w2 ⟨p4, rfl, hst⟩
              have ST := Lib.hid (hst.more (Nat.le_succ k))
              clear hst x1 x2
              have x1 := ST.out.xb.cell (i := 1) rfl
              have x2 := ST.out.xb.cell (i := 2) rfl
              go_wp2_with fail
              with_reducible refine (both_agree ST.out.state _ now HNOW.out).mono ?_
              rintro e wa ⟨rfl, hba⟩
              have SA := Lib.hid (ST.out.below hba)
              have xa2 := SA.out.xb.cell (i := 2) rfl
              clear hba ST x1 x2
              go_wp2_with fail
              with_reducible refine (both_agree SA.out.state _ _ HT2.out).mono ?_
              rintro e wb ⟨rfl, hbb⟩
              have SB := Lib.hid (SA.out.below hbb).state
              clear hbb SA xa2
              go_wp2_with fail
              go_roundw
              case rel => exact ⟨k + 1, _, _, by omega, by go_num, rfl, rfl, SB.out⟩
              case measure => simp [intOf]; omega
            · have b3 : (t0 == 3) = false := beq_eq_false_iff_ne.2 d3
              clear d0 d1 d2 d3
              have ST := Lib.hid (PXX.out.more (Nat.le_succ k))
              clear PD
              go_wp2_with fail
              with_reducible refine (both_agree ST.out.state _ now HNOW.out).mono ?_
              rintro e wa ⟨rfl, hba⟩
              have SA := Lib.hid (ST.out.below hba)
              have xa2 := SA.out.xb.cell (i := 2) rfl
              clear hba ST x1 x2
              go_wp2_with fail
              with_reducible refine (both_agree SA.out.state _ _ HT2.out).mono ?_
              rintro e wb ⟨rfl, hbb⟩
              have SB := Lib.hid (SA.out.below hbb).state
              clear hbb SA xa2
              go_wp2_with fail
              go_roundw
              case rel => exact ⟨k + 1, _, _, by omega, by go_num, rfl, rfl, SB.out⟩
              case measure => simp [intOf]; omega
    · have hkl : k = len := by omega
      obtain ⟨M, N, Fin, C1, C2, C3, C4, C5⟩ := both_end hst (by omega)
      have H1 := Lib.hid C1
      have H2 := Lib.hid C2
      have H3 := Lib.hid C3
      have H4 := Lib.hid C4
      have H5 := Lib.hid C5
      clear C1 C2 C3 C4 C5 hst
      go_wp2_with fail
      with_reducible refine (H1.out).mono ?_
      rintro e w1 ⟨v1, rfl, hm⟩
      have HM := Lib.hid hm
      clear hm
      go_wp2_with fail
      with_reducible refine (H2.out _ _ HM.out).mono ?_
      rintro e w2 ⟨v2, rfl, hm⟩
      have HN := Lib.hid hm
      clear hm
      go_wp2_with fail
      with_reducible refine (H3.out _ _ _ HN.out).mono ?_
      rintro e w3 ⟨rfl, hfin⟩
      have HFIN := Lib.hid hfin
      clear hfin HM HN
      go_wp2_with (go_at_call 33; refine (H4.out _ HFIN.out).mono ?_; rintro e w' ⟨rfl, rfl⟩)
      with_reducible refine (works35 _).mono ?_
      rintro e w4 ⟨rfl, hb⟩
      have HB := Lib.hid ((H5.out _ HFIN.out).trans (hb.mono (H5.out _ HFIN.out).size))
      clear hb
      go_wp2_with fail
      go_ret
      exact ⟨rfl, HB.out⟩

set_option maxHeartbeats 4000000 in
set_option maxRecDepth 100000 in
theorem plays_long_nil (slots : Int) (ao : Option Addr) (len cap : Nat) (slot now : Int) (w : World) (hm : len ≤ 9223372036854775807) (hl : 200 < len) (hs : slots < 0 ∨ 65536 < slots) :
    Calls Try.prog 12 #[.int .i64 slots, .slice ao len cap, .int .i64 slot, .int .i64 now] w (RetB (.bool true) w) := by
  have HS := Lib.hid hs
  clear hs
  have hd : decide (200 < (len : Int)) = true := by simp; omega
  go_enter Try.func12, Try.ntmps12
  go_wp2_with (first
    | (go_at_call 30; refine (enew_low slots w HS.out).mono ?_; rintro e w' ⟨rfl, rfl⟩)
    | (go_at_call 31; refine (rnew_low slots w HS.out).mono ?_; rintro e w' ⟨rfl, rfl⟩))
  with_reducible refine (works35 _).mono ?_
  rintro e w' ⟨rfl, hb⟩
  have HB := Lib.hid hb
  clear hb
  go_wp2_with fail
  go_ret
  exact ⟨rfl, HB.out⟩

set_option maxHeartbeats 4000000 in
set_option maxRecDepth 100000 in
theorem plays_long_obj (n : Nat) (ao : Option Addr) (len cap : Nat) (slot now : Int) (w : World) (hm : len ≤ 9223372036854775807) (hl : 200 < len) (hs : n ≤ 65536) :
    Calls Try.prog 12 #[.int .i64 n, .slice ao len cap, .int .i64 slot, .int .i64 now] w (RetB (.bool true) w) := by
  have hd : decide (200 < (len : Int)) = true := by simp; omega
  go_enter Try.func12, Try.ntmps12
  go_wp2_with fail
  with_reducible refine (enew_ok n w hs).mono ?_
  rintro e w1 ⟨hb1, s, q, g, ho, hf, hsz, rfl⟩
  have HB1 := Lib.hid hb1
  clear ho hf hsz hb1
  go_wp2_with fail
  with_reducible refine (rnew_ok n w1 hs).mono ?_
  rintro e w2 ⟨hb2, r, v, hr, hr1, hr2, rfl⟩
  have HB2 := Lib.hid (HB1.out.trans (hb2.mono HB1.out.size))
  clear hb2 hr hr1 hr2
  go_wp2_with fail
  with_reducible refine (works35 _).mono ?_
  rintro e w' ⟨rfl, hb⟩
  have HB := Lib.hid (HB2.out.trans (hb.mono HB2.out.size))
  clear hb
  go_wp2_with fail
  go_ret
  exact ⟨rfl, HB.out⟩

theorem plays_law (slots : Int) (ao : Option Addr) (len cap b off : Nat) (F : Nat → Nat → Int) (slot now : Int) (w : World) (hF : FRow w ao len cap b off [.i64, .i64, .i64] F) (hnow : I64 now) :
    Calls Try.prog 12 #[.int .i64 slots, .slice ao len cap, .int .i64 slot, .int .i64 now] w (RetB (.bool true) w) := by
  by_cases hs : slots < 0 ∨ 65536 < slots
  · by_cases hl : len ≤ 200
    · exact plays_nil slots ao len cap b off F slot now w hF hl hnow hs
    · exact plays_long_nil slots ao len cap slot now w hF.lim (by omega) hs
  · obtain ⟨n, rfl⟩ := Int.eq_ofNat_of_zero_le (show 0 ≤ slots by omega)
    by_cases hl : len ≤ 200
    · exact plays_obj n ao len cap b off F slot now w hF hl hnow (by omega)
    · exact plays_long_obj n ao len cap slot now w hF.lim (by omega) (by omega)

end Go.Proofs.Ytebclbpibafkdaa
