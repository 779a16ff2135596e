/- HeapPlays: the walk. -/
import Derived.Test.YtebclbpibafkdaaHPlayP
import Derived.Test.YtebclbpibafkdaaFlat
import Derived.Deep.RegionHeld3
namespace Go.Proofs.Ytebclbpibafkdaa
set_option linter.unusedVariables false
set_option linter.unusedSimpArgs false
open Go.RowKit

set_option maxHeartbeats 16000000 in
set_option maxRecDepth 100000 in
theorem hplays_nil (slots : Int) (ao : Option Addr) (len cap b off : Nat) (F : Nat → Nat → Int) (i : Int) (w : World) (hF : FRow w ao len cap b off [.i64, .i64, .i64] F) (hl : len ≤ 200) (hs : slots < 0 ∨ 65536 < slots) :
    Calls Try.prog 19 #[.int .i64 slots, .slice ao len cap, .int .i64 i] w (RetB (.bool true) w) := by
  have HF := Lib.hid hF
  have HS := Lib.hid hs
  have START : Hid (QState w 0 (.pointer none) (.pointer none) w) := ⟨Below.refl _ _, .inl ⟨rfl, rfl⟩⟩
  clear hF hs
  have hd : decide (200 < (len : Int)) = false := by simp; omega
  go_enter Try.func19, Try.ntmps19
  go_wp2_with (first
    | (go_at_call 44; refine (hnew_low slots w HS.out).mono ?_; rintro e w' ⟨rfl, rfl⟩)
    | (go_at_call 45; refine (r4new_low slots w HS.out).mono ?_; rintro e w' ⟨rfl, rfl⟩))
  go_loopw [7, 9, 11] (fun s9 s11 s13 wr => ∃ (k : Nat) (p1 p2 : Option Addr), k ≤ len ∧ s13 = .int .i64 k ∧ s9 = .pointer p1 ∧ s11 = .pointer p2 ∧ QState w k s9 s11 wr) (fun _ _ s13 _ => len - (intOf s13).toNat)
  case atStart => exact ⟨0, _, _, by omega, rfl, rfl, rfl, START.out⟩
  case round =>
    obtain ⟨k, p1, p2, hk, rfl, rfl, rfl, hst⟩ := hrel
    clear START
    by_cases hlt : k < len
    · obtain rfl := HF.out.adr (by omega)
      have hfr := HF.out.keep (w' := wr) (fun p hp => hst.bel.cell hp)
      have c0 := hfr.cell k hlt 0 _ rfl
      have c1 := hfr.cell k hlt 1 _ rfl
      have c2 := hfr.cell k hlt 2 _ rfl
      simp only [List.length_cons, List.length_nil, Nat.add_zero, Nat.zero_add] at c0 c1 c2
      rw [← Nat.add_assoc] at c1 c2
      have hcap := HF.out.cap
      obtain ⟨hcap1, hcap2⟩ := hcap
      generalize F k 0 = t0 at c0
      generalize F k 1 = t1 at c1
      generalize F k 2 = t2 at c2
      clear hfr
      have PXX := Lib.hid (hst.with [.int .i64 t0, .int .i64 t1, .int .i64 t2])
      clear hst
      have PD := Lib.hid (PXX.out.below (Below.refl _ _).drew)
      have hl1 : decide (200 < len) = false := by simp; omega
      have x1 : True := trivial
      have x2 : True := trivial
      by_cases d0 : t0 = 0
      · subst d0
        obtain ⟨e0, M, C1, C2⟩ := both_push4 PD.out (by omega) t1 t2
        have H1 := Lib.hid C1
        have H2 := Lib.hid C2
        clear C1 C2 PD
        go_wp2_with fail
        go_region_held3 (fun w' => w'.cell? ⟨wr.heap.size, 1, none⟩ = some (.int .i64 t1) ∧ w'.cell? ⟨wr.heap.size, 2, none⟩ = some (.int .i64 t2)) ((first | go_keep | (refine ⟨?_, ?_⟩ <;> assumption)))
          (first
            | (go_at_call 49; refine (H1.out).mono ?_; rintro e w1 ⟨rfl, hmid, hxb⟩; have HM := Lib.hid hmid; have y1 := hxb.cell (i := 1) rfl; have y2 := hxb.cell (i := 2) rfl; clear hmid hxb)
            | (go_at_call 52; refine (H2.out _ HM.out).mono ?_; rintro e w2 ⟨rfl, hst⟩; have ST := Lib.hid hst; have z1 := hst.xb.cell (i := 1) rfl; have z2 := hst.xb.cell (i := 2) rfl; clear hst))
        clear HM y1 y2 x1 x2 z1 z2
        have x1 := ST.out.xb.cell (i := 1) rfl
        have x2 := ST.out.xb.cell (i := 2) rfl
        go_wp2_with fail
        with_reducible refine (both_agree4 ST.out.state _).mono ?_
        rintro e wa ⟨rfl, hba⟩
        have SA := Lib.hid (ST.out.below hba)
        clear hba ST x1 x2
        go_wp2_with fail
        with_reducible refine (both_agree4 SA.out.state _).mono ?_
        rintro e wb ⟨rfl, hbb⟩
        have SB := Lib.hid (SA.out.below hbb).state
        clear hbb SA
        go_wp2_with fail
        go_roundw
        case rel => exact ⟨k + 1, _, _, by omega, by go_num, rfl, rfl, SB.out⟩
        case measure => simp [intOf]; omega
      · have b0 : (t0 == 0) = false := beq_eq_false_iff_ne.2 d0
        by_cases d1 : t0 = 1
        · subst d1
          clear d0
          obtain ⟨e0, M, C1, C2⟩ := both_change4 PD.out t1 t2
          have H1 := Lib.hid C1
          have H2 := Lib.hid C2
          clear C1 C2 PD
          go_wp2_with fail
          go_region_held3 (fun w' => w'.cell? ⟨wr.heap.size, 1, none⟩ = some (.int .i64 t1) ∧ w'.cell? ⟨wr.heap.size, 2, none⟩ = some (.int .i64 t2)) ((first | go_keep | (refine ⟨?_, ?_⟩ <;> assumption)))
            (first
              | (go_at_call 48; refine (H1.out).mono ?_; rintro e w1 ⟨rfl, hmid, hxb⟩; have HM := Lib.hid hmid; have y1 := hxb.cell (i := 1) rfl; have y2 := hxb.cell (i := 2) rfl; clear hmid hxb)
              | (go_at_call 53; refine (H2.out _ HM.out).mono ?_; rintro e w2 ⟨rfl, hst⟩; have ST := Lib.hid hst; have z1 := hst.xb.cell (i := 1) rfl; have z2 := hst.xb.cell (i := 2) rfl; clear hst))
          clear HM y1 y2 x1 x2 z1 z2
          have x1 := ST.out.xb.cell (i := 1) rfl
          have x2 := ST.out.xb.cell (i := 2) rfl
          go_wp2_with fail
          with_reducible refine (both_agree4 ST.out.state _).mono ?_
          rintro e wa ⟨rfl, hba⟩
          have SA := Lib.hid (ST.out.below hba)
          clear hba ST x1 x2
          go_wp2_with fail
          with_reducible refine (both_agree4 SA.out.state _).mono ?_
          rintro e wb ⟨rfl, hbb⟩
          have SB := Lib.hid (SA.out.below hbb).state
          clear hbb SA
          go_wp2_with fail
          go_roundw
          case rel => exact ⟨k + 1, _, _, by omega, by go_num, rfl, rfl, SB.out⟩
          case measure => simp [intOf]; omega
        · have b1 : (t0 == 1) = false := beq_eq_false_iff_ne.2 d1
          by_cases d2 : t0 = 2
          · subst d2
            clear d0 d1
            obtain ⟨e0, M, C1, C2⟩ := both_remove4 PD.out t1
            have H1 := Lib.hid C1
            have H2 := Lib.hid C2
            clear C1 C2 PD
            go_wp2_with fail
            go_region_held3 (fun w' => w'.cell? ⟨wr.heap.size, 1, none⟩ = some (.int .i64 t1) ∧ w'.cell? ⟨wr.heap.size, 2, none⟩ = some (.int .i64 t2)) ((first | go_keep | (refine ⟨?_, ?_⟩ <;> assumption)))
              (first
                | (go_at_call 47; refine (H1.out).mono ?_; rintro e w1 ⟨rfl, hmid, hxb⟩; have HM := Lib.hid hmid; have y1 := hxb.cell (i := 1) rfl; have y2 := hxb.cell (i := 2) rfl; clear hmid hxb)
                | (go_at_call 54; refine (H2.out _ HM.out).mono ?_; rintro e w2 ⟨rfl, hst⟩; have ST := Lib.hid hst; have z1 := hst.xb.cell (i := 1) rfl; have z2 := hst.xb.cell (i := 2) rfl; clear hst))
            clear HM y1 y2 x1 x2 z1 z2
            have x1 := ST.out.xb.cell (i := 1) rfl
            have x2 := ST.out.xb.cell (i := 2) rfl
            go_wp2_with fail
            with_reducible refine (both_agree4 ST.out.state _).mono ?_
            rintro e wa ⟨rfl, hba⟩
            have SA := Lib.hid (ST.out.below hba)
            clear hba ST x1 x2
            go_wp2_with fail
            with_reducible refine (both_agree4 SA.out.state _).mono ?_
            rintro e wb ⟨rfl, hbb⟩
            have SB := Lib.hid (SA.out.below hbb).state
            clear hbb SA
            go_wp2_with fail
            go_roundw
            case rel => exact ⟨k + 1, _, _, by omega, by go_num, rfl, rfl, SB.out⟩
            case measure => simp [intOf]; omega
          · have b2 : (t0 == 2) = false := beq_eq_false_iff_ne.2 d2
            by_cases d3 : t0 = 3
            · subst d3
              clear d0 d1 d2
              obtain ⟨a0, a1, tt, M, FF, CM, C1, C2⟩ := both_pop4 PXX.out
              have HCM := Lib.hid CM
              have H1 := Lib.hid C1
              have H2 := Lib.hid C2
              clear CM C1 C2 PD
              go_wp2_with fail
              with_reducible refine (H1.out).mono ?_
              rintro e w1 ⟨rfl, hmid, hlt1⟩
              have hb2 : Below w1.heap.size w1 (w1.alloc (.cells #[.int .i64 a0, .int .i64 a1] 28)) := (Below.refl _ _).alloc (Nat.le_refl _) _
              have HM := Lib.hid (HCM.out _ _ hmid hb2)
              have BA := Lib.hid (Blk.new w1 28 [.int .i64 a0, .int .i64 a1])
              have NA : Hid (¬ FF w1.heap.size) := fun e => by have := hlt1 _ e; omega
              clear hmid hlt1 hb2
              go_wp2_with fail
              generalize hW : World.alloc w1 _ = W2 at *
              generalize w1.heap.size = A1 at *
              clear hW
              with_reducible refine (H2.out _ HM.out).mono ?_
              rintro e w3 ⟨rfl, hst, hmod⟩
              have hb4 : Below w3.heap.size w3 (w3.alloc (.cells #[.int .i64 a0, .int .i64 a1] 28)) := (Below.refl _ _).alloc (Nat.le_refl _) _
              have ST := Lib.hid (hst.below hb4)
              have BA3 := (BA.out.mod hmod NA.out).alloc (.cells #[.int .i64 a0, .int .i64 a1] 28)
              have BB3 := Blk.new w3 28 [.int .i64 a0, .int .i64 a1]
              have p0 := BA3.cell (i := 0) rfl
              have p1 := BA3.cell (i := 1) rfl
              have q0 := BB3.cell (i := 0) rfl
              have q1 := BB3.cell (i := 1) rfl
              clear hst hmod hb4 BA3 BB3 BA NA HM x1 x2
              have x1 := ST.out.xb.cell (i := 1) rfl
              have x2 := ST.out.xb.cell (i := 2) rfl
              go_wp2_with fail
              generalize hW : World.alloc w3 _ = W4 at *
              clear hW p0 p1 q0 q1
              with_reducible refine (both_agree4 ST.out.state _).mono ?_
              rintro e wa ⟨rfl, hba⟩
              have SA := Lib.hid (ST.out.below hba)
              clear hba ST x1 x2
              go_wp2_with fail
              with_reducible refine (both_agree4 SA.out.state _).mono ?_
              rintro e wb ⟨rfl, hbb⟩
              have SB := Lib.hid (SA.out.below hbb).state
              clear hbb SA
              go_wp2_with fail
              go_roundw
              case rel => exact ⟨k + 1, _, _, by omega, by go_num, rfl, rfl, SB.out⟩
              case measure => simp [intOf]; omega
            · have b3 : (t0 == 3) = false := beq_eq_false_iff_ne.2 d3
              by_cases d4 : t0 = 4
              · subst d4
                clear d0 d1 d2 d3
                obtain ⟨M, C1, C2⟩ := both_copy4 PXX.out
                have H1 := Lib.hid C1
                have H2 := Lib.hid C2
                clear C1 C2 PD
                go_wp2_with fail
                with_reducible refine (H1.out).mono ?_
                rintro e w1 ⟨p3, rfl, hmid⟩
                have HM := Lib.hid hmid
                clear hmid
                go_wp2_with fail
                with_reducible refine (H2.out _ _ HM.out).mono ?_
                rintro e w2 ⟨p4, rfl, hst⟩
                have ST := Lib.hid (hst.more (Nat.le_succ k))
                clear hst x1 x2
                have x1 := ST.out.xb.cell (i := 1) rfl
                have x2 := ST.out.xb.cell (i := 2) rfl
                go_wp2_with fail
                with_reducible refine (both_agree4 ST.out.state _).mono ?_
                rintro e wa ⟨rfl, hba⟩
                have SA := Lib.hid (ST.out.below hba)
                clear hba ST x1 x2
                go_wp2_with fail
                with_reducible refine (both_agree4 SA.out.state _).mono ?_
                rintro e wb ⟨rfl, hbb⟩
                have SB := Lib.hid (SA.out.below hbb).state
                clear hbb SA
                go_wp2_with fail
                go_roundw
                case rel => exact ⟨k + 1, _, _, by omega, by go_num, rfl, rfl, SB.out⟩
                case measure => simp [intOf]; omega
              · have b4 : (t0 == 4) = false := beq_eq_false_iff_ne.2 d4
                clear d0 d1 d2 d3 d4
                have ST := Lib.hid (PXX.out.more (Nat.le_succ k))
                clear PD
                go_wp2_with fail
                with_reducible refine (both_agree4 ST.out.state _).mono ?_
                rintro e wa ⟨rfl, hba⟩
                have SA := Lib.hid (ST.out.below hba)
                clear hba ST x1 x2
                go_wp2_with fail
                with_reducible refine (both_agree4 SA.out.state _).mono ?_
                rintro e wb ⟨rfl, hbb⟩
                have SB := Lib.hid (SA.out.below hbb).state
                clear hbb SA
                go_wp2_with fail
                go_roundw
                case rel => exact ⟨k + 1, _, _, by omega, by go_num, rfl, rfl, SB.out⟩
                case measure => simp [intOf]; omega
    · have HBE := Lib.hid hst.bel
      clear hst
      go_wp2_with fail
      with_reducible refine (works04 _).mono ?_
      rintro e w4 ⟨rfl, hb⟩
      have HB := Lib.hid (HBE.out.trans (hb.mono HBE.out.size))
      clear hb
      go_wp2_with fail
      go_ret
      exact ⟨rfl, HB.out⟩

set_option maxHeartbeats 16000000 in
set_option maxRecDepth 100000 in
theorem hplays_obj (n : Nat) (ao : Option Addr) (len cap b off : Nat) (F : Nat → Nat → Int) (i : Int) (w : World) (hF : FRow w ao len cap b off [.i64, .i64, .i64] F) (hl : len ≤ 200) (hs : n ≤ 65536) :
    Calls Try.prog 19 #[.int .i64 n, .slice ao len cap, .int .i64 i] w (RetB (.bool true) w) := by
  have HF := Lib.hid hF
  clear hF
  have hd : decide (200 < (len : Int)) = false := by simp; omega
  go_enter Try.func19, Try.ntmps19
  go_wp2_with fail
  with_reducible refine (new_obj n w hs).mono ?_
  rintro e w1 ⟨hb1, s, g, ho, hf, rfl⟩
  have HO := Lib.hid ho
  have HF1 := Lib.hid hf
  have HB1 := Lib.hid hb1
  clear ho hf hb1
  go_wp2_with fail
  with_reducible refine (r4new_ok n w1 hs).mono ?_
  rintro e w2 ⟨hb2, r, v, hr, hr1, hr2, rfl⟩
  have START : Hid (QState w 0 (.pointer (some ⟨s, 0, none⟩)) (.pointer (some ⟨r, 0, none⟩)) w2) := by
    have hs1 := HB1.out.size
    have hbb := HB1.out.trans (hb2.mono hs1)
    refine ⟨hbb, .inr ⟨s, n, [], [], g, r, v, rfl, rfl, ⟨HO.out.below hb2, hbb, HF1.out, hr, List.Perm.refl _, by omega, fun x hx => by have := hr2 x hx; omega, fun x a1 a2 => ?_, by simp⟩⟩⟩
    have a3 := HO.out.rep.foot_lt x a1
    rcases a2 with a2 | a2
    · omega
    · have := hr2 x a2; omega
  clear hb2 hr hr1 hr2 HO HF1 HB1
  go_wp2_with fail
  go_loopw [7, 9, 11] (fun s9 s11 s13 wr => ∃ (k : Nat) (p1 p2 : Option Addr), k ≤ len ∧ s13 = .int .i64 k ∧ s9 = .pointer p1 ∧ s11 = .pointer p2 ∧ QState w k s9 s11 wr) (fun _ _ s13 _ => len - (intOf s13).toNat)
  case atStart => exact ⟨0, _, _, by omega, rfl, rfl, rfl, START.out⟩
  case round =>
    obtain ⟨k, p1, p2, hk, rfl, rfl, rfl, hst⟩ := hrel
    clear START
    by_cases hlt : k < len
    · obtain rfl := HF.out.adr (by omega)
      have hfr := HF.out.keep (w' := wr) (fun p hp => hst.bel.cell hp)
      have c0 := hfr.cell k hlt 0 _ rfl
      have c1 := hfr.cell k hlt 1 _ rfl
      have c2 := hfr.cell k hlt 2 _ rfl
      simp only [List.length_cons, List.length_nil, Nat.add_zero, Nat.zero_add] at c0 c1 c2
      rw [← Nat.add_assoc] at c1 c2
      have hcap := HF.out.cap
      obtain ⟨hcap1, hcap2⟩ := hcap
      generalize F k 0 = t0 at c0
      generalize F k 1 = t1 at c1
      generalize F k 2 = t2 at c2
      clear hfr
      have PXX := Lib.hid (hst.with [.int .i64 t0, .int .i64 t1, .int .i64 t2])
      clear hst
      have PD := Lib.hid (PXX.out.below (Below.refl _ _).drew)
      have hl1 : decide (200 < len) = false := by simp; omega
      have x1 : True := trivial
      have x2 : True := trivial
      by_cases d0 : t0 = 0
      · subst d0
        obtain ⟨e0, M, C1, C2⟩ := both_push4 PD.out (by omega) t1 t2
        have H1 := Lib.hid C1
        have H2 := Lib.hid C2
        clear C1 C2 PD
        go_wp2_with fail
        go_region_held3 (fun w' => w'.cell? ⟨wr.heap.size, 1, none⟩ = some (.int .i64 t1) ∧ w'.cell? ⟨wr.heap.size, 2, none⟩ = some (.int .i64 t2)) ((first | go_keep | (refine ⟨?_, ?_⟩ <;> assumption)))
          (first
            | (go_at_call 49; refine (H1.out).mono ?_; rintro e w1 ⟨rfl, hmid, hxb⟩; have HM := Lib.hid hmid; have y1 := hxb.cell (i := 1) rfl; have y2 := hxb.cell (i := 2) rfl; clear hmid hxb)
            | (go_at_call 52; refine (H2.out _ HM.out).mono ?_; rintro e w2 ⟨rfl, hst⟩; have ST := Lib.hid hst; have z1 := hst.xb.cell (i := 1) rfl; have z2 := hst.xb.cell (i := 2) rfl; clear hst))
        clear HM y1 y2 x1 x2 z1 z2
        have x1 := ST.out.xb.cell (i := 1) rfl
        have x2 := ST.out.xb.cell (i := 2) rfl
        go_wp2_with fail
        with_reducible refine (both_agree4 ST.out.state _).mono ?_
        rintro e wa ⟨rfl, hba⟩
        have SA := Lib.hid (ST.out.below hba)
        clear hba ST x1 x2
        go_wp2_with fail
        with_reducible refine (both_agree4 SA.out.state _).mono ?_
        rintro e wb ⟨rfl, hbb⟩
        have SB := Lib.hid (SA.out.below hbb).state
        clear hbb SA
        go_wp2_with fail
        go_roundw
        case rel => exact ⟨k + 1, _, _, by omega, by go_num, rfl, rfl, SB.out⟩
        case measure => simp [intOf]; omega
      · have b0 : (t0 == 0) = false := beq_eq_false_iff_ne.2 d0
        by_cases d1 : t0 = 1
        · subst d1
          clear d0
          obtain ⟨e0, M, C1, C2⟩ := both_change4 PD.out t1 t2
          have H1 := Lib.hid C1
          have H2 := Lib.hid C2
          clear C1 C2 PD
          go_wp2_with fail
          go_region_held3 (fun w' => w'.cell? ⟨wr.heap.size, 1, none⟩ = some (.int .i64 t1) ∧ w'.cell? ⟨wr.heap.size, 2, none⟩ = some (.int .i64 t2)) ((first | go_keep | (refine ⟨?_, ?_⟩ <;> assumption)))
            (first
              | (go_at_call 48; refine (H1.out).mono ?_; rintro e w1 ⟨rfl, hmid, hxb⟩; have HM := Lib.hid hmid; have y1 := hxb.cell (i := 1) rfl; have y2 := hxb.cell (i := 2) rfl; clear hmid hxb)
              | (go_at_call 53; refine (H2.out _ HM.out).mono ?_; rintro e w2 ⟨rfl, hst⟩; have ST := Lib.hid hst; have z1 := hst.xb.cell (i := 1) rfl; have z2 := hst.xb.cell (i := 2) rfl; clear hst))
          clear HM y1 y2 x1 x2 z1 z2
          have x1 := ST.out.xb.cell (i := 1) rfl
          have x2 := ST.out.xb.cell (i := 2) rfl
          go_wp2_with fail
          with_reducible refine (both_agree4 ST.out.state _).mono ?_
          rintro e wa ⟨rfl, hba⟩
          have SA := Lib.hid (ST.out.below hba)
          clear hba ST x1 x2
          go_wp2_with fail
          with_reducible refine (both_agree4 SA.out.state _).mono ?_
          rintro e wb ⟨rfl, hbb⟩
          have SB := Lib.hid (SA.out.below hbb).state
          clear hbb SA
          go_wp2_with fail
          go_roundw
          case rel => exact ⟨k + 1, _, _, by omega, by go_num, rfl, rfl, SB.out⟩
          case measure => simp [intOf]; omega
        · have b1 : (t0 == 1) = false := beq_eq_false_iff_ne.2 d1
          by_cases d2 : t0 = 2
          · subst d2
            clear d0 d1
            obtain ⟨e0, M, C1, C2⟩ := both_remove4 PD.out t1
            have H1 := Lib.hid C1
            have H2 := Lib.hid C2
            clear C1 C2 PD
            go_wp2_with fail
            go_region_held3 (fun w' => w'.cell? ⟨wr.heap.size, 1, none⟩ = some (.int .i64 t1) ∧ w'.cell? ⟨wr.heap.size, 2, none⟩ = some (.int .i64 t2)) ((first | go_keep | (refine ⟨?_, ?_⟩ <;> assumption)))
              (first
                | (go_at_call 47; refine (H1.out).mono ?_; rintro e w1 ⟨rfl, hmid, hxb⟩; have HM := Lib.hid hmid; have y1 := hxb.cell (i := 1) rfl; have y2 := hxb.cell (i := 2) rfl; clear hmid hxb)
                | (go_at_call 54; refine (H2.out _ HM.out).mono ?_; rintro e w2 ⟨rfl, hst⟩; have ST := Lib.hid hst; have z1 := hst.xb.cell (i := 1) rfl; have z2 := hst.xb.cell (i := 2) rfl; clear hst))
            clear HM y1 y2 x1 x2 z1 z2
            have x1 := ST.out.xb.cell (i := 1) rfl
            have x2 := ST.out.xb.cell (i := 2) rfl
            go_wp2_with fail
            with_reducible refine (both_agree4 ST.out.state _).mono ?_
            rintro e wa ⟨rfl, hba⟩
            have SA := Lib.hid (ST.out.below hba)
            clear hba ST x1 x2
            go_wp2_with fail
            with_reducible refine (both_agree4 SA.out.state _).mono ?_
            rintro e wb ⟨rfl, hbb⟩
            have SB := Lib.hid (SA.out.below hbb).state
            clear hbb SA
            go_wp2_with fail
            go_roundw
            case rel => exact ⟨k + 1, _, _, by omega, by go_num, rfl, rfl, SB.out⟩
            case measure => simp [intOf]; omega
          · have b2 : (t0 == 2) = false := beq_eq_false_iff_ne.2 d2
            by_cases d3 : t0 = 3
            · subst d3
              clear d0 d1 d2
              obtain ⟨a0, a1, tt, M, FF, CM, C1, C2⟩ := both_pop4 PXX.out
              have HCM := Lib.hid CM
              have H1 := Lib.hid C1
              have H2 := Lib.hid C2
              clear CM C1 C2 PD
              go_wp2_with fail
              with_reducible refine (H1.out).mono ?_
              rintro e w1 ⟨rfl, hmid, hlt1⟩
              have hb2 : Below w1.heap.size w1 (w1.alloc (.cells #[.int .i64 a0, .int .i64 a1] 28)) := (Below.refl _ _).alloc (Nat.le_refl _) _
              have HM := Lib.hid (HCM.out _ _ hmid hb2)
              have BA := Lib.hid (Blk.new w1 28 [.int .i64 a0, .int .i64 a1])
              have NA : Hid (¬ FF w1.heap.size) := fun e => by have := hlt1 _ e; omega
              clear hmid hlt1 hb2
              go_wp2_with fail
              generalize hW : World.alloc w1 _ = W2 at *
              generalize w1.heap.size = A1 at *
              clear hW
              with_reducible refine (H2.out _ HM.out).mono ?_
              rintro e w3 ⟨rfl, hst, hmod⟩
              have hb4 : Below w3.heap.size w3 (w3.alloc (.cells #[.int .i64 a0, .int .i64 a1] 28)) := (Below.refl _ _).alloc (Nat.le_refl _) _
              have ST := Lib.hid (hst.below hb4)
              have BA3 := (BA.out.mod hmod NA.out).alloc (.cells #[.int .i64 a0, .int .i64 a1] 28)
              have BB3 := Blk.new w3 28 [.int .i64 a0, .int .i64 a1]
              have p0 := BA3.cell (i := 0) rfl
              have p1 := BA3.cell (i := 1) rfl
              have q0 := BB3.cell (i := 0) rfl
              have q1 := BB3.cell (i := 1) rfl
              clear hst hmod hb4 BA3 BB3 BA NA HM x1 x2
              have x1 := ST.out.xb.cell (i := 1) rfl
              have x2 := ST.out.xb.cell (i := 2) rfl
              go_wp2_with fail
              generalize hW : World.alloc w3 _ = W4 at *
              clear hW p0 p1 q0 q1
              with_reducible refine (both_agree4 ST.out.state _).mono ?_
              rintro e wa ⟨rfl, hba⟩
              have SA := Lib.hid (ST.out.below hba)
              clear hba ST x1 x2
              go_wp2_with fail
              with_reducible refine (both_agree4 SA.out.state _).mono ?_
              rintro e wb ⟨rfl, hbb⟩
              have SB := Lib.hid (SA.out.below hbb).state
              clear hbb SA
              go_wp2_with fail
              go_roundw
              case rel => exact ⟨k + 1, _, _, by omega, by go_num, rfl, rfl, SB.out⟩
              case measure => simp [intOf]; omega
            · have b3 : (t0 == 3) = false := beq_eq_false_iff_ne.2 d3
              by_cases d4 : t0 = 4
              · subst d4
                clear d0 d1 d2 d3
                obtain ⟨M, C1, C2⟩ := both_copy4 PXX.out
                have H1 := Lib.hid C1
                have H2 := Lib.hid C2
                clear C1 C2 PD
                go_wp2_with fail
                with_reducible refine (H1.out).mono ?_
                rintro e w1 ⟨p3, rfl, hmid⟩
                have HM := Lib.hid hmid
                clear hmid
                go_wp2_with fail
                with_reducible refine (H2.out _ _ HM.out).mono ?_
                rintro e w2 ⟨p4, rfl, hst⟩
                have ST := Lib.hid (hst.more (Nat.le_succ k))
                clear hst x1 x2
                have x1 := ST.out.xb.cell (i := 1) rfl
                have x2 := ST.out.xb.cell (i := 2) rfl
                go_wp2_with fail
                with_reducible refine (both_agree4 ST.out.state _).mono ?_
                rintro e wa ⟨rfl, hba⟩
                have SA := Lib.hid (ST.out.below hba)
                clear hba ST x1 x2
                go_wp2_with fail
                with_reducible refine (both_agree4 SA.out.state _).mono ?_
                rintro e wb ⟨rfl, hbb⟩
                have SB := Lib.hid (SA.out.below hbb).state
                clear hbb SA
                go_wp2_with fail
                go_roundw
                case rel => exact ⟨k + 1, _, _, by omega, by go_num, rfl, rfl, SB.out⟩
                case measure => simp [intOf]; omega
              · have b4 : (t0 == 4) = false := beq_eq_false_iff_ne.2 d4
                clear d0 d1 d2 d3 d4
                have ST := Lib.hid (PXX.out.more (Nat.le_succ k))
                clear PD
                go_wp2_with fail
                with_reducible refine (both_agree4 ST.out.state _).mono ?_
                rintro e wa ⟨rfl, hba⟩
                have SA := Lib.hid (ST.out.below hba)
                clear hba ST x1 x2
                go_wp2_with fail
                with_reducible refine (both_agree4 SA.out.state _).mono ?_
                rintro e wb ⟨rfl, hbb⟩
                have SB := Lib.hid (SA.out.below hbb).state
                clear hbb SA
                go_wp2_with fail
                go_roundw
                case rel => exact ⟨k + 1, _, _, by omega, by go_num, rfl, rfl, SB.out⟩
                case measure => simp [intOf]; omega
    · have HBE := Lib.hid hst.bel
      clear hst
      go_wp2_with fail
      with_reducible refine (works04 _).mono ?_
      rintro e w4 ⟨rfl, hb⟩
      have HB := Lib.hid (HBE.out.trans (hb.mono HBE.out.size))
      clear hb
      go_wp2_with fail
      go_ret
      exact ⟨rfl, HB.out⟩

set_option maxHeartbeats 4000000 in
set_option maxRecDepth 100000 in
theorem hplays_long_nil (slots : Int) (ao : Option Addr) (len cap : Nat) (i : Int) (w : World) (hm : len ≤ 9223372036854775807) (hl : 200 < len) (hs : slots < 0 ∨ 65536 < slots) :
    Calls Try.prog 19 #[.int .i64 slots, .slice ao len cap, .int .i64 i] w (RetB (.bool true) w) := by
  have HS := Lib.hid hs
  clear hs
  have hd : decide (200 < (len : Int)) = true := by simp; omega
  go_enter Try.func19, Try.ntmps19
  go_wp2_with (first
    | (go_at_call 44; refine (hnew_low slots w HS.out).mono ?_; rintro e w' ⟨rfl, rfl⟩)
    | (go_at_call 45; refine (r4new_low slots w HS.out).mono ?_; rintro e w' ⟨rfl, rfl⟩))
  with_reducible refine (works04 _).mono ?_
  rintro e w' ⟨rfl, hb⟩
  have HB := Lib.hid hb
  clear hb
  go_wp2_with fail
  go_ret
  exact ⟨rfl, HB.out⟩

set_option maxHeartbeats 4000000 in
set_option maxRecDepth 100000 in
theorem hplays_long_obj (n : Nat) (ao : Option Addr) (len cap : Nat) (i : Int) (w : World) (hm : len ≤ 9223372036854775807) (hl : 200 < len) (hs : n ≤ 65536) :
    Calls Try.prog 19 #[.int .i64 n, .slice ao len cap, .int .i64 i] w (RetB (.bool true) w) := by
  have hd : decide (200 < (len : Int)) = true := by simp; omega
  go_enter Try.func19, Try.ntmps19
  go_wp2_with fail
  with_reducible refine (new_obj n w hs).mono ?_
  rintro e w1 ⟨hb1, s, g, ho, hf, rfl⟩
  have HB1 := Lib.hid hb1
  clear ho hf hb1
  go_wp2_with fail
  with_reducible refine (r4new_ok n w1 hs).mono ?_
  rintro e w2 ⟨hb2, r, v, hr, hr1, hr2, rfl⟩
  have HB2 := Lib.hid (HB1.out.trans (hb2.mono HB1.out.size))
  clear hb2 hr hr1 hr2
  go_wp2_with fail
  with_reducible refine (works04 _).mono ?_
  rintro e w' ⟨rfl, hb⟩
  have HB := Lib.hid (HB2.out.trans (hb.mono HB2.out.size))
  clear hb
  go_wp2_with fail
  go_ret
  exact ⟨rfl, HB.out⟩

theorem hplays_law (slots : Int) (ao : Option Addr) (len cap b off : Nat) (F : Nat → Nat → Int) (i : Int) (w : World) (hF : FRow w ao len cap b off [.i64, .i64, .i64] F) :
    Calls Try.prog 19 #[.int .i64 slots, .slice ao len cap, .int .i64 i] w (RetB (.bool true) w) := by
  by_cases hs : slots < 0 ∨ 65536 < slots
  · by_cases hl : len ≤ 200
    · exact hplays_nil slots ao len cap b off F i w hF hl hs
    · exact hplays_long_nil slots ao len cap i w hF.lim (by omega) hs
  · obtain ⟨n, rfl⟩ := Int.eq_ofNat_of_zero_le (show 0 ≤ slots by omega)
    by_cases hl : len ≤ 200
    · exact hplays_obj n ao len cap b off F i w hF hl (by omega)
    · exact hplays_long_obj n ao len cap i w hF.lim (by omega) (by omega)

end Go.Proofs.Ytebclbpibafkdaa
