/- DuS. -/
import Derived.Test.YthacjealoomioaaGreatDoorZGl2
import Derived.Test.YthacjealoomioaaGreatDoorZDnD
/- dsu with the sizes of its sets: New, Union; graph.parts. (printed by dds.py) -/
namespace Go.Proofs.YthacjealoomioaaGreatDoor
set_option linter.unusedVariables false
set_option linter.unusedSimpArgs false
open Go.RowKit

/-- Sets whose labels are k, with their sizes. -/
structure DObjS (w : World) (D : DB) (n : Nat) (k : List Nat) : Prop where
  kl : k.length = n
  hn : n ≤ 65536
  ex : ∃ up least sz cnt h H, DRep w D n up least sz cnt ∧ DInv n k up h H ∧ LDInv n k up least ∧ SzI n k up sz cnt
theorem DObjS.mod {F : Nat → Prop} {w w' : World} {D : DB} {n : Nat} {k : List Nat} (h : DObjS w D n k) (hm : Mod F w w') (hF : ∀ x, D.mem x → ¬ F x) : DObjS w' D n k := by
  obtain ⟨up, least, sz, cnt, hh, H, h1, h2, h3, h4⟩ := h.ex
  exact ⟨h.kl, h.hn, up, least, sz, cnt, hh, H, h1.mod hm hF, h2, h3, h4⟩
theorem DObjS.below {w w' : World} {D : DB} {n : Nat} {k : List Nat} (h : DObjS w D n k) (hb : Below w.heap.size w w') : DObjS w' D n k := h.mod (Mod.of_below (F := fun _ => False) hb) (fun _ _ h => h)
theorem DObjS.obj {w : World} {D : DB} {n : Nat} {k : List Nat} (h : DObjS w D n k) : DObj w D n k := by
  obtain ⟨up, least, sz, cnt, hh, H, h1, h2, h3, h4⟩ := h.ex
  exact ⟨h.kl, h.hn, up, least, sz, cnt, hh, H, h1, h2, h3⟩
theorem onI_end (n : Nat) : onI n n = List.replicate n 1 := by simp [onI]

theorem cnt_eq (c : Int) : wrap64 (c - 1) = IntKind.i64.wrap (c - 1) := by
  unfold wrap64 IntKind.wrap
  simp [IntKind.signed, IntKind.bits]
  split <;> omega

structure DNPostS (w : World) (n : Nat) (e : Ending) (w' : World) : Prop where
  out : ∃ D : DB, e = .returned (.tuple #[.pointer (some ⟨D.s, 0, none⟩), .int .i64 0]) ∧ DObjS w' D n (List.range n) ∧ ∀ x, D.mem x → w.heap.size ≤ x
  bel : Below w.heap.size w w'

set_option maxHeartbeats 4000000 in
set_option maxRecDepth 100000 in
theorem dnewS_ok (w : World) (n : Nat) (hn : n ≤ 65536) : Calls Tryz.prog 100 #[.int .i64 n] w (DNPostS w n) := by
  have hmk : ∀ w, (Instr.makeSlice 24 (.int .i64 (n : Int)) (.int .i64 (n : Int))).run Tryz.prog w = .ok (.slice (some ⟨w.heap.size, 0, none⟩) n n) (w.alloc (.cells (List.replicate n (Value.int .i64 0)).toArray 3)) := fun w =>
    run_makeE 24 3 (.int .i64 0) 8 Tryz.underlying24 Tryz.infoInt rfl .i64 .i64 n (by omega) (by unfold maxLen; omega) w
  have t1 : decide ((n : Int) < 0) = false := by simp
  have t2 : decide (65536 < n) = false := by simp; omega
  have t2' : decide ((65536 : Int) < (n : Int)) = false := by simp; omega
  go_enter Tryz.func100, Tryz.ntmps100
  go_wp2_with fail
  go_cut [4] (fun s4 wx => ∃ D : DB, s4 = .pointer (some ⟨D.s, 0, none⟩) ∧ NsAt w D n wx)
  case first =>
    go_region
    all_goals go_wp2_with fail
    all_goals go_meet
    all_goals exact ⟨⟨_, _, _, _⟩, rfl, nsAt (by simp) (by simp) (by simp) (by omega) (by omega) (by omega)⟩
  case rest =>
    obtain ⟨D, rfl, hns⟩ := hcut
    clear hmk t1 t2 t2'
    have HNS := Lib.hid hns
    have g0 := hns.sb.cell (i := 0) rfl
    have gf := hns.sb.free 0
    clear hns
    go_wp2_with fail
    have hw1 : Mod (fun x => x = D.s) wc (wc.setCell ⟨D.s, 0, none⟩ (.pointer (some ⟨D.s, 0, none⟩))) := (Mod.refl (fun x => x = D.s) wc).setCell ⟨D.s, 0, none⟩ (fun _ => rfl) _
    obtain ⟨e1, e2, e3, e4, e5, e6⟩ := HNS.out.ne
    have HR : Hid (DRep (wc.setCell ⟨D.s, 0, none⟩ (.pointer (some ⟨D.s, 0, none⟩))) D n (upI n 0) (upI n 0) (onI n 0) n) := by
      have := HNS.out.sb.set 0 (.pointer (some ⟨D.s, 0, none⟩))
      refine ⟨this, by rw [upI_zero]; exact HNS.out.ubk.mod hw1 e1, by rw [upI_zero]; exact HNS.out.lbk.mod hw1 e2, ?_, onI_length (Nat.zero_le _), e1, e2, e3, e4, e5, e6⟩
      have h2 := HNS.out.zbk.mod hw1 e3
      rw [natV_zero] at h2
      rw [onI_zero, List.map_replicate]
      exact h2
    have HB1 := Lib.hid (bel_mod HNS.out.bel hw1 (fun x e => by rw [e]; exact HNS.out.new _ (.inl rfl)))
    have HNW := Lib.hid HNS.out.new
    clear hw1 g0 gf HNS
    generalize wc.setCell ⟨D.s, 0, none⟩ (.pointer (some ⟨D.s, 0, none⟩)) = W1 at *
    go_loopw [26] (fun s wr => ∃ i : Nat, i ≤ n ∧ s = .int .i64 i ∧ DRep wr D n (upI n i) (upI n i) (onI n i) n ∧ Mod D.mem W1 wr) (fun s _ => n - (intOf s).toNat)
    case atStart => exact ⟨0, Nat.zero_le _, rfl, HR.out, Mod.refl _ _⟩
    case round =>
      obtain ⟨i, hi, rfl, hr, hm⟩ := hrel
      clear HR
      have HR := Lib.hid hr
      have HM := Lib.hid hm
      have c1 := hr.sb.cell (i := 1) rfl
      have c2 := hr.sb.cell (i := 2) rfl
      have c3 := hr.sb.cell (i := 3) rfl
      clear hr hm
      by_cases hin : i < n
      · have u1 := blkN HR.out.ubk (i := i) (by rw [upI_length (by omega)]; exact hin)
        have u2 := blkN HR.out.lbk (i := i) (by rw [upI_length (by omega)]; exact hin)
        have u3 := blkI HR.out.zbk (i := i) (by rw [onI_length (by omega)]; exact hin)
        have f1 := HR.out.ubk.free i
        have f2 := HR.out.lbk.free i
        have f3 := HR.out.zbk.free i
        generalize (upI n i).getD i 0 = x1 at *
        generalize (onI n i).getD i 0 = x3 at *
        have t1 : (i : Int) < (n : Int) := by omega
        have t0 : (0 : Int) ≤ (i : Int) := by omega
        go_wp2_with fail
        have e1' : D.s ≠ D.ub := fun e => e1 e.symm
        have e2' : D.s ≠ D.lb := fun e => e2 e.symm
        have e3' : D.s ≠ D.zb := fun e => e3 e.symm
        have e4' : D.lb ≠ D.ub := fun e => e4 e.symm
        have e5' : D.zb ≠ D.ub := fun e => e5 e.symm
        have e6' : D.zb ≠ D.lb := fun e => e6 e.symm
        go_region
        go_wp2_with fail
        have HR3 : Hid (DRep (((wr.setCell ⟨D.ub, i, none⟩ (.int .i64 i)).setCell ⟨D.lb, i, none⟩ (.int .i64 i)).setCell ⟨D.zb, i, none⟩ (.int .i64 1)).drew D n (upI n (i + 1)) (upI n (i + 1)) (onI n (i + 1)) n) := by
          have b1 := blkN_set HR.out.ubk i i
          have b2 := blkN_set (HR.out.lbk.other ⟨D.ub, i, none⟩ (.int .i64 i) (fun e => e4 e.symm)) i i
          have b3 := blkI_set ((HR.out.zbk.other ⟨D.ub, i, none⟩ (.int .i64 i) (fun e => e5 e.symm)).other ⟨D.lb, i, none⟩ (.int .i64 i) (fun e => e6 e.symm)) i 1
          rw [upI_step hin] at b1 b2
          rw [onI_step hin] at b3
          exact DRep.drew ⟨((HR.out.sb.other _ _ (fun e => e1 e.symm)).other _ _ (fun e => e2 e.symm)).other _ _ (fun e => e3 e.symm), (b1.other _ _ e4).other _ _ e5, b2.other _ _ e6, b3, onI_length (by omega), e1, e2, e3, e4, e5, e6⟩ rfl
        go_roundw
        case rel => exact ⟨i + 1, by omega, by go_num, HR3.out, (((HM.out.setCell _ (fun _ => .inr (.inl rfl)) _).setCell _ (fun _ => .inr (.inr (.inl rfl))) _).setCell _ (fun _ => .inr (.inr (.inr rfl))) _).drew⟩
        case measure => simp [intOf]; omega
      · have hie : i = n := by omega
        have hie2 : ¬ (i : Int) < (n : Int) := by omega
        have HF : Hid (DObjS wr D n (List.range n)) := by
          have hr := HR.out
          rw [hie, upI_end] at hr
          rw [onI_end] at hr
          exact ⟨List.length_range, hn, _, _, _, _, _, _, hr, DInv.start n, ⟨List.length_range, fun r hr' e => rfl⟩, SzI.start n⟩
        have HBF := Lib.hid (bel_mod HB1.out HM.out (fun x e => HNW.out x e))
        clear hie
        go_wp2_with fail
        go_ret2
        exact ⟨⟨D, rfl, HF.out, HNW.out⟩, HBF.out⟩


structure UnPostS (w : World) (D : DB) (n : Nat) (k : List Nat) (a b : Nat) (e : Ending) (w' : World) : Prop where
  val : e = .returned (.tuple #[.bool (!decide (k.getD a 0 = k.getD b 0)), .int .i64 0])
  obj : DObjS w' D n (joinK k a b)
  mod : Mod D.mem w w'

/-- The last part: y goes under x. -/
structure FinS (w : World) (D : DB) (n : Nat) (up least : List Nat) (sz : List Int) (cnt : Int) (x y : Nat) (w' : World) : Prop where
  rep : DRep w' D n (up.set y x) (least.set x (min (least.getD x 0) (least.getD y 0))) (sz.set x (IntKind.i64.wrap (sz.getD x 0 + sz.getD y 0))) (IntKind.i64.wrap (cnt - 1))
  mod : Mod D.mem w w'

set_option maxHeartbeats 8000000 in
set_option maxRecDepth 100000 in
theorem unionS_ok (w : World) (D : DB) (n : Nat) (k : List Nat) (hd : DObjS w D n k) (ko : KOk n k) (a b : Nat) (ha : a < n) (hb : b < n) :
    Calls Tryz.prog 101 #[.pointer (some ⟨D.s, 0, none⟩), .int .i64 a, .int .i64 b] w (UnPostS w D n k a b) := by
  obtain ⟨up, least, sz, cnt, h, H, hr, hi, hl, hz⟩ := hd.ex
  have HSZ := Lib.hid hz
  have HKO := Lib.hid ko
  clear hz ko
  have hn := hd.hn
  have HKL := Lib.hid hd.kl
  have HR := Lib.hid hr
  have HI := Lib.hid hi
  have HL := Lib.hid hl
  have c0 := hr.sb.cell (i := 0) rfl
  have c1 := hr.sb.cell (i := 1) rfl
  clear hd hr hi hl
  go_enter Tryz.func101, Tryz.ntmps101
  go_wp2_with (first
    | (go_at_call 102; refine (dvalid_ok D.s w c0).mono ?_; rintro e w' ⟨rfl, rfl⟩)
    | (go_at_call 119; with_reducible refine (dhas_ok D.s D.ub n a w c0 c1 ha hn).mono ?_; rintro e w' ⟨rfl, rfl⟩)
    | (go_at_call 119; with_reducible refine (dhas_ok D.s D.ub n b w c0 c1 hb hn).mono ?_; rintro e w' ⟨rfl, rfl⟩))
  with_reducible refine (droot_ok w D n k up least sz cnt h H HR.out HI.out HL.out hn a ha).mono ?_
  rintro e w1 ⟨⟨r1, up1, rfl, hr1, er1, kr1, hp1, hi1, hl1, hkp1⟩, hm1⟩
  have HR1 := Lib.hid hp1
  have HI1 := Lib.hid hi1
  have HL1 := Lib.hid hl1
  have HM1 := Lib.hid hm1
  have HE1 := Lib.hid er1
  have HK1 := Lib.hid kr1
  have HSZ1 := Lib.hid (HSZ.out.keep HI.out hi1 hkp1)
  clear hkp1 HSZ
  clear hp1 hi1 hl1 hm1 er1 kr1 c0 c1 HR HI HL
  go_wp2_with fail
  with_reducible refine (droot_ok w1 D n k up1 least sz cnt h H HR1.out HI1.out HL1.out hn b hb).mono ?_
  rintro e w2 ⟨⟨r2, up2, rfl, hr2, er2, kr2, hp2, hi2, hl2, hkp⟩, hm2⟩
  have HE1' := Lib.hid (hkp r1 HE1.out)
  have HR2 := Lib.hid hp2
  have HSZ2 := Lib.hid (HSZ1.out.keep HI1.out hi2 hkp)
  clear HSZ1
  have HI2 := Lib.hid hi2
  have HL2 := Lib.hid hl2
  have HM2 := Lib.hid ((HM1.out.trans hm2 (fun _ _ h => h)).mono (G := D.mem) (fun _ _ h => .inr (.inl h)))
  have HE2 := Lib.hid er2
  have HK2 := Lib.hid kr2
  clear hp2 hi2 hl2 hm2 er2 kr2 hkp HR1 HI1 HL1 HM1 HE1
  by_cases heq : r1 = r2
  · have hkk : k.getD a 0 = k.getD b 0 := by rw [← HK1.out, ← HK2.out, heq]
    have HKK := Lib.hid hkk
    have te : ((r1 : Int) == (r2 : Int)) = true := by simp [heq]
    clear heq hkk
    go_wp2_with fail
    go_ret2
    refine ⟨?_, ?_, HM2.out⟩
    · rw [decide_eq_true HKK.out]; rfl
    · unfold joinK
      rw [if_pos HKK.out]
      exact ⟨HKL.out, hn, _, _, _, _, _, _, HR2.out, HI2.out, HL2.out, HSZ2.out⟩
  · have hkk : k.getD a 0 ≠ k.getD b 0 := fun e => heq (HI2.out.one r1 r2 hr1 hr2 HE1'.out HE2.out (by rw [HK1.out, HK2.out, e]))
    have HKK := Lib.hid hkk
    have te : ((r1 : Int) == (r2 : Int)) = false := by simp; omega
    -- what is to be shown for x = r1 or x = r2
    have FIN : Hid (∀ x y : Nat, ((x = r1 ∧ y = r2) ∨ (x = r2 ∧ y = r1)) → ∀ w', FinS w2 D n up2 least sz cnt x y w' → UnPostS w D n k a b (.returned (.tuple #[.bool true, .int .i64 0])) w') := by
      intro x y hxy w' hf
      have hrep := hf.rep
      have hkab := HKK.out
      have ea := HK1.out
      have eb := HK2.out
      refine ⟨by rw [decide_eq_false hkab]; rfl, ?_, HM2.out.trans hf.mod (fun _ _ h => h)⟩
      unfold joinK
      rw [if_neg hkab]
      have hlt : min (k.getD a 0) (k.getD b 0) < max (k.getD a 0) (k.getD b 0) := by omega
      have hx : x < n := by omega
      have hy : y < n := by omega
      have ex : up2.getD x 0 = x := by rcases hxy with ⟨e, _⟩ | ⟨e, _⟩ <;> rw [e]; exact HE1'.out; exact HE2.out
      have ey : up2.getD y 0 = y := by rcases hxy with ⟨_, e⟩ | ⟨_, e⟩ <;> rw [e]; exact HE2.out; exact HE1'.out
      have hll : (k.getD x 0 = min (k.getD a 0) (k.getD b 0) ∧ k.getD y 0 = max (k.getD a 0) (k.getD b 0)) ∨ (k.getD x 0 = max (k.getD a 0) (k.getD b 0) ∧ k.getD y 0 = min (k.getD a 0) (k.getD b 0)) := by
        rcases hxy with ⟨rfl, rfl⟩ | ⟨rfl, rfl⟩
        · rw [ea, eb]; omega
        · rw [ea, eb]; omega
      exact ⟨by rw [relN_length]; exact HKL.out, hn, _, _, _, _, _, _, hrep, HI2.out.join HKL.out hx hy ex ey hll (by omega), HL2.out.join HI2.out HKL.out hx hy ex ey hll hlt, HSZ2.out.join HI2.out HKO.out HI2.out.ul HR2.out.szl hn hx hy ex ey hll hlt⟩
    have s0 := HR2.out.sb.cell (i := 3) rfl
    have z1 := blkI HR2.out.zbk (i := r1) (by rw [HR2.out.szl]; exact hr1)
    have z2 := blkI HR2.out.zbk (i := r2) (by rw [HR2.out.szl]; exact hr2)
    have t1 : (r1 : Int) < (n : Int) := by omega
    have t2 : (r2 : Int) < (n : Int) := by omega
    have t3 : (0 : Int) ≤ (r1 : Int) := by omega
    have t4 : (0 : Int) ≤ (r2 : Int) := by omega
    obtain ⟨q1, hq1⟩ : ∃ q, sz.getD r1 0 = q := ⟨_, rfl⟩
    obtain ⟨q2, hq2⟩ : ∃ q, sz.getD r2 0 = q := ⟨_, rfl⟩
    rw [hq1] at z1
    rw [hq2] at z2
    clear hq1 hq2
    clear heq hkk
    by_cases hq : q1 < q2
    · have tq : decide (q1 < q2) = true := by simp [hq]
      clear hq
      go_wp2_with fail
      go_quiet (fail)
      have HR3 : Hid (DRep (w2.drewN nq) D n up2 least sz cnt) := HR2.out.mod (F := fun _ => False) ((Mod.refl _ w2).drewN nq) (fun _ _ h => h)
      have HM3 : Hid (Mod D.mem w2 (w2.drewN nq)) := (Mod.refl _ w2).drewN nq
      clear s0 z1 z2
      generalize w2.drewN nq = w3 at *
      have s1 := HR3.out.sb.cell (i := 1) rfl
      have uy := blkN HR3.out.ubk (i := r1) (by rw [HI2.out.ul]; exact hr1)
      have fy := HR3.out.ubk.free r1
      generalize up2.getD r1 0 = oy at *
      go_wp2_with fail
      have HR4 := Lib.hid (HR3.out.setUp r1 r2)
      have HM4 := Lib.hid (HM3.out.setCell ⟨D.ub, r1, none⟩ (fun _ => .inr (.inl rfl)) (.int .i64 (r2 : Int)))
      clear s1 uy fy HR3 HM3
      generalize w3.setCell ⟨D.ub, r1, none⟩ (.int .i64 (r2 : Int)) = w4 at *
      have s3 := HR4.out.sb.cell (i := 3) rfl
      have zx := blkI HR4.out.zbk (i := r2) (by rw [HR4.out.szl]; exact hr2)
      have zy := blkI HR4.out.zbk (i := r1) (by rw [HR4.out.szl]; exact hr1)
      have fx := HR4.out.zbk.free r2
      obtain ⟨p1, HP1⟩ : ∃ p, Hid (sz.getD r2 0 = p) := ⟨_, rfl⟩
      obtain ⟨p2, HP2⟩ : ∃ p, Hid (sz.getD r1 0 = p) := ⟨_, rfl⟩
      rw [HP1.out] at zx
      rw [HP2.out] at zy
      refine region_tailD 16 (by kernel_rfl) (by kernel_rfl) ?_
      intro w5 hw5
      replace s3 := hw5.cell s3
      replace zx := hw5.cell zx
      replace zy := hw5.cell zy
      replace fx := hw5.frozen fx
      have HR5 := Lib.hid (HR4.out.drew hw5)
      have HM5 := Lib.hid (hw5.mod HM4.out)
      clear hw5 HR4 HM4
      obtain ⟨sw, hsw⟩ : ∃ sw, IntKind.i64.wrap (p1 + p2) = sw := ⟨_, rfl⟩
      have HSW := Lib.hid hsw
      simp only [List.take_succ_cons, List.take_zero, List.drop_succ_cons, List.drop_zero]
      repeat still_step
      refine wpStill_nil ?_
      go_wp2_with fail
      have HR6 := Lib.hid (HR5.out.setSz r2 sw)
      have HM6 := Lib.hid (HM5.out.setCell ⟨D.zb, r2, none⟩ (fun _ => .inr (.inr (.inr rfl))) (.int .i64 sw))
      clear s3 zx zy fx HR5 HM5 hsw
      generalize w5.setCell ⟨D.zb, r2, none⟩ (.int .i64 sw) = w6 at *
      have s2 := HR6.out.sb.cell (i := 2) rfl
      have lx := blkN HR6.out.lbk (i := r2) (by rw [HL2.out.1]; exact hr2)
      have ly := blkN HR6.out.lbk (i := r1) (by rw [HL2.out.1]; exact hr1)
      have fl := HR6.out.lbk.free r2
      have hmin := run_minI ((least.getD r2 0 : Nat) : Int) ((least.getD r1 0 : Nat) : Int)
      have HMN : Hid (min ((least.getD r2 0 : Nat) : Int) ((least.getD r1 0 : Nat) : Int) = ((min (least.getD r2 0) (least.getD r1 0) : Nat) : Int)) := by show _ = _; omega
      rw [HMN.out] at hmin
      have HFU : Hid (∀ w' cnt', DRep w' D n (up2.set r1 r2) (least.set r2 (min (least.getD r2 0) (least.getD r1 0))) (sz.set r2 sw) cnt' → cnt' = IntKind.i64.wrap (cnt - 1) → Mod D.mem w2 w' → UnPostS w D n k a b (.returned (.tuple #[.bool true, .int .i64 0])) w') := fun w' cnt' h1 hc h2 => FIN.out r2 r1 (.inr ⟨rfl, rfl⟩) w' ⟨by rw [HP1.out, HP2.out, HSW.out, ← hc]; exact h1, h2⟩
      generalize min (least.getD r2 0) (least.getD r1 0) = mn at *
      generalize least.getD r2 0 = lx' at *
      generalize least.getD r1 0 = ly' at *
      refine region_tailD 21 (by kernel_rfl) (by kernel_rfl) ?_
      intro w7 hw7
      replace s2 := hw7.cell s2
      replace lx := hw7.cell lx
      replace ly := hw7.cell ly
      replace fl := hw7.frozen fl
      have HR7 := Lib.hid (HR6.out.drew hw7)
      have HM7 := Lib.hid (hw7.mod HM6.out)
      clear hw7 HR6 HM6 HMN
      simp only [List.take_succ_cons, List.take_zero, List.drop_succ_cons, List.drop_zero]
      repeat still_step
      refine wpStill_nil ?_
      have s4 := HR7.out.sb.cell (i := 4) rfl
      have f4 := HR7.out.sb.free 4
      have hnl : D.s ≠ D.lb := fun e => HR7.out.n2 e.symm
      go_wp2_with fail
      go_ret2
      exact HFU.out _ _ ((HR7.out.setLe r2 mn).setCnt _) (cnt_eq cnt) ((HM7.out.setCell _ (fun _ => .inr (.inr (.inl rfl))) _).setCell _ (fun _ => .inl rfl) _)
    · have tq : decide (q1 < q2) = false := by simp; omega
      clear hq
      go_wp2_with fail
      go_quiet (fail)
      have HR3 : Hid (DRep (w2.drewN nq) D n up2 least sz cnt) := HR2.out.mod (F := fun _ => False) ((Mod.refl _ w2).drewN nq) (fun _ _ h => h)
      have HM3 : Hid (Mod D.mem w2 (w2.drewN nq)) := (Mod.refl _ w2).drewN nq
      clear s0 z1 z2
      generalize w2.drewN nq = w3 at *
      have s1 := HR3.out.sb.cell (i := 1) rfl
      have uy := blkN HR3.out.ubk (i := r2) (by rw [HI2.out.ul]; exact hr2)
      have fy := HR3.out.ubk.free r2
      generalize up2.getD r2 0 = oy at *
      go_wp2_with fail
      have HR4 := Lib.hid (HR3.out.setUp r2 r1)
      have HM4 := Lib.hid (HM3.out.setCell ⟨D.ub, r2, none⟩ (fun _ => .inr (.inl rfl)) (.int .i64 (r1 : Int)))
      clear s1 uy fy HR3 HM3
      generalize w3.setCell ⟨D.ub, r2, none⟩ (.int .i64 (r1 : Int)) = w4 at *
      have s3 := HR4.out.sb.cell (i := 3) rfl
      have zx := blkI HR4.out.zbk (i := r1) (by rw [HR4.out.szl]; exact hr1)
      have zy := blkI HR4.out.zbk (i := r2) (by rw [HR4.out.szl]; exact hr2)
      have fx := HR4.out.zbk.free r1
      obtain ⟨p1, HP1⟩ : ∃ p, Hid (sz.getD r1 0 = p) := ⟨_, rfl⟩
      obtain ⟨p2, HP2⟩ : ∃ p, Hid (sz.getD r2 0 = p) := ⟨_, rfl⟩
      rw [HP1.out] at zx
      rw [HP2.out] at zy
      refine region_tailD 16 (by kernel_rfl) (by kernel_rfl) ?_
      intro w5 hw5
      replace s3 := hw5.cell s3
      replace zx := hw5.cell zx
      replace zy := hw5.cell zy
      replace fx := hw5.frozen fx
      have HR5 := Lib.hid (HR4.out.drew hw5)
      have HM5 := Lib.hid (hw5.mod HM4.out)
      clear hw5 HR4 HM4
      obtain ⟨sw, hsw⟩ : ∃ sw, IntKind.i64.wrap (p1 + p2) = sw := ⟨_, rfl⟩
      have HSW := Lib.hid hsw
      simp only [List.take_succ_cons, List.take_zero, List.drop_succ_cons, List.drop_zero]
      repeat still_step
      refine wpStill_nil ?_
      go_wp2_with fail
      have HR6 := Lib.hid (HR5.out.setSz r1 sw)
      have HM6 := Lib.hid (HM5.out.setCell ⟨D.zb, r1, none⟩ (fun _ => .inr (.inr (.inr rfl))) (.int .i64 sw))
      clear s3 zx zy fx HR5 HM5 hsw
      generalize w5.setCell ⟨D.zb, r1, none⟩ (.int .i64 sw) = w6 at *
      have s2 := HR6.out.sb.cell (i := 2) rfl
      have lx := blkN HR6.out.lbk (i := r1) (by rw [HL2.out.1]; exact hr1)
      have ly := blkN HR6.out.lbk (i := r2) (by rw [HL2.out.1]; exact hr2)
      have fl := HR6.out.lbk.free r1
      have hmin := run_minI ((least.getD r1 0 : Nat) : Int) ((least.getD r2 0 : Nat) : Int)
      have HMN : Hid (min ((least.getD r1 0 : Nat) : Int) ((least.getD r2 0 : Nat) : Int) = ((min (least.getD r1 0) (least.getD r2 0) : Nat) : Int)) := by show _ = _; omega
      rw [HMN.out] at hmin
      have HFU : Hid (∀ w' cnt', DRep w' D n (up2.set r2 r1) (least.set r1 (min (least.getD r1 0) (least.getD r2 0))) (sz.set r1 sw) cnt' → cnt' = IntKind.i64.wrap (cnt - 1) → Mod D.mem w2 w' → UnPostS w D n k a b (.returned (.tuple #[.bool true, .int .i64 0])) w') := fun w' cnt' h1 hc h2 => FIN.out r1 r2 (.inl ⟨rfl, rfl⟩) w' ⟨by rw [HP1.out, HP2.out, HSW.out, ← hc]; exact h1, h2⟩
      generalize min (least.getD r1 0) (least.getD r2 0) = mn at *
      generalize least.getD r1 0 = lx' at *
      generalize least.getD r2 0 = ly' at *
      refine region_tailD 21 (by kernel_rfl) (by kernel_rfl) ?_
      intro w7 hw7
      replace s2 := hw7.cell s2
      replace lx := hw7.cell lx
      replace ly := hw7.cell ly
      replace fl := hw7.frozen fl
      have HR7 := Lib.hid (HR6.out.drew hw7)
      have HM7 := Lib.hid (hw7.mod HM6.out)
      clear hw7 HR6 HM6 HMN
      simp only [List.take_succ_cons, List.take_zero, List.drop_succ_cons, List.drop_zero]
      repeat still_step
      refine wpStill_nil ?_
      have s4 := HR7.out.sb.cell (i := 4) rfl
      have f4 := HR7.out.sb.free 4
      have hnl : D.s ≠ D.lb := fun e => HR7.out.n2 e.symm
      go_wp2_with fail
      go_ret2
      exact HFU.out _ _ ((HR7.out.setLe r1 mn).setCnt _) (cnt_eq cnt) ((HM7.out.setCell _ (fun _ => .inr (.inr (.inl rfl))) _).setCell _ (fun _ => .inl rfl) _)


structure PtPostS (w : World) (n : Nat) (k : List Nat) (e : Ending) (w' : World) : Prop where
  out : ∃ D : DB, e = .returned (.pointer (some ⟨D.s, 0, none⟩)) ∧ DObjS w' D n k ∧ ∀ x, D.mem x → w.heap.size ≤ x
  bel : Below w.heap.size w w'

set_option maxHeartbeats 4000000 in
set_option maxRecDepth 100000 in
theorem partsS_ok (w : World) (g n : Nat) (l : List Ed) (ho : GObj w g n l) (hg : GOk n l) :
    Calls Tryz.prog 63 #[.pointer (some ⟨g, 0, none⟩)] w (PtPostS w n (parK n l l.length)) := by
  obtain ⟨ao, cap, b, sb, lb, hbl, her⟩ := ho.ex
  have HBL := Lib.hid hbl
  have HE := Lib.hid her
  have HG := Lib.hid hg
  have hl := hg.hl
  have hn := hg.hn
  have c0 := hbl.cell (i := 0) rfl
  have c1 := hbl.cell (i := 1) rfl
  have c2 := hbl.cell (i := 2) rfl
  clear ho hbl her hg
  go_enter Tryz.func63, Tryz.ntmps63
  go_wp2_with fail
  with_reducible refine (gvalid_ok g w c0).mono ?_
  rintro e w' ⟨rfl, rfl⟩
  go_wp2_with fail
  with_reducible refine (gN_ok g sb n w (by omega) c0 c2).mono ?_
  rintro e w' ⟨rfl, rfl⟩
  go_wp2_with fail
  with_reducible refine (dnewS_ok w n (by omega)).mono ?_
  rintro e w2 ⟨⟨D, rfl, hd, hdn⟩, hb⟩
  have HD := Lib.hid hd
  have HDN := Lib.hid hdn
  have HB := Lib.hid hb
  have HBL2 := Lib.hid (HBL.out.below hb HBL.out.lt)
  obtain ⟨m, HM⟩ : ∃ m, Hid (l.length = m) := ⟨_, rfl⟩
  rw [HM.out] at hl
  clear c0 c1 c2 hd hdn hb
  have c1 := HBL2.out.cell (i := 1) rfl
  rw [HM.out] at c1
  go_wp2_with fail
  clear c1
  go_loopw [21] (fun s wr => ∃ i : Nat, i ≤ m ∧ s = .int .i64 i ∧ DObjS wr D n (parK n l i) ∧ Below w.heap.size w wr) (fun s _ => m - (intOf s).toNat)
  case atStart => exact ⟨0, Nat.zero_le _, rfl, HD.out, HB.out⟩
  case round =>
    obtain ⟨i, hi, rfl, hd, hb⟩ := hrel
    clear HD HB
    have HD := Lib.hid hd
    have HB := Lib.hid hb
    clear hd hb
    by_cases him : i < m
    · obtain ⟨hu, hv, _, eU, eV⟩ := HG.out.uv (i := i) (by rw [HM.out]; exact him)
      obtain ⟨d0, d1, d2⟩ := (HE.out.below HB.out).cell i (by rw [HM.out]; exact him)
      rw [Nat.zero_add] at d0 d1 d2
      rw [eU] at d0
      rw [eV] at d1
      obtain rfl := HE.out.adr (by rw [HM.out]; omega)
      have t1 : (i : Int) < (m : Int) := by omega
      have t2 : (0 : Int) ≤ (i : Int) := by omega
      have hbx : Below wr.heap.size wr (wr.alloc (.cells #[.int .i64 (uN l i), .int .i64 (vN l i), .int .i64 (EA l i).W] 82)) := bel_alloc _ _
      have HDX := Lib.hid (HD.out.below hbx)
      have HBX := Lib.hid (bel_then HB.out hbx)
      clear hbx eU eV
      go_wp2_with fail
      with_reducible refine (unionS_ok _ D n (parK n l i) HDX.out ((parK_lab HG.out i (by rw [HM.out]; omega)).kok) (uN l i) (vN l i) hu hv).mono ?_
      rintro e w5 ⟨rfl, hd5, hm5⟩
      have HD5 : Hid (DObjS w5 D n (parK n l (i + 1))) := hd5
      have HB5 := Lib.hid (bel_mod HBX.out hm5 (fun x hx => HDN.out x hx))
      clear hd5 hm5 d0 d1 d2
      go_wp2_with fail
      go_roundw
      case rel => exact ⟨i + 1, by omega, by go_num, HD5.out, HB5.out⟩
      case measure => simp [intOf]; omega
    · have hie : i = m := by omega
      have HDF : Hid (DObjS wr D n (parK n l l.length)) := by show DObjS _ _ _ _; have := HD.out; rw [hie, ← HM.out] at this; exact this
      have ti : ¬ (i : Int) < (m : Int) := by omega
      clear hie
      go_wp2_with fail
      go_ret
      exact ⟨⟨D, rfl, HDF.out, HDN.out⟩, HB.out⟩


end Go.Proofs.YthacjealoomioaaGreatDoor
