/- dsu: Union. -/
import Derived.Test.YthacjealoomioaaZRcL
namespace Go.Proofs.Ythacjealoomioaa
set_option linter.unusedVariables false
set_option linter.unusedSimpArgs false
open Go.RowKit

/-- The labels when the sets of a and b are united. -/
def joinK (k : List Nat) (a b : Nat) : List Nat := if k.getD a 0 = k.getD b 0 then k else relN k (min (k.getD a 0) (k.getD b 0)) (max (k.getD a 0) (k.getD b 0))

structure UnPost (w : World) (D : DB) (n : Nat) (k : List Nat) (a b : Nat) (e : Ending) (w' : World) : Prop where
  val : e = .returned (.tuple #[.bool (!decide (k.getD a 0 = k.getD b 0)), .int .i64 0])
  obj : DObj w' D n (joinK k a b)
  mod : Mod D.mem w w'

theorem DRep.setSz {w : World} {D : DB} {n : Nat} {up least : List Nat} {sz : List Int} {cnt : Int} (h : DRep w D n up least sz cnt) (i : Nat) (x : Int) : DRep (w.setCell ⟨D.zb, i, none⟩ (.int .i64 x)) D n up least (sz.set i x) cnt :=
  ⟨h.sb.other _ _ (fun e => h.n3 e.symm), h.ubk.other _ _ h.n5, h.lbk.other _ _ h.n6, blkI_set h.zbk i x, by simp [h.szl], h.n1, h.n2, h.n3, h.n4, h.n5, h.n6⟩

theorem DRep.setLe {w : World} {D : DB} {n : Nat} {up least : List Nat} {sz : List Int} {cnt : Int} (h : DRep w D n up least sz cnt) (i x : Nat) : DRep (w.setCell ⟨D.lb, i, none⟩ (.int .i64 (x : Int))) D n up (least.set i x) sz cnt :=
  ⟨h.sb.other _ _ (fun e => h.n2 e.symm), h.ubk.other _ _ h.n4, blkN_set h.lbk i x, h.zbk.other _ _ (fun e => h.n6 e.symm), h.szl, h.n1, h.n2, h.n3, h.n4, h.n5, h.n6⟩

theorem DRep.setCnt {w : World} {D : DB} {n : Nat} {up least : List Nat} {sz : List Int} {cnt : Int} (h : DRep w D n up least sz cnt) (x : Int) : DRep (w.setCell ⟨D.s, 4, none⟩ (.int .i64 x)) D n up least sz x :=
  ⟨h.sb.set 4 (.int .i64 x), h.ubk.other _ _ h.n1, h.lbk.other _ _ h.n2, h.zbk.other _ _ h.n3, h.szl, h.n1, h.n2, h.n3, h.n4, h.n5, h.n6⟩

/-- The last part: y goes under x. -/
structure FinU (w : World) (D : DB) (n : Nat) (up least : List Nat) (sz : List Int) (x y : Nat) (w' : World) : Prop where
  rep : ∃ sz' cnt', DRep w' D n (up.set y x) (least.set x (min (least.getD x 0) (least.getD y 0))) sz' cnt'
  mod : Mod D.mem w w'

set_option maxHeartbeats 8000000 in
set_option maxRecDepth 100000 in
theorem union_ok (w : World) (D : DB) (n : Nat) (k : List Nat) (hd : DObj w D n k) (a b : Nat) (ha : a < n) (hb : b < n) :
    Calls Try.prog 11 #[.pointer (some ⟨D.s, 0, none⟩), .int .i64 a, .int .i64 b] w (UnPost w D n k a b) := by
  obtain ⟨up, least, sz, cnt, h, H, hr, hi, hl⟩ := hd.ex
  have hn := hd.hn
  have HKL := Lib.hid hd.kl
  have HR := Lib.hid hr
  have HI := Lib.hid hi
  have HL := Lib.hid hl
  have c0 := hr.sb.cell (i := 0) rfl
  have c1 := hr.sb.cell (i := 1) rfl
  clear hd hr hi hl
  go_enter Try.func11, Try.ntmps11
  go_wp2_with (first
    | (go_at_call 29; refine (dvalid_ok D.s w c0).mono ?_; rintro e w' ⟨rfl, rfl⟩)
    | (go_at_call 30; with_reducible refine (dhas_ok D.s D.ub n a w c0 c1 ha hn).mono ?_; rintro e w' ⟨rfl, rfl⟩)
    | (go_at_call 30; with_reducible refine (dhas_ok D.s D.ub n b w c0 c1 hb hn).mono ?_; rintro e w' ⟨rfl, rfl⟩))
  with_reducible refine (droot_ok w D n k up least sz cnt h H HR.out HI.out HL.out hn a ha).mono ?_
  rintro e w1 ⟨⟨r1, up1, rfl, hr1, er1, kr1, hp1, hi1, hl1, _⟩, hm1⟩
  have HR1 := Lib.hid hp1
  have HI1 := Lib.hid hi1
  have HL1 := Lib.hid hl1
  have HM1 := Lib.hid hm1
  have HE1 := Lib.hid er1
  have HK1 := Lib.hid kr1
  clear hp1 hi1 hl1 hm1 er1 kr1 c0 c1 HR HI HL
  go_wp2_with fail
  with_reducible refine (droot_ok w1 D n k up1 least sz cnt h H HR1.out HI1.out HL1.out hn b hb).mono ?_
  rintro e w2 ⟨⟨r2, up2, rfl, hr2, er2, kr2, hp2, hi2, hl2, hkp⟩, hm2⟩
  have HE1' := Lib.hid (hkp r1 HE1.out)
  have HR2 := Lib.hid hp2
  have HI2 := Lib.hid hi2
  have HL2 := Lib.hid hl2
  have HM2 := Lib.hid ((HM1.out.trans hm2 (fun _ _ h => h)).mono (G := D.mem) (fun _ _ h => .inr (.inl h)))
  have HE2 := Lib.hid er2
  have HK2 := Lib.hid kr2
  clear hp2 hi2 hl2 hm2 er2 kr2 hkp HR1 HI1 HL1 HM1 HE1
  by_cases heq : r1 = r2
  · have hkk : k.getD a 0 = k.getD b 0 := by rw [← HK1.out, ← HK2.out, heq]
    have HKK := Lib.hid hkk
    have te : ((r1 : Int) == (r2 : Int)) = true := by simp [heq]
    clear heq hkk
    go_wp2_with fail
    go_ret2
    refine ⟨?_, ?_, HM2.out⟩
    · rw [decide_eq_true HKK.out]; rfl
    · unfold joinK
      rw [if_pos HKK.out]
      exact ⟨HKL.out, hn, _, _, _, _, _, _, HR2.out, HI2.out, HL2.out⟩
  · have hkk : k.getD a 0 ≠ k.getD b 0 := fun e => heq (HI2.out.one r1 r2 hr1 hr2 HE1'.out HE2.out (by rw [HK1.out, HK2.out, e]))
    have HKK := Lib.hid hkk
    have te : ((r1 : Int) == (r2 : Int)) = false := by simp; omega
    -- what is to be shown for x = r1 or x = r2
    have FIN : Hid (∀ x y : Nat, ((x = r1 ∧ y = r2) ∨ (x = r2 ∧ y = r1)) → ∀ w', FinU w2 D n up2 least sz x y w' → UnPost w D n k a b (.returned (.tuple #[.bool true, .int .i64 0])) w') := by
      intro x y hxy w' hf
      obtain ⟨sz', cnt', hrep⟩ := hf.rep
      have hkab := HKK.out
      have ea := HK1.out
      have eb := HK2.out
      refine ⟨by rw [decide_eq_false hkab]; rfl, ?_, HM2.out.trans hf.mod (fun _ _ h => h)⟩
      unfold joinK
      rw [if_neg hkab]
      have hlt : min (k.getD a 0) (k.getD b 0) < max (k.getD a 0) (k.getD b 0) := by omega
      have hx : x < n := by omega
      have hy : y < n := by omega
      have ex : up2.getD x 0 = x := by rcases hxy with ⟨e, _⟩ | ⟨e, _⟩ <;> rw [e]; exact HE1'.out; exact HE2.out
      have ey : up2.getD y 0 = y := by rcases hxy with ⟨_, e⟩ | ⟨_, e⟩ <;> rw [e]; exact HE2.out; exact HE1'.out
      have hll : (k.getD x 0 = min (k.getD a 0) (k.getD b 0) ∧ k.getD y 0 = max (k.getD a 0) (k.getD b 0)) ∨ (k.getD x 0 = max (k.getD a 0) (k.getD b 0) ∧ k.getD y 0 = min (k.getD a 0) (k.getD b 0)) := by
        rcases hxy with ⟨rfl, rfl⟩ | ⟨rfl, rfl⟩
        · rw [ea, eb]; omega
        · rw [ea, eb]; omega
      exact ⟨by rw [relN_length]; exact HKL.out, hn, _, _, _, _, _, _, hrep, HI2.out.join HKL.out hx hy ex ey hll (by omega), HL2.out.join HI2.out HKL.out hx hy ex ey hll hlt⟩
    have s0 := HR2.out.sb.cell (i := 3) rfl
    have z1 := blkI HR2.out.zbk (i := r1) (by rw [HR2.out.szl]; exact hr1)
    have z2 := blkI HR2.out.zbk (i := r2) (by rw [HR2.out.szl]; exact hr2)
    have t1 : (r1 : Int) < (n : Int) := by omega
    have t2 : (r2 : Int) < (n : Int) := by omega
    have t3 : (0 : Int) ≤ (r1 : Int) := by omega
    have t4 : (0 : Int) ≤ (r2 : Int) := by omega
    obtain ⟨q1, hq1⟩ : ∃ q, sz.getD r1 0 = q := ⟨_, rfl⟩
    obtain ⟨q2, hq2⟩ : ∃ q, sz.getD r2 0 = q := ⟨_, rfl⟩
    rw [hq1] at z1
    rw [hq2] at z2
    clear hq1 hq2
    clear heq hkk
    by_cases hq : q1 < q2
    · have tq : decide (q1 < q2) = true := by simp [hq]
      clear hq
      go_wp2_with fail
      go_quiet (fail)
      have HR3 : Hid (DRep (w2.drewN nq) D n up2 least sz cnt) := HR2.out.mod (F := fun _ => False) ((Mod.refl _ w2).drewN nq) (fun _ _ h => h)
      have HM3 : Hid (Mod D.mem w2 (w2.drewN nq)) := (Mod.refl _ w2).drewN nq
      clear s0 z1 z2
      generalize w2.drewN nq = w3 at *
      have s1 := HR3.out.sb.cell (i := 1) rfl
      have uy := blkN HR3.out.ubk (i := r1) (by rw [HI2.out.ul]; exact hr1)
      have fy := HR3.out.ubk.free r1
      generalize up2.getD r1 0 = oy at *
      go_wp2_with fail
      have HR4 := Lib.hid (HR3.out.setUp r1 r2)
      have HM4 := Lib.hid (HM3.out.setCell ⟨D.ub, r1, none⟩ (fun _ => .inr (.inl rfl)) (.int .i64 (r2 : Int)))
      clear s1 uy fy HR3 HM3
      generalize w3.setCell ⟨D.ub, r1, none⟩ (.int .i64 (r2 : Int)) = w4 at *
      have s3 := HR4.out.sb.cell (i := 3) rfl
      have zx := blkI HR4.out.zbk (i := r2) (by rw [HR4.out.szl]; exact hr2)
      have zy := blkI HR4.out.zbk (i := r1) (by rw [HR4.out.szl]; exact hr1)
      have fx := HR4.out.zbk.free r2
      generalize sz.getD r2 0 = p1 at *
      generalize sz.getD r1 0 = p2 at *
      refine region_tailD 16 (by kernel_rfl) (by kernel_rfl) ?_
      intro w5 hw5
      replace s3 := hw5.cell s3
      replace zx := hw5.cell zx
      replace zy := hw5.cell zy
      replace fx := hw5.frozen fx
      have HR5 := Lib.hid (HR4.out.drew hw5)
      have HM5 := Lib.hid (hw5.mod HM4.out)
      clear hw5 HR4 HM4
      obtain ⟨sw, hsw⟩ : ∃ sw, IntKind.i64.wrap (p1 + p2) = sw := ⟨_, rfl⟩
      simp only [List.take_succ_cons, List.take_zero, List.drop_succ_cons, List.drop_zero]
      repeat still_step
      refine wpStill_nil ?_
      go_wp2_with fail
      have HR6 := Lib.hid (HR5.out.setSz r2 sw)
      have HM6 := Lib.hid (HM5.out.setCell ⟨D.zb, r2, none⟩ (fun _ => .inr (.inr (.inr rfl))) (.int .i64 sw))
      clear s3 zx zy fx HR5 HM5 hsw
      generalize w5.setCell ⟨D.zb, r2, none⟩ (.int .i64 sw) = w6 at *
      have s2 := HR6.out.sb.cell (i := 2) rfl
      have lx := blkN HR6.out.lbk (i := r2) (by rw [HL2.out.1]; exact hr2)
      have ly := blkN HR6.out.lbk (i := r1) (by rw [HL2.out.1]; exact hr1)
      have fl := HR6.out.lbk.free r2
      have hmin := run_minI ((least.getD r2 0 : Nat) : Int) ((least.getD r1 0 : Nat) : Int)
      have HMN : Hid (min ((least.getD r2 0 : Nat) : Int) ((least.getD r1 0 : Nat) : Int) = ((min (least.getD r2 0) (least.getD r1 0) : Nat) : Int)) := by show _ = _; omega
      rw [HMN.out] at hmin
      have HFU : Hid (∀ w' sz' cnt', DRep w' D n (up2.set r1 r2) (least.set r2 (min (least.getD r2 0) (least.getD r1 0))) sz' cnt' → Mod D.mem w2 w' → UnPost w D n k a b (.returned (.tuple #[.bool true, .int .i64 0])) w') := fun w' sz' cnt' h1 h2 => FIN.out r2 r1 (.inr ⟨rfl, rfl⟩) w' ⟨⟨sz', cnt', h1⟩, h2⟩
      generalize min (least.getD r2 0) (least.getD r1 0) = mn at *
      generalize least.getD r2 0 = lx' at *
      generalize least.getD r1 0 = ly' at *
      refine region_tailD 21 (by kernel_rfl) (by kernel_rfl) ?_
      intro w7 hw7
      replace s2 := hw7.cell s2
      replace lx := hw7.cell lx
      replace ly := hw7.cell ly
      replace fl := hw7.frozen fl
      have HR7 := Lib.hid (HR6.out.drew hw7)
      have HM7 := Lib.hid (hw7.mod HM6.out)
      clear hw7 HR6 HM6 HMN
      simp only [List.take_succ_cons, List.take_zero, List.drop_succ_cons, List.drop_zero]
      repeat still_step
      refine wpStill_nil ?_
      have s4 := HR7.out.sb.cell (i := 4) rfl
      have f4 := HR7.out.sb.free 4
      have hnl : D.s ≠ D.lb := fun e => HR7.out.n2 e.symm
      go_wp2_with fail
      go_ret2
      exact HFU.out _ _ _ ((HR7.out.setLe r2 mn).setCnt _) ((HM7.out.setCell _ (fun _ => .inr (.inr (.inl rfl))) _).setCell _ (fun _ => .inl rfl) _)
    · have tq : decide (q1 < q2) = false := by simp; omega
      clear hq
      go_wp2_with fail
      go_quiet (fail)
      have HR3 : Hid (DRep (w2.drewN nq) D n up2 least sz cnt) := HR2.out.mod (F := fun _ => False) ((Mod.refl _ w2).drewN nq) (fun _ _ h => h)
      have HM3 : Hid (Mod D.mem w2 (w2.drewN nq)) := (Mod.refl _ w2).drewN nq
      clear s0 z1 z2
      generalize w2.drewN nq = w3 at *
      have s1 := HR3.out.sb.cell (i := 1) rfl
      have uy := blkN HR3.out.ubk (i := r2) (by rw [HI2.out.ul]; exact hr2)
      have fy := HR3.out.ubk.free r2
      generalize up2.getD r2 0 = oy at *
      go_wp2_with fail
      have HR4 := Lib.hid (HR3.out.setUp r2 r1)
      have HM4 := Lib.hid (HM3.out.setCell ⟨D.ub, r2, none⟩ (fun _ => .inr (.inl rfl)) (.int .i64 (r1 : Int)))
      clear s1 uy fy HR3 HM3
      generalize w3.setCell ⟨D.ub, r2, none⟩ (.int .i64 (r1 : Int)) = w4 at *
      have s3 := HR4.out.sb.cell (i := 3) rfl
      have zx := blkI HR4.out.zbk (i := r1) (by rw [HR4.out.szl]; exact hr1)
      have zy := blkI HR4.out.zbk (i := r2) (by rw [HR4.out.szl]; exact hr2)
      have fx := HR4.out.zbk.free r1
      generalize sz.getD r1 0 = p1 at *
      generalize sz.getD r2 0 = p2 at *
      refine region_tailD 16 (by kernel_rfl) (by kernel_rfl) ?_
      intro w5 hw5
      replace s3 := hw5.cell s3
      replace zx := hw5.cell zx
      replace zy := hw5.cell zy
      replace fx := hw5.frozen fx
      have HR5 := Lib.hid (HR4.out.drew hw5)
      have HM5 := Lib.hid (hw5.mod HM4.out)
      clear hw5 HR4 HM4
      obtain ⟨sw, hsw⟩ : ∃ sw, IntKind.i64.wrap (p1 + p2) = sw := ⟨_, rfl⟩
      simp only [List.take_succ_cons, List.take_zero, List.drop_succ_cons, List.drop_zero]
      repeat still_step
      refine wpStill_nil ?_
      go_wp2_with fail
      have HR6 := Lib.hid (HR5.out.setSz r1 sw)
      have HM6 := Lib.hid (HM5.out.setCell ⟨D.zb, r1, none⟩ (fun _ => .inr (.inr (.inr rfl))) (.int .i64 sw))
      clear s3 zx zy fx HR5 HM5 hsw
      generalize w5.setCell ⟨D.zb, r1, none⟩ (.int .i64 sw) = w6 at *
      have s2 := HR6.out.sb.cell (i := 2) rfl
      have lx := blkN HR6.out.lbk (i := r1) (by rw [HL2.out.1]; exact hr1)
      have ly := blkN HR6.out.lbk (i := r2) (by rw [HL2.out.1]; exact hr2)
      have fl := HR6.out.lbk.free r1
      have hmin := run_minI ((least.getD r1 0 : Nat) : Int) ((least.getD r2 0 : Nat) : Int)
      have HMN : Hid (min ((least.getD r1 0 : Nat) : Int) ((least.getD r2 0 : Nat) : Int) = ((min (least.getD r1 0) (least.getD r2 0) : Nat) : Int)) := by show _ = _; omega
      rw [HMN.out] at hmin
      have HFU : Hid (∀ w' sz' cnt', DRep w' D n (up2.set r2 r1) (least.set r1 (min (least.getD r1 0) (least.getD r2 0))) sz' cnt' → Mod D.mem w2 w' → UnPost w D n k a b (.returned (.tuple #[.bool true, .int .i64 0])) w') := fun w' sz' cnt' h1 h2 => FIN.out r1 r2 (.inl ⟨rfl, rfl⟩) w' ⟨⟨sz', cnt', h1⟩, h2⟩
      generalize min (least.getD r1 0) (least.getD r2 0) = mn at *
      generalize least.getD r1 0 = lx' at *
      generalize least.getD r2 0 = ly' at *
      refine region_tailD 21 (by kernel_rfl) (by kernel_rfl) ?_
      intro w7 hw7
      replace s2 := hw7.cell s2
      replace lx := hw7.cell lx
      replace ly := hw7.cell ly
      replace fl := hw7.frozen fl
      have HR7 := Lib.hid (HR6.out.drew hw7)
      have HM7 := Lib.hid (hw7.mod HM6.out)
      clear hw7 HR6 HM6 HMN
      simp only [List.take_succ_cons, List.take_zero, List.drop_succ_cons, List.drop_zero]
      repeat still_step
      refine wpStill_nil ?_
      have s4 := HR7.out.sb.cell (i := 4) rfl
      have f4 := HR7.out.sb.free 4
      have hnl : D.s ≠ D.lb := fun e => HR7.out.n2 e.symm
      go_wp2_with fail
      go_ret2
      exact HFU.out _ _ _ ((HR7.out.setLe r1 mn).setCnt _) ((HM7.out.setCell _ (fun _ => .inr (.inr (.inl rfl))) _).setCell _ (fun _ => .inl rfl) _)

end Go.Proofs.Ythacjealoomioaa
