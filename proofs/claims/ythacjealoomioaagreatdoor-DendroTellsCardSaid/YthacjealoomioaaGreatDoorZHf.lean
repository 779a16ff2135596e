/- RcRk, RcRg, RcRh. -/
import Derived.Test.YthacjealoomioaaGreatDoorZGj
import Derived.Deep.RegionHeld3
/- Reference of layer 18: Check. -/
namespace Go.Proofs.YthacjealoomioaaGreatDoor
set_option linter.unusedVariables false
set_option linter.unusedSimpArgs false
open Go.RowKit

theorem no_ok {t : Tr} {x : Nat} (hx : x < t.par.length) (h : ¬ OkAt t (lowF t x) x) : chk t = 2 := chk_none (lsL_none (.inr ⟨x, hx, h⟩))
theorem no_head {t : Tr} (h : ¬ HeadOk t) : chk t = 2 := chk_none (lsL_none (.inl h))

theorem chk_ok {t : Tr} {n : Nat} (hlv : t.lv = (n : Int)) (hn : n ≤ 4096) (hl : LensOk t) (hnm : n ≤ t.par.length) (h1 : ∀ y, y < n → LeafAt t y) (h2 : ∀ y, n ≤ y → y < t.par.length → InnAt t (lowF t y) y) (h3 : ∀ y, y < t.par.length → BelAt t y) : chk t = 0 := by
  have tv : TV t n t.par.length (lowF t t.par.length) := by
    refine ⟨hlv, hn, hnm, rfl, hl.1, hl.2.1, hl.2.2.1, hl.2.2.2, lowF_len _ _, h1, fun x k1 k2 => (h2 x k1 k2).congr (fun y hy => lowF_at t (by omega) hy), h3, fun x hx => ?_, fun x k1 k2 => ?_⟩
    · rw [lowF_at t (x := x + 1) (by omega) (by omega), lowF_last]
      unfold lsNext
      rw [if_pos (by omega)]
    · obtain ⟨⟨i1, i2⟩, _⟩ := (h2 x k1 k2).1
      have hc : lc t x < x := by unfold lc; omega
      rw [lowF_at t (x := x + 1) (by omega) (by omega), lowF_last, lowF_at t (x := x) (by omega) hc]
      unfold lsNext
      rw [if_neg (by omega)]
  exact chk_some tv.ls_some

/-- An inner node, by its numbers. -/
theorem inn_iff2 {t : Tr} {ls : List Nat} {x : Nat} {a b : Int} (ha : gi t.left x = a) (hb : gi t.right x = b) : InnAt t ls x ↔ (((0 ≤ a ∧ a < x) ∧ (0 ≤ b ∧ b < x) ∧ a ≠ b) ∧
    (gi t.par a.toNat = x ∧ gi t.par b.toNat = x ∧ ls.getD a.toNat 0 < ls.getD b.toNat 0) ∧ gi t.siz x = IntKind.i64.wrap (gi t.siz a.toNat + gi t.siz b.toNat) ∧ ((x : Int) = t.lv ∨ gi t.hgt (x - 1) ≤ gi t.hgt x)) := by
  subst ha hb; exact Iff.rfl

theorem leaf_next {t : Tr} {n x : Nat} (hlv : t.lv = (n : Int)) (hx : x < n) : x = lsNext t (lowF t x) x := by unfold lsNext; rw [if_pos (by omega)]

set_option maxHeartbeats 16000000 in
set_option maxRecDepth 100000 in
theorem rcheck_ok (w : World) (A : TA) (t : Tr) (ht : TreeAt w A t) (hmm : t.left.length ≤ 1000000) : Calls Tryz.prog 51 #[A.agg t] w (RetB (.int .i64 (chk t)) w) := by
  have HT := Lib.hid ht
  have HB := Lib.hid (TBox.new w A t)
  have HW := Lib.hid (bel_alloc w (.cells #[.int .i64 t.lv, .slice A.l.o t.left.length A.l.c, .slice A.r.o t.right.length A.r.c, .slice A.p.o t.par.length A.p.c, .slice A.h.o t.hgt.length A.h.c, .slice A.s.o t.siz.length A.s.c] 27))
  have c0 := HB.out.c0
  have c1 := HB.out.c1
  have c2 := HB.out.c2
  have c3 := HB.out.c3
  have c4 := HB.out.c4
  have c5 := HB.out.c5
  obtain ⟨ln1, ln2, ln3, ln4, ln5⟩ := ht.ln
  obtain ⟨k1, k2⟩ := ht.lw
  clear ht
  show Calls _ _ #[.agg #[.int .i64 t.lv, .slice A.l.o t.left.length A.l.c, .slice A.r.o t.right.length A.r.c, .slice A.p.o t.par.length A.p.c, .slice A.h.o t.hgt.length A.h.c, .slice A.s.o t.siz.length A.s.c]] _ _
  have hsz : w.heap.size < (w.alloc (.cells #[.int .i64 t.lv, .slice A.l.o t.left.length A.l.c, .slice A.r.o t.right.length A.r.c, .slice A.p.o t.par.length A.p.c, .slice A.h.o t.hgt.length A.h.c, .slice A.s.o t.siz.length A.s.c] 27)).heap.size := by simp
  generalize hlo : A.l.o = lo at *
  generalize hro : A.r.o = ro at *
  generalize hpo : A.p.o = po at *
  generalize hho : A.h.o = ho at *
  generalize hso : A.s.o = so at *
  have HLO := Lib.hid hlo
  have HRO := Lib.hid hro
  have HPO := Lib.hid hpo
  have HHO := Lib.hid hho
  have HSO := Lib.hid hso
  clear hlo hro hpo hho hso
  obtain ⟨kk, HK⟩ : ∃ kk, Hid (chk t = kk) := ⟨_, rfl⟩
  rw [HK.out]
  by_cases p0 : t.lv < 0
  · have t0 : decide (t.lv < 0) = true := by simp [p0]
    have HF : Hid (2 = kk) := by show _ = _; rw [← HK.out]; exact (no_head (by rintro ⟨⟨h, _⟩, _⟩; omega)).symm
    clear p0
    go_enter Tryz.func51, Tryz.ntmps51
    go_wp2_with fail
    go_ret
    exact ⟨ret_int HF.out, HW.out⟩
  have t0 : decide (t.lv < 0) = false := by simp; omega
  by_cases p1 : 4096 < t.lv
  · have t1 : decide (4096 < t.lv) = true := by simp [p1]
    have HF : Hid (2 = kk) := by show _ = _; rw [← HK.out]; exact (no_head (by rintro ⟨⟨_, h, _⟩, _⟩; omega)).symm
    clear p0 p1
    go_enter Tryz.func51, Tryz.ntmps51
    go_wp2_with fail
    go_ret
    exact ⟨ret_int HF.out, HW.out⟩
  have t1 : decide (4096 < t.lv) = false := by simp; omega
  by_cases p2 : t.right.length ≠ t.left.length
  · have t2 : ((t.right.length : Int) != (t.left.length : Int)) = true := by simp; omega
    have HF : Hid (2 = kk) := by show _ = _; rw [← HK.out]; exact (no_head (by rintro ⟨_, h1, h2, h3, h4⟩; omega)).symm
    clear p0 p1 p2
    go_enter Tryz.func51, Tryz.ntmps51
    go_wp2_with fail
    go_ret
    exact ⟨ret_int HF.out, HW.out⟩
  have t2 : ((t.right.length : Int) != (t.left.length : Int)) = false := by simp; omega
  by_cases p3 : t.par.length ≠ t.left.length
  · have t3 : ((t.par.length : Int) != (t.left.length : Int)) = true := by simp; omega
    have HF : Hid (2 = kk) := by show _ = _; rw [← HK.out]; exact (no_head (by rintro ⟨_, h1, h2, h3, h4⟩; omega)).symm
    clear p0 p1 p2 p3
    go_enter Tryz.func51, Tryz.ntmps51
    go_wp2_with fail
    go_ret
    exact ⟨ret_int HF.out, HW.out⟩
  have t3 : ((t.par.length : Int) != (t.left.length : Int)) = false := by simp; omega
  by_cases p4 : t.hgt.length ≠ t.left.length
  · have t4 : ((t.hgt.length : Int) != (t.left.length : Int)) = true := by simp; omega
    have HF : Hid (2 = kk) := by show _ = _; rw [← HK.out]; exact (no_head (by rintro ⟨_, h1, h2, h3, h4⟩; omega)).symm
    clear p0 p1 p2 p3 p4
    go_enter Tryz.func51, Tryz.ntmps51
    go_wp2_with fail
    go_ret
    exact ⟨ret_int HF.out, HW.out⟩
  have t4 : ((t.hgt.length : Int) != (t.left.length : Int)) = false := by simp; omega
  by_cases p5 : t.siz.length ≠ t.left.length
  · have t5 : ((t.siz.length : Int) != (t.left.length : Int)) = true := by simp; omega
    have HF : Hid (2 = kk) := by show _ = _; rw [← HK.out]; exact (no_head (by rintro ⟨_, h1, h2, h3, h4⟩; omega)).symm
    clear p0 p1 p2 p3 p4 p5
    go_enter Tryz.func51, Tryz.ntmps51
    go_wp2_with fail
    go_ret
    exact ⟨ret_int HF.out, HW.out⟩
  have t5 : ((t.siz.length : Int) != (t.left.length : Int)) = false := by simp; omega
  by_cases p6 : (t.left.length : Int) < t.lv
  · have t6 : decide ((t.left.length : Int) < t.lv) = true := by simp [p6]
    have HF : Hid (2 = kk) := by show _ = _; rw [← HK.out]; exact (no_head (by rintro ⟨⟨_, _, h, _⟩, h1, _⟩; omega)).symm
    clear p0 p1 p2 p3 p4 p5 p6
    go_enter Tryz.func51, Tryz.ntmps51
    go_wp2_with fail
    go_ret
    exact ⟨ret_int HF.out, HW.out⟩
  have t6 : decide ((t.left.length : Int) < t.lv) = false := by simp; omega
  have q2 : t.right.length = t.left.length := by omega
  have q3 : t.par.length = t.left.length := by omega
  have q4 : t.hgt.length = t.left.length := by omega
  have q5 : t.siz.length = t.left.length := by omega
  have HL : Hid (LensOk t) := ⟨by omega, by omega, by omega, by omega⟩
  obtain ⟨n, hn⟩ := Int.eq_ofNat_of_zero_le (show 0 ≤ t.lv by omega)
  have hn4 : n ≤ 4096 := by omega
  have hnm : n ≤ t.par.length := by omega
  have HQ : Hid (t.left.length = t.par.length ∧ t.right.length = t.par.length ∧ t.hgt.length = t.par.length ∧ t.siz.length = t.par.length) := ⟨by omega, by omega, by omega, by omega⟩
  have HN := Lib.hid hn
  clear p0 p1 p2 p3 p4 p5 p6 q2 q3 q4 q5 hn
  go_enter Tryz.func51, Tryz.ntmps51
  go_wp2_with (at_make; apply keepIt)
  apply Lib.hid
  refine wpList_makeB 3 (.int .i64 0) 8 Tryz.underlying24 Tryz.infoInt rfl _ _ _ _ t.left.length rfl rfl rfl rfl (by omega) (by unfold maxLen; omega) ?_
  intro w3 B3 hb3
  have HB3 := Lib.hid B3
  have HW3 := Lib.hid (bel_then HW.out hb3)
  have HX3 := Lib.hid (Blk.below HB.out hb3 hsz)
  have hs3 := hb3.size
  clear B3 hb3 c0 c1 c2 c3 c4 c5 HB HW t0 t1 t2 t3 t4 t5 t6 hs3
  generalize (w.alloc (.cells #[.int .i64 t.lv, .slice lo t.left.length A.l.c, .slice ro t.right.length A.r.c, .slice po t.par.length A.p.c, .slice ho t.hgt.length A.h.c, .slice so t.siz.length A.s.c] 27)).heap.size = lb at *
  have HT3 := Lib.hid (HT.out.below HW3.out)
  have HAN : Hid (∀ k, A.has t k → k ≠ lb) := fun k hk => by have := HT.out.lt hk; omega
  have hne : w.heap.size ≠ lb := by omega
  have HB0 : Hid (Blk w3 lb 3 (natV (lsZ t t.left.length 0))) := by
    have e : lsZ t t.left.length 0 = List.replicate t.left.length 0 := by unfold lsZ; simp [lowF]
    show Blk _ _ _ _
    rw [e, natV_zero]
    exact HB3.out
  clear HB3
  go_wp2_with fail
  go_loopw [5] (fun s wr => ∃ x : Nat, x ≤ n ∧ s = .int .i64 x ∧ Blk wr lb 3 (natV (lsZ t t.left.length x)) ∧ Mod (fun k => k = lb) w3 wr ∧ ∀ y, y < x → LeafAt t y) (fun s _ => n - (intOf s).toNat)
  case atStart => exact ⟨0, Nat.zero_le _, rfl, HB0.out, Mod.refl _ _, fun y hy => by omega⟩
  case round =>
    obtain ⟨x, hx, rfl, hb, hm, hok⟩ := hrel
    clear HB0
    have HBR := Lib.hid hb
    have HMR := Lib.hid hm
    have HOK := Lib.hid hok
    have HTR := Lib.hid (HT3.out.mod hm HAN.out)
    have HXR := Lib.hid (Blk.mod HX3.out hm hne)
    have HWR := Lib.hid (bel_mod HW3.out hm (fun k e => by omega))
    have c0 := TBox.c0 HXR.out
    have c1 := TBox.c1 HXR.out
    have c2 := TBox.c2 HXR.out
    have c3 := TBox.c3 HXR.out
    have c4 := TBox.c4 HXR.out
    have c5 := TBox.c5 HXR.out
    rw [HLO.out] at c1
    rw [HRO.out] at c2
    rw [HPO.out] at c3
    rw [HHO.out] at c4
    rw [HSO.out] at c5
    clear hb hm hok
    by_cases hxn : x < n
    · have t0 : decide ((x : Int) < t.lv) = true := by have := HN.out; simp; omega
      obtain ⟨q1, q2, q4, q5⟩ := HQ.out
      obtain ⟨e1, l1⟩ := HTR.out.l.get (i := x) (by omega)
      obtain ⟨e2, l2⟩ := HTR.out.r.get (i := x) (by omega)
      obtain ⟨e4, l4⟩ := HTR.out.h.get (i := x) (by omega)
      obtain ⟨e5, l5⟩ := HTR.out.s.get (i := x) (by omega)
      rw [HLO.out] at e1
      rw [HRO.out] at e2
      rw [HHO.out] at e4
      rw [HSO.out] at e5
      subst e1 e2 e4 e5
      have HNO : Hid (¬ LeafAt t x → 2 = kk) := fun h => by
        rw [← HK.out]
        exact (no_ok (x := x) (by omega) (fun ho => ho.1.elim (fun h1 => by have := HN.out; omega) h)).symm
      have HLF : Hid (LeafAt t x ↔ gi t.left x = -1 ∧ gi t.right x = -1 ∧ gi t.hgt x = 0 ∧ gi t.siz x = 1) := Iff.rfl
      have l0 := blkN HBR.out (i := x) (by rw [lsZ_len (by omega)]; omega)
      have f0 := HBR.out.free x
      generalize (lsZ t t.left.length x).getD x 0 = old at *
      have x1 : (x : Int) < (t.left.length : Int) := by omega
      have x2 : (x : Int) < (t.right.length : Int) := by omega
      have x4 : (x : Int) < (t.hgt.length : Int) := by omega
      have x5 : (x : Int) < (t.siz.length : Int) := by omega
      have x6 : (0 : Int) ≤ (x : Int) := by omega
      have hxl : x < t.left.length := by omega
      clear q1 q2 q4 q5
      generalize gi t.left x = a at *
      generalize gi t.right x = b at *
      generalize gi t.hgt x = c at *
      generalize gi t.siz x = d at *
      by_cases g0 : a ≠ -1
      · have u0 : (a != -1) = true := by simp [g0]
        have HF := Lib.hid (HNO.out (fun h => by have := HLF.out.1 h; omega))
        clear g0
        go_wp2_with fail
        go_ret
        exact ⟨ret_int HF.out, HWR.out⟩
      have u0 : (a != -1) = false := by simp; omega
      replace g0 := Classical.not_not.1 g0
      have G0 := Lib.hid g0
      clear g0
      by_cases g1 : b ≠ -1
      · have u1 : (b != -1) = true := by simp [g1]
        have HF := Lib.hid (HNO.out (fun h => by have := HLF.out.1 h; omega))
        clear g1
        go_wp2_with fail
        go_ret
        exact ⟨ret_int HF.out, HWR.out⟩
      have u1 : (b != -1) = false := by simp; omega
      replace g1 := Classical.not_not.1 g1
      have G1 := Lib.hid g1
      clear g1
      by_cases g2 : c ≠ 0
      · have u2 : (c != 0) = true := by simp [g2]
        have HF := Lib.hid (HNO.out (fun h => by have := HLF.out.1 h; omega))
        clear g2
        go_wp2_with fail
        go_ret
        exact ⟨ret_int HF.out, HWR.out⟩
      have u2 : (c != 0) = false := by simp; omega
      replace g2 := Classical.not_not.1 g2
      have G2 := Lib.hid g2
      clear g2
      by_cases g3 : d ≠ 1
      · have u3 : (d != 1) = true := by simp [g3]
        have HF := Lib.hid (HNO.out (fun h => by have := HLF.out.1 h; omega))
        clear g3
        go_wp2_with fail
        go_ret
        exact ⟨ret_int HF.out, HWR.out⟩
      have u3 : (d != 1) = false := by simp; omega
      replace g3 := Classical.not_not.1 g3
      have G3 := Lib.hid g3
      clear g3
      have HOK2 : Hid (∀ y, y < x + 1 → LeafAt t y) := fun y hy => by
        by_cases e : y = x
        · subst e; exact HLF.out.2 ⟨G0.out, G1.out, G2.out, G3.out⟩
        · exact HOK.out y (by omega)
      have HB4 : Hid (Blk (wr.setCell ⟨lb, x, none⟩ (.int .i64 x)) lb 3 (natV (lsZ t t.left.length (x + 1)))) := by
        have := blkN_set HBR.out x x
        rw [lsZ_set hxl x (leaf_next HN.out hxn)] at this
        exact this
      go_wp2_with fail
      go_roundw
      case rel => exact ⟨x + 1, by omega, by go_num, HB4.out, HMR.out.setCell _ (fun _ => rfl) _, HOK2.out⟩
      case measure => simp [intOf]; omega
    · obtain rfl : n = x := by omega
      have t0 : decide ((n : Int) < t.lv) = false := by have := HN.out; simp; omega
      have HLV : Hid (Value.int .i64 t.lv = .int .i64 (n : Int)) := by show _ = _; rw [HN.out]
      clear hxn
      go_wp2_with fail
      have HLFS := Lib.hid HOK.out
      have HBS := Lib.hid HBR.out
      have HMS := Lib.hid HMR.out
      clear c0 c1 c2 c3 c4 c5 HXR HTR HWR HBR HMR HOK t0
      obtain ⟨wo, rfl⟩ : ∃ wo : World, wo = wr := ⟨_, rfl⟩
      go_loopw [6] (fun s wr => ∃ x : Nat, n ≤ x ∧ x ≤ t.left.length ∧ s = .int .i64 x ∧ Blk wr lb 3 (natV (lsZ t t.left.length x)) ∧ Mod (fun k => k = lb) w3 wr ∧ ∀ y, n ≤ y → y < x → InnAt t (lowF t y) y) (fun s _ => t.left.length - (intOf s).toNat)
      case atStart => exact ⟨n, Nat.le_refl _, by have := HQ.out.1; omega, HLV.out, HBS.out, HMS.out, fun y h1 h2 => by omega⟩
      case round =>
        obtain ⟨x, hnx, hx, rfl, hb, hm, hok⟩ := hrel
        clear HBS HMS
        have HBR := Lib.hid hb
        have HMR := Lib.hid hm
        have HOK := Lib.hid hok
        have HTR := Lib.hid (HT3.out.mod hm HAN.out)
        have HXR := Lib.hid (Blk.mod HX3.out hm hne)
        have HWR := Lib.hid (bel_mod HW3.out hm (fun k e => by omega))
        have c0 := TBox.c0 HXR.out
        have c1 := TBox.c1 HXR.out
        have c2 := TBox.c2 HXR.out
        have c3 := TBox.c3 HXR.out
        have c4 := TBox.c4 HXR.out
        have c5 := TBox.c5 HXR.out
        rw [HLO.out] at c1
        rw [HRO.out] at c2
        rw [HPO.out] at c3
        rw [HHO.out] at c4
        rw [HSO.out] at c5
        clear hb hm hok
        by_cases hxm : x < t.left.length
        · have t0 : (x : Int) < (t.left.length : Int) := by omega
          obtain ⟨q1, q2, q4, q5⟩ := HQ.out
          have hxp : x < t.par.length := by omega
          obtain ⟨e1, l1⟩ := HTR.out.l.get (i := x) (by omega)
          obtain ⟨e2, l2⟩ := HTR.out.r.get (i := x) (by omega)
          obtain ⟨e3, _⟩ := HTR.out.p.get (i := x) (by omega)
          obtain ⟨e4, h4⟩ := HTR.out.h.get (i := x) (by omega)
          obtain ⟨e5, s1⟩ := HTR.out.s.get (i := x) (by omega)
          rw [HLO.out] at e1
          rw [HRO.out] at e2
          rw [HPO.out] at e3
          rw [HHO.out] at e4
          rw [HSO.out] at e5
          subst e1 e2 e3 e4 e5
          have HNO : Hid (¬ InnAt t (lowF t x) x → 2 = kk) := fun h => by
            rw [← HK.out]
            exact (no_ok (x := x) hxp (fun ho => ho.2.1.elim (fun h1 => by have := HN.out; omega) h)).symm
          have l0 := blkN HBR.out (i := x) (by rw [lsZ_len (by omega)]; omega)
          have f0 := HBR.out.free x
          have HLSA : Hid (∀ y, y < x → wr.cell? ⟨lb, y, none⟩ = some (.int .i64 (((lowF t x).getD y 0 : Nat) : Int))) := fun y hy => by
            have := blkN HBR.out (i := y) (by rw [lsZ_len (by omega)]; omega)
            rw [lsZ_at hy] at this
            exact this
          generalize (lsZ t t.left.length x).getD x 0 = old at *
          have x2 : (x : Int) < (t.right.length : Int) := by omega
          have x3 : (x : Int) < (t.par.length : Int) := by omega
          have x4 : (x : Int) < (t.hgt.length : Int) := by omega
          have x5 : (x : Int) < (t.siz.length : Int) := by omega
          have x6 : (0 : Int) ≤ (x : Int) := by omega
          clear q1 q2 q4 q5
          obtain ⟨a, HA⟩ : ∃ p, Hid (gi t.left x = p) := ⟨_, rfl⟩
          obtain ⟨b, HB2⟩ : ∃ p, Hid (gi t.right x = p) := ⟨_, rfl⟩
          rw [HA.out] at l1
          rw [HB2.out] at l2
          have HL2 := Lib.hid (inn_iff2 (ls := lowF t x) HA.out HB2.out)
          by_cases hg : a < 0
          · have g0 : decide (a < 0) = true := by simp [hg]
            have HF := Lib.hid (HNO.out (fun hh => by
              obtain ⟨⟨⟨k1, k2⟩, ⟨k3, k4⟩, k5⟩, ⟨k6, k7, k8⟩, k9, k10⟩ := HL2.out.1 hh
              omega))
            clear hg
            go_wp2_with fail
            go_quiet (fail)
            go_wp2_with fail
            go_ret
            exact ⟨ret_int HF.out, by repeat (first | exact HWR.out | apply bel_drewN)⟩
          have g0 : decide (a < 0) = false := by simp; omega
          have q0 := hg
          clear hg
          by_cases hg : b < 0
          · have g1 : decide (b < 0) = true := by simp [hg]
            have HF := Lib.hid (HNO.out (fun hh => by
              obtain ⟨⟨⟨k1, k2⟩, ⟨k3, k4⟩, k5⟩, ⟨k6, k7, k8⟩, k9, k10⟩ := HL2.out.1 hh
              omega))
            clear hg
            go_wp2_with fail
            go_quiet (fail)
            go_wp2_with fail
            go_ret
            exact ⟨ret_int HF.out, by repeat (first | exact HWR.out | apply bel_drewN)⟩
          have g1 : decide (b < 0) = false := by simp; omega
          have q1 := hg
          clear hg
          by_cases hg : (x : Int) ≤ a
          · have g2 : decide ((x : Int) ≤ a) = true := by simp [hg]
            have HF := Lib.hid (HNO.out (fun hh => by
              obtain ⟨⟨⟨k1, k2⟩, ⟨k3, k4⟩, k5⟩, ⟨k6, k7, k8⟩, k9, k10⟩ := HL2.out.1 hh
              omega))
            clear hg
            go_wp2_with fail
            go_quiet (fail)
            go_wp2_with fail
            go_ret
            exact ⟨ret_int HF.out, by repeat (first | exact HWR.out | apply bel_drewN)⟩
          have g2 : decide ((x : Int) ≤ a) = false := by simp; omega
          have q2 := hg
          clear hg
          by_cases hg : (x : Int) ≤ b
          · have g3 : decide ((x : Int) ≤ b) = true := by simp [hg]
            have HF := Lib.hid (HNO.out (fun hh => by
              obtain ⟨⟨⟨k1, k2⟩, ⟨k3, k4⟩, k5⟩, ⟨k6, k7, k8⟩, k9, k10⟩ := HL2.out.1 hh
              omega))
            clear hg
            go_wp2_with fail
            go_quiet (fail)
            go_wp2_with fail
            go_ret
            exact ⟨ret_int HF.out, by repeat (first | exact HWR.out | apply bel_drewN)⟩
          have g3 : decide ((x : Int) ≤ b) = false := by simp; omega
          have q3 := hg
          clear hg
          by_cases hg : a = b
          · have g4 : (a == b) = true := by simp [hg]
            have HF := Lib.hid (HNO.out (fun hh => by
              obtain ⟨⟨⟨k1, k2⟩, ⟨k3, k4⟩, k5⟩, ⟨k6, k7, k8⟩, k9, k10⟩ := HL2.out.1 hh
              exact k5 hg))
            clear hg
            go_wp2_with fail
            go_quiet (fail)
            go_wp2_with fail
            go_ret
            exact ⟨ret_int HF.out, by repeat (first | exact HWR.out | apply bel_drewN)⟩
          have g4 : (a == b) = false := by simp [hg]
          have q4 := hg
          clear hg
          obtain ⟨la, rfl⟩ := Int.eq_ofNat_of_zero_le (show 0 ≤ a by omega)
          obtain ⟨ra, rfl⟩ := Int.eq_ofNat_of_zero_le (show 0 ≤ b by omega)
          have hla : la < x := by omega
          have hra : ra < x := by omega
          have g2x : decide ((x : Int) ≤ (la : Int)) = false := by simp; omega
          have g2y : decide (x ≤ la) = false := by simp; omega
          have g3y : decide (x ≤ ra) = false := by simp; omega
          have g4y : ((la : Int) == (ra : Int)) = false := by simp; omega
          clear q0 q1 q2 q3
          have Q4 := Lib.hid q4
          clear q4
          simp only [Int.toNat_natCast] at HL2
          obtain ⟨qq1, qq2, qq4, qq5⟩ := HQ.out
          obtain ⟨_, p1⟩ := HTR.out.p.get (i := la) (by omega)
          obtain ⟨_, p2⟩ := HTR.out.p.get (i := ra) (by omega)
          obtain ⟨_, s2⟩ := HTR.out.s.get (i := la) (by omega)
          obtain ⟨_, s3⟩ := HTR.out.s.get (i := ra) (by omega)
          have m1 := HLSA.out la hla
          have m2 := HLSA.out ra hra
          have HMA : Hid ((lowF t x).getD la 0 = lsNext t (lowF t x) x) := by
            show _ = _
            unfold lsNext lc
            rw [if_neg (by have := HN.out; omega), HA.out]
            rfl
          have y1 : (la : Int) < (t.par.length : Int) := by omega
          have y2 : (ra : Int) < (t.par.length : Int) := by omega
          have y3 : (la : Int) < (t.left.length : Int) := by omega
          have y4 : (ra : Int) < (t.left.length : Int) := by omega
          have y5 : (la : Int) < (t.siz.length : Int) := by omega
          have y6 : (ra : Int) < (t.siz.length : Int) := by omega
          have y7 : (0 : Int) ≤ (la : Int) := by omega
          have y8 : (0 : Int) ≤ (ra : Int) := by omega
          clear qq1 qq2 qq4 qq5
          generalize gi t.par la = pa at *
          generalize gi t.par ra = pb at *
          generalize (lowF t x).getD la 0 = ma at *
          generalize (lowF t x).getD ra 0 = mb at *
          generalize gi t.siz x = sx at *
          generalize gi t.siz la = sa at *
          generalize gi t.siz ra = sb at *
          obtain ⟨sw, HSW⟩ : ∃ sw, Hid (IntKind.i64.wrap (sa + sb) = sw) := ⟨_, rfl⟩
          rw [HSW.out] at HL2
          have hsw := HSW.out
          by_cases hg : pa ≠ x
          · have g5 : (pa != (x : Int)) = true := by simp [hg]
            have HF := Lib.hid (HNO.out (fun hh => by
              obtain ⟨⟨⟨k1, k2⟩, ⟨k3, k4⟩, k5⟩, ⟨k6, k7, k8⟩, k9, k10⟩ := HL2.out.1 hh
              exact hg k6))
            clear hg
            go_wp2_with fail
            go_quiet (fail)
            go_wp2_with fail
            go_ret
            exact ⟨ret_int HF.out, by repeat (first | exact HWR.out | apply bel_drewN)⟩
          have g5 : (pa != (x : Int)) = false := by simp; omega
          have Q5 := Lib.hid hg
          clear hg
          by_cases hg : pb ≠ x
          · have g6 : (pb != (x : Int)) = true := by simp [hg]
            have HF := Lib.hid (HNO.out (fun hh => by
              obtain ⟨⟨⟨k1, k2⟩, ⟨k3, k4⟩, k5⟩, ⟨k6, k7, k8⟩, k9, k10⟩ := HL2.out.1 hh
              exact hg k7))
            clear hg
            go_wp2_with fail
            go_quiet (fail)
            go_wp2_with fail
            go_ret
            exact ⟨ret_int HF.out, by repeat (first | exact HWR.out | apply bel_drewN)⟩
          have g6 : (pb != (x : Int)) = false := by simp; omega
          have Q6 := Lib.hid hg
          clear hg
          by_cases hg : mb ≤ ma
          · have g7 : decide (mb ≤ ma) = true := by simp [hg]
            have g7x : decide ((mb : Int) ≤ (ma : Int)) = true := by simp; omega
            have HF := Lib.hid (HNO.out (fun hh => by
              obtain ⟨⟨⟨k1, k2⟩, ⟨k3, k4⟩, k5⟩, ⟨k6, k7, k8⟩, k9, k10⟩ := HL2.out.1 hh
              omega))
            clear hg
            go_wp2_with fail
            go_quiet (fail)
            go_wp2_with fail
            go_quiet (fail)
            go_wp2_with fail
            go_ret
            exact ⟨ret_int HF.out, by repeat (first | exact HWR.out | apply bel_drewN)⟩
          have g7 : decide (mb ≤ ma) = false := by simp; omega
          have g7x : decide ((mb : Int) ≤ (ma : Int)) = false := by simp; omega
          have Q7 := Lib.hid hg
          clear hg
          by_cases hg : sx ≠ sw
          · have g8 : (sx != sw) = true := by simp [hg]
            have HF := Lib.hid (HNO.out (fun hh => by
              obtain ⟨⟨⟨k1, k2⟩, ⟨k3, k4⟩, k5⟩, ⟨k6, k7, k8⟩, k9, k10⟩ := HL2.out.1 hh
              exact hg k9))
            clear hg
            go_wp2_with fail
            go_quiet (fail)
            go_wp2_with fail
            go_quiet (fail)
            go_wp2_with fail
            go_ret
            exact ⟨ret_int HF.out, by repeat (first | exact HWR.out | apply bel_drewN)⟩
          have g8 : (sx != sw) = false := by simp; omega
          have Q8 := Lib.hid hg
          clear hg
          by_cases hg : (x : Int) = t.lv
          · have g9 : decide (t.lv < (x : Int)) = false := by simp; omega
            have HIN : Hid (InnAt t (lowF t x) x) := by
              have k4 := Q4.out
              have k5 := Q5.out
              have k6 := Q6.out
              have k7 := Q7.out
              have k8 := Q8.out
              exact HL2.out.2 ⟨⟨⟨by omega, by omega⟩, ⟨by omega, by omega⟩, by omega⟩, ⟨by omega, by omega, by omega⟩, by omega, .inl hg⟩
            clear hg
            have HM4 : Hid (∀ q, Mod (fun k => k = lb) w3 ((wr.drewN q).setCell ⟨lb, x, none⟩ (.int .i64 (ma : Int)))) := fun q => (HMR.out.drewN q).setCell ⟨lb, x, none⟩ (fun _ => rfl) _
            have HOK2 : Hid (∀ y, n ≤ y → y < x + 1 → InnAt t (lowF t y) y) := fun y h1 h2 => by
              by_cases e : y = x
              · subst e; exact HIN.out
              · exact HOK.out y h1 (by omega)
            have HB4 : Hid (∀ q1, Blk ((wr.drewN q1).setCell ⟨lb, x, none⟩ (.int .i64 (ma : Int))) lb 3 (natV (lsZ t t.left.length (x + 1)))) := fun q1 => by
              have := blkN_set (HBR.out.drewN q1) x ma
              rw [lsZ_set hxm ma HMA.out] at this
              exact this
            go_wp2_with fail
            go_quiet (fail)
            go_wp2_with fail
            go_quiet (fail)
            go_wp2_with fail
            go_roundw
            case rel => exact ⟨x + 1, by omega, by omega, by go_num, HB4.out _, HM4.out _, HOK2.out⟩
            case measure => simp [intOf]; omega
          have g9 : decide (t.lv < (x : Int)) = true := by have := HN.out; simp; omega
          obtain ⟨x', hx'⟩ : ∃ x', x = x' + 1 := ⟨x - 1, by have := HN.out; omega⟩
          obtain ⟨_, h5⟩ := HTR.out.h.get (i := x') (by have := HQ.out.2.2.1; omega)
          have w1 : IntKind.i64.wrap ((x : Int) - 1) = (x' : Int) := by rw [Go.IntWalk.i64_in _ (by omega)]; omega
          have y10 : (0 : Int) ≤ (x' : Int) := by omega
          have y9 : (x' : Int) < (t.hgt.length : Int) := by omega
          have HXX : Hid (x - 1 = x') := by show _ = _; omega
          rw [HXX.out] at HL2
          have HX' := Lib.hid hx'
          clear hx'
          have HG := Lib.hid hg
          clear hg
          generalize gi t.hgt x' = hq at *
          generalize gi t.hgt x = hp at *
          by_cases hg : hp < hq
          · have g10 : decide (hp < hq) = true := by simp [hg]
            have HF := Lib.hid (HNO.out (fun hh => by
              obtain ⟨⟨⟨k1, k2⟩, ⟨k3, k4⟩, k5⟩, ⟨k6, k7, k8⟩, k9, k10⟩ := HL2.out.1 hh
              rcases k10 with k10 | k10
              · exact HG.out k10
              · omega))
            clear hg
            go_wp2_with fail
            go_quiet (fail)
            go_wp2_with fail
            go_quiet (fail)
            go_wp2_with fail
            go_ret
            exact ⟨ret_int HF.out, by repeat (first | exact HWR.out | apply bel_drewN)⟩
          have g10 : decide (hp < hq) = false := by simp; omega
          have Q10 := Lib.hid hg
          clear hg
          have HIN : Hid (InnAt t (lowF t x) x) := by
            have k4 := Q4.out
            have k5 := Q5.out
            have k6 := Q6.out
            have k7 := Q7.out
            have k8 := Q8.out
            exact HL2.out.2 ⟨⟨⟨by omega, by omega⟩, ⟨by omega, by omega⟩, by omega⟩, ⟨by omega, by omega, by omega⟩, by omega, .inr (by have := Q10.out; omega)⟩
          have HM4 : Hid (∀ q, Mod (fun k => k = lb) w3 ((wr.drewN q).setCell ⟨lb, x, none⟩ (.int .i64 (ma : Int)))) := fun q => (HMR.out.drewN q).setCell ⟨lb, x, none⟩ (fun _ => rfl) _
          have HOK2 : Hid (∀ y, n ≤ y → y < x + 1 → InnAt t (lowF t y) y) := fun y h1 h2 => by
            by_cases e : y = x
            · subst e; exact HIN.out
            · exact HOK.out y h1 (by omega)
          have HB4 : Hid (∀ q1, Blk ((wr.drewN q1).setCell ⟨lb, x, none⟩ (.int .i64 (ma : Int))) lb 3 (natV (lsZ t t.left.length (x + 1)))) := fun q1 => by
            have := blkN_set (HBR.out.drewN q1) x ma
            rw [lsZ_set hxm ma HMA.out] at this
            exact this
          go_wp2_with fail
          go_quiet (fail)
          go_wp2_with fail
          go_quiet (fail)
          go_wp2_with fail
          go_roundw
          case rel => exact ⟨x + 1, by omega, by omega, by go_num, HB4.out _, HM4.out _, HOK2.out⟩
          case measure => simp [intOf]; omega
        · obtain rfl : t.left.length = x := by omega
          have t0 : ¬ (t.left.length : Int) < (t.left.length : Int) := by omega
          clear hxm
          go_wp2_with fail
          have HINS := Lib.hid HOK.out
          have HMS := Lib.hid HMR.out
          clear c0 c1 c2 c3 c4 c5 HXR HTR HWR HBR HMR HOK t0
          obtain ⟨wo, rfl⟩ : ∃ wo : World, wo = wr := ⟨_, rfl⟩
          go_loopw [9] (fun s wr => ∃ x : Nat, x ≤ t.left.length ∧ s = .int .i64 x ∧ Mod (fun k => k = lb) w3 wr ∧ ∀ y, y < x → BelAt t y) (fun s _ => t.left.length - (intOf s).toNat)
          case atStart => exact ⟨0, Nat.zero_le _, rfl, HMS.out, fun y h => by omega⟩
          case round =>
            obtain ⟨x, hx, rfl, hm, hok⟩ := hrel
            clear HMS
            have HMR := Lib.hid hm
            have HOK := Lib.hid hok
            have HTR := Lib.hid (HT3.out.mod hm HAN.out)
            have HXR := Lib.hid (Blk.mod HX3.out hm hne)
            have HWR := Lib.hid (bel_mod HW3.out hm (fun k e => by omega))
            have c0 := TBox.c0 HXR.out
            have c1 := TBox.c1 HXR.out
            have c2 := TBox.c2 HXR.out
            have c3 := TBox.c3 HXR.out
            rw [HLO.out] at c1
            rw [HRO.out] at c2
            rw [HPO.out] at c3
            clear hm hok
            by_cases hxm : x < t.left.length
            · have t0 : (x : Int) < (t.left.length : Int) := by omega
              obtain ⟨q1, q2, q4, q5⟩ := HQ.out
              have hxp : x < t.par.length := by omega
              obtain ⟨e1, _⟩ := HTR.out.l.get (i := x) (by omega)
              obtain ⟨e2, _⟩ := HTR.out.r.get (i := x) (by omega)
              obtain ⟨e3, p3⟩ := HTR.out.p.get (i := x) (by omega)
              rw [HLO.out] at e1
              rw [HRO.out] at e2
              rw [HPO.out] at e3
              subst e1 e2 e3
              have HNO : Hid (¬ BelAt t x → 2 = kk) := fun h => by
                rw [← HK.out]
                exact (no_ok (x := x) hxp (fun ho => h ho.2.2)).symm
              have HBE : Hid (∀ p, gi t.par x = p → (BelAt t x ↔ p = -1 ∨ ((0 ≤ p ∧ p < t.par.length) ∧ (gi t.left p.toNat = x ∨ gi t.right p.toNat = x)))) := by rintro p rfl; exact Iff.rfl
              have HGO : Hid (BelAt t x → ∀ y, y < x + 1 → BelAt t y) := fun h y hy => by
                by_cases e : y = x
                · subst e; exact h
                · exact HOK.out y (by omega)
              have x3 : (x : Int) < (t.par.length : Int) := by omega
              clear q1 q2 q4 q5
              obtain ⟨p, HP⟩ : ∃ p, Hid (gi t.par x = p) := ⟨_, rfl⟩
              rw [HP.out] at p3
              have HB2 := Lib.hid (HBE.out p HP.out)
              clear HBE
              by_cases hp1 : p = -1
              · have u1 : (p == -1) = true := by simp [hp1]
                have HGG := Lib.hid (HGO.out (HB2.out.2 (.inl hp1)))
                clear hp1
                go_wp2_with fail
                go_roundw
                case rel => exact ⟨x + 1, by omega, by go_num, HMR.out, HGG.out⟩
                case measure => simp [intOf]; omega
              have u1 : (p == -1) = false := by simp [hp1]
              by_cases hp2 : p < t.lv
              · have u2 : decide (p < t.lv) = true := by simp [hp2]
                have HF := Lib.hid (HNO.out (fun hh => by
                  rcases HB2.out.1 hh with h | ⟨⟨h1, h2⟩, h3⟩
                  · exact hp1 h
                  · have hn := HN.out
                    obtain ⟨l1, l2, _⟩ := HLFS.out p.toNat (by omega)
                    rcases h3 with h3 | h3
                    · rw [l1] at h3; omega
                    · rw [l2] at h3; omega))
                clear hp1 hp2
                go_wp2_with fail
                go_ret
                exact ⟨ret_int HF.out, HWR.out⟩
              have u2 : decide (p < t.lv) = false := by simp; omega
              by_cases hp3 : (t.left.length : Int) ≤ p
              · have u3 : decide ((t.left.length : Int) ≤ p) = true := by simp [hp3]
                have HF := Lib.hid (HNO.out (fun hh => by
                  rcases HB2.out.1 hh with h | ⟨⟨h1, h2⟩, h3⟩
                  · exact hp1 h
                  · have := HQ.out.1; omega))
                clear hp1 hp2 hp3
                go_wp2_with fail
                go_ret
                exact ⟨ret_int HF.out, HWR.out⟩
              have u3 : decide ((t.left.length : Int) ≤ p) = false := by simp; omega
              obtain ⟨q, rfl⟩ := Int.eq_ofNat_of_zero_le (show 0 ≤ p by have := HN.out; omega)
              have u3x : decide (t.left.length ≤ q) = false := by simp; omega
              have hql : q < t.left.length := by omega
              have hqr : q < t.right.length := by have := HQ.out; omega
              obtain ⟨_, l1⟩ := HTR.out.l.get (i := q) hql
              obtain ⟨_, r1⟩ := HTR.out.r.get (i := q) hqr
              have y1 : (q : Int) < (t.left.length : Int) := by omega
              have y2 : (q : Int) < (t.right.length : Int) := by omega
              have y3 : (0 : Int) ≤ (q : Int) := by omega
              have HPB : Hid (0 ≤ (q : Int) ∧ (q : Int) < (t.par.length : Int)) := ⟨by omega, by have := HQ.out; omega⟩
              have HP1 := Lib.hid hp1
              rw [Int.toNat_natCast] at HB2
              clear hp1 hp2 hp3
              generalize gi t.left q = a at *
              generalize gi t.right q = b at *
              by_cases ha : a = x
              · have u4 : (a != (x : Int)) = false := by simp [ha]
                have HGG := Lib.hid (HGO.out (HB2.out.2 (.inr ⟨HPB.out, .inl ha⟩)))
                clear ha
                go_wp2_with fail
                go_roundw
                case rel => exact ⟨x + 1, by omega, by go_num, HMR.out, HGG.out⟩
                case measure => simp [intOf]; omega
              have u4 : (a != (x : Int)) = true := by simp [ha]
              by_cases hb : b = x
              · have u5 : (b != (x : Int)) = false := by simp [hb]
                have HGG := Lib.hid (HGO.out (HB2.out.2 (.inr ⟨HPB.out, .inr hb⟩)))
                clear ha hb
                go_wp2_with fail
                go_roundw
                case rel => exact ⟨x + 1, by omega, by go_num, HMR.out, HGG.out⟩
                case measure => simp [intOf]; omega
              have u5 : (b != (x : Int)) = true := by simp [hb]
              have HF := Lib.hid (HNO.out (fun hh => by
                rcases HB2.out.1 hh with h | ⟨_, h3⟩
                · exact HP1.out h
                · exact h3.elim ha hb))
              clear ha hb
              go_wp2_with fail
              go_ret
              exact ⟨ret_int HF.out, HWR.out⟩
            · obtain rfl : t.left.length = x := by omega
              have t0 : ¬ (t.left.length : Int) < (t.left.length : Int) := by omega
              have HF : Hid (0 = kk) := by
                show _ = _
                rw [← HK.out]
                have := HQ.out.1
                exact (chk_ok HN.out hn4 HL.out hnm HLFS.out (fun y h1 h2 => HINS.out y h1 (by omega)) (fun y h => HOK.out y (by omega))).symm
              clear hxm
              go_wp2_with fail
              go_ret
              exact ⟨ret_int HF.out, HWR.out⟩

end Go.Proofs.YthacjealoomioaaGreatDoor

/- Reference of layer 18: below, Above. -/
namespace Go.Proofs.YthacjealoomioaaGreatDoor
set_option linter.unusedVariables false
set_option linter.unusedSimpArgs false
open Go.RowKit

def msD (m : Nat) (s : Value) : Nat := if intOf s < 0 then 0 else m + 1 - (intOf s).toNat
theorem msD_nat (m y : Nat) : msD m (.int .i64 (y : Int)) = m + 1 - y := by
  show (if (y : Int) < 0 then 0 else m + 1 - (y : Int).toNat) = _
  rw [if_neg (by omega)]; omega
theorem msD_neg (m : Nat) : msD m (.int .i64 (-1)) = 0 := rfl

set_option maxHeartbeats 4000000 in
set_option maxRecDepth 100000 in
theorem rbelow_ok (w : World) (A : TA) (t : Tr) (ht : TreeAt w A t) {n : Nat} {ls : List Nat} (hv : TV t n t.par.length ls) (leaf x : Nat) (hx : leaf < t.par.length) :
    Calls Tryz.prog 107 #[A.agg t, .int .i64 leaf, .int .i64 x] w (RetB (.bool (bl t t.par.length x leaf)) w) := by
  have HB := Lib.hid (TBox.new w A t)
  have HW := Lib.hid (bel_alloc w (.cells #[.int .i64 t.lv, .slice A.l.o t.left.length A.l.c, .slice A.r.o t.right.length A.r.c, .slice A.p.o t.par.length A.p.c, .slice A.h.o t.hgt.length A.h.c, .slice A.s.o t.siz.length A.s.c] 27))
  have HT2 := Lib.hid (ht.below HW.out)
  have HV := Lib.hid hv
  have c3 := HB.out.c3
  have hm := ht.ln.2.2.1
  obtain ⟨e1, _⟩ := HT2.out.p.get hx
  obtain ⟨R, HR⟩ : ∃ R, Hid (bl t t.par.length x leaf = R) := ⟨_, rfl⟩
  rw [HR.out]
  clear ht hv
  show Calls _ _ #[.agg #[.int .i64 t.lv, .slice A.l.o t.left.length A.l.c, .slice A.r.o t.right.length A.r.c, .slice A.p.o t.par.length A.p.c, .slice A.h.o t.hgt.length A.h.c, .slice A.s.o t.siz.length A.s.c], _, _] _ _
  generalize A.p.o = po at *
  subst e1
  go_enter Tryz.func107, Tryz.ntmps107
  go_wp2_with fail
  go_loop [1] (fun s => (∃ y : Nat, s = .int .i64 y ∧ y < t.par.length ∧ bl t t.par.length x y = R) ∨ (s = .int .i64 (-1) ∧ R = false)) (fun s => msD t.par.length s)
  case atStart => exact .inl ⟨leaf, rfl, hx, HR.out⟩
  case round =>
    rcases hrel with ⟨y, rfl, hy, hb⟩ | ⟨rfl, hb⟩
    · have HBL := Lib.hid hb
      obtain ⟨_, p1⟩ := HT2.out.p.get hy
      have t1 : (y : Int) < (t.par.length : Int) := by omega
      have t2 : (0 : Int) ≤ (y : Int) := by omega
      have t2x : decide ((0 : Int) ≤ (y : Int)) = true := by simp
      clear hb
      by_cases hyx : y = x
      · subst hyx
        have t3 : ((y : Int) != (y : Int)) = false := by simp
        have t4 : ((y : Int) == (y : Int)) = true := by simp
        have HRR : Hid (true = R) := by
          show _ = _
          rw [← HBL.out]
          rcases HV.out.par hy with e | ⟨p, e, _⟩
          · rw [bl_root HV.out hy (by omega)]; simp
          · rw [bl_par HV.out hy e]; simp
        go_wp2_with fail
        go_ret
        exact ⟨ret_bool HRR.out, HW.out⟩
      · have t3 : ((y : Int) != (x : Int)) = true := by simp; omega
        rcases HV.out.par hy with e | ⟨p, e, h1, _, h3, _⟩
        · have HRR : Hid (R = false) := by
            show _ = _
            rw [← HBL.out, bl_root HV.out hy (by omega)]
            simp [hyx]
          rw [e] at p1
          clear e hyx
          go_wp2_with fail
          go_round
          case rel => exact .inr ⟨rfl, HRR.out⟩
          case measure => show msD t.par.length (.int .i64 (-1)) < msD t.par.length (.int .i64 (y : Int)); rw [msD_neg, msD_nat]; omega
        · have HRR : Hid (bl t t.par.length x p = R) := by
            show _ = _
            rw [← HBL.out, bl_par HV.out hy e]
            simp [hyx]
          rw [e] at p1
          clear e hyx
          go_wp2_with fail
          go_round
          case rel => exact .inl ⟨p, rfl, h3, HRR.out⟩
          case measure => show msD t.par.length (.int .i64 (p : Int)) < msD t.par.length (.int .i64 (y : Int)); rw [msD_nat, msD_nat]; omega
    · have HRR := Lib.hid hb
      have t4 : ((-1 : Int) == (x : Int)) = false := by simp
      clear hb
      go_wp2_with fail
      go_ret
      exact ⟨ret_bool HRR.out.symm, HW.out⟩

end Go.Proofs.YthacjealoomioaaGreatDoor

/- Reference of layer 18: Valid, Roots, Leaves, Least, Top, Labels. -/
namespace Go.Proofs.YthacjealoomioaaGreatDoor
set_option linter.unusedVariables false
set_option linter.unusedSimpArgs false
open Go.RowKit

def okV (t : Tr) : Bool := (lsL t).isSome
theorem okV_some {t : Tr} {ls : List Nat} (h : lsL t = some ls) : okV t = true := by unfold okV; rw [h]; rfl
theorem okV_none {t : Tr} (h : lsL t = none) : okV t = false := by unfold okV; rw [h]; rfl
theorem chk_okV (t : Tr) : (chk t == 0) = okV t := by
  unfold chk okV
  cases lsL t <;> rfl

theorem step_appB {P : Program} {ops : Array Oper} {d : Tmp} {t ty : TypeId} {s x : Operand} {po : String} {aft : Array Edge} {a : Act} {Q : Exit → Act → World → Prop} {K : Act → World → Prop} {w : World}
    (e : TypeId) (z : Value) (size bytes : Nat) (ht : P.underlying t = some (.slice e)) (hz : (P.info? e).map (fun i => (i.zero, i.size, i.bytes)) = some (some z, size, bytes))
    (hzs : z.cells.size = size) (hsz : 0 < size) (v : Value) (n : Nat) (xs : List Value) (hs : a.eval s = v) (hown : w.ownsRow 0 e size v n xs)
    (ad : Addr) (m c : Nat) (news : List Value) (hx : a.eval x = .slice (some ad) m c) (hl : news.length = m * size) (hnews : ∀ j u, news[j]? = some u → w.cell? (ad.add j) = some u) (h1 : ∀ u ∈ news, u.oneCell' = true)
    (h63 : n + m ≤ maxLen) (hbytes : (n + m) * bytes ≤ 140737488355328)
    (h : ∀ v' w', w'.ownsRow 0 e size v' (n + m) (xs ++ news) → w.grownBy w' v.ownBlock → (∀ k, v'.ownBlock = some k → v.ownBlock = some k ∨ w.heap.size ≤ k) → K (a.put (some d) v') w') :
    if Region.wanted ⟨some d, .call { callee := .builtin .append, args := #[s, x], argTypes := #[t, t] }, ty, po, aft, none⟩ (yielded ops a.tmps) = true then
      Oper.wp P ⟨some d, .call { callee := .builtin .append, args := #[s, x], argTypes := #[t, t] }, ty, po, aft, none⟩ a w K Q else K (a.put (some d) undef) w := by
  obtain ⟨v', w', hr, h2, h3, h4⟩ := run_appendB (P := P) w t ty e z size bytes ht hz hzs hsz v n xs hown ad m c news hl hnews h1 h63 hbytes
  rw [if_pos (by rfl)]
  unfold Oper.wp execOp
  simp only [resolve, invoke, builtin, Sem.run_bind, Sem.run_pure, Result.andThen_ok, List.map_toArray, List.map_cons, List.map_nil, hs, hx, hr]
  exact h v' w' h2 h3 h4

/-- The roots that are met from the first i leaves on. -/
def rtsTo (t : Tr) (m : Nat) (ls : List Nat) (i : Nat) : List Nat := ((List.range i).filter fun v => decide (ls.getD (rt t m v) 0 = v)).map (rt t m)
theorem rtsTo_succ (t : Tr) (m : Nat) (ls : List Nat) (i : Nat) : rtsTo t m ls (i + 1) = if ls.getD (rt t m i) 0 = i then rtsTo t m ls i ++ [rt t m i] else rtsTo t m ls i := by
  unfold rtsTo
  rw [List.range_succ, List.filter_append]
  by_cases h : ls.getD (rt t m i) 0 = i
  · rw [if_pos h, List.filter_cons, if_pos (decide_eq_true h), List.map_append]; rfl
  · rw [if_neg h, List.filter_cons, if_neg (by rw [decide_eq_true_eq]; exact h)]; simp
theorem rtsTo_len (t : Tr) (m : Nat) (ls : List Nat) (i : Nat) : (rtsTo t m ls i).length ≤ i := by
  have := List.length_filter_le (fun v => decide (ls.getD (rt t m v) 0 = v)) (List.range i)
  rw [List.length_range] at this
  unfold rtsTo
  rw [List.length_map]
  exact this
set_option maxHeartbeats 1000000 in
set_option maxRecDepth 100000 in
theorem rvalid_ok (w : World) (A : TA) (t : Tr) (ht : TreeAt w A t) (hmm : t.left.length ≤ 1000000) : Calls Tryz.prog 21 #[A.agg t] w (RetB (.bool (okV t)) w) := by
  have HB := Lib.hid (TBox.new w A t)
  have HW := Lib.hid (bel_alloc w (.cells #[.int .i64 t.lv, .slice A.l.o t.left.length A.l.c, .slice A.r.o t.right.length A.r.c, .slice A.p.o t.par.length A.p.c, .slice A.h.o t.hgt.length A.h.c, .slice A.s.o t.siz.length A.s.c] 27))
  have HT2 := Lib.hid (ht.below HW.out)
  have HC := Lib.hid (chk_okV t)
  have c0 := HB.out.c0
  have c1 := HB.out.c1
  have c2 := HB.out.c2
  have c3 := HB.out.c3
  have c4 := HB.out.c4
  have c5 := HB.out.c5
  clear ht
  show Calls _ _ #[.agg #[.int .i64 t.lv, .slice A.l.o t.left.length A.l.c, .slice A.r.o t.right.length A.r.c, .slice A.p.o t.par.length A.p.c, .slice A.h.o t.hgt.length A.h.c, .slice A.s.o t.siz.length A.s.c]] _ _
  go_enter Tryz.func21, Tryz.ntmps21
  go_wp2_with fail
  with_reducible refine (rcheck_ok _ A t HT2.out hmm).mono ?_
  rintro e w2 ⟨rfl, hb⟩
  have HB2 := Lib.hid (bel_then HW.out hb)
  clear hb
  generalize chk t = c at *
  go_wp2_with fail
  go_ret
  exact ⟨ret_bool HC.out, HB2.out⟩

set_option maxHeartbeats 4000000 in
set_option maxRecDepth 100000 in
theorem rroots_ok (w : World) (A : TA) (t : Tr) (ht : TreeAt w A t) (hmm : t.left.length ≤ 1000000) : Calls Tryz.prog 70 #[A.agg t] w (LnPost w (rootsO t)) := by
  have HB := Lib.hid (TBox.new w A t)
  have HW := Lib.hid (bel_alloc w (.cells #[.int .i64 t.lv, .slice A.l.o t.left.length A.l.c, .slice A.r.o t.right.length A.r.c, .slice A.p.o t.par.length A.p.c, .slice A.h.o t.hgt.length A.h.c, .slice A.s.o t.siz.length A.s.c] 27))
  have HT2 := Lib.hid (ht.below HW.out)
  have c0 := HB.out.c0
  have c1 := HB.out.c1
  have c2 := HB.out.c2
  have c3 := HB.out.c3
  have c4 := HB.out.c4
  have c5 := HB.out.c5
  clear ht
  show Calls _ _ #[.agg #[.int .i64 t.lv, .slice A.l.o t.left.length A.l.c, .slice A.r.o t.right.length A.r.c, .slice A.p.o t.par.length A.p.c, .slice A.h.o t.hgt.length A.h.c, .slice A.s.o t.siz.length A.s.c]] _ _
  go_enter Tryz.func70, Tryz.ntmps70
  go_wp2_with fail
  with_reducible refine (rvalid_ok _ A t HT2.out hmm).mono ?_
  rintro e w2 ⟨rfl, hb⟩
  have HW2 := Lib.hid (bel_then HW.out hb)
  have HB2 := Lib.hid (Blk.below HB.out hb (Blk.lt HB.out))
  have HT3 := Lib.hid (HT2.out.below hb)
  clear hb c0 c1 c2 c3 c4 c5 HB HW HT2
  cases hl : lsL t with
  | none =>
    have hv := okV_none hl
    rw [hv]
    have HC := Lib.hid (rootsO_none hl)
    clear hl hv
    go_wp2_with fail
    go_ret
    exact ⟨fun _ => rfl, (fun l e => by (rw [HC.out] at e; cases e)), HW2.out⟩
  | some ls =>
    have hv := okV_some hl
    rw [hv]
    clear hv
    obtain ⟨n, hn, hv⟩ := tv_of hl
    have HV := Lib.hid hv
    have HN := Lib.hid hn
    have hn4 := hv.hn
    have hnm := hv.nm
    have hm2 := hv.two
    have HLL := Lib.hid hv.lsl
    have HLQ := Lib.hid hv.ll
    have HRQ := Lib.hid hv.rl
    have HC : Hid (rootsO t = some (rootsL t n t.par.length ls)) := by show _ = _; rw [rootsO_some hl, hn, Int.toNat_natCast]
    clear hl hv hn
    go_wp2_with fail
    go_loopw [3, 4] (fun v s wr => ∃ i : Nat, i ≤ n ∧ s = .int .i64 i ∧ wr.ownsRow 0 3 1 v (rtsTo t t.par.length ls i).length (natV (rtsTo t t.par.length ls i)) ∧ (∀ x, v.ownBlock = some x → w2.heap.size ≤ x) ∧ Below w2.heap.size w2 wr) (fun _ s _ => n - (intOf s).toNat)
    case atStart => exact ⟨0, Nat.zero_le _, rfl, World.ownsRow_nil _ _ _ _, fun x hx => (by cases hx), Below.refl _ _⟩
    case round =>
      obtain ⟨i, hi, rfl, hv, hvn, hb⟩ := hrel
      have HVR := Lib.hid hv
      have HVN := Lib.hid hvn
      have HBR := Lib.hid hb
      have HTR := Lib.hid (HT3.out.below hb)
      have HXR := Lib.hid (Blk.below HB2.out hb (Blk.lt HB2.out))
      have HWR := Lib.hid (bel_then HW2.out hb)
      have c0 := TBox.c0 HXR.out
      have c1 := TBox.c1 HXR.out
      have c2 := TBox.c2 HXR.out
      have c3 := TBox.c3 HXR.out
      have c4 := TBox.c4 HXR.out
      have c5 := TBox.c5 HXR.out
      clear hv hvn hb
      by_cases hin : i < n
      · have him : i < t.par.length := by omega
        have t4 : decide ((i : Int) < t.lv) = true := by have := HN.out; simp; omega
        have HS := Lib.hid (rtsTo_succ t t.par.length ls i)
        have htl := rtsTo_len t t.par.length ls i
        have HUP := Lib.hid (up_of HV.out i him)
        have HLOW := Lib.hid (low_of HV.out _ (rt_lt HV.out i him).1)
        generalize rt t t.par.length i = r at *
        generalize ls.getD r 0 = a at *
        generalize hT : rtsTo t t.par.length ls i = T at *
        generalize hT' : rtsTo t t.par.length ls (i + 1) = T' at *
        have HT' := Lib.hid hT'
        clear hT hT'
        go_wp2_with fail
        with_reducible refine (rroot_ok wr A t HTR.out i r HUP.out).mono ?_
        rintro e w4 ⟨rfl, hb4⟩
        have HB4 := Lib.hid hb4
        have HX4 := Lib.hid (Blk.below HXR.out hb4 (Blk.lt HXR.out))
        have HT4 := Lib.hid (HTR.out.below hb4)
        clear hb4 c0 c1 c2 c3 c4 c5
        have c0 := TBox.c0 HX4.out
        have c1 := TBox.c1 HX4.out
        have c2 := TBox.c2 HX4.out
        have c3 := TBox.c3 HX4.out
        have c4 := TBox.c4 HX4.out
        have c5 := TBox.c5 HX4.out
        go_wp2_with fail
        with_reducible refine (rleast_ok A t n HN.out HLQ.out HRQ.out r a HLOW.out w4 HT4.out).mono ?_
        rintro e w5 ⟨rfl, hb5⟩
        have HB5 := Lib.hid (bel_then HB4.out hb5)
        clear hb5 c0 c1 c2 c3 c4 c5
        by_cases hc : a = i
        · have t5 : ((a : Int) == (i : Int)) = true := by simp [hc]
          have HTT : Hid (T' = T ++ [r]) := HS.out.trans (if_pos hc)
          clear hc
          have HOW := Lib.hid ((owns_mod HVR.out (Mod.of_below (F := fun _ => False) HB5.out) (fun _ _ h => h)).alloc (.cells #[.int .i64 r] 3))
          have HNW := Lib.hid (news_new w5 3 [.int .i64 r])
          go_wp2_with (at_builtin; apply keepIt)
          apply Lib.hid
          refine wpList_appendB 3 (.int .i64 0) 1 8 Tryz.underlying24 Tryz.infoInt rfl (by decide) _ T.length _ rfl HOW.out ⟨w5.heap.size, 0, none⟩ 1 1 [.int .i64 r] rfl rfl HNW.out (by simp [Value.oneCell']) (by unfold maxLen; omega) (by omega) ?_
          intro v6 w6 ho6 hg6 hn6
          have hwr := HBR.out.size
          have hwy := (HB5.out).size
          have HB6 : Hid (Below w2.heap.size w2 w6) := ((bel_then HBR.out HB5.out).alloc (by omega) _).trans (grown_below hg6 (fun k hk => HVN.out k hk) (by simp; omega))
          have HV6 : Hid (w6.ownsRow 0 3 1 v6 T'.length (natV T')) := by
            show World.ownsRow _ _ _ _ _ _ _
            rw [HTT.out, List.length_append]
            have e : natV (T ++ [r]) = natV T ++ [.int .i64 (r : Int)] := by simp [natV]
            rw [e]
            exact ho6
          have HN6 : Hid (∀ x, v6.ownBlock = some x → w2.heap.size ≤ x) := fun x hx => by
            rcases hn6 x hx with e | e
            · exact HVN.out x e
            · have hz : w5.heap.size ≤ (w5.alloc (.cells #[.int .i64 r] 3)).heap.size := by simp
              exact Nat.le_trans hwr (Nat.le_trans hwy (Nat.le_trans hz e))
          clear ho6 hg6 hn6
          go_wp2_with fail
          go_roundw
          case rel => exact ⟨i + 1, by omega, by go_num, by rw [HT'.out]; exact HV6.out, HN6.out, HB6.out⟩
          case measure => simp [intOf]; omega
        · have t5 : ((a : Int) == (i : Int)) = false := by simp; omega
          have HTT : Hid (T' = T) := HS.out.trans (if_neg hc)
          have HV5 := Lib.hid (owns_mod HVR.out (Mod.of_below (F := fun _ => False) HB5.out) (fun _ _ h => h))
          have HBB := Lib.hid (bel_then HBR.out HB5.out)
          clear hc
          go_wp2_with fail
          go_roundw
          case rel => exact ⟨i + 1, by omega, by go_num, by rw [HT'.out, HTT.out]; exact HV5.out, HVN.out, HBB.out⟩
          case measure => simp [intOf]; omega
      · obtain rfl : i = n := by omega
        have t4 : decide ((i : Int) < t.lv) = false := by have := HN.out; simp; omega
        go_wp2_with fail
        go_ret
        refine ⟨(fun e => by (rw [HC.out] at e; cases e)), fun l e => ?_, HWR.out⟩
        rw [HC.out] at e
        injection e with e
        subst e
        refine ⟨_, rfl, HVR.out, fun k hk => ?_⟩
        have h1 := HVN.out k hk
        have h2 := HW2.out.size
        omega

set_option maxHeartbeats 4000000 in
set_option maxRecDepth 100000 in
theorem rleaves_ok (w : World) (A : TA) (t : Tr) (ht : TreeAt w A t) (hmm : t.left.length ≤ 1000000) (node : Int) : Calls Tryz.prog 71 #[A.agg t, .int .i64 node] w (LnPost w (leavesO t node)) := by
  have HB := Lib.hid (TBox.new w A t)
  have HW := Lib.hid (bel_alloc w (.cells #[.int .i64 t.lv, .slice A.l.o t.left.length A.l.c, .slice A.r.o t.right.length A.r.c, .slice A.p.o t.par.length A.p.c, .slice A.h.o t.hgt.length A.h.c, .slice A.s.o t.siz.length A.s.c] 27))
  have HT2 := Lib.hid (ht.below HW.out)
  have c0 := HB.out.c0
  have c1 := HB.out.c1
  have c2 := HB.out.c2
  have c3 := HB.out.c3
  have c4 := HB.out.c4
  have c5 := HB.out.c5
  clear ht
  show Calls _ _ #[.agg #[.int .i64 t.lv, .slice A.l.o t.left.length A.l.c, .slice A.r.o t.right.length A.r.c, .slice A.p.o t.par.length A.p.c, .slice A.h.o t.hgt.length A.h.c, .slice A.s.o t.siz.length A.s.c], _] _ _
  go_enter Tryz.func71, Tryz.ntmps71
  go_wp2_with fail
  with_reducible refine (rvalid_ok _ A t HT2.out hmm).mono ?_
  rintro e w2 ⟨rfl, hb⟩
  have HW2 := Lib.hid (bel_then HW.out hb)
  have HB2 := Lib.hid (Blk.below HB.out hb (Blk.lt HB.out))
  have HT3 := Lib.hid (HT2.out.below hb)
  clear hb c0 c1 c2 c3 c4 c5 HB HW HT2
  cases hl : lsL t with
  | none =>
    have hv := okV_none hl
    rw [hv]
    have HC := Lib.hid (leavesO_none (node := node) hl)
    clear hl hv
    go_wp2_with fail
    go_ret
    exact ⟨fun _ => rfl, (fun l e => by (rw [HC.out] at e; cases e)), HW2.out⟩
  | some ls =>
    have hv := okV_some hl
    rw [hv]
    clear hv
    obtain ⟨n, hn, hv⟩ := tv_of hl
    have HV := Lib.hid hv
    have HN := Lib.hid hn
    have hn4 := hv.hn
    have hnm := hv.nm
    have hm2 := hv.two
    have HLL := Lib.hid hv.lsl
    have HLQ := Lib.hid hv.ll
    have HRQ := Lib.hid hv.rl
    have b1 := TBox.c1 HB2.out
    by_cases h1 : node < 0
    · have t1 : decide (node < 0) = true := by simp [h1]
      have HC := Lib.hid (leavesO_out (t := t) (.inl h1))
      clear hl hv hn h1
      go_wp2_with fail
      go_ret
      exact ⟨fun _ => rfl, (fun l e => by (rw [HC.out] at e; cases e)), HW2.out⟩
    have t1 : decide (node < 0) = false := by simp; omega
    by_cases h2 : (t.left.length : Int) ≤ node
    · have t2 : decide ((t.left.length : Int) ≤ node) = true := by simp [h2]
      have HC := Lib.hid (leavesO_out (t := t) (node := node) (.inr (by have := hv.ll; omega)))
      clear hl hv hn h1 h2
      go_wp2_with fail
      go_ret
      exact ⟨fun _ => rfl, (fun l e => by (rw [HC.out] at e; cases e)), HW2.out⟩
    have hC := leavesO_some (node := node) hl (fun h => by have := hv.ll; rcases h with h | h <;> omega)
    obtain ⟨nd, rfl⟩ := Int.eq_ofNat_of_zero_le (show 0 ≤ node by omega)
    rw [hn, Int.toNat_natCast, Int.toNat_natCast] at hC
    have HC := Lib.hid hC
    have t2 : decide (t.left.length ≤ nd) = false := by simp; omega
    clear hl hv hn h1 h2 hC t1
    go_wp2_with fail
    clear b1 t2
    go_loopw [5, 6] (fun v s wr => ∃ i : Nat, i ≤ n ∧ s = .int .i64 i ∧ wr.ownsRow 0 3 1 v (lvTo t t.par.length nd i).length (natV (lvTo t t.par.length nd i)) ∧ (∀ x, v.ownBlock = some x → w2.heap.size ≤ x) ∧ Below w2.heap.size w2 wr) (fun _ s _ => n - (intOf s).toNat)
    case atStart => exact ⟨0, Nat.zero_le _, rfl, World.ownsRow_nil _ _ _ _, fun x hx => (by cases hx), Below.refl _ _⟩
    case round =>
      obtain ⟨i, hi, rfl, hv, hvn, hb⟩ := hrel
      have HVR := Lib.hid hv
      have HVN := Lib.hid hvn
      have HBR := Lib.hid hb
      have HTR := Lib.hid (HT3.out.below hb)
      have HXR := Lib.hid (Blk.below HB2.out hb (Blk.lt HB2.out))
      have HWR := Lib.hid (bel_then HW2.out hb)
      have c0 := TBox.c0 HXR.out
      have c1 := TBox.c1 HXR.out
      have c2 := TBox.c2 HXR.out
      have c3 := TBox.c3 HXR.out
      have c4 := TBox.c4 HXR.out
      have c5 := TBox.c5 HXR.out
      clear hv hvn hb
      by_cases hin : i < n
      · have him : i < t.par.length := by omega
        have t4 : decide ((i : Int) < t.lv) = true := by have := HN.out; simp; omega
        have HS := Lib.hid (lvTo_succ t t.par.length nd i)
        have htl := lvTo_len t t.par.length nd i
        obtain ⟨b, HBL⟩ : ∃ b, Hid (bl t t.par.length nd i = b) := ⟨_, rfl⟩
        rw [HBL.out] at HS
        generalize hT : lvTo t t.par.length nd i = T at *
        generalize hT' : lvTo t t.par.length nd (i + 1) = T' at *
        have HT' := Lib.hid hT'
        clear hT hT'
        go_wp2_with fail
        have hcon := rbelow_ok wr A t HTR.out HV.out i nd him
        rw [HBL.out] at hcon
        with_reducible refine hcon.mono ?_
        rintro e w5 ⟨rfl, hb5⟩
        have HB5 := Lib.hid hb5
        clear hb5 c0 c1 c2 c3 c4 c5 hcon
        cases b with
        | true =>
          have HTT : Hid (T' = T ++ [i]) := HS.out.trans (if_pos rfl)
          have HOW := Lib.hid ((owns_mod HVR.out (Mod.of_below (F := fun _ => False) HB5.out) (fun _ _ h => h)).alloc (.cells #[.int .i64 i] 3))
          have HNW := Lib.hid (news_new w5 3 [.int .i64 i])
          go_wp2_with (at_builtin; apply keepIt)
          apply Lib.hid
          refine wpList_appendB 3 (.int .i64 0) 1 8 Tryz.underlying24 Tryz.infoInt rfl (by decide) _ T.length _ rfl HOW.out ⟨w5.heap.size, 0, none⟩ 1 1 [.int .i64 i] rfl rfl HNW.out (by simp [Value.oneCell']) (by unfold maxLen; omega) (by omega) ?_
          intro v6 w6 ho6 hg6 hn6
          have hwr := HBR.out.size
          have hwy := (HB5.out).size
          have HB6 : Hid (Below w2.heap.size w2 w6) := ((bel_then HBR.out HB5.out).alloc (by omega) _).trans (grown_below hg6 (fun k hk => HVN.out k hk) (by simp; omega))
          have HV6 : Hid (w6.ownsRow 0 3 1 v6 T'.length (natV T')) := by
            show World.ownsRow _ _ _ _ _ _ _
            rw [HTT.out, List.length_append]
            have e : natV (T ++ [i]) = natV T ++ [.int .i64 (i : Int)] := by simp [natV]
            rw [e]
            exact ho6
          have HN6 : Hid (∀ x, v6.ownBlock = some x → w2.heap.size ≤ x) := fun x hx => by
            rcases hn6 x hx with e | e
            · exact HVN.out x e
            · have hz : w5.heap.size ≤ (w5.alloc (.cells #[.int .i64 i] 3)).heap.size := by simp
              exact Nat.le_trans hwr (Nat.le_trans hwy (Nat.le_trans hz e))
          clear ho6 hg6 hn6
          go_wp2_with fail
          go_roundw
          case rel => exact ⟨i + 1, by omega, by go_num, by rw [HT'.out]; exact HV6.out, HN6.out, HB6.out⟩
          case measure => simp [intOf]; omega
        | false =>
          have HTT : Hid (T' = T) := HS.out.trans (if_neg (by decide))
          have HV5 := Lib.hid (owns_mod HVR.out (Mod.of_below (F := fun _ => False) HB5.out) (fun _ _ h => h))
          have HBB := Lib.hid (bel_then HBR.out HB5.out)
          go_wp2_with fail
          go_roundw
          case rel => exact ⟨i + 1, by omega, by go_num, by rw [HT'.out, HTT.out]; exact HV5.out, HVN.out, HBB.out⟩
          case measure => simp [intOf]; omega
      · obtain rfl : i = n := by omega
        have t4 : decide ((i : Int) < t.lv) = false := by have := HN.out; simp; omega
        go_wp2_with fail
        go_ret
        refine ⟨(fun e => by (rw [HC.out] at e; cases e)), fun l e => ?_, HWR.out⟩
        rw [HC.out] at e
        injection e with e
        subst e
        refine ⟨_, rfl, HVR.out, fun k hk => ?_⟩
        have h1 := HVN.out k hk
        have h2 := HW2.out.size
        omega

end Go.Proofs.YthacjealoomioaaGreatDoor
