/- recon.leasts. -/
import Derived.Test.YtenhbfbfkcjimaaDoorZRcLs
namespace Go.Proofs.YtenhbfbfkcjimaaDoor
set_option linter.unusedVariables false
set_option linter.unusedSimpArgs false
open Go.RowKit

/-- What leasts returns. -/
structure LsPost (w : World) (t : Tr) (e : Ending) (w' : World) : Prop where
  bad : lsL t = none → e = .returned (.tuple #[.slice none 0 0, .bool false])
  ok : ∀ ls, lsL t = some ls → ∃ lb, e = .returned (.tuple #[.slice (some ⟨lb, 0, none⟩) ls.length ls.length, .bool true]) ∧ Blk w' lb 3 (natV ls) ∧ w.heap.size ≤ lb
  bel : Below w.heap.size w w'

theorem LsPost.no {w w' : World} {t : Tr} (h : lsL t = none) (hb : Below w.heap.size w w') : LsPost w t (.returned (.tuple #[.slice none 0 0, .bool false])) w' :=
  ⟨fun _ => rfl, fun ls e => by (rw [h] at e; cases e), hb⟩

theorem head_no {t : Tr} (h : ¬ HeadOk t) : lsL t = none := lsL_none (.inl h)

/-- A row being filled: numbers up to x, zeros behind. -/
def lsZ (t : Tr) (m x : Nat) : List Nat := lowF t x ++ List.replicate (m - x) 0

theorem lsZ_len {t : Tr} {m x : Nat} (h : x ≤ m) : (lsZ t m x).length = m := by unfold lsZ; rw [List.length_append, lowF_len, List.length_replicate]; omega
theorem lsZ_at {t : Tr} {m x y : Nat} (h : y < x) : (lsZ t m x).getD y 0 = (lowF t x).getD y 0 := by unfold lsZ; rw [getD_app_left (by rw [lowF_len]; exact h)]
theorem lsZ_set {t : Tr} {m x : Nat} (h : x < m) (v : Nat) (hv : v = lsNext t (lowF t x) x) : (lsZ t m x).set x v = lsZ t m (x + 1) := by
  unfold lsZ
  rw [lowF, List.set_append_right _ _ (by rw [lowF_len]; exact Nat.le_refl _), lowF_len, Nat.sub_self, show m - x = (m - (x + 1)) + 1 by omega, List.replicate_succ, List.set_cons_zero, hv, List.append_assoc]
  rfl
theorem lsZ_end {t : Tr} {m : Nat} : lsZ t m m = lowF t m := by unfold lsZ; rw [Nat.sub_self]; simp

set_option maxHeartbeats 8000000 in
set_option maxRecDepth 100000 in
theorem leasts_ok (w : World) (A : TA) (t : Tr) (ht : TreeAt w A t) : Calls Tryd.prog 73 #[A.agg t] w (LsPost w t) := by
  have HT := Lib.hid ht
  have HB := Lib.hid (TBox.new w A t)
  have HW := Lib.hid (bel_alloc w (.cells #[.int .i64 t.lv, .slice A.l.o t.left.length A.l.c, .slice A.r.o t.right.length A.r.c, .slice A.p.o t.par.length A.p.c, .slice A.h.o t.hgt.length A.h.c, .slice A.s.o t.siz.length A.s.c] 61))
  have c0 := HB.out.c0
  have c1 := HB.out.c1
  have c2 := HB.out.c2
  have c3 := HB.out.c3
  have c4 := HB.out.c4
  have c5 := HB.out.c5
  obtain ⟨ln1, ln2, ln3, ln4, ln5⟩ := ht.ln
  obtain ⟨k1, k2⟩ := ht.lw
  clear ht
  show Calls _ _ #[.agg #[.int .i64 t.lv, .slice A.l.o t.left.length A.l.c, .slice A.r.o t.right.length A.r.c, .slice A.p.o t.par.length A.p.c, .slice A.h.o t.hgt.length A.h.c, .slice A.s.o t.siz.length A.s.c]] _ _
  have hsz : w.heap.size < (w.alloc (.cells #[.int .i64 t.lv, .slice A.l.o t.left.length A.l.c, .slice A.r.o t.right.length A.r.c, .slice A.p.o t.par.length A.p.c, .slice A.h.o t.hgt.length A.h.c, .slice A.s.o t.siz.length A.s.c] 61)).heap.size := by simp
  generalize hlo : A.l.o = lo at *
  have HLO := Lib.hid hlo
  clear hlo
  have hno : ¬ HeadOk t → Hid (LsPost w t (.returned (.tuple #[.slice none 0 0, .bool false])) (w.alloc (.cells #[.int .i64 t.lv, .slice lo t.left.length A.l.c, .slice A.r.o t.right.length A.r.c, .slice A.p.o t.par.length A.p.c, .slice A.h.o t.hgt.length A.h.c, .slice A.s.o t.siz.length A.s.c] 61))) := fun h => LsPost.no (head_no h) HW.out
  by_cases h1 : t.lv < 0
  · have t1 : decide (t.lv < 0) = true := by simp [h1]
    have HF := hno (by rintro ⟨⟨h, _⟩, _⟩; omega)
    clear h1 hno
    go_enter Tryd.func73, Tryd.ntmps73
    go_wp2_with fail
    go_ret2
    exact HF.out
  have t1 : decide (t.lv < 0) = false := by simp; omega
  by_cases h2 : 4096 < t.lv
  · have t2 : decide (4096 < t.lv) = true := by simp [h2]
    have HF := hno (by rintro ⟨⟨_, h, _⟩, _⟩; omega)
    clear h1 h2 hno
    go_enter Tryd.func73, Tryd.ntmps73
    go_wp2_with fail
    go_ret2
    exact HF.out
  have t2 : decide (4096 < t.lv) = false := by simp; omega
  by_cases h3 : (t.par.length : Int) < t.lv
  · have t3 : decide ((t.par.length : Int) < t.lv) = true := by simp [h3]
    have HF := hno (by rintro ⟨⟨_, _, h, _⟩, _⟩; omega)
    clear h1 h2 h3 hno
    go_enter Tryd.func73, Tryd.ntmps73
    go_wp2_with fail
    go_ret2
    exact HF.out
  have t3 : decide ((t.par.length : Int) < t.lv) = false := by simp; omega
  by_cases h4 : 2 * t.lv < (t.par.length : Int)
  · have t4 : decide (2 * t.lv < (t.par.length : Int)) = true := by simp [h4]
    have HF := hno (by rintro ⟨⟨_, _, _, h⟩, _⟩; omega)
    have b1 : 0 ≤ t.lv := by omega
    have b2 : t.lv ≤ 4096 := by omega
    clear h1 h2 h3 h4 hno
    go_enter Tryd.func73, Tryd.ntmps73
    go_wp2_with fail
    go_ret2
    exact HF.out
  have t4 : decide (2 * t.lv < (t.par.length : Int)) = false := by simp; omega
  have b1 : 0 ≤ t.lv := by omega
  have b2 : t.lv ≤ 4096 := by omega
  have b3 : t.par.length ≤ 8192 := by omega
  have HH : Hid (LensOk t → HeadOk t) := fun h => ⟨⟨by omega, by omega, by omega, by omega⟩, h⟩
  clear h1 h2 h3 h4
  by_cases h5 : t.left.length ≠ t.par.length
  · have t5 : ((t.left.length : Int) != (t.par.length : Int)) = true := by simp; omega
    have HF := hno (by rintro ⟨_, h, _⟩; exact h5 h)
    clear h5 hno
    go_enter Tryd.func73, Tryd.ntmps73
    go_wp2_with fail
    go_ret2
    exact HF.out
  replace h5 := Classical.not_not.1 h5
  have t5 : ((t.left.length : Int) != (t.par.length : Int)) = false := by simp; omega
  by_cases h6 : t.right.length ≠ t.par.length
  · have t6 : ((t.right.length : Int) != (t.par.length : Int)) = true := by simp; omega
    have HF := hno (by rintro ⟨_, _, h, _⟩; exact h6 h)
    clear h5 h6 hno
    go_enter Tryd.func73, Tryd.ntmps73
    go_wp2_with fail
    go_ret2
    exact HF.out
  replace h6 := Classical.not_not.1 h6
  have t6 : ((t.right.length : Int) != (t.par.length : Int)) = false := by simp; omega
  by_cases h7 : t.hgt.length ≠ t.par.length
  · have t7 : ((t.hgt.length : Int) != (t.par.length : Int)) = true := by simp; omega
    have HF := hno (by rintro ⟨_, _, _, h, _⟩; exact h7 h)
    clear h5 h6 h7 hno
    go_enter Tryd.func73, Tryd.ntmps73
    go_wp2_with fail
    go_ret2
    exact HF.out
  replace h7 := Classical.not_not.1 h7
  have t7 : ((t.hgt.length : Int) != (t.par.length : Int)) = false := by simp; omega
  by_cases h8 : t.siz.length ≠ t.par.length
  · have t8 : ((t.siz.length : Int) != (t.par.length : Int)) = true := by simp; omega
    have HF := hno (by rintro ⟨_, _, _, _, h⟩; exact h8 h)
    clear h5 h6 h7 h8 hno
    go_enter Tryd.func73, Tryd.ntmps73
    go_wp2_with fail
    go_ret2
    exact HF.out
  replace h8 := Classical.not_not.1 h8
  have t8 : ((t.siz.length : Int) != (t.par.length : Int)) = false := by simp; omega
  have HL : Hid (LensOk t) := ⟨h5, h6, h7, h8⟩
  clear h5 h6 h7 h8 hno
  go_enter Tryd.func73, Tryd.ntmps73
  go_wp2_with (at_make; apply keepIt)
  apply Lib.hid
  refine wpList_makeB 3 (.int .i64 0) 8 Tryd.underlying35 Tryd.infoInt rfl _ _ _ _ t.par.length rfl rfl rfl rfl (by omega) (by unfold maxLen; omega) ?_
  intro w2 B2 hb2
  have HB2 := Lib.hid B2
  have HW2 := Lib.hid (bel_then HW.out hb2)
  have HX2 := Lib.hid (Blk.below HB.out hb2 hsz)
  have hs2 := hb2.size
  have hlb := Blk.lt B2
  clear B2 hb2 c0 c1 c2 c3 c4 c5 HB HW t1 t2 t3 t4 t5 t6 t7 t8
  generalize (w.alloc (.cells #[.int .i64 t.lv, .slice lo t.left.length A.l.c, .slice A.r.o t.right.length A.r.c, .slice A.p.o t.par.length A.p.c, .slice A.h.o t.hgt.length A.h.c, .slice A.s.o t.siz.length A.s.c] 61)).heap.size = lb at *
  go_wp2_with fail
  have HE3 : Hid (LsEnv (((w2.alloc (.cells #[.slice (some ⟨lb, 0, none⟩) t.par.length t.par.length] 35)).alloc (.cells #[.func (.func 82) #[] #[.pointer (some ⟨w.heap.size, 0, none⟩)], .func (.func 84) #[] #[.pointer (some ⟨w.heap.size, 0, none⟩), .pointer (some ⟨w2.heap.size, 0, none⟩)], .func (.func 86) #[] #[.pointer (some ⟨w.heap.size, 0, none⟩)]] 82)).alloc (.cells #[.slice (some ⟨w2.heap.size + 1, 0, none⟩) 3 3] 138))
      A t w.heap.size (w2.heap.size + 1 + 1) (w2.heap.size + 1) w2.heap.size lb t.par.length) := by
    refine ⟨((Blk.alloc HX2.out _).alloc _).alloc _, HT.out.below (((HW2.out.alloc (by omega) _).alloc (by simp; omega) _).alloc (by simp; omega) _), ?_, ?_, ?_⟩
    · exact Blk.new' _ _ _ (by simp)
    · exact (Blk.new' _ _ _ (by simp)).alloc _
    · exact ((Blk.new' _ _ _ rfl).alloc _).alloc _
  have HB3 : Hid (Blk (((w2.alloc (.cells #[.slice (some ⟨lb, 0, none⟩) t.par.length t.par.length] 35)).alloc (.cells #[.func (.func 82) #[] #[.pointer (some ⟨w.heap.size, 0, none⟩)], .func (.func 84) #[] #[.pointer (some ⟨w.heap.size, 0, none⟩), .pointer (some ⟨w2.heap.size, 0, none⟩)], .func (.func 86) #[] #[.pointer (some ⟨w.heap.size, 0, none⟩)]] 82)).alloc (.cells #[.slice (some ⟨w2.heap.size + 1, 0, none⟩) 3 3] 138)) lb 3 (natV (lsZ t t.par.length 0))) := by
    have e : lsZ t t.par.length 0 = List.replicate t.par.length 0 := by unfold lsZ; simp [lowF]
    show Blk _ _ _ _
    rw [e, natV_zero]
    exact ((HB2.out.alloc _).alloc _).alloc _
  have HW3 : Hid (Below w.heap.size w (((w2.alloc (.cells #[.slice (some ⟨lb, 0, none⟩) t.par.length t.par.length] 35)).alloc (.cells #[.func (.func 82) #[] #[.pointer (some ⟨w.heap.size, 0, none⟩)], .func (.func 84) #[] #[.pointer (some ⟨w.heap.size, 0, none⟩), .pointer (some ⟨w2.heap.size, 0, none⟩)], .func (.func 86) #[] #[.pointer (some ⟨w.heap.size, 0, none⟩)]] 82)).alloc (.cells #[.slice (some ⟨w2.heap.size + 1, 0, none⟩) 3 3] 138))) := ((HW2.out.alloc (by omega) _).alloc (by simp; omega) _).alloc (by simp; omega) _
  have HAN : Hid (∀ k, A.has t k → k ≠ lb) := fun k hk => by have := HT.out.lt hk; omega
  clear HB2 HW2 HX2
  generalize (((w2.alloc (.cells #[.slice (some ⟨lb, 0, none⟩) t.par.length t.par.length] 35)).alloc (.cells #[.func (.func 82) #[] #[.pointer (some ⟨w.heap.size, 0, none⟩)], .func (.func 84) #[] #[.pointer (some ⟨w.heap.size, 0, none⟩), .pointer (some ⟨w2.heap.size, 0, none⟩)], .func (.func 86) #[] #[.pointer (some ⟨w.heap.size, 0, none⟩)]] 82)).alloc (.cells #[.slice (some ⟨w2.heap.size + 1, 0, none⟩) 3 3] 138)) = w3 at *
  generalize w2.heap.size = lp at *
  have n1 : w.heap.size ≠ lb := by omega
  have n2 : lp ≠ lb := by omega
  have n3 : lp + 1 ≠ lb := by omega
  have n4 : lp + 1 + 1 ≠ lb := by omega
  go_loopw [67] (fun s wr => ∃ x : Nat, x ≤ t.par.length ∧ s = .int .i64 x ∧ Blk wr lb 3 (natV (lsZ t t.par.length x)) ∧ Mod (fun k => k = lb) w3 wr ∧ ∀ y, y < x → OkAt t (lowF t y) y) (fun s _ => t.par.length - (intOf s).toNat)
  case atStart => exact ⟨0, Nat.zero_le _, rfl, HB3.out, Mod.refl _ _, fun y hy => by omega⟩
  case round =>
    obtain ⟨x, hx, rfl, hb, hm, hok⟩ := hrel
    clear HB3
    have HBR := Lib.hid hb
    have HMR := Lib.hid hm
    have HOK := Lib.hid hok
    have HER := Lib.hid (HE3.out.mod hm HAN.out n1 n4 n3 n2)
    have HWR := Lib.hid (bel_mod HW3.out hm (fun k e => by omega))
    clear hb hm hok
    by_cases hxm : x < t.par.length
    · have p0 := HER.out.p.cell (i := 0) rfl
      have l0 := blkN HBR.out (i := x) (by rw [lsZ_len hx]; exact hxm)
      have f0 := HBR.out.free x
      generalize (lsZ t t.par.length x).getD x 0 = old at *
      have x1 : (x : Int) < (t.par.length : Int) := by omega
      go_wp2_with fail
      have HB4 := Lib.hid (blkN_set HBR.out x x)
      have HM4 := Lib.hid (HMR.out.setCell ⟨lb, x, none⟩ (fun _ => rfl) (.int .i64 (x : Int)))
      have HE4 := Lib.hid (HE3.out.mod HM4.out HAN.out n1 n4 n3 n2)
      have HW4 := Lib.hid (bel_mod HW3.out HM4.out (fun k e => by omega))
      clear p0 l0 f0 HBR HER HWR
      generalize wr.setCell ⟨lb, x, none⟩ (.int .i64 (x : Int)) = w4 at *
      have HLS4 : Hid (∀ y, y < x → w4.cell? ⟨lb, y, none⟩ = some (.int .i64 (((lowF t x).getD y 0 : Nat) : Int))) := fun y hy => by
        have := blkN HB4.out (i := y) (by rw [List.length_set, lsZ_len hx]; omega)
        rw [getD_set_ne (by omega), lsZ_at hy] at this
        exact this
      with_reducible refine (holds_ok w4 A t w.heap.size (lp + 1 + 1) (lp + 1) lp lb t.par.length HE4.out HL.out b1 x hxm hxm (by omega) (lowF t x) HLS4.out).mono ?_
      rintro e w5 ⟨rfl, hb5⟩
      have HB5 := Lib.hid (HB4.out.below hb5 HB4.out.lt)
      have HE5 := Lib.hid (HE4.out.below hb5)
      have HW5 := Lib.hid (bel_then HW4.out hb5)
      have HM5 := Lib.hid (HM4.out.trans (Mod.of_below (F := fun _ => False) hb5) (fun _ _ h => h.elim))
      clear hb5 HB4 HE4 HW4 HLS4 HM4
      by_cases hok : OkAt t (lowF t x) x
      · have HOK2 := Lib.hid hok
        have hB : okB t (lowF t x) x = true := decide_eq_true hok
        rw [hB]
        clear hok hB
        have b0 := HE5.out.box.c0
        by_cases hlv : t.lv ≤ x
        · have t1 : decide (t.lv ≤ (x : Int)) = true := by simp [hlv]
          obtain ⟨⟨⟨i1, i2⟩, _, _⟩, _⟩ : InnAt t (lowF t x) x := HOK2.out.2.1.resolve_left (by omega)
          obtain ⟨e1, l1⟩ := HE5.out.tree.l.get (i := x) (by have := HL.out.1; omega)
          have b1' := HE5.out.box.c1
          have HNX : Hid (lsNext t (lowF t x) x = (lowF t x).getD (gi t.left x).toNat 0) := by show _ = _; unfold lsNext lc; rw [if_neg (by omega)]
          obtain ⟨y, hy⟩ := Int.eq_ofNat_of_zero_le i1
          rw [hy] at i1 i2 l1 HNX
          rw [Int.toNat_natCast] at HNX
          have hyx : y < x := by omega
          have p0 := HE5.out.p.cell (i := 0) rfl
          have ly := blkN HB5.out (i := y) (by rw [List.length_set, lsZ_len hx]; omega)
          rw [getD_set_ne (by omega), lsZ_at hyx, ← HNX.out] at ly
          have fx := HB5.out.free x
          have cx := blkN HB5.out (i := x) (by rw [List.length_set, lsZ_len hx]; omega)
          rw [getD_set_self (by rw [lsZ_len hx]; omega)] at cx
          obtain ⟨nv, HNV⟩ : ∃ nv, Hid (nv = lsNext t (lowF t x) x) := ⟨_, rfl⟩
          rw [← HNV.out] at ly
          have x2 : (x : Int) < (t.left.length : Int) := by have := HL.out.1; omega
          have x3 : (y : Int) < (t.par.length : Int) := by omega
          have x4 : (0 : Int) ≤ (y : Int) := by omega
          clear hlv hy i1 i2
          obtain rfl := HLO.out.symm.trans e1
          rw [e1] at b1'
          clear e1
          have HOK3 : Hid (∀ y, y < x + 1 → OkAt t (lowF t y) y) := fun y hy => by
            by_cases c : y = x
            · subst c; exact HOK2.out
            · exact HOK.out y (by omega)
          go_wp2_with fail
          refine region_tailD 11 (by kernel_rfl) (by kernel_rfl) ?_
          intro w6 hw6
          replace b1' := hw6.cell b1'
          replace l1 := hw6.cell l1
          replace p0 := hw6.cell p0
          replace ly := hw6.cell ly
          replace cx := hw6.cell cx
          replace fx := hw6.frozen fx
          have HB6 := Lib.hid (hw6.blk HB5.out)
          have HM6 := Lib.hid (hw6.mod HM5.out)
          clear hw6 HB5 HM5 b0 HOK2 HE5 HW5
          simp only [List.take_succ_cons, List.take_zero, List.drop_succ_cons, List.drop_zero]
          repeat still_step
          refine wpStill_nil ?_
          go_wp2_with fail
          have HB7 : Hid (Blk (w6.setCell ⟨lb, x, none⟩ (.int .i64 nv)) lb 3 (natV (lsZ t t.par.length (x + 1)))) := by
            have := blkN_set HB6.out x nv
            rw [List.set_set, lsZ_set hxm nv HNV.out] at this
            exact this
          go_roundw
          case rel => exact ⟨x + 1, by omega, by go_num, HB7.out, HM6.out.setCell _ (fun _ => rfl) _, HOK3.out⟩
          case measure => simp [intOf]; omega
        · have t1 : decide (t.lv ≤ (x : Int)) = false := by simp; omega
          have HNX : Hid (x = lsNext t (lowF t x) x) := by show _ = _; unfold lsNext; rw [if_pos (by omega)]
          have HB6 : Hid (Blk w5 lb 3 (natV (lsZ t t.par.length (x + 1)))) := by
            have := HB5.out
            rw [lsZ_set hxm x HNX.out] at this
            exact this
          have HOK3 : Hid (∀ y, y < x + 1 → OkAt t (lowF t y) y) := fun y hy => by
            by_cases c : y = x
            · subst c; exact HOK2.out
            · exact HOK.out y (by omega)
          clear hlv
          go_wp2_with fail
          go_roundw
          case rel => exact ⟨x + 1, by omega, by go_num, HB6.out, HM5.out, HOK3.out⟩
          case measure => simp [intOf]; omega
      · have HN := Lib.hid (lsL_none (t := t) (.inr ⟨x, hxm, hok⟩))
        have hB : okB t (lowF t x) x = false := decide_eq_false hok
        rw [hB]
        clear hok hB
        go_wp2_with fail
        go_ret2
        exact LsPost.no HN.out HW5.out
    · obtain rfl : x = t.par.length := by omega
      have HF := Lib.hid (lsL_iff.2 ⟨HH.out HL.out, rfl, HOK.out⟩)
      have p0 := HER.out.p.cell (i := 0) rfl
      go_wp2_with fail
      go_ret2
      refine ⟨fun e => by (rw [HF.out] at e; cases e), fun ls e => ?_, HWR.out⟩
      rw [HF.out] at e
      injection e with e
      subst e
      refine ⟨lb, by rw [lowF_len]; rfl, ?_, by omega⟩
      have := HBR.out
      rw [lsZ_end] at this
      exact this

end Go.Proofs.YtenhbfbfkcjimaaDoor
