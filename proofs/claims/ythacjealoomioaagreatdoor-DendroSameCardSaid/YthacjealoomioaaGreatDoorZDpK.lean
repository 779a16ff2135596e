/- DpK. -/
import Derived.Test.YthacjealoomioaaGreatDoorZDpL
import Derived.Test.YthacjealoomioaaGreatDoorZDpS
import Derived.Test.YthacjealoomioaaGreatDoorZGl
import Derived.Lib.QuietBelow
/- The law DendroSame. (printed by dpk.py) -/
namespace Go.Proofs.YthacjealoomioaaGreatDoor
set_option linter.unusedVariables false
set_option linter.unusedSimpArgs false
open Go.RowKit

theorem txtO_okV (t : Tr) : (txtO t).isSome = okV t := by
  unfold txtO okV
  cases lsL t <;> rfl
theorem smB_self (t : Tr) : smB (txtO t) (txtO t) = okV t := by
  rw [← txtO_okV]
  cases txtO t with
  | none => rfl
  | some l => show decide (l = l) = _; simp
theorem partO_len (s : List UInt8) : ∀ f p L p' L', partO s f p L = some (p', L') → L'.length + p ≤ L.length + p'
  | 0, p, L, p', L', h => by cases h
  | f + 1, p, L, p', L', h => by
    rw [partO] at h
    split at h
    · cases h1 : partO s f (p + 1) L with
      | none => rw [h1] at h; cases h
      | some r1 =>
        obtain ⟨p1, L1⟩ := r1
        rw [h1] at h
        simp only at h
        have l1 := partO_len s f _ _ _ _ h1
        split at h
        · cases h2 : partO s f (p1 + 1) L1 with
          | none => rw [h2] at h; cases h
          | some r2 =>
            obtain ⟨p2, L2⟩ := r2
            rw [h2] at h
            simp only at h
            have l2 := partO_len s f _ _ _ _ h2
            split at h
            · cases h3 : rNum s (p2 + 2) with
              | none => rw [h3] at h; cases h
              | some r3 =>
                obtain ⟨x, p3⟩ := r3
                rw [h3] at h
                simp only at h
                injection h with h
                injection h with ha hb
                obtain ⟨n1, n2, n3⟩ := rNum_some h3
                rw [← ha, ← hb, List.length_append, List.length_singleton]
                omega
            · cases h
        · cases h
    · cases h1 : rNum s p with
      | none => rw [h1] at h; cases h
      | some r =>
        obtain ⟨x, q⟩ := r
        rw [h1] at h
        simp only at h
        split at h
        · cases h
        · injection h with h
          injection h with ha hb
          obtain ⟨n1, n2, n3⟩ := rNum_some h1
          rw [← ha, ← hb, List.length_append, List.length_singleton]
          omega
theorem refO_len (s : List UInt8) : ∀ f p L L', refO s f p L = some L' → L.length ≤ p → p ≤ s.length + 1 → L'.length ≤ s.length + 1
  | 0, p, L, L', h, h1, h2 => by
    rw [refO] at h
    split at h
    · cases h
    · injection h with h
      rw [← h]; omega
  | f + 1, p, L, L', h, h1, h2 => by
    rw [refO] at h
    split at h
    · cases hp : partO s (s.length + 1) p L with
      | none => rw [hp] at h; cases h
      | some r =>
        obtain ⟨p1, L1⟩ := r
        rw [hp] at h
        simp only at h
        have hl := partO_len s _ _ _ _ _ hp
        obtain ⟨_, _, _, l1, l2⟩ := partO_ps s _ _ _ _ _ hp
        split at h
        · exact refO_len s f _ _ _ h (by omega) (by omega)
        · cases h
    · injection h with h
      rw [← h]; omega
theorem madeT_len {s : List UInt8} {t : Tr} (h : keepT s (refT s) = some t) (hs : s.length ≤ 5000) : t.left.length ≤ 1000000 := by
  cases hr : refT s with
  | none => rw [hr] at h; cases h
  | some t0 =>
    rw [hr] at h
    have e : t0 = t := by
      unfold keepT at h
      simp only at h
      split at h
      · injection h
      · cases h
    subst e
    unfold refT at hr
    cases hL : refO s s.length 0 [] with
    | none => rw [hL] at hr; cases hr
    | some L =>
      rw [hL] at hr
      have h1 := made_lens hr
      have h2 := refO_len s _ _ _ _ hL (Nat.le_refl _) (Nat.zero_le _)
      omega

set_option maxHeartbeats 8000000 in
set_option maxRecDepth 100000 in
theorem dsame_law (w : World) (hE : ErrV w) (hP : Pow10 w.heap.size w) (hQ : Tab64 w) (A : TA) (T : Tr) (ht : TreeAt w A T) (h64 : Hgt64 T) (s : ByteArray) :
    Calls Tryz.prog 6 #[A.agg T, .string s] w (RetB (.bool true) w) := by
  have HER0 := Lib.hid hE
  have HPW := Lib.hid hP
  have HQW := Lib.hid hQ
  have H64 := Lib.hid h64
  clear hE hP hQ h64
  obtain ⟨bb, HBB⟩ : ∃ bb, Hid (decide (150 < T.left.length ∨ 150 < T.right.length ∨ 150 < T.par.length ∨ 150 < T.hgt.length ∨ 150 < T.siz.length ∨ 2000 < s.size) = bb) := ⟨_, rfl⟩
  have HBX := Lib.hid (bel_alloc w (.cells #[.int .i64 T.lv, .slice A.l.o T.left.length A.l.c, .slice A.r.o T.right.length A.r.c, .slice A.p.o T.par.length A.p.c, .slice A.h.o T.hgt.length A.h.c, .slice A.s.o T.siz.length A.s.c] 27))
  have HX := Lib.hid (TBox.new w A T)
  have HTA := Lib.hid (ht.below HBX.out)
  have hl1 := ht.ln.1
  have hl2 := ht.ln.2.1
  have hl3 := ht.ln.2.2.1
  have hl4 := ht.ln.2.2.2.1
  have hl5 := ht.ln.2.2.2.2
  clear ht
  obtain ⟨c0, c1, c2, c3, c4, c5⟩ := six_cells HX.out
  show Calls _ _ #[.agg #[.int .i64 T.lv, .slice A.l.o T.left.length A.l.c, .slice A.r.o T.right.length A.r.c, .slice A.p.o T.par.length A.p.c, .slice A.h.o T.hgt.length A.h.c, .slice A.s.o T.siz.length A.s.c], _] _ _
  go_enter Tryz.func6, Tryz.ntmps6
  go_upto_region 1 with fail
  generalize hw1 : w.alloc (.cells #[.int .i64 T.lv, .slice A.l.o T.left.length A.l.c, .slice A.r.o T.right.length A.r.c, .slice A.p.o T.par.length A.p.c, .slice A.h.o T.hgt.length A.h.c, .slice A.s.o T.siz.length A.s.c] 27) = w1 at *
  clear hw1
  go_cut [39] (fun s wx => s = .bool bb ∧ w1 = wx)
  case first =>
    have hbb := HBB.out
    by_cases h0 : 150 < T.left.length
    · have t0 : decide (150 < T.left.length) = true := decide_eq_true h0
      have t0' : decide ((150 : Int) < (T.left.length : Int)) = true := by simp; omega
      obtain rfl : bb = true := by rw [← hbb]; exact decide_eq_true (by omega)
      clear h0 hbb HBB
      go_wp2_with fail
      go_meet
      exact ⟨rfl, rfl⟩
    · have t0 : decide (150 < T.left.length) = false := decide_eq_false h0
      have t0' : decide ((150 : Int) < (T.left.length : Int)) = false := by simp; omega
      by_cases h1 : 150 < T.right.length
      · have t1 : decide (150 < T.right.length) = true := decide_eq_true h1
        have t1' : decide ((150 : Int) < (T.right.length : Int)) = true := by simp; omega
        obtain rfl : bb = true := by rw [← hbb]; exact decide_eq_true (by omega)
        clear h0 h1 hbb HBB
        go_wp2_with fail
        go_meet
        exact ⟨rfl, rfl⟩
      · have t1 : decide (150 < T.right.length) = false := decide_eq_false h1
        have t1' : decide ((150 : Int) < (T.right.length : Int)) = false := by simp; omega
        by_cases h2 : 150 < T.par.length
        · have t2 : decide (150 < T.par.length) = true := decide_eq_true h2
          have t2' : decide ((150 : Int) < (T.par.length : Int)) = true := by simp; omega
          obtain rfl : bb = true := by rw [← hbb]; exact decide_eq_true (by omega)
          clear h0 h1 h2 hbb HBB
          go_wp2_with fail
          go_meet
          exact ⟨rfl, rfl⟩
        · have t2 : decide (150 < T.par.length) = false := decide_eq_false h2
          have t2' : decide ((150 : Int) < (T.par.length : Int)) = false := by simp; omega
          by_cases h3 : 150 < T.hgt.length
          · have t3 : decide (150 < T.hgt.length) = true := decide_eq_true h3
            have t3' : decide ((150 : Int) < (T.hgt.length : Int)) = true := by simp; omega
            obtain rfl : bb = true := by rw [← hbb]; exact decide_eq_true (by omega)
            clear h0 h1 h2 h3 hbb HBB
            go_wp2_with fail
            go_meet
            exact ⟨rfl, rfl⟩
          · have t3 : decide (150 < T.hgt.length) = false := decide_eq_false h3
            have t3' : decide ((150 : Int) < (T.hgt.length : Int)) = false := by simp; omega
            by_cases h4 : 150 < T.siz.length
            · have t4 : decide (150 < T.siz.length) = true := decide_eq_true h4
              have t4' : decide ((150 : Int) < (T.siz.length : Int)) = true := by simp; omega
              obtain rfl : bb = true := by rw [← hbb]; exact decide_eq_true (by omega)
              clear h0 h1 h2 h3 h4 hbb HBB
              go_wp2_with fail
              go_meet
              exact ⟨rfl, rfl⟩
            · have t4 : decide (150 < T.siz.length) = false := decide_eq_false h4
              have t4' : decide ((150 : Int) < (T.siz.length : Int)) = false := by simp; omega
              by_cases h5 : 2000 < s.size
              · have t5 : decide (2000 < s.size) = true := decide_eq_true h5
                have t5' : decide ((2000 : Int) < (s.size : Int)) = true := by simp; omega
                obtain rfl : bb = true := by rw [← hbb]; exact decide_eq_true (by omega)
                clear h0 h1 h2 h3 h4 h5 hbb HBB
                go_wp2_with fail
                go_meet
                exact ⟨rfl, rfl⟩
              · have t5 : decide (2000 < s.size) = false := decide_eq_false h5
                have t5' : decide ((2000 : Int) < (s.size : Int)) = false := by simp; omega
                obtain rfl : bb = false := by rw [← hbb]; exact decide_eq_false (by omega)
                clear h0 h1 h2 h3 h4 h5 hbb HBB
                go_wp2_with fail
                go_meet
                exact ⟨rfl, rfl⟩
  case rest =>
    obtain ⟨rfl, rfl⟩ := hcut
    cases bb with
    | true =>
      clear HBB c0 c1 c2 c3 c4 c5
      go_wp2_with fail
      with_reducible refine (dworks_ok w1 (HER0.out.below HBX.out) (HPW.out.up HBX.out) (HQW.out.below HBX.out)).mono ?_
      rintro e w2 ⟨rfl, hb⟩
      have HB := Lib.hid (bel_then HBX.out hb)
      clear hb
      go_wp2_with fail
      go_ret
      exact ⟨rfl, HB.out⟩
    | false =>
      have hbb := of_decide_eq_false HBB.out
      have HLEN : Hid (T.left.length ≤ 1000000) := by show _ ≤ _; omega
      have HSS : Hid (s.size ≤ 2000) := by show _ ≤ _; omega
      clear hbb HBB c0 c1 c2 c3 c4 c5
      go_wp2_with fail
      with_reducible refine (r22parse_ok w1 s (by have := HSS.out; omega)).mono ?_
      intro e w3 hps
      obtain ⟨o, HO⟩ : ∃ o, Hid (keepT s.data.toList (refT s.data.toList) = o) := ⟨_, rfl⟩
      rw [HO.out] at hps
      obtain ⟨A', rfl, ht, h64⟩ := hps.one
      have HUL : Hid ((rdT o).left.length ≤ 1000000) := by
        show _ ≤ _
        cases o with
        | none => exact Nat.zero_le _
        | some t => exact madeT_len HO.out (by rw [ba_len]; have := HSS.out; omega)
      obtain ⟨t, HT⟩ : ∃ t, Hid (rdT o = t) := ⟨_, rfl⟩
      obtain ⟨ec, HEC⟩ : ∃ ec, Hid (rdE o = ec) := ⟨_, rfl⟩
      rw [HT.out] at ht h64 HUL
      rw [HT.out, HEC.out]
      have HK64 := Lib.hid h64
      have HAG' : Hid (A'.agg t = .agg #[.int .i64 t.lv, .slice A'.l.o t.left.length A'.l.c, .slice A'.r.o t.right.length A'.r.c, .slice A'.p.o t.par.length A'.p.c, .slice A'.h.o t.hgt.length A'.h.c, .slice A'.s.o t.siz.length A'.s.c]) := rfl
      rw [HAG'.out]
      have HX3 := Lib.hid (Blk.below HX.out hps.bel (Blk.lt HX.out))
      have HTA3 := Lib.hid (HTA.out.below hps.bel)
      have HBL := Lib.hid (bel_alloc w3 (.cells #[.int .i64 t.lv, .slice A'.l.o t.left.length A'.l.c, .slice A'.r.o t.right.length A'.r.c, .slice A'.p.o t.par.length A'.p.c, .slice A'.h.o t.hgt.length A'.h.c, .slice A'.s.o t.siz.length A'.s.c] 27))
      have HY := Lib.hid (TBox.new w3 A' t)
      have HX4 := Lib.hid (Blk.below HX3.out HBL.out (Blk.lt HX3.out))
      have HB4 := Lib.hid (bel_then HBX.out (bel_then hps.bel HBL.out))
      have HTA4 := Lib.hid (HTA3.out.below HBL.out)
      have HTB4 := Lib.hid (ht.below HBL.out)
      clear hps ht h64 HX HTA HX3 HTA3
      go_upto_region 4 with fail
      clear HBL
      generalize (w3.alloc (.cells #[.int .i64 t.lv, .slice A'.l.o t.left.length A'.l.c, .slice A'.r.o t.right.length A'.r.c, .slice A'.p.o t.par.length A'.p.c, .slice A'.h.o t.hgt.length A'.h.c, .slice A'.s.o t.siz.length A'.s.c] 27)) = w4 at *
      generalize w3.heap.size = yb at *
      clear HBX
      have HER := Lib.hid (HER0.out.below HB4.out)
      have HPR := Lib.hid (HPW.out.up HB4.out)
      have HQR := Lib.hid (HQW.out.below HB4.out)
      obtain ⟨b1, HS1⟩ : ∃ b, Hid (smB (txtO T) (txtO t) = b) := ⟨_, rfl⟩
      obtain ⟨b2, HS2⟩ : ∃ b, Hid (smB (txtO t) (txtO T) = b) := ⟨_, rfl⟩
      obtain ⟨b3, HS3⟩ : ∃ b, Hid (okV T = b) := ⟨_, rfl⟩
      have HC1 : Hid (∀ W, Below w4.heap.size w4 W → Calls Tryz.prog 19 #[.agg #[.int .i64 T.lv, .slice A.l.o T.left.length A.l.c, .slice A.r.o T.right.length A.r.c, .slice A.p.o T.par.length A.p.c, .slice A.h.o T.hgt.length A.h.c, .slice A.s.o T.siz.length A.s.c], .agg #[.int .i64 t.lv, .slice A'.l.o t.left.length A'.l.c, .slice A'.r.o t.right.length A'.r.c, .slice A'.p.o t.par.length A'.p.c, .slice A'.h.o t.hgt.length A'.h.c, .slice A'.s.o t.siz.length A'.s.c]] W (RetB (.bool b1) W)) := fun W h => by have := dsame_ok W (HPR.out.up h) A A' T t (HTA4.out.below h) (HTB4.out.below h) H64.out HK64.out; rw [HS1.out] at this; exact this
      have HC2 : Hid (∀ W, Below w4.heap.size w4 W → Calls Tryz.prog 19 #[.agg #[.int .i64 t.lv, .slice A'.l.o t.left.length A'.l.c, .slice A'.r.o t.right.length A'.r.c, .slice A'.p.o t.par.length A'.p.c, .slice A'.h.o t.hgt.length A'.h.c, .slice A'.s.o t.siz.length A'.s.c], .agg #[.int .i64 T.lv, .slice A.l.o T.left.length A.l.c, .slice A.r.o T.right.length A.r.c, .slice A.p.o T.par.length A.p.c, .slice A.h.o T.hgt.length A.h.c, .slice A.s.o T.siz.length A.s.c]] W (RetB (.bool b2) W)) := fun W h => by have := dsame_ok W (HPR.out.up h) A' A t T (HTB4.out.below h) (HTA4.out.below h) HK64.out H64.out; rw [HS2.out] at this; exact this
      have HC3 : Hid (∀ W, Below w4.heap.size w4 W → Calls Tryz.prog 19 #[.agg #[.int .i64 T.lv, .slice A.l.o T.left.length A.l.c, .slice A.r.o T.right.length A.r.c, .slice A.p.o T.par.length A.p.c, .slice A.h.o T.hgt.length A.h.c, .slice A.s.o T.siz.length A.s.c], .agg #[.int .i64 T.lv, .slice A.l.o T.left.length A.l.c, .slice A.r.o T.right.length A.r.c, .slice A.p.o T.par.length A.p.c, .slice A.h.o T.hgt.length A.h.c, .slice A.s.o T.siz.length A.s.c]] W (RetB (.bool b3) W)) := fun W h => by have := dsame_ok W (HPR.out.up h) A A T T (HTA4.out.below h) (HTA4.out.below h) H64.out H64.out; rw [smB_self, HS3.out] at this; exact this
      have HD1 : Hid (∀ W, Below w4.heap.size w4 W → Calls Tryz.prog 20 #[.agg #[.int .i64 T.lv, .slice A.l.o T.left.length A.l.c, .slice A.r.o T.right.length A.r.c, .slice A.p.o T.par.length A.p.c, .slice A.h.o T.hgt.length A.h.c, .slice A.s.o T.siz.length A.s.c], .agg #[.int .i64 t.lv, .slice A'.l.o t.left.length A'.l.c, .slice A'.r.o t.right.length A'.r.c, .slice A'.p.o t.par.length A'.p.c, .slice A'.h.o t.hgt.length A'.h.c, .slice A'.s.o t.siz.length A'.s.c]] W (RetB (.bool b1) W)) := fun W h => by have := r22same_ok W A A' T t (HTA4.out.below h) (HTB4.out.below h) HLEN.out HUL.out H64.out HK64.out; rw [HS1.out] at this; exact this
      have HD2 : Hid (∀ W, Below w4.heap.size w4 W → Calls Tryz.prog 20 #[.agg #[.int .i64 t.lv, .slice A'.l.o t.left.length A'.l.c, .slice A'.r.o t.right.length A'.r.c, .slice A'.p.o t.par.length A'.p.c, .slice A'.h.o t.hgt.length A'.h.c, .slice A'.s.o t.siz.length A'.s.c], .agg #[.int .i64 T.lv, .slice A.l.o T.left.length A.l.c, .slice A.r.o T.right.length A.r.c, .slice A.p.o T.par.length A.p.c, .slice A.h.o T.hgt.length A.h.c, .slice A.s.o T.siz.length A.s.c]] W (RetB (.bool b2) W)) := fun W h => by have := r22same_ok W A' A t T (HTB4.out.below h) (HTA4.out.below h) HUL.out HLEN.out HK64.out H64.out; rw [HS2.out] at this; exact this
      have HV : Hid (∀ W, Below w4.heap.size w4 W → Calls Tryz.prog 21 #[.agg #[.int .i64 T.lv, .slice A.l.o T.left.length A.l.c, .slice A.r.o T.right.length A.r.c, .slice A.p.o T.par.length A.p.c, .slice A.h.o T.hgt.length A.h.c, .slice A.s.o T.siz.length A.s.c]] W (RetB (.bool b3) W)) := fun W h => by have := rvalid_ok W A T (HTA4.out.below h) HLEN.out; rw [HS3.out] at this; exact this
      have HWK : Hid (∀ W, Below w4.heap.size w4 W → Calls Tryz.prog 13 #[] W (RetB (.bool true) W)) := fun W h => dworks_ok W (HER.out.below h) (HPR.out.up h) (HQR.out.below h)
      have v1 : (b1 == b1) = true := by simp
      have v2 : (b2 == b2) = true := by simp
      have v3 : (b3 == b3) = true := by simp
      have x0 := cell_regrown (TBox.c0 HX4.out)
      have x1 := cell_regrown (TBox.c1 HX4.out)
      have x2 := cell_regrown (TBox.c2 HX4.out)
      have x3 := cell_regrown (TBox.c3 HX4.out)
      have x4 := cell_regrown (TBox.c4 HX4.out)
      have x5 := cell_regrown (TBox.c5 HX4.out)
      have y0 := cell_regrown (TBox.c0 HY.out)
      have y1 := cell_regrown (TBox.c1 HY.out)
      have y2 := cell_regrown (TBox.c2 HY.out)
      have y3 := cell_regrown (TBox.c3 HY.out)
      have y4 := cell_regrown (TBox.c4 HY.out)
      have y5 := cell_regrown (TBox.c5 HY.out)
      refine wp_region_quiet_below (by kernel_rfl) (by kernel_rfl) ?_
      repeat (go_big_quiet_step (first
        | (go_at_call 19; first
            | (with_reducible exact Calls.regrown_of ((HC1.out _ (below_regrown _ _ _)).mono fun _ _ ⟨he, hb⟩ => ⟨he, hb⟩))
            | (with_reducible exact Calls.regrown_of ((HC2.out _ (below_regrown _ _ _)).mono fun _ _ ⟨he, hb⟩ => ⟨he, hb⟩))
            | (with_reducible exact Calls.regrown_of ((HC3.out _ (below_regrown _ _ _)).mono fun _ _ ⟨he, hb⟩ => ⟨he, hb⟩)))
        | (go_at_call 20; first
            | (with_reducible exact Calls.regrown_of ((HD1.out _ (below_regrown _ _ _)).mono fun _ _ ⟨he, hb⟩ => ⟨he, hb⟩))
            | (with_reducible exact Calls.regrown_of ((HD2.out _ (below_regrown _ _ _)).mono fun _ _ ⟨he, hb⟩ => ⟨he, hb⟩)))
        | (go_at_call 21; exact Calls.regrown_of ((HV.out _ (below_regrown _ _ _)).mono fun _ _ ⟨he, hb⟩ => ⟨he, hb⟩))
        | (go_at_call 13; exact Calls.regrown_of ((HWK.out _ (below_regrown _ _ _)).mono fun _ _ ⟨he, hb⟩ => ⟨he, hb⟩))))
      refine wpQuiet_nil ?_
      intro W2 hw2
      obtain ⟨⟨dq, osq⟩, hw3⟩ := hw2
      have hbg : Below w4.heap.size w4 W2 := by rw [hw3]; exact below_regrown w4 dq osq
      have HBG := Lib.hid (bel_then HB4.out hbg)
      clear hw3 hbg x0 x1 x2 x3 x4 x5 y0 y1 y2 y3 y4 y5
      go_wp2_with fail
      go_ret
      exact ⟨rfl, HBG.out⟩

end Go.Proofs.YthacjealoomioaaGreatDoor
