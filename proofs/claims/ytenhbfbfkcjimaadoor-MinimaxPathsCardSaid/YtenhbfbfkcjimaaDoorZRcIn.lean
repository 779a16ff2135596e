/- recon.inner. -/
import Derived.Test.YtenhbfbfkcjimaaDoorZRcTm
namespace Go.Proofs.YtenhbfbfkcjimaaDoor
set_option linter.unusedVariables false
set_option linter.unusedSimpArgs false
open Go.RowKit

theorem inn_iff {t : Tr} {ls : List Nat} {x : Nat} {a b : Int} (ha : gi t.left x = a) (hb : gi t.right x = b) : innB t ls x = true ↔ (((0 ≤ a ∧ a < x) ∧ (0 ≤ b ∧ b < x) ∧ a ≠ b) ∧
    (gi t.par a.toNat = x ∧ gi t.par b.toNat = x ∧ ls.getD a.toNat 0 < ls.getD b.toNat 0) ∧ gi t.siz x = IntKind.i64.wrap (gi t.siz a.toNat + gi t.siz b.toNat) ∧ ((x : Int) = t.lv ∨ gi t.hgt (x - 1) ≤ gi t.hgt x)) := by
  subst ha hb; exact decide_eq_true_iff

set_option maxHeartbeats 8000000 in
set_option maxRecDepth 100000 in
theorem inner_ok (w : World) (A : TA) (t : Tr) (ht : TreeAt w A t) (hl : LensOk t) (x : Nat) (hx : x < t.par.length) (hlv0 : 0 ≤ t.lv) (hlv : t.lv ≤ x) (ls : List Nat) (lb m : Nat) (hxm : x < m) (hm : m ≤ 9223372036854775807)
    (hls : ∀ y, y < x → w.cell? ⟨lb, y, none⟩ = some (.int .i64 ((ls.getD y 0 : Nat) : Int))) :
    Calls Tryd.prog 85 #[A.agg t, .slice (some ⟨lb, 0, none⟩) m m, .int .i64 x] w (RetB (.bool (innB t ls x)) w) := by
  have HT := Lib.hid ht
  have HB := Lib.hid (TBox.new w A t)
  have hb := bel_alloc w (.cells #[.int .i64 t.lv, .slice A.l.o t.left.length A.l.c, .slice A.r.o t.right.length A.r.c, .slice A.p.o t.par.length A.p.c, .slice A.h.o t.hgt.length A.h.c, .slice A.s.o t.siz.length A.s.c] 61)
  have HW := Lib.hid hb
  have HT2 := Lib.hid (HT.out.below hb)
  have HLS : Hid (∀ y, y < x → (w.alloc (.cells #[.int .i64 t.lv, .slice A.l.o t.left.length A.l.c, .slice A.r.o t.right.length A.r.c, .slice A.p.o t.par.length A.p.c, .slice A.h.o t.hgt.length A.h.c, .slice A.s.o t.siz.length A.s.c] 61)).cell? ⟨lb, y, none⟩ = some (.int .i64 ((ls.getD y 0 : Nat) : Int))) := fun y hy => (hb.cell (World.block_lt_of_cell? w _ (hls y hy))).trans (hls y hy)
  obtain ⟨hl1, hl2, hl4, hl5⟩ := hl
  obtain ⟨e1, l1⟩ := HT2.out.l.get (i := x) (by omega)
  obtain ⟨e2, l2⟩ := HT2.out.r.get (i := x) (by omega)
  obtain ⟨e3, _⟩ := HT2.out.p.get hx
  obtain ⟨e4, h1⟩ := HT2.out.h.get (i := x) (by omega)
  obtain ⟨e5, s1⟩ := HT2.out.s.get (i := x) (by omega)
  have c0 := HB.out.c0
  have c1 := HB.out.c1
  have c2 := HB.out.c2
  have c3 := HB.out.c3
  have c4 := HB.out.c4
  have c5 := HB.out.c5
  obtain ⟨ln1, ln2, ln3, ln4, ln5⟩ := ht.ln
  clear hb ht hls
  show Calls _ _ #[.agg #[.int .i64 t.lv, .slice A.l.o t.left.length A.l.c, .slice A.r.o t.right.length A.r.c, .slice A.p.o t.par.length A.p.c, .slice A.h.o t.hgt.length A.h.c, .slice A.s.o t.siz.length A.s.c], _, _] _ _
  obtain ⟨a, HA⟩ : ∃ p, Hid (gi t.left x = p) := ⟨_, rfl⟩
  obtain ⟨b, HB2⟩ : ∃ p, Hid (gi t.right x = p) := ⟨_, rfl⟩
  rw [HA.out] at l1
  rw [HB2.out] at l2
  have HL := Lib.hid (inn_iff (ls := ls) HA.out HB2.out)
  have x1 : (x : Int) < (t.left.length : Int) := by omega
  have x2 : (x : Int) < (t.right.length : Int) := by omega
  have x3 : (x : Int) < (t.par.length : Int) := by omega
  have x4 : (x : Int) < (t.hgt.length : Int) := by omega
  have x5 : (x : Int) < (t.siz.length : Int) := by omega
  have HL1 := Lib.hid hl1
  have HL2 := Lib.hid hl2
  have HL4 := Lib.hid hl4
  have HL5 := Lib.hid hl5
  clear hl1 hl2 hl4 hl5
  by_cases hg : a < 0
  · have g0 : decide (a < 0) = true := by simp [hg]
    have HR : Hid (innB t ls x = false) := by
      show _ = _
      rw [Bool.eq_false_iff]
      intro hh
      obtain ⟨⟨⟨k1, k2⟩, ⟨k3, k4⟩, k5⟩, ⟨k6, k7, k8⟩, k9, k10⟩ := HL.out.1 hh
      omega
    clear hg
    generalize A.l.o = lo at *
    generalize A.r.o = ro at *
    generalize A.p.o = po at *
    generalize A.h.o = ho at *
    generalize A.s.o = so at *
    subst e1 e2 e3 e4 e5
    go_enter Tryd.func85, Tryd.ntmps85
    go_wp2_with fail
    go_quiet (fail)
    go_wp2_with fail
    go_ret
    exact ⟨ret_bool HR.out.symm, by repeat (first | exact HW.out | apply bel_drewN)⟩
  have g0 : decide (a < 0) = false := by simp; omega
  have q0 := hg
  clear hg
  by_cases hg : (x : Int) ≤ a
  · have g1 : decide ((x : Int) ≤ a) = true := by simp [hg]
    have HR : Hid (innB t ls x = false) := by
      show _ = _
      rw [Bool.eq_false_iff]
      intro hh
      obtain ⟨⟨⟨k1, k2⟩, ⟨k3, k4⟩, k5⟩, ⟨k6, k7, k8⟩, k9, k10⟩ := HL.out.1 hh
      omega
    clear hg
    generalize A.l.o = lo at *
    generalize A.r.o = ro at *
    generalize A.p.o = po at *
    generalize A.h.o = ho at *
    generalize A.s.o = so at *
    subst e1 e2 e3 e4 e5
    go_enter Tryd.func85, Tryd.ntmps85
    go_wp2_with fail
    go_quiet (fail)
    go_wp2_with fail
    go_ret
    exact ⟨ret_bool HR.out.symm, by repeat (first | exact HW.out | apply bel_drewN)⟩
  have g1 : decide ((x : Int) ≤ a) = false := by simp; omega
  have q1 := hg
  clear hg
  by_cases hg : b < 0
  · have g2 : decide (b < 0) = true := by simp [hg]
    have HR : Hid (innB t ls x = false) := by
      show _ = _
      rw [Bool.eq_false_iff]
      intro hh
      obtain ⟨⟨⟨k1, k2⟩, ⟨k3, k4⟩, k5⟩, ⟨k6, k7, k8⟩, k9, k10⟩ := HL.out.1 hh
      omega
    clear hg
    generalize A.l.o = lo at *
    generalize A.r.o = ro at *
    generalize A.p.o = po at *
    generalize A.h.o = ho at *
    generalize A.s.o = so at *
    subst e1 e2 e3 e4 e5
    go_enter Tryd.func85, Tryd.ntmps85
    go_wp2_with fail
    go_quiet (fail)
    go_wp2_with fail
    go_ret
    exact ⟨ret_bool HR.out.symm, by repeat (first | exact HW.out | apply bel_drewN)⟩
  have g2 : decide (b < 0) = false := by simp; omega
  have q2 := hg
  clear hg
  by_cases hg : (x : Int) ≤ b
  · have g3 : decide ((x : Int) ≤ b) = true := by simp [hg]
    have HR : Hid (innB t ls x = false) := by
      show _ = _
      rw [Bool.eq_false_iff]
      intro hh
      obtain ⟨⟨⟨k1, k2⟩, ⟨k3, k4⟩, k5⟩, ⟨k6, k7, k8⟩, k9, k10⟩ := HL.out.1 hh
      omega
    clear hg
    generalize A.l.o = lo at *
    generalize A.r.o = ro at *
    generalize A.p.o = po at *
    generalize A.h.o = ho at *
    generalize A.s.o = so at *
    subst e1 e2 e3 e4 e5
    go_enter Tryd.func85, Tryd.ntmps85
    go_wp2_with fail
    go_quiet (fail)
    go_wp2_with fail
    go_ret
    exact ⟨ret_bool HR.out.symm, by repeat (first | exact HW.out | apply bel_drewN)⟩
  have g3 : decide ((x : Int) ≤ b) = false := by simp; omega
  have q3 := hg
  clear hg
  by_cases hg : a = b
  · have g4 : (a == b) = true := by simp [hg]
    have HR : Hid (innB t ls x = false) := by
      show _ = _
      rw [Bool.eq_false_iff]
      intro hh
      obtain ⟨⟨⟨k1, k2⟩, ⟨k3, k4⟩, k5⟩, ⟨k6, k7, k8⟩, k9, k10⟩ := HL.out.1 hh
      exact k5 hg
    clear hg
    generalize A.l.o = lo at *
    generalize A.r.o = ro at *
    generalize A.p.o = po at *
    generalize A.h.o = ho at *
    generalize A.s.o = so at *
    subst e1 e2 e3 e4 e5
    go_enter Tryd.func85, Tryd.ntmps85
    go_wp2_with fail
    go_quiet (fail)
    go_wp2_with fail
    go_ret
    exact ⟨ret_bool HR.out.symm, by repeat (first | exact HW.out | apply bel_drewN)⟩
  have g4 : (a == b) = false := by simp [hg]
  have q4 := hg
  clear hg
  obtain ⟨la, rfl⟩ := Int.eq_ofNat_of_zero_le (show 0 ≤ a by omega)
  obtain ⟨ra, rfl⟩ := Int.eq_ofNat_of_zero_le (show 0 ≤ b by omega)
  have hla : la < x := by omega
  have hra : ra < x := by omega
  clear q0 q1 q2 q3
  have Q4 := Lib.hid q4
  clear q4
  simp only [Int.toNat_natCast] at HL
  obtain ⟨_, p1⟩ := HT2.out.p.get (i := la) (by omega)
  obtain ⟨_, p2⟩ := HT2.out.p.get (i := ra) (by omega)
  obtain ⟨_, s2⟩ := HT2.out.s.get (i := la) (by have := HL5.out; omega)
  obtain ⟨_, s3⟩ := HT2.out.s.get (i := ra) (by have := HL5.out; omega)
  have m1 := HLS.out la hla
  have m2 := HLS.out ra hra
  have y1 : (la : Int) < (t.par.length : Int) := by omega
  have y2 : (ra : Int) < (t.par.length : Int) := by omega
  have y3 : (la : Int) < (m : Int) := by omega
  have y4 : (ra : Int) < (m : Int) := by omega
  have y5 : (la : Int) < (t.siz.length : Int) := by omega
  have y6 : (ra : Int) < (t.siz.length : Int) := by omega
  have y7 : (0 : Int) ≤ (la : Int) := by omega
  have y8 : (0 : Int) ≤ (ra : Int) := by omega
  generalize gi t.par la = pa at *
  generalize gi t.par ra = pb at *
  generalize ls.getD la 0 = ma at *
  generalize ls.getD ra 0 = mb at *
  generalize gi t.siz x = sx at *
  generalize gi t.siz la = sa at *
  generalize gi t.siz ra = sb at *
  obtain ⟨sw, HSW⟩ : ∃ sw, Hid (IntKind.i64.wrap (sa + sb) = sw) := ⟨_, rfl⟩
  rw [HSW.out] at HL
  have hsw := HSW.out
  by_cases hg : pa ≠ x
  · have g5 : (pa != (x : Int)) = true := by simp [hg]
    have HR : Hid (innB t ls x = false) := by
      show _ = _
      rw [Bool.eq_false_iff]
      intro hh
      obtain ⟨⟨⟨k1, k2⟩, ⟨k3, k4⟩, k5⟩, ⟨k6, k7, k8⟩, k9, k10⟩ := HL.out.1 hh
      exact hg k6
    clear hg
    generalize A.l.o = lo at *
    generalize A.r.o = ro at *
    generalize A.p.o = po at *
    generalize A.h.o = ho at *
    generalize A.s.o = so at *
    subst e1 e2 e3 e4 e5
    go_enter Tryd.func85, Tryd.ntmps85
    go_wp2_with fail
    go_quiet (fail)
    go_wp2_with fail
    go_quiet (fail)
    go_wp2_with fail
    go_ret
    exact ⟨ret_bool HR.out.symm, by repeat (first | exact HW.out | apply bel_drewN)⟩
  have g5 : (pa != (x : Int)) = false := by simp; omega
  have Q5 := Lib.hid hg
  clear hg
  by_cases hg : pb ≠ x
  · have g6 : (pb != (x : Int)) = true := by simp [hg]
    have HR : Hid (innB t ls x = false) := by
      show _ = _
      rw [Bool.eq_false_iff]
      intro hh
      obtain ⟨⟨⟨k1, k2⟩, ⟨k3, k4⟩, k5⟩, ⟨k6, k7, k8⟩, k9, k10⟩ := HL.out.1 hh
      exact hg k7
    clear hg
    generalize A.l.o = lo at *
    generalize A.r.o = ro at *
    generalize A.p.o = po at *
    generalize A.h.o = ho at *
    generalize A.s.o = so at *
    subst e1 e2 e3 e4 e5
    go_enter Tryd.func85, Tryd.ntmps85
    go_wp2_with fail
    go_quiet (fail)
    go_wp2_with fail
    go_quiet (fail)
    go_wp2_with fail
    go_ret
    exact ⟨ret_bool HR.out.symm, by repeat (first | exact HW.out | apply bel_drewN)⟩
  have g6 : (pb != (x : Int)) = false := by simp; omega
  have Q6 := Lib.hid hg
  clear hg
  by_cases hg : mb ≤ ma
  · have g7 : decide (mb ≤ ma) = true := by simp [hg]
    have HR : Hid (innB t ls x = false) := by
      show _ = _
      rw [Bool.eq_false_iff]
      intro hh
      obtain ⟨⟨⟨k1, k2⟩, ⟨k3, k4⟩, k5⟩, ⟨k6, k7, k8⟩, k9, k10⟩ := HL.out.1 hh
      omega
    have g7x : decide ((mb : Int) ≤ (ma : Int)) = true := by simp; omega
    clear hg
    generalize A.l.o = lo at *
    generalize A.r.o = ro at *
    generalize A.p.o = po at *
    generalize A.h.o = ho at *
    generalize A.s.o = so at *
    subst e1 e2 e3 e4 e5
    go_enter Tryd.func85, Tryd.ntmps85
    go_wp2_with fail
    go_quiet (fail)
    go_wp2_with fail
    go_quiet (fail)
    go_wp2_with fail
    go_ret
    exact ⟨ret_bool HR.out.symm, by repeat (first | exact HW.out | apply bel_drewN)⟩
  have g7 : decide (mb ≤ ma) = false := by simp; omega
  have g7x : decide ((mb : Int) ≤ (ma : Int)) = false := by simp; omega
  have Q7 := Lib.hid hg
  clear hg
  by_cases hg : sx ≠ sw
  · have g8 : (sx != sw) = true := by simp [hg]
    have HR : Hid (innB t ls x = false) := by
      show _ = _
      rw [Bool.eq_false_iff]
      intro hh
      obtain ⟨⟨⟨k1, k2⟩, ⟨k3, k4⟩, k5⟩, ⟨k6, k7, k8⟩, k9, k10⟩ := HL.out.1 hh
      exact hg k9
    clear hg
    generalize A.l.o = lo at *
    generalize A.r.o = ro at *
    generalize A.p.o = po at *
    generalize A.h.o = ho at *
    generalize A.s.o = so at *
    subst e1 e2 e3 e4 e5
    go_enter Tryd.func85, Tryd.ntmps85
    go_wp2_with fail
    go_quiet (fail)
    go_wp2_with fail
    go_quiet (fail)
    go_wp2_with fail
    go_quiet (fail)
    go_wp2_with fail
    go_ret
    exact ⟨ret_bool HR.out.symm, by repeat (first | exact HW.out | apply bel_drewN)⟩
  have g8 : (sx != sw) = false := by simp; omega
  have Q8 := Lib.hid hg
  clear hg
  by_cases hg : (x : Int) = t.lv
  · have g9 : ((x : Int) == t.lv) = true := by simp [hg]
    have HR : Hid (innB t ls x = true) := by
      show _ = _
      refine HL.out.2 ?_
      have k4 := Q4.out
      have k5 := Q5.out
      have k6 := Q6.out
      have k7 := Q7.out
      have k8 := Q8.out
      exact ⟨⟨⟨by omega, by omega⟩, ⟨by omega, by omega⟩, by omega⟩, ⟨by omega, by omega, by omega⟩, by omega, .inl hg⟩
    clear hg
    generalize A.l.o = lo at *
    generalize A.r.o = ro at *
    generalize A.p.o = po at *
    generalize A.h.o = ho at *
    generalize A.s.o = so at *
    subst e1 e2 e3 e4 e5
    go_enter Tryd.func85, Tryd.ntmps85
    go_wp2_with fail
    go_quiet (fail)
    go_wp2_with fail
    go_quiet (fail)
    go_wp2_with fail
    go_quiet (fail)
    go_wp2_with fail
    go_quiet (fail)
    go_wp2_with fail
    go_ret
    exact ⟨ret_bool HR.out.symm, by repeat (first | exact HW.out | apply bel_drewN)⟩
  · have g9 : ((x : Int) == t.lv) = false := by simp [hg]
    obtain ⟨x', hx'⟩ : ∃ x', x = x' + 1 := ⟨x - 1, by omega⟩
    obtain ⟨_, h2⟩ := HT2.out.h.get (i := x') (by have := HL4.out; omega)
    have w1 : IntKind.i64.wrap ((x : Int) - 1) = (x' : Int) := by rw [Go.IntWalk.i64_in _ (by omega)]; omega
    have y10 : (0 : Int) ≤ (x' : Int) := by omega
    have y9 : (x' : Int) < (t.hgt.length : Int) := by omega
    have HR : Hid (innB t ls x = decide (gi t.hgt x' ≤ gi t.hgt x)) := by
      show _ = _
      rw [Bool.eq_iff_iff, HL.out]
      simp only [decide_eq_true_eq]
      have k4 := Q4.out
      have k5 := Q5.out
      have k6 := Q6.out
      have k7 := Q7.out
      have k8 := Q8.out
      constructor
      · rintro ⟨_, _, _, h | h⟩
        · exact absurd h hg
        · rw [hx', Nat.add_sub_cancel, ← hx'] at h; exact h
      · intro h
        exact ⟨⟨⟨by omega, by omega⟩, ⟨by omega, by omega⟩, by omega⟩, ⟨by omega, by omega, by omega⟩, by omega, .inr (by rw [hx', Nat.add_sub_cancel, ← hx']; exact h)⟩
    have HG := Lib.hid hg
    clear hg
    have HX' := Lib.hid hx'
    clear hx'
    generalize gi t.hgt x' = hq at *
    generalize gi t.hgt x = hp at *
    generalize A.l.o = lo at *
    generalize A.r.o = ro at *
    generalize A.p.o = po at *
    generalize A.h.o = ho at *
    generalize A.s.o = so at *
    subst e1 e2 e3 e4 e5
    go_enter Tryd.func85, Tryd.ntmps85
    go_wp2_with fail
    go_quiet (fail)
    go_wp2_with fail
    go_quiet (fail)
    go_wp2_with fail
    go_quiet (fail)
    go_wp2_with fail
    go_quiet (fail)
    go_wp2_with fail
    go_ret
    exact ⟨ret_bool HR.out.symm, by repeat (first | exact HW.out | apply bel_drewN)⟩

end Go.Proofs.YtenhbfbfkcjimaaDoor
