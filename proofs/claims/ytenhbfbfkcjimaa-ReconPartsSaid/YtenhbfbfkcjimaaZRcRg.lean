/- Reference of layer 18: below, Above. -/
import Derived.Test.YtenhbfbfkcjimaaZRcRf
import Derived.Test.YtenhbfbfkcjimaaZRcTp
namespace Go.Proofs.Ytenhbfbfkcjimaa
set_option linter.unusedVariables false
set_option linter.unusedSimpArgs false
open Go.RowKit

def msD (m : Nat) (s : Value) : Nat := if intOf s < 0 then 0 else m + 1 - (intOf s).toNat
theorem msD_nat (m y : Nat) : msD m (.int .i64 (y : Int)) = m + 1 - y := by
  show (if (y : Int) < 0 then 0 else m + 1 - (y : Int).toNat) = _
  rw [if_neg (by omega)]; omega
theorem msD_neg (m : Nat) : msD m (.int .i64 (-1)) = 0 := rfl

set_option maxHeartbeats 4000000 in
set_option maxRecDepth 100000 in
theorem rbelow_ok (w : World) (A : TA) (t : Tr) (ht : TreeAt w A t) {n : Nat} {ls : List Nat} (hv : TV t n t.par.length ls) (leaf x : Nat) (hx : leaf < t.par.length) :
    Calls Try.prog 69 #[A.agg t, .int .i64 leaf, .int .i64 x] w (RetB (.bool (bl t t.par.length x leaf)) w) := by
  have HB := Lib.hid (TBox.new w A t)
  have HW := Lib.hid (bel_alloc w (.cells #[.int .i64 t.lv, .slice A.l.o t.left.length A.l.c, .slice A.r.o t.right.length A.r.c, .slice A.p.o t.par.length A.p.c, .slice A.h.o t.hgt.length A.h.c, .slice A.s.o t.siz.length A.s.c] 27))
  have HT2 := Lib.hid (ht.below HW.out)
  have HV := Lib.hid hv
  have c3 := HB.out.c3
  have hm := ht.ln.2.2.1
  obtain ⟨e1, _⟩ := HT2.out.p.get hx
  obtain ⟨R, HR⟩ : ∃ R, Hid (bl t t.par.length x leaf = R) := ⟨_, rfl⟩
  rw [HR.out]
  clear ht hv
  show Calls _ _ #[.agg #[.int .i64 t.lv, .slice A.l.o t.left.length A.l.c, .slice A.r.o t.right.length A.r.c, .slice A.p.o t.par.length A.p.c, .slice A.h.o t.hgt.length A.h.c, .slice A.s.o t.siz.length A.s.c], _, _] _ _
  generalize A.p.o = po at *
  subst e1
  go_enter Try.func69, Try.ntmps69
  go_wp2_with fail
  go_loop [1] (fun s => (∃ y : Nat, s = .int .i64 y ∧ y < t.par.length ∧ bl t t.par.length x y = R) ∨ (s = .int .i64 (-1) ∧ R = false)) (fun s => msD t.par.length s)
  case atStart => exact .inl ⟨leaf, rfl, hx, HR.out⟩
  case round =>
    rcases hrel with ⟨y, rfl, hy, hb⟩ | ⟨rfl, hb⟩
    · have HBL := Lib.hid hb
      obtain ⟨_, p1⟩ := HT2.out.p.get hy
      have t1 : (y : Int) < (t.par.length : Int) := by omega
      have t2 : (0 : Int) ≤ (y : Int) := by omega
      have t2x : decide ((0 : Int) ≤ (y : Int)) = true := by simp
      clear hb
      by_cases hyx : y = x
      · subst hyx
        have t3 : ((y : Int) != (y : Int)) = false := by simp
        have t4 : ((y : Int) == (y : Int)) = true := by simp
        have HRR : Hid (true = R) := by
          show _ = _
          rw [← HBL.out]
          rcases HV.out.par hy with e | ⟨p, e, _⟩
          · rw [bl_root HV.out hy (by omega)]; simp
          · rw [bl_par HV.out hy e]; simp
        go_wp2_with fail
        go_ret
        exact ⟨ret_bool HRR.out, HW.out⟩
      · have t3 : ((y : Int) != (x : Int)) = true := by simp; omega
        rcases HV.out.par hy with e | ⟨p, e, h1, _, h3, _⟩
        · have HRR : Hid (R = false) := by
            show _ = _
            rw [← HBL.out, bl_root HV.out hy (by omega)]
            simp [hyx]
          rw [e] at p1
          clear e hyx
          go_wp2_with fail
          go_round
          case rel => exact .inr ⟨rfl, HRR.out⟩
          case measure => show msD t.par.length (.int .i64 (-1)) < msD t.par.length (.int .i64 (y : Int)); rw [msD_neg, msD_nat]; omega
        · have HRR : Hid (bl t t.par.length x p = R) := by
            show _ = _
            rw [← HBL.out, bl_par HV.out hy e]
            simp [hyx]
          rw [e] at p1
          clear e hyx
          go_wp2_with fail
          go_round
          case rel => exact .inl ⟨p, rfl, h3, HRR.out⟩
          case measure => show msD t.par.length (.int .i64 (p : Int)) < msD t.par.length (.int .i64 (y : Int)); rw [msD_nat, msD_nat]; omega
    · have HRR := Lib.hid hb
      have t4 : ((-1 : Int) == (x : Int)) = false := by simp
      clear hb
      go_wp2_with fail
      go_ret
      exact ⟨ret_bool HRR.out.symm, HW.out⟩

set_option maxHeartbeats 4000000 in
set_option maxRecDepth 100000 in
theorem rabove_ok (w : World) (A : TA) (t : Tr) (ht : TreeAt w A t) {n : Nat} {ls : List Nat} (hv : TV t n t.par.length ls) (v : Nat) (hx : v < t.par.length) (th : Int) :
    Calls Try.prog 70 #[A.agg t, .int .i64 v, .int .i64 th] w (RetB (.int .i64 ((ab t t.par.length th v : Nat) : Int)) w) := by
  have HB := Lib.hid (TBox.new w A t)
  have HW := Lib.hid (bel_alloc w (.cells #[.int .i64 t.lv, .slice A.l.o t.left.length A.l.c, .slice A.r.o t.right.length A.r.c, .slice A.p.o t.par.length A.p.c, .slice A.h.o t.hgt.length A.h.c, .slice A.s.o t.siz.length A.s.c] 27))
  have HT2 := Lib.hid (ht.below HW.out)
  have HV := Lib.hid hv
  have c3 := HB.out.c3
  have c4 := HB.out.c4
  have hm := ht.ln.2.2.1
  have hm4 := hv.two
  have hn4 := hv.hn
  obtain ⟨e1, _⟩ := HT2.out.p.get hx
  obtain ⟨e2, _⟩ := HT2.out.h.get (i := v) (by rw [hv.hl]; exact hx)
  obtain ⟨R, HR⟩ : ∃ R, Hid (ab t t.par.length th v = R) := ⟨_, rfl⟩
  rw [HR.out]
  clear ht hv
  show Calls _ _ #[.agg #[.int .i64 t.lv, .slice A.l.o t.left.length A.l.c, .slice A.r.o t.right.length A.r.c, .slice A.p.o t.par.length A.p.c, .slice A.h.o t.hgt.length A.h.c, .slice A.s.o t.siz.length A.s.c], _, _] _ _
  generalize A.p.o = po at *
  generalize A.h.o = ho at *
  subst e1 e2
  go_enter Try.func70, Try.ntmps70
  go_wp2_with fail
  generalize (w.alloc (.cells #[.int .i64 t.lv, .slice A.l.o t.left.length A.l.c, .slice A.r.o t.right.length A.r.c, .slice (some ⟨A.p.b, A.p.f, none⟩) t.par.length A.p.c, .slice (some ⟨A.h.b, A.h.f, none⟩) t.hgt.length A.h.c, .slice A.s.o t.siz.length A.s.c] 27)) = w2 at *
  go_loopw [7] (fun s wr => ∃ x : Nat, x < t.par.length ∧ s = .int .i64 x ∧ ab t t.par.length th x = R ∧ ∃ q, wr = w2.drewN q) (fun s _ => t.par.length - (intOf s).toNat)
  case atStart => exact ⟨v, hx, rfl, HR.out, 0, rfl⟩
  case round =>
    obtain ⟨x, hx, rfl, hab, q, rfl⟩ := hrel
    have HAB := Lib.hid hab
    clear hab
    obtain ⟨_, p1⟩ := HT2.out.p.get hx
    have t0 : (0 : Int) ≤ (x : Int) := by omega
    have t1 : (x : Int) < (t.par.length : Int) := by omega
    rcases HV.out.par hx with e | ⟨p, e, h1, h2, h3, _⟩
    · have HF : Hid (x = R) := by show _ = _; rw [← HAB.out, ab_root HV.out hx (by omega)]
      rw [e] at p1
      clear e
      go_wp2_with fail
      go_quiet (fail)
      go_wp2_with fail
      go_ret
      exact ⟨by rw [← HF.out]; rfl, by repeat (first | exact HW.out | apply bel_drewN)⟩
    · have HA := Lib.hid (ab_par HV.out (th := th) hx e)
      rw [e] at p1
      clear e
      obtain ⟨_, l4⟩ := HT2.out.h.get (i := p) (by rw [HV.out.hl]; exact h3)
      have t3 : (0 : Int) ≤ (p : Int) := by omega
      have t4 : (p : Int) < (t.hgt.length : Int) := by rw [HV.out.hl]; omega
      generalize gi t.hgt p = hp at *
      by_cases hc : hp ≤ th
      · have HAB2 : Hid (ab t t.par.length th p = R) := by show _ = _; rw [← HAB.out, HA.out, if_pos hc]
        have t5 : decide (hp ≤ th) = true := by simp [hc]
        clear hc
        go_wp2_with fail
        go_quiet (fail)
        go_wp2_with fail
        go_roundw
        case rel => exact ⟨p, h3, rfl, HAB2.out, _, rfl⟩
        case measure => simp only [intOf, Int.toNat_natCast]; omega
      · have HF : Hid (x = R) := by show _ = _; rw [← HAB.out, HA.out, if_neg hc]
        have t5 : decide (hp ≤ th) = false := by simp; omega
        clear hc
        go_wp2_with fail
        go_quiet (fail)
        go_wp2_with fail
        go_ret
        exact ⟨by rw [← HF.out]; rfl, by repeat (first | exact HW.out | apply bel_drewN)⟩

end Go.Proofs.Ytenhbfbfkcjimaa
