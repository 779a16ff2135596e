/- DmC. -/
import Derived.Test.YthacjealoomioaaGreatDoorZGr
import Derived.Test.YthacjealoomioaaGreatDoorZGq
/- dendro.Cophenetic of the program. -/
namespace Go.Proofs.YthacjealoomioaaGreatDoor
set_option linter.unusedVariables false
set_option linter.unusedSimpArgs false
open Go.RowKit

/-- The height at which two leaves meet. -/
def copO (t : Tr) (a b : Int) : Option Int := match lsL t with
  | none => none
  | some _ => if a < 0 ∨ t.lv ≤ a ∨ b < 0 ∨ t.lv ≤ b then none else if a = b then some (-9223372036854775808) else (comV t t.par.length a.toNat b.toNat).map fun c => gi t.hgt c
def copR (o : Option Int) : Value := .tuple #[.int .i64 (o.getD 0), .bool o.isSome]

theorem comR_none : comR none = .tuple #[.int .i64 0, .bool false] := rfl
theorem comR_some (c : Nat) : comR (some c) = .tuple #[.int .i64 (c : Int), .bool true] := rfl

set_option maxHeartbeats 4000000 in
set_option maxRecDepth 100000 in
theorem coph_ok (w : World) (hT64 : Tab64 w) (A : TA) (t : Tr) (ht : TreeAt w A t) (a b : Int) : Calls Tryz.prog 28 #[A.agg t, .int .i64 a, .int .i64 b] w (RetB (copR (copO t a b)) w) := by
  have HT := Lib.hid ht
  have HB := Lib.hid (TBox.new w A t)
  have HW := Lib.hid (bel_alloc w (.cells #[.int .i64 t.lv, .slice A.l.o t.left.length A.l.c, .slice A.r.o t.right.length A.r.c, .slice A.p.o t.par.length A.p.c, .slice A.h.o t.hgt.length A.h.c, .slice A.s.o t.siz.length A.s.c] 27))
  have HT2 := Lib.hid (ht.below HW.out)
  have HQ := Lib.hid (hT64.below HW.out)
  have c0 := HB.out.c0
  have c1 := HB.out.c1
  have c2 := HB.out.c2
  have c3 := HB.out.c3
  have c4 := HB.out.c4
  have c5 := HB.out.c5
  clear ht hT64
  show Calls _ _ #[.agg #[.int .i64 t.lv, .slice A.l.o t.left.length A.l.c, .slice A.r.o t.right.length A.r.c, .slice A.p.o t.par.length A.p.c, .slice A.h.o t.hgt.length A.h.c, .slice A.s.o t.siz.length A.s.c], _, _] _ _
  go_enter Tryz.func28, Tryz.ntmps28
  go_wp2_with fail
  with_reducible refine (check_ok _ A t HT2.out).mono ?_
  rintro e w2 ⟨rfl, hb⟩
  have HW2 := Lib.hid (bel_then HW.out hb)
  have HB2 := Lib.hid (Blk.below HB.out hb (Blk.lt HB.out))
  have HT3 := Lib.hid (HT2.out.below hb)
  have HQ2 := Lib.hid (HQ.out.below hb)
  clear hb c0 c1 c2 c3 c4 c5
  cases hl : lsL t with
  | none =>
    have HR : Hid (copO t a b = none) := by show _ = _; unfold copO; rw [hl]
    rw [chk_none hl]
    clear hl
    go_wp2_with fail
    go_ret2
    exact ⟨by rw [HR.out]; rfl, HW2.out⟩
  | some ls =>
    obtain ⟨n, hn, hv⟩ := tv_of hl
    obtain ⟨m, hm⟩ : ∃ m, t.par.length = m := ⟨_, rfl⟩
    have HR : Hid (copO t a b = if a < 0 ∨ (n : Int) ≤ a ∨ b < 0 ∨ (n : Int) ≤ b then none else if a = b then some (-9223372036854775808) else (comV t m a.toNat b.toNat).map fun c => gi t.hgt c) := by show _ = _; unfold copO; rw [hl]; simp only; rw [hn, hm]
    rw [hm] at hv
    have HV := Lib.hid hv
    have HM := Lib.hid hm
    rw [chk_some hl]
    have c0 := TBox.c0 HB2.out
    have c3 := TBox.c3 HB2.out
    rw [hn] at c0
    rw [hm] at c3
    clear hl hn hm hv
    by_cases a1 : a < 0
    · have t1 : decide (a < 0) = true := decide_eq_true a1
      have HR2 : Hid (copO t a b = none) := by show _ = _; rw [HR.out, if_pos (by omega)]
      clear a1
      go_wp2_with fail
      go_ret2
      exact ⟨by rw [HR2.out]; rfl, HW2.out⟩
    have t1 : decide (a < 0) = false := decide_eq_false a1
    by_cases a2 : (n : Int) ≤ a
    · have t2 : decide ((n : Int) ≤ a) = true := decide_eq_true a2
      have HR2 : Hid (copO t a b = none) := by show _ = _; rw [HR.out, if_pos (by omega)]
      clear a1 a2
      go_wp2_with fail
      go_ret2
      exact ⟨by rw [HR2.out]; rfl, HW2.out⟩
    have t2 : decide ((n : Int) ≤ a) = false := decide_eq_false a2
    by_cases a3 : b < 0
    · have t3 : decide (b < 0) = true := decide_eq_true a3
      have HR2 : Hid (copO t a b = none) := by show _ = _; rw [HR.out, if_pos (by omega)]
      clear a1 a2 a3
      go_wp2_with fail
      go_ret2
      exact ⟨by rw [HR2.out]; rfl, HW2.out⟩
    have t3 : decide (b < 0) = false := decide_eq_false a3
    by_cases a4 : (n : Int) ≤ b
    · have t4 : decide ((n : Int) ≤ b) = true := decide_eq_true a4
      have HR2 : Hid (copO t a b = none) := by show _ = _; rw [HR.out, if_pos (by omega)]
      clear a1 a2 a3 a4
      go_wp2_with fail
      go_ret2
      exact ⟨by rw [HR2.out]; rfl, HW2.out⟩
    have t4 : decide ((n : Int) ≤ b) = false := decide_eq_false a4
    obtain ⟨x, rfl⟩ := Int.eq_ofNat_of_zero_le (show 0 ≤ a by omega)
    obtain ⟨y, rfl⟩ := Int.eq_ofNat_of_zero_le (show 0 ≤ b by omega)
    have HX : Hid (x < n) := by show _ < _; omega
    have HY : Hid (y < n) := by show _ < _; omega
    have t2n : decide (n ≤ x) = false := decide_eq_false (by omega)
    have t4n : decide (n ≤ y) = false := decide_eq_false (by omega)
    by_cases e : x = y
    · subst e
      have t5 : ((x : Int) == (x : Int)) = true := by simp
      have HR2 : Hid (copO t x x = some (-9223372036854775808)) := by show _ = _; rw [HR.out, if_neg (by omega), if_pos rfl]
      clear a1 a2 a3 a4
      go_wp2_with fail
      go_ret2
      exact ⟨by rw [HR2.out]; rfl, HW2.out⟩
    · have t5 : ((x : Int) == (y : Int)) = false := by simp; omega
      have HNE := Lib.hid e
      have HR2 : Hid (copO t x y = (comV t m x y).map fun c => gi t.hgt c) := by show _ = _; rw [HR.out, if_neg (by omega), if_neg (by omega), Int.toNat_natCast, Int.toNat_natCast]
      clear a1 a2 a3 a4 e
      go_wp2_with fail
      have hp := HT3.out.p
      rw [HM.out] at hp
      with_reducible refine (lnew_ok w2 t n m ls HV.out A.p.o A.p.c A.p.b A.p.f hp).mono ?_
      rintro e w3 ⟨⟨B, rfl, hB, hB0⟩, hb⟩
      have HW3 := Lib.hid (bel_then HW2.out hb)
      have HB3 := Lib.hid (Blk.below HB2.out hb (Blk.lt HB2.out))
      have HT4 := Lib.hid (HT3.out.below hb)
      have HQ3 := Lib.hid (HQ2.out.below hb)
      have HOB := Lib.hid hB
      clear hB hB0 hb c0 c3 hp t1 t2 t3 t4 t2n t4n
      go_wp2_with fail
      with_reducible refine (common_ok w3 B t n m ls HV.out HOB.out HQ3.out x y (by have := HX.out; have := HV.out.nm; omega) (by have := HY.out; have := HV.out.nm; omega)).mono ?_
      rintro e w4 ⟨rfl, hb⟩
      have HW4 := Lib.hid (bel_then HW3.out hb)
      have HB4 := Lib.hid (Blk.below HB3.out hb (Blk.lt HB3.out))
      have HT5 := Lib.hid (HT4.out.below hb)
      clear hb
      cases hc : comV t m x y with
      | none =>
        rw [comR_none]
        have HR3 : Hid (copO t x y = none) := by show _ = _; rw [HR2.out, hc]; rfl
        clear hc
        go_wp2_with fail
        go_ret2
        exact ⟨by rw [HR3.out]; rfl, HW4.out⟩
      | some c =>
        rw [comR_some]
        have HR3 : Hid (copO t x y = some (gi t.hgt c)) := by show _ = _; rw [HR2.out, hc]; rfl
        have hci := comV_inner HV.out HX.out HY.out HNE.out hc
        have c4 := TBox.c4 HB4.out
        obtain ⟨e4, d4⟩ := HT5.out.h.get (i := c) (by rw [HV.out.hl]; exact hci.2)
        rw [e4, HV.out.hl] at c4
        have g1 : (c : Int) < (m : Int) := by omega
        have g2 : (0 : Int) ≤ (c : Int) := by omega
        clear hc e4 hci
        go_wp2_with fail
        go_ret2
        exact ⟨by rw [HR3.out]; rfl, HW4.out⟩

end Go.Proofs.YthacjealoomioaaGreatDoor
