/- The walk of LinkageLabels. -/
import Derived.Test.YthhddjknjnjbhaaLkX
import Derived.Test.YthhddjknjnjbhaaLkRb
import Derived.Test.YthhddjknjnjbhaaFlat
namespace Go.Proofs.Ythhddjknjnjbhaa
set_option linter.unusedVariables false
set_option linter.unusedSimpArgs false
open Go.RowKit

theorem i64_of {x : Int} (h : (Lit.int .i64 x).wf = true) : I64 x := by
  simp [Lit.wf, IntKind.min, IntKind.max, IntKind.signed, IntKind.bits] at h
  exact ⟨by omega, by omega⟩

theorem mrow_of {w : World} {ao : Option Addr} {len cap b off : Nat} {F : Nat → Nat → Int} (h : FRow w ao len cap b off [.i64, .i64, .i64, .i64, .i64] F) :
    ∃ ms : List Mg, MRow w ao len b off ms ∧ ∀ x ∈ ms, I64 x.A ∧ I64 x.B ∧ I64 x.S := by
  refine ⟨(List.range len).map fun i => ⟨F i 0, F i 1, F i 2, F i 3, F i 4⟩, ⟨by simp, h.adr, fun i hi => ?_⟩, fun x hx => ?_⟩
  · have e : ((List.range len).map fun i => (⟨F i 0, F i 1, F i 2, F i 3, F i 4⟩ : Mg)).getD i mg0 = ⟨F i 0, F i 1, F i 2, F i 3, F i 4⟩ := by
      rw [List.getD_eq_getElem?_getD, List.getElem?_map, List.getElem?_range hi]; rfl
    rw [e]
    have c0 := h.cell i hi 0 .i64 rfl
    have c1 := h.cell i hi 1 .i64 rfl
    have c2 := h.cell i hi 2 .i64 rfl
    have c3 := h.cell i hi 3 .i64 rfl
    have c4 := h.cell i hi 4 .i64 rfl
    simp only [List.length_cons, List.length_nil, Nat.reduceAdd] at c0 c1 c2 c3 c4
    exact ⟨c0, c1, c2, c3, c4⟩
  · obtain ⟨i, hi, rfl⟩ := List.mem_map.1 hx
    have hi' := List.mem_range.1 hi
    exact ⟨i64_of (h.wf i hi' 0 .i64 rfl), i64_of (h.wf i hi' 1 .i64 rfl), i64_of (h.wf i hi' 4 .i64 rfl)⟩

set_option maxHeartbeats 2000000 in
theorem lab_law (n : Int) (ao : Option Addr) (len cap b off : Nat) (F : Nat → Nat → Int) (count : Int) (w : World) (hf : FRow w ao len cap b off [.i64, .i64, .i64, .i64, .i64] F) (hn : I64 n) (hc : I64 count) :
    Calls Try.prog 6 #[.int .i64 n, .slice ao len cap, .int .i64 count] w (RetB (.bool true) w) := by
  have hcap := hf.cap
  have hnil := hf.nil
  obtain ⟨ms, hm, hS⟩ := mrow_of hf
  have HM := Lib.hid hm
  have HS := Lib.hid hS
  have HNIL := Lib.hid hnil
  have HN := Lib.hid hn
  have HC := Lib.hid hc
  clear hf hm hS hnil
  unfold I64 at hn hc
  by_cases h60 : 60 < len
  · have t1 : decide (60 < (len : Int)) = true := by simp; omega
    go_enter Try.func6, Try.ntmps6
    go_wp2_with fail
    with_reducible refine (works_ok w).mono ?_
    rintro e w1 ⟨rfl, hb1⟩
    have HB1 := Lib.hid hb1
    clear hb1
    go_wp2_with fail
    go_ret
    exact ⟨rfl, HB1.out⟩
  · have t1 : decide (60 < (len : Int)) = false := by simp; omega
    have hl : len ≤ 60 := by omega
    clear h60
    go_enter Try.func6, Try.ntmps6
    go_wp2_with fail
    with_reducible refine (labels_ok w n ao len cap b off ms HM.out (by omega) hcap HNIL.out HS.out count HN.out HC.out).mono ?_
    rintro e w1 ⟨⟨lo, ll, lc, lb, rfl, hlr, hl1⟩, hb1⟩
    have HL1 := Lib.hid hlr
    have HB1 := Lib.hid hb1
    clear hlr hb1
    go_wp2_with fail
    with_reducible refine (rlabels_ok w1 n ao len cap b off ms (HM.out.below HB1.out) (by omega) HS.out count HN.out HC.out).mono ?_
    rintro e w2 ⟨⟨ro, rl, rc, rb, rfl, hrr, hl2⟩, hb2⟩
    have hll : ll = rl := by rw [← HL1.out.size, ← hrr.size]
    subst hll
    have HL2 := Lib.hid (HL1.out.below hb2)
    have HR2 := Lib.hid hrr
    have HB2 := Lib.hid (bel_then HB1.out hb2)
    clear hrr hb2 HL1 HB1
    have t2 : ((labL n ms count).1 == (labL n ms count).1) = true := by simp
    generalize (labL n ms count).1 = er at *
    generalize (labL n ms count).2 = labs at *
    go_wp2_with fail
    with_reducible refine (alike_ok w2 lo ro ll lc rc lb rb 0 0 labs HL2.out HR2.out hl1).mono ?_
    rintro e w3 ⟨rfl, hb3⟩
    have HB3 := Lib.hid (bel_then HB2.out hb3)
    clear hb3
    go_wp2_with fail
    with_reducible refine (works_ok w3).mono ?_
    rintro e w4 ⟨rfl, hb4⟩
    have HB4 := Lib.hid (bel_then HB3.out hb4)
    clear hb4
    go_wp2_with fail
    go_ret
    exact ⟨rfl, HB4.out⟩

end Go.Proofs.Ythhddjknjnjbhaa
