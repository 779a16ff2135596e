/- The walk of LinkageChecks. -/
import Derived.Test.YthhddjknjnjbhaaLkRun
namespace Go.Proofs.Ythhddjknjnjbhaa
set_option linter.unusedVariables false
set_option linter.unusedSimpArgs false
open Go.RowKit

theorem run_copy64 (w : World) (ao : Option Addr) (len cap b off : Nat) (z : List Int) (h : InRow .i64 w ao len b off z) (hc : ao = none → cap = 0) (hl : len ≤ 1000000) :
    ∃ v' w', (Builtin.append_ #[22, 22] 22 #[.slice (some ⟨w.heap.size, 0, none⟩) 0 0, .slice ao len cap]).run Try.prog (w.alloc (.cells #[] 2)) = .ok v' w' ∧ w'.ownsRow 0 2 1 v' len (z.map fun x => .int .i64 x) ∧ Below w.heap.size w w' := by
  have hal : Below w.heap.size w (w.alloc (.cells #[] 2)) := (Below.refl _ _).alloc (Nat.le_refl _) _
  cases ao with
  | none =>
    have h0 : len = 0 := by
      apply Classical.byContradiction
      intro hh
      have := h.adr (by omega)
      cases this
    subst h0
    have hz : z = [] := List.eq_nil_of_length_eq_zero h.size
    subst hz
    rw [hc rfl]
    exact ⟨_, _, run_append_nil _ _ _ _ _ _ _ Try.underlying22 Try.infoI64 _ 0 0 (Nat.le_refl _), owns_empty w 2, hal⟩
  | some ad =>
    obtain ⟨v', w', h1, h2, h3, h4⟩ := run_appendB (P := Try.prog) (w.alloc (.cells #[] 2)) 22 22 _ _ _ _ Try.underlying22 Try.infoI64 rfl (by decide) (.slice (some ⟨w.heap.size, 0, none⟩) 0 0) 0 [] (owns_empty w 2) ad len cap (z.map fun x => .int .i64 x) (by simp [h.size]) (by
      intro j u hu
      have hj : j < len := by have := (List.getElem?_eq_some_iff.1 hu).1; simp [h.size] at this; exact this
      have e := h.adr (by omega)
      cases e
      have hadd : (⟨b, off, none⟩ : Addr).add j = ⟨b, off + j, none⟩ := add_n _ _ _
      rw [hadd, (h.below hal).cell j hj]
      rw [List.getElem?_map] at hu
      rw [List.getD_eq_getElem?_getD]
      cases hz : z[j]? with
      | none => rw [hz] at hu; cases hu
      | some x => rw [hz] at hu; simpa using hu) (one_ints z) (by unfold maxLen; omega) (by omega)
    exact ⟨v', w', h1, by simpa using h2, hal.trans (grown_blk h3 (Nat.le_refl _) hal.size)⟩

set_option maxHeartbeats 2000000 in
theorem run_badc (w : World) (n : Int) (m : Int) (hm : m = 1 ∨ m = 2 ∨ m = 3) (ao : Option Addr) (len cap b off : Nat) (d : List Int) (hz : InRow .i64 w ao len b off d) (hlen : len ≤ 9223372036854775807) (hc : checkL n d ≠ 0) :
    Calls Try.prog 9 #[.int .i64 n, .slice ao len cap, .int .i64 m] w (RetB (.tuple #[.slice none 0 0, .int .i64 (checkL n d)]) w) := by
  obtain ⟨fk, hfk⟩ := mixF_func hm
  have HF := Lib.hid hfk
  have HZ := Lib.hid hz
  have t1 : (checkL n d != 0) = true := by simp [hc]
  clear hm hfk hz hc
  refine (callsIn_wide (n := 3)).1 ?_
  refine callsIn_of_wp_marks Try.func9 rfl trivial ?_ rfl
  simp only [Try.ntmps9, List.size_toArray, List.length_cons, List.length_nil, Nat.reduceAdd, Nat.reduceSub, Array.replicate_succ, Array.replicate_zero, List.push_toArray, List.append_toArray, List.nil_append, List.cons_append]
  gi_wp2_with fail
  refine ⟨trivial, CallsIn.mono (callsIn_wide.2 (mixer_ok m w)) ?_⟩
  rintro e w1 ⟨rfl, rfl⟩
  rw [HF.out]
  have q1 : (binOp BinOp.eql 48 (Value.func (Fn.func fk) #[] #[]) Value.nilFunc).run Try.prog w = .ok (.bool false) w := rfl
  gi_wp2_with fail
  clear q1
  refine ⟨trivial, CallsIn.mono (callsIn_wide.2 (check_any w n ao len cap b off d HZ.out hlen)) ?_⟩
  rintro e w1 ⟨rfl, hb1⟩
  have HB1 := Lib.hid hb1
  clear hb1
  generalize checkL n d = er at *
  gi_wp2_with fail
  exact ⟨_, results_tmp2 rfl _ _ _, rfl, HB1.out⟩

theorem checkL_small {n : Int} {d : List Int} (h : checkL n d = 0) : ∃ k : Nat, n = k ∧ k ≤ 128 ∧ d.length = k * k := by
  obtain ⟨k, rfl⟩ := checkL_nat h
  have := DOk.of_check h
  exact ⟨k, rfl, this.hn, this.len⟩

set_option maxHeartbeats 4000000 in
set_option maxRecDepth 100000 in
theorem checks_law (n : Int) (hn : I64 n) (ao : Option Addr) (len cap b off : Nat) (d : List Int) (m : Int) (hm64 : I64 m) (w : World) (hz : InRow .i64 w ao len b off d) (hlen : len ≤ 9223372036854775807) (hc : ao = none → cap = 0) :
    Calls Try.prog 3 #[.int .i64 n, .slice ao len cap, .int .i64 m] w (RetB (.bool true) w) := by
  have HZ := Lib.hid hz
  have HC := Lib.hid hc
  unfold I64 at hn hm64
  clear hz hc
  by_cases h4 : 400 < len
  · have t1 : decide (400 < (len : Int)) = true := by simp; omega
    go_enter Try.func3, Try.ntmps3
    go_wp2_with fail
    with_reducible refine (works_ok w).mono ?_
    rintro e w1 ⟨rfl, hb1⟩
    have HB1 := Lib.hid hb1
    clear hb1
    go_wp2_with fail
    go_ret
    exact ⟨rfl, HB1.out⟩
  · have t1 : decide (400 < (len : Int)) = false := by simp; omega
    have hl4 : len ≤ 400 := by omega
    clear h4
    obtain ⟨v1, w1, hr1, ho1, hb1⟩ := run_copy64 w ao len cap b off d HZ.out HC.out (by omega)
    have hsz : d.length = len := HZ.out.size
    rw [← hsz] at ho1
    obtain ⟨qo, qc, qb, rfl, hq, _⟩ := owns_row ho1
    rw [hsz] at hq hr1
    have HQ1 := Lib.hid hq
    have HR1 := Lib.hid hr1
    have HB1 := Lib.hid hb1
    have hqc : qo = none → qc = 0 := fun e => by
      rcases ho1.2 with ⟨e1, _⟩ | ⟨g, cp, cur, e1, _⟩
      · injection e1
      · injection e1 with e2; rw [e] at e2; cases e2
    have HQC := Lib.hid hqc
    clear hr1 ho1 hb1 hq hsz hqc
    go_enter Try.func3, Try.ntmps3
    go_wp2_with (at_builtin; with_reducible refine wpList_runU (.slice (some ⟨w.heap.size, 0, none⟩) 0 0) (.slice ao len cap) (.slice qo len qc) w1 rfl rfl HR1.out ?_)
    intro _
    go_wp2_with fail
    clear HR1
    with_reducible refine (check_any w1 n qo len qc qb 0 d HQ1.out hlen).mono ?_
    rintro e w2 ⟨rfl, hb2⟩
    have HQ2 := Lib.hid (HQ1.out.below hb2)
    have HB2 := Lib.hid (HB1.out.trans (hb2.mono HB1.out.size))
    clear hb2 HQ1 HB1
    by_cases hck : checkL n d = 0
    · obtain ⟨k, rfl, hk, hdl⟩ := checkL_small hck
      have HCK := Lib.hid hck
      have HLK : Hid (len = k * k) := by rw [← HZ.out.size]; exact hdl
      rw [hck]
      clear hck hdl
      by_cases hm : m = 1 ∨ m = 2 ∨ m = 3
      · have tm1 : decide (m < 1) = false := by simp; omega
        have tm2 : decide (3 < m) = false := by simp; omega
        have HM := Lib.hid hm
        clear hm
        by_cases h14 : 14 < k
        · have t14 : decide (14 < (k : Int)) = true := by simp; omega
          go_wp2_with fail
          with_reducible refine (run_ok w2 k m HM.out qo len qc qb 0 d HQ2.out HQC.out HLK.out hk HCK.out).mono ?_
          rintro e w3 ⟨v3, rfl, ho3, hb3, _⟩
          obtain ⟨o3, c3, b3, rfl, hr3⟩ := row_merges ho3
          have HQ3 := Lib.hid (HQ2.out.below hb3)
          have HB3 := Lib.hid (HB2.out.trans (hb3.mono HB2.out.size))
          have HMR := Lib.hid hr3
          clear ho3 hb3 hr3
          obtain ⟨k1, HK1⟩ : ∃ k1, Hid (k - 1 = k1) := ⟨_, rfl⟩
          have hk1 : k - 1 ≤ 128 := by omega
          rw [HK1.out] at HMR hk1 ⊢
          go_wp2_with fail
          with_reducible refine (rcheck_any w3 (k : Int) ao len cap b off d (HZ.out.below HB3.out) hlen).mono ?_
          rintro e w4 ⟨rfl, hb4⟩
          have HQ4 := Lib.hid (HQ3.out.below hb4)
          have HB4 := Lib.hid (HB3.out.trans (hb4.mono HB3.out.size))
          have HB34 := Lib.hid hb4
          clear hb4
          have HMR4 := Lib.hid ((HMR.out.below HB34.out))
          rw [HCK.out]
          go_wp2_with fail
          with_reducible refine (equal_ok w4 qo ao len qc cap qb b 0 off d HQ4.out (HZ.out.below HB4.out) (by omega)).mono ?_
          rintro e w5 ⟨rfl, hb5⟩
          have HB5 := Lib.hid (HB4.out.trans (hb5.mono HB4.out.size))
          have HMR5 := Lib.hid (HMR4.out.below hb5)
          clear hb5
          go_wp2_with fail
          with_reducible refine (works_ok w5).mono ?_
          rintro e w9 ⟨rfl, hb9⟩
          have HB9 := Lib.hid (HB5.out.trans (hb9.mono HB5.out.size))
          clear hb9
          go_wp2_with fail
          go_ret
          exact ⟨rfl, HB9.out⟩
        · have t14 : decide (14 < (k : Int)) = false := by simp; omega
          go_wp2_with fail
          with_reducible refine (run_ok w2 k m HM.out qo len qc qb 0 d HQ2.out HQC.out HLK.out hk HCK.out).mono ?_
          rintro e w3 ⟨v3, rfl, ho3, hb3, _⟩
          obtain ⟨o3, c3, b3, rfl, hr3⟩ := row_merges ho3
          have HQ3 := Lib.hid (HQ2.out.below hb3)
          have HB3 := Lib.hid (HB2.out.trans (hb3.mono HB2.out.size))
          have HMR := Lib.hid hr3
          clear ho3 hb3 hr3
          obtain ⟨k1, HK1⟩ : ∃ k1, Hid (k - 1 = k1) := ⟨_, rfl⟩
          have hk1 : k - 1 ≤ 128 := by omega
          rw [HK1.out] at HMR hk1 ⊢
          go_wp2_with fail
          with_reducible refine (rcheck_any w3 (k : Int) ao len cap b off d (HZ.out.below HB3.out) hlen).mono ?_
          rintro e w4 ⟨rfl, hb4⟩
          have HQ4 := Lib.hid (HQ3.out.below hb4)
          have HB4 := Lib.hid (HB3.out.trans (hb4.mono HB3.out.size))
          have HB34 := Lib.hid hb4
          clear hb4
          have HMR4 := Lib.hid ((HMR.out.below HB34.out))
          rw [HCK.out]
          go_wp2_with fail
          with_reducible refine (equal_ok w4 qo ao len qc cap qb b 0 off d HQ4.out (HZ.out.below HB4.out) (by omega)).mono ?_
          rintro e w5 ⟨rfl, hb5⟩
          have HB5 := Lib.hid (HB4.out.trans (hb5.mono HB4.out.size))
          have HMR5 := Lib.hid (HMR4.out.below hb5)
          clear hb5
          go_wp2_with fail
          with_reducible refine (rrun_ok w5 k m HM.out ao len cap b off d (HZ.out.below HB5.out) (by omega) HCK.out).mono ?_
          rintro e w6 ⟨v6, rfl, ho6, hb6⟩
          obtain ⟨o6, c6, b6, rfl, hr6⟩ := row_merges ho6
          have HMR6 := Lib.hid (HMR5.out.below hb6)
          have HS6 := Lib.hid hr6
          have HB6 := Lib.hid (HB5.out.trans (hb6.mono HB5.out.size))
          rw [HK1.out] at HS6 ⊢
          clear ho6 hb6 hr6
          go_wp2_with fail
          with_reducible refine (same_ok w6 o3 o6 k1 c3 c6 b3 b6 0 0 (runL k m d) HMR6.out HS6.out (by omega)).mono ?_
          rintro e w7 ⟨rfl, hb7⟩
          have HB7 := Lib.hid (HB6.out.trans (hb7.mono HB6.out.size))
          clear hb7
          go_wp2_with fail
          with_reducible refine (works_ok w7).mono ?_
          rintro e w9 ⟨rfl, hb9⟩
          have HB9 := Lib.hid (HB7.out.trans (hb9.mono HB7.out.size))
          clear hb9
          go_wp2_with fail
          go_ret
          exact ⟨rfl, HB9.out⟩
      · have HM := Lib.hid hm
        clear hm
        by_cases h14 : 14 < k
        · have t14 : decide (14 < (k : Int)) = true := by simp; omega
          by_cases hm1 : m < 1
          · have tm1 : decide (m < 1) = true := by simp [hm1]
            go_wp2_with fail
            with_reducible refine (run_badm w2 k m HM.out qo len qc).mono ?_
            rintro e w3 ⟨rfl, hb3⟩
            have HQ3 := Lib.hid (HQ2.out.below hb3)
            have HB3 := Lib.hid (HB2.out.trans (hb3.mono HB2.out.size))
            clear hb3
            go_wp2_with fail
            with_reducible refine (rcheck_any w3 (k : Int) ao len cap b off d (HZ.out.below HB3.out) hlen).mono ?_
            rintro e w4 ⟨rfl, hb4⟩
            have HQ4 := Lib.hid (HQ3.out.below hb4)
            have HB4 := Lib.hid (HB3.out.trans (hb4.mono HB3.out.size))
            clear hb4
            rw [HCK.out]
            go_wp2_with fail
            with_reducible refine (equal_ok w4 qo ao len qc cap qb b 0 off d HQ4.out (HZ.out.below HB4.out) (by omega)).mono ?_
            rintro e w5 ⟨rfl, hb5⟩
            have HB5 := Lib.hid (HB4.out.trans (hb5.mono HB4.out.size))
            clear hb5
            go_wp2_with fail
            with_reducible refine (works_ok w5).mono ?_
            rintro e w9 ⟨rfl, hb9⟩
            have HB9 := Lib.hid (HB5.out.trans (hb9.mono HB5.out.size))
            clear hb9
            go_wp2_with fail
            go_ret
            exact ⟨rfl, HB9.out⟩
          · have tm1 : decide (m < 1) = false := by simp; omega
            have tm2 : decide (3 < m) = true := by have := HM.out; simp; omega
            go_wp2_with fail
            with_reducible refine (run_badm w2 k m HM.out qo len qc).mono ?_
            rintro e w3 ⟨rfl, hb3⟩
            have HQ3 := Lib.hid (HQ2.out.below hb3)
            have HB3 := Lib.hid (HB2.out.trans (hb3.mono HB2.out.size))
            clear hb3
            go_wp2_with fail
            with_reducible refine (rcheck_any w3 (k : Int) ao len cap b off d (HZ.out.below HB3.out) hlen).mono ?_
            rintro e w4 ⟨rfl, hb4⟩
            have HQ4 := Lib.hid (HQ3.out.below hb4)
            have HB4 := Lib.hid (HB3.out.trans (hb4.mono HB3.out.size))
            clear hb4
            rw [HCK.out]
            go_wp2_with fail
            with_reducible refine (equal_ok w4 qo ao len qc cap qb b 0 off d HQ4.out (HZ.out.below HB4.out) (by omega)).mono ?_
            rintro e w5 ⟨rfl, hb5⟩
            have HB5 := Lib.hid (HB4.out.trans (hb5.mono HB4.out.size))
            clear hb5
            go_wp2_with fail
            with_reducible refine (works_ok w5).mono ?_
            rintro e w9 ⟨rfl, hb9⟩
            have HB9 := Lib.hid (HB5.out.trans (hb9.mono HB5.out.size))
            clear hb9
            go_wp2_with fail
            go_ret
            exact ⟨rfl, HB9.out⟩
        · have t14 : decide (14 < (k : Int)) = false := by simp; omega
          go_wp2_with fail
          with_reducible refine (run_badm w2 k m HM.out qo len qc).mono ?_
          rintro e w3 ⟨rfl, hb3⟩
          have HQ3 := Lib.hid (HQ2.out.below hb3)
          have HB3 := Lib.hid (HB2.out.trans (hb3.mono HB2.out.size))
          clear hb3
          go_wp2_with fail
          with_reducible refine (rcheck_any w3 (k : Int) ao len cap b off d (HZ.out.below HB3.out) hlen).mono ?_
          rintro e w4 ⟨rfl, hb4⟩
          have HQ4 := Lib.hid (HQ3.out.below hb4)
          have HB4 := Lib.hid (HB3.out.trans (hb4.mono HB3.out.size))
          clear hb4
          rw [HCK.out]
          go_wp2_with fail
          with_reducible refine (equal_ok w4 qo ao len qc cap qb b 0 off d HQ4.out (HZ.out.below HB4.out) (by omega)).mono ?_
          rintro e w5 ⟨rfl, hb5⟩
          have HB5 := Lib.hid (HB4.out.trans (hb5.mono HB4.out.size))
          clear hb5
          go_wp2_with fail
          with_reducible refine (rrun_badm w5 k m HM.out ao len cap).mono ?_
          rintro e w6 ⟨rfl, hb6⟩
          have HB6 := Lib.hid (HB5.out.trans (hb6.mono HB5.out.size))
          clear hb6
          go_wp2_with fail
          with_reducible refine (same_ok w6 none none 0 0 0 0 0 0 0 [] ⟨rfl, by omega, by omega⟩ ⟨rfl, by omega, by omega⟩ (by omega)).mono ?_
          rintro e w7 ⟨rfl, hb7⟩
          have HB7 := Lib.hid (HB6.out.trans (hb7.mono HB6.out.size))
          clear hb7
          go_wp2_with fail
          with_reducible refine (works_ok w7).mono ?_
          rintro e w9 ⟨rfl, hb9⟩
          have HB9 := Lib.hid (HB7.out.trans (hb9.mono HB7.out.size))
          clear hb9
          go_wp2_with fail
          go_ret
          exact ⟨rfl, HB9.out⟩
    · have HC0 := Lib.hid hck
      have tc : (checkL n d != 0) = true := by simp [hck]
      clear hck
      by_cases hm : m = 1 ∨ m = 2 ∨ m = 3
      · have tm1 : decide (m < 1) = false := by simp; omega
        have tm2 : decide (3 < m) = false := by simp; omega
        have HM := Lib.hid hm
        clear hm
        go_wp2_with fail
        with_reducible refine (run_badc w2 n m HM.out qo len qc qb 0 d HQ2.out hlen HC0.out).mono ?_
        rintro e w3 ⟨rfl, hb3⟩
        have HQ3 := Lib.hid (HQ2.out.below hb3)
        have HB3 := Lib.hid (HB2.out.trans (hb3.mono HB2.out.size))
        clear hb3
        go_wp2_with fail
        with_reducible refine (rcheck_any w3 n ao len cap b off d (HZ.out.below HB3.out) hlen).mono ?_
        rintro e w4 ⟨rfl, hb4⟩
        have HQ4 := Lib.hid (HQ3.out.below hb4)
        have HB4 := Lib.hid (HB3.out.trans (hb4.mono HB3.out.size))
        clear hb4
        generalize checkL n d = er at *
        have tz : (er != er) = false := by simp
        have ty : (er == er) = true := by simp
        have tx : (er == 0) = false := by simp [HC0.out]
        go_wp2_with fail
        with_reducible refine (equal_ok w4 qo ao len qc cap qb b 0 off d HQ4.out (HZ.out.below HB4.out) (by omega)).mono ?_
        rintro e w5 ⟨rfl, hb5⟩
        have HB5 := Lib.hid (HB4.out.trans (hb5.mono HB4.out.size))
        clear hb5
        go_wp2_with fail
        with_reducible refine (works_ok w5).mono ?_
        rintro e w9 ⟨rfl, hb9⟩
        have HB9 := Lib.hid (HB5.out.trans (hb9.mono HB5.out.size))
        clear hb9
        go_wp2_with fail
        go_ret
        exact ⟨rfl, HB9.out⟩
      · have HM := Lib.hid hm
        clear hm
        by_cases hm1 : m < 1
        · have tm1 : decide (m < 1) = true := by simp [hm1]
          go_wp2_with fail
          with_reducible refine (run_badm w2 n m HM.out qo len qc).mono ?_
          rintro e w3 ⟨rfl, hb3⟩
          have HQ3 := Lib.hid (HQ2.out.below hb3)
          have HB3 := Lib.hid (HB2.out.trans (hb3.mono HB2.out.size))
          clear hb3
          go_wp2_with fail
          with_reducible refine (rcheck_any w3 n ao len cap b off d (HZ.out.below HB3.out) hlen).mono ?_
          rintro e w4 ⟨rfl, hb4⟩
          have HQ4 := Lib.hid (HQ3.out.below hb4)
          have HB4 := Lib.hid (HB3.out.trans (hb4.mono HB3.out.size))
          clear hb4
          generalize checkL n d = er at *
          have tz : (er != er) = false := by simp
          go_wp2_with fail
          with_reducible refine (equal_ok w4 qo ao len qc cap qb b 0 off d HQ4.out (HZ.out.below HB4.out) (by omega)).mono ?_
          rintro e w5 ⟨rfl, hb5⟩
          have HB5 := Lib.hid (HB4.out.trans (hb5.mono HB4.out.size))
          clear hb5
          go_wp2_with fail
          with_reducible refine (works_ok w5).mono ?_
          rintro e w9 ⟨rfl, hb9⟩
          have HB9 := Lib.hid (HB5.out.trans (hb9.mono HB5.out.size))
          clear hb9
          go_wp2_with fail
          go_ret
          exact ⟨rfl, HB9.out⟩
        · have tm1 : decide (m < 1) = false := by simp; omega
          have tm2 : decide (3 < m) = true := by have := HM.out; simp; omega
          go_wp2_with fail
          with_reducible refine (run_badm w2 n m HM.out qo len qc).mono ?_
          rintro e w3 ⟨rfl, hb3⟩
          have HQ3 := Lib.hid (HQ2.out.below hb3)
          have HB3 := Lib.hid (HB2.out.trans (hb3.mono HB2.out.size))
          clear hb3
          go_wp2_with fail
          with_reducible refine (rcheck_any w3 n ao len cap b off d (HZ.out.below HB3.out) hlen).mono ?_
          rintro e w4 ⟨rfl, hb4⟩
          have HQ4 := Lib.hid (HQ3.out.below hb4)
          have HB4 := Lib.hid (HB3.out.trans (hb4.mono HB3.out.size))
          clear hb4
          generalize checkL n d = er at *
          have tz : (er != er) = false := by simp
          go_wp2_with fail
          with_reducible refine (equal_ok w4 qo ao len qc cap qb b 0 off d HQ4.out (HZ.out.below HB4.out) (by omega)).mono ?_
          rintro e w5 ⟨rfl, hb5⟩
          have HB5 := Lib.hid (HB4.out.trans (hb5.mono HB4.out.size))
          clear hb5
          go_wp2_with fail
          with_reducible refine (works_ok w5).mono ?_
          rintro e w9 ⟨rfl, hb9⟩
          have HB9 := Lib.hid (HB5.out.trans (hb9.mono HB5.out.size))
          clear hb9
          go_wp2_with fail
          go_ret
          exact ⟨rfl, HB9.out⟩

end Go.Proofs.Ythhddjknjnjbhaa
