/- The statements ReconTells, ReconChecks: the walks. -/
import Derived.Test.YtenhbfbfkcjimaaZRlB
import Derived.Test.YtenhbfbfkcjimaaZOpenT
namespace Go.Proofs.Ytenhbfbfkcjimaa
set_option linter.unusedVariables false
set_option linter.unusedSimpArgs false
open Go.RowKit

set_option maxHeartbeats 4000000 in
set_option maxRecDepth 100000 in
theorem tells_law (w : World) (n : Int) (ao : Option Addr) (m cap b off : Nat) (l : List Ed) (he : ERow w ao m b off l) (hm : m ≤ 9223372036854775807) (hnil : ao = none → cap = 0) (hn64 : -9223372036854775808 ≤ n ∧ n ≤ 9223372036854775807) (node leaf th : Int) :
    Calls Try.prog 7 #[.int .i64 n, .slice ao m cap, .int .i64 node, .int .i64 leaf, .int .i64 th] w (RetB (.bool true) w) := by
  have HE := Lib.hid he
  have HNIL := Lib.hid hnil
  clear he hnil
  obtain ⟨bb, HBB⟩ : ∃ bb, Hid (decide (60 < n ∨ 200 < m) = bb) := ⟨_, rfl⟩
  go_enter Try.func7, Try.ntmps7
  go_upto_region 1 with fail
  go_cut [19] (fun s wx => s = .bool bb ∧ w = wx)
  case first =>
    have hbb := HBB.out
    by_cases h1 : 60 < n
    · have t1 : decide (60 < n) = true := decide_eq_true h1
      obtain rfl : bb = true := by rw [← hbb]; exact decide_eq_true (.inl h1)
      clear h1 hbb HBB
      go_wp2_with fail
      go_meet
      exact ⟨rfl, rfl⟩
    · have t1 : decide (60 < n) = false := decide_eq_false h1
      by_cases h3 : 200 < m
      · have t3 : decide (200 < m) = true := decide_eq_true h3
        have t3' : decide ((200 : Int) < (m : Int)) = true := by simp; omega
        obtain rfl : bb = true := by rw [← hbb]; exact decide_eq_true (.inr h3)
        clear h1 h3 hbb HBB
        go_wp2_with fail
        go_meet
        exact ⟨rfl, rfl⟩
      · have t3 : decide (200 < m) = false := decide_eq_false h3
        have t3' : decide ((200 : Int) < (m : Int)) = false := by simp; omega
        obtain rfl : bb = false := by rw [← hbb]; exact decide_eq_false (by omega)
        clear h1 h3 hbb HBB
        go_wp2_with fail
        go_meet
        exact ⟨rfl, rfl⟩
  case rest =>
    obtain ⟨rfl, rfl⟩ := hcut
    clear HBB
    cases bb with
    | true =>
      go_wp2_with fail
      with_reducible refine (rworks_ok w).mono ?_
      rintro e w2 ⟨rfl, hb⟩
      have HB := Lib.hid hb
      clear hb
      go_wp2_with fail
      go_ret
      exact ⟨rfl, HB.out⟩
    | false =>
      go_wp2_with fail
      obtain ⟨T, HT⟩ : ∃ T, Hid (blT n l = T) := ⟨_, rfl⟩
      have HLEN : Hid (T.left.length ≤ 1000000) := by have := blT_len n l; rw [HT.out] at this; show _ ≤ _; omega
      obtain ⟨er, HER⟩ : ∃ er, Hid (newErr n l = er) := ⟨_, rfl⟩
      with_reducible refine (rbuild2_post w n ao m cap b off l HE.out hm HNIL.out hn64).mono ?_
      rintro e w2 ⟨⟨A, rfl, hta⟩, hb⟩
      rw [HT.out] at hta
      rw [HT.out, HER.out]
      have HBX := Lib.hid (bel_alloc w2 (.cells #[.int .i64 T.lv, .slice A.l.o T.left.length A.l.c, .slice A.r.o T.right.length A.r.c, .slice A.p.o T.par.length A.p.c, .slice A.h.o T.hgt.length A.h.c, .slice A.s.o T.siz.length A.s.c] 27))
      have HX := Lib.hid (TBox.new w2 A T)
      have HTA := Lib.hid (hta.below HBX.out)
      have HB3 := Lib.hid (bel_then hb HBX.out)
      clear hta hb HER
      by_cases h0 : er = 0
      · have t0 : (er != 0) = false := by simp [h0]
        clear h0
        obtain ⟨c0, c1, c2, c3, c4, c5⟩ := six_cells HX.out
        go_wp2_with fail
        with_reducible refine (tells_ok _ A T HTA.out HLEN.out node leaf th).mono ?_
        rintro e w6 ⟨rfl, hb⟩
        have HB6 := Lib.hid (bel_then HB3.out hb)
        clear hb c0 c1 c2 c3 c4 c5 HBX
        go_wp2_with fail
        with_reducible refine (rworks_ok w6).mono ?_
        rintro e w7 ⟨rfl, hb⟩
        have HB7 := Lib.hid (bel_then HB6.out hb)
        clear hb
        go_wp2_with fail
        go_ret
        exact ⟨rfl, HB7.out⟩
      · have t0 : (er != 0) = true := by simp [h0]
        clear h0
        go_wp2_with fail
        with_reducible refine (rworks_ok _).mono ?_
        rintro e w7 ⟨rfl, hb⟩
        have HB7 := Lib.hid (bel_then HB3.out hb)
        clear hb
        go_wp2_with fail
        go_ret
        exact ⟨rfl, HB7.out⟩

set_option maxHeartbeats 4000000 in
set_option maxRecDepth 100000 in
theorem checks_law (w : World) (A : TA) (T : Tr) (ht : TreeAt w A T) (node leaf th : Int) :
    Calls Try.prog 8 #[A.agg T, .int .i64 node, .int .i64 leaf, .int .i64 th] w (RetB (.bool true) w) := by
  obtain ⟨bb, HBB⟩ : ∃ bb, Hid (decide (150 < T.left.length ∨ 150 < T.right.length ∨ 150 < T.par.length ∨ 150 < T.hgt.length ∨ 150 < T.siz.length) = bb) := ⟨_, rfl⟩
  have HBX := Lib.hid (bel_alloc w (.cells #[.int .i64 T.lv, .slice A.l.o T.left.length A.l.c, .slice A.r.o T.right.length A.r.c, .slice A.p.o T.par.length A.p.c, .slice A.h.o T.hgt.length A.h.c, .slice A.s.o T.siz.length A.s.c] 27))
  have HX := Lib.hid (TBox.new w A T)
  have HTA := Lib.hid (ht.below HBX.out)
  have hl1 := ht.ln.1
  have hl2 := ht.ln.2.1
  have hl3 := ht.ln.2.2.1
  have hl4 := ht.ln.2.2.2.1
  have hl5 := ht.ln.2.2.2.2
  clear ht
  obtain ⟨c0, c1, c2, c3, c4, c5⟩ := six_cells HX.out
  show Calls _ _ #[.agg #[.int .i64 T.lv, .slice A.l.o T.left.length A.l.c, .slice A.r.o T.right.length A.r.c, .slice A.p.o T.par.length A.p.c, .slice A.h.o T.hgt.length A.h.c, .slice A.s.o T.siz.length A.s.c], _, _, _] _ _
  go_enter Try.func8, Try.ntmps8
  go_upto_region 1 with fail
  generalize hw1 : w.alloc (.cells #[.int .i64 T.lv, .slice A.l.o T.left.length A.l.c, .slice A.r.o T.right.length A.r.c, .slice A.p.o T.par.length A.p.c, .slice A.h.o T.hgt.length A.h.c, .slice A.s.o T.siz.length A.s.c] 27) = w1 at *
  have HW1 := Lib.hid hw1
  clear hw1
  go_cut [36] (fun s wx => s = .bool bb ∧ w1 = wx)
  case first =>
    have hbb := HBB.out
    by_cases h0 : 150 < T.left.length
    · have t0 : decide (150 < T.left.length) = true := decide_eq_true h0
      have t0' : decide ((150 : Int) < (T.left.length : Int)) = true := by simp; omega
      obtain rfl : bb = true := by rw [← hbb]; exact decide_eq_true (by omega)
      clear h0 hbb HBB
      go_wp2_with fail
      go_meet
      exact ⟨rfl, rfl⟩
    · have t0 : decide (150 < T.left.length) = false := decide_eq_false h0
      have t0' : decide ((150 : Int) < (T.left.length : Int)) = false := by simp; omega
      by_cases h1 : 150 < T.right.length
      · have t1 : decide (150 < T.right.length) = true := decide_eq_true h1
        have t1' : decide ((150 : Int) < (T.right.length : Int)) = true := by simp; omega
        obtain rfl : bb = true := by rw [← hbb]; exact decide_eq_true (by omega)
        clear h0 h1 hbb HBB
        go_wp2_with fail
        go_meet
        exact ⟨rfl, rfl⟩
      · have t1 : decide (150 < T.right.length) = false := decide_eq_false h1
        have t1' : decide ((150 : Int) < (T.right.length : Int)) = false := by simp; omega
        by_cases h2 : 150 < T.par.length
        · have t2 : decide (150 < T.par.length) = true := decide_eq_true h2
          have t2' : decide ((150 : Int) < (T.par.length : Int)) = true := by simp; omega
          obtain rfl : bb = true := by rw [← hbb]; exact decide_eq_true (by omega)
          clear h0 h1 h2 hbb HBB
          go_wp2_with fail
          go_meet
          exact ⟨rfl, rfl⟩
        · have t2 : decide (150 < T.par.length) = false := decide_eq_false h2
          have t2' : decide ((150 : Int) < (T.par.length : Int)) = false := by simp; omega
          by_cases h3 : 150 < T.hgt.length
          · have t3 : decide (150 < T.hgt.length) = true := decide_eq_true h3
            have t3' : decide ((150 : Int) < (T.hgt.length : Int)) = true := by simp; omega
            obtain rfl : bb = true := by rw [← hbb]; exact decide_eq_true (by omega)
            clear h0 h1 h2 h3 hbb HBB
            go_wp2_with fail
            go_meet
            exact ⟨rfl, rfl⟩
          · have t3 : decide (150 < T.hgt.length) = false := decide_eq_false h3
            have t3' : decide ((150 : Int) < (T.hgt.length : Int)) = false := by simp; omega
            by_cases h4 : 150 < T.siz.length
            · have t4 : decide (150 < T.siz.length) = true := decide_eq_true h4
              have t4' : decide ((150 : Int) < (T.siz.length : Int)) = true := by simp; omega
              obtain rfl : bb = true := by rw [← hbb]; exact decide_eq_true (by omega)
              clear h0 h1 h2 h3 h4 hbb HBB
              go_wp2_with fail
              go_meet
              exact ⟨rfl, rfl⟩
            · have t4 : decide (150 < T.siz.length) = false := decide_eq_false h4
              have t4' : decide ((150 : Int) < (T.siz.length : Int)) = false := by simp; omega
              obtain rfl : bb = false := by rw [← hbb]; exact decide_eq_false (by omega)
              clear h0 h1 h2 h3 h4 hbb HBB
              go_wp2_with fail
              go_meet
              exact ⟨rfl, rfl⟩
  case rest =>
    obtain ⟨rfl, rfl⟩ := hcut
    cases bb with
    | true =>
      clear HBB c0 c1 c2 c3 c4 c5
      go_wp2_with fail
      with_reducible refine (rworks_ok w1).mono ?_
      rintro e w2 ⟨rfl, hb⟩
      have HB := Lib.hid (bel_then HBX.out hb)
      clear hb
      go_wp2_with fail
      go_ret
      exact ⟨rfl, HB.out⟩
    | false =>
      have hbb := of_decide_eq_false HBB.out
      have HLEN : Hid (T.left.length ≤ 1000000) := by show _ ≤ _; omega
      clear hbb HBB
      go_wp2_with fail
      with_reducible refine (tells_ok _ A T HTA.out HLEN.out node leaf th).mono ?_
      rintro e w6 ⟨rfl, hb⟩
      have HB6 := Lib.hid (bel_then HBX.out hb)
      clear hb c0 c1 c2 c3 c4 c5
      go_wp2_with fail
      with_reducible refine (rworks_ok w6).mono ?_
      rintro e w7 ⟨rfl, hb⟩
      have HB7 := Lib.hid (bel_then HB6.out hb)
      clear hb
      go_wp2_with fail
      go_ret
      exact ⟨rfl, HB7.out⟩

end Go.Proofs.Ytenhbfbfkcjimaa
