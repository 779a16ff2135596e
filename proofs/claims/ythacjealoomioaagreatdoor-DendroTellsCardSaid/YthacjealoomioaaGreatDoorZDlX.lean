/- DlX. -/
import Derived.Test.YthacjealoomioaaGreatDoorZDlT
import Derived.Test.YthacjealoomioaaGreatDoorZGs
import Derived.Test.YthacjealoomioaaGreatDoorZHe
import Derived.Test.YthacjealoomioaaGreatDoorZHg
/- The statements DendroTells, DendroChecks: the walks. (printed by dlx.py) -/
namespace Go.Proofs.YthacjealoomioaaGreatDoor
set_option linter.unusedVariables false
set_option linter.unusedSimpArgs false
open Go.RowKit

structure TrPostC (w : World) (n : Int) (l : List Ed) (e : Ending) (w' : World) : Prop where
  out : ∃ A : TA, e = .returned (.tuple #[A.agg (blT n l), .int .i64 (newErr n l)]) ∧ TreeAt w' A (blT n l) ∧ (blT n l).hgt.length ≤ A.h.c
  bel : Below w.heap.size w w'
theorem rbuild3_post (w : World) (n : Int) (ao : Option Addr) (m cap b off : Nat) (l : List Ed) (he : ERow w ao m b off l) (hm : m ≤ 9223372036854775807) (hnil : ao = none → cap = 0) (hn64 : -9223372036854775808 ≤ n ∧ n ≤ 9223372036854775807) :
    Calls Tryz.prog 14 #[.int .i64 n, .slice ao m cap] w (TrPostC w n l) := by
  refine (rbuild2c_ok w n ao m cap b off l he hm hnil hn64).mono fun e w' h => ?_
  by_cases h0 : newErr n l = 0
  · obtain ⟨A, rfl, hta, _, hc⟩ := h.ok h0
    exact ⟨⟨A, by rw [blT_ok h0, h0], by rw [blT_ok h0]; exact hta, by rw [blT_ok h0]; exact hc⟩, h.bel⟩
  · exact ⟨⟨zTA, by rw [blT_no h0]; exact h.bad h0, by rw [blT_no h0]; exact zTree w', by rw [blT_no h0]; exact Nat.le_refl 0⟩, h.bel⟩
theorem blT_h64 {n : Int} {l : List Ed} (hw : ∀ i, i < l.length → In64 (wI l i)) : Hgt64 (blT n l) := fun x hx => by
  by_cases h0 : newErr n l = 0
  · obtain ⟨k, rfl, hg⟩ := GOk.of_err h0
    rw [blT_ok h0, Int.toNat_natCast] at hx ⊢
    have tv := bdL_tv3 hg
    rw [tv.hl] at hx
    by_cases c : x < k
    · rw [(tv.leaf x c).2.2.1]; unfold In64; omega
    · have e := bdL_hgt hg (i := x - k) (by omega)
      rw [show k + (x - k) = x by omega] at e
      rw [e]
      refine hw _ ?_
      have hm : fe k l (x - k) ∈ forL k l := by
        unfold fe
        rw [List.getD_eq_getElem?_getD, List.getElem?_eq_getElem (show x - k < (forL k l).length by unfold FN at hx; omega)]
        exact List.getElem_mem _
      exact forL_mem hm
  · rw [blT_no h0] at hx
    exact absurd hx (Nat.not_lt_zero x)

set_option maxHeartbeats 4000000 in
set_option maxRecDepth 100000 in
theorem dtells_law (w : World) (hE : ErrV w) (hP : Pow10 w.heap.size w) (hQ : Tab64 w) (n : Int) (ao : Option Addr) (m cap b off : Nat) (l : List Ed) (he : ERow w ao m b off l) (hm : m ≤ 9223372036854775807) (hnil : ao = none → cap = 0) (hn64 : -9223372036854775808 ≤ n ∧ n ≤ 9223372036854775807) (hWL : ∀ i, i < l.length → In64 (wI l i)) (node leaf th : Int) (hk : -9223372036854775808 ≤ node ∧ node ≤ 9223372036854775807) :
    Calls Tryz.prog 3 #[.int .i64 n, .slice ao m cap, .int .i64 node, .int .i64 leaf, .int .i64 th] w (RetB (.bool true) w) := by
  have HER0 := Lib.hid hE
  have HPW := Lib.hid hP
  have HQW := Lib.hid hQ
  have HWL := Lib.hid hWL
  clear hE hP hQ hWL
  have HE := Lib.hid he
  have HNIL := Lib.hid hnil
  clear he hnil
  obtain ⟨bb, HBB⟩ : ∃ bb, Hid (decide (60 < n ∨ 200 < m) = bb) := ⟨_, rfl⟩
  go_enter Tryz.func3, Tryz.ntmps3
  go_upto_region 1 with fail
  go_cut [19] (fun s wx => s = .bool bb ∧ w = wx)
  case first =>
    have hbb := HBB.out
    by_cases h1 : 60 < n
    · have t1 : decide (60 < n) = true := decide_eq_true h1
      obtain rfl : bb = true := by rw [← hbb]; exact decide_eq_true (.inl h1)
      clear h1 hbb HBB
      go_wp2_with fail
      go_meet
      exact ⟨rfl, rfl⟩
    · have t1 : decide (60 < n) = false := decide_eq_false h1
      by_cases h3 : 200 < m
      · have t3 : decide (200 < m) = true := decide_eq_true h3
        have t3' : decide ((200 : Int) < (m : Int)) = true := by simp; omega
        obtain rfl : bb = true := by rw [← hbb]; exact decide_eq_true (.inr h3)
        clear h1 h3 hbb HBB
        go_wp2_with fail
        go_meet
        exact ⟨rfl, rfl⟩
      · have t3 : decide (200 < m) = false := decide_eq_false h3
        have t3' : decide ((200 : Int) < (m : Int)) = false := by simp; omega
        obtain rfl : bb = false := by rw [← hbb]; exact decide_eq_false (by omega)
        clear h1 h3 hbb HBB
        go_wp2_with fail
        go_meet
        exact ⟨rfl, rfl⟩
  case rest =>
    obtain ⟨rfl, rfl⟩ := hcut
    clear HBB
    cases bb with
    | true =>
      go_wp2_with fail
      with_reducible refine (dworks_ok w HER0.out HPW.out HQW.out).mono ?_
      rintro e w2 ⟨rfl, hb⟩
      have HB := Lib.hid hb
      clear hb
      go_wp2_with fail
      go_ret
      exact ⟨rfl, HB.out⟩
    | false =>
      go_wp2_with fail
      obtain ⟨T, HT⟩ : ∃ T, Hid (blT n l = T) := ⟨_, rfl⟩
      have HLEN : Hid (T.left.length ≤ 1000000) := by have := blT_len n l; rw [HT.out] at this; show _ ≤ _; omega
      obtain ⟨er, HER⟩ : ∃ er, Hid (newErr n l = er) := ⟨_, rfl⟩
      with_reducible refine (rbuild3_post w n ao m cap b off l HE.out hm HNIL.out hn64).mono ?_
      rintro e w2 ⟨⟨A, rfl, hta, hcp⟩, hb⟩
      rw [HT.out] at hta hcp
      have HCP := Lib.hid hcp
      have H64 : Hid (Hgt64 T) := by show Hgt64 T; rw [← HT.out]; exact blT_h64 HWL.out
      clear hcp
      rw [HT.out, HER.out]
      have HBX := Lib.hid (bel_alloc w2 (.cells #[.int .i64 T.lv, .slice A.l.o T.left.length A.l.c, .slice A.r.o T.right.length A.r.c, .slice A.p.o T.par.length A.p.c, .slice A.h.o T.hgt.length A.h.c, .slice A.s.o T.siz.length A.s.c] 27))
      have HX := Lib.hid (TBox.new w2 A T)
      have HTA := Lib.hid (hta.below HBX.out)
      have HB3 := Lib.hid (bel_then hb HBX.out)
      clear hta hb HER
      by_cases h0 : er = 0
      · have t0 : (er != 0) = false := by simp [h0]
        clear h0
        obtain ⟨c0, c1, c2, c3, c4, c5⟩ := six_cells HX.out
        go_wp2_with fail
        with_reducible refine (dtells_ok _ (HPW.out.up HB3.out) (HQW.out.below HB3.out) A T HTA.out HCP.out H64.out HLEN.out node leaf th hk).mono ?_
        rintro e w6 ⟨rfl, hb⟩
        have HB6 := Lib.hid (bel_then HB3.out hb)
        clear hb c0 c1 c2 c3 c4 c5 HBX
        go_wp2_with fail
        with_reducible refine (dworks_ok w6 (HER0.out.below HB6.out) (HPW.out.up HB6.out) (HQW.out.below HB6.out)).mono ?_
        rintro e w7 ⟨rfl, hb⟩
        have HB7 := Lib.hid (bel_then HB6.out hb)
        clear hb
        go_wp2_with fail
        go_ret
        exact ⟨rfl, HB7.out⟩
      · have t0 : (er != 0) = true := by simp [h0]
        clear h0
        go_wp2_with fail
        with_reducible refine (dworks_ok _ (HER0.out.below HB3.out) (HPW.out.up HB3.out) (HQW.out.below HB3.out)).mono ?_
        rintro e w7 ⟨rfl, hb⟩
        have HB7 := Lib.hid (bel_then HB3.out hb)
        clear hb
        go_wp2_with fail
        go_ret
        exact ⟨rfl, HB7.out⟩

set_option maxHeartbeats 4000000 in
set_option maxRecDepth 100000 in
theorem dchecks_law (w : World) (hE : ErrV w) (hP : Pow10 w.heap.size w) (hQ : Tab64 w) (A : TA) (T : Tr) (ht : TreeAt w A T) (hc : T.hgt.length ≤ A.h.c) (h64 : Hgt64 T) (node leaf th : Int) (hk : -9223372036854775808 ≤ node ∧ node ≤ 9223372036854775807) :
    Calls Tryz.prog 4 #[A.agg T, .int .i64 node, .int .i64 leaf, .int .i64 th] w (RetB (.bool true) w) := by
  have HER0 := Lib.hid hE
  have HPW := Lib.hid hP
  have HQW := Lib.hid hQ
  have HCP := Lib.hid hc
  have H64 := Lib.hid h64
  clear hE hP hQ hc h64
  obtain ⟨bb, HBB⟩ : ∃ bb, Hid (decide (150 < T.left.length ∨ 150 < T.right.length ∨ 150 < T.par.length ∨ 150 < T.hgt.length ∨ 150 < T.siz.length) = bb) := ⟨_, rfl⟩
  have HBX := Lib.hid (bel_alloc w (.cells #[.int .i64 T.lv, .slice A.l.o T.left.length A.l.c, .slice A.r.o T.right.length A.r.c, .slice A.p.o T.par.length A.p.c, .slice A.h.o T.hgt.length A.h.c, .slice A.s.o T.siz.length A.s.c] 27))
  have HX := Lib.hid (TBox.new w A T)
  have HTA := Lib.hid (ht.below HBX.out)
  have hl1 := ht.ln.1
  have hl2 := ht.ln.2.1
  have hl3 := ht.ln.2.2.1
  have hl4 := ht.ln.2.2.2.1
  have hl5 := ht.ln.2.2.2.2
  clear ht
  obtain ⟨c0, c1, c2, c3, c4, c5⟩ := six_cells HX.out
  show Calls _ _ #[.agg #[.int .i64 T.lv, .slice A.l.o T.left.length A.l.c, .slice A.r.o T.right.length A.r.c, .slice A.p.o T.par.length A.p.c, .slice A.h.o T.hgt.length A.h.c, .slice A.s.o T.siz.length A.s.c], _, _, _] _ _
  go_enter Tryz.func4, Tryz.ntmps4
  go_upto_region 1 with fail
  generalize hw1 : w.alloc (.cells #[.int .i64 T.lv, .slice A.l.o T.left.length A.l.c, .slice A.r.o T.right.length A.r.c, .slice A.p.o T.par.length A.p.c, .slice A.h.o T.hgt.length A.h.c, .slice A.s.o T.siz.length A.s.c] 27) = w1 at *
  have HW1 := Lib.hid hw1
  clear hw1
  go_cut [36] (fun s wx => s = .bool bb ∧ w1 = wx)
  case first =>
    have hbb := HBB.out
    by_cases h0 : 150 < T.left.length
    · have t0 : decide (150 < T.left.length) = true := decide_eq_true h0
      have t0' : decide ((150 : Int) < (T.left.length : Int)) = true := by simp; omega
      obtain rfl : bb = true := by rw [← hbb]; exact decide_eq_true (by omega)
      clear h0 hbb HBB
      go_wp2_with fail
      go_meet
      exact ⟨rfl, rfl⟩
    · have t0 : decide (150 < T.left.length) = false := decide_eq_false h0
      have t0' : decide ((150 : Int) < (T.left.length : Int)) = false := by simp; omega
      by_cases h1 : 150 < T.right.length
      · have t1 : decide (150 < T.right.length) = true := decide_eq_true h1
        have t1' : decide ((150 : Int) < (T.right.length : Int)) = true := by simp; omega
        obtain rfl : bb = true := by rw [← hbb]; exact decide_eq_true (by omega)
        clear h0 h1 hbb HBB
        go_wp2_with fail
        go_meet
        exact ⟨rfl, rfl⟩
      · have t1 : decide (150 < T.right.length) = false := decide_eq_false h1
        have t1' : decide ((150 : Int) < (T.right.length : Int)) = false := by simp; omega
        by_cases h2 : 150 < T.par.length
        · have t2 : decide (150 < T.par.length) = true := decide_eq_true h2
          have t2' : decide ((150 : Int) < (T.par.length : Int)) = true := by simp; omega
          obtain rfl : bb = true := by rw [← hbb]; exact decide_eq_true (by omega)
          clear h0 h1 h2 hbb HBB
          go_wp2_with fail
          go_meet
          exact ⟨rfl, rfl⟩
        · have t2 : decide (150 < T.par.length) = false := decide_eq_false h2
          have t2' : decide ((150 : Int) < (T.par.length : Int)) = false := by simp; omega
          by_cases h3 : 150 < T.hgt.length
          · have t3 : decide (150 < T.hgt.length) = true := decide_eq_true h3
            have t3' : decide ((150 : Int) < (T.hgt.length : Int)) = true := by simp; omega
            obtain rfl : bb = true := by rw [← hbb]; exact decide_eq_true (by omega)
            clear h0 h1 h2 h3 hbb HBB
            go_wp2_with fail
            go_meet
            exact ⟨rfl, rfl⟩
          · have t3 : decide (150 < T.hgt.length) = false := decide_eq_false h3
            have t3' : decide ((150 : Int) < (T.hgt.length : Int)) = false := by simp; omega
            by_cases h4 : 150 < T.siz.length
            · have t4 : decide (150 < T.siz.length) = true := decide_eq_true h4
              have t4' : decide ((150 : Int) < (T.siz.length : Int)) = true := by simp; omega
              obtain rfl : bb = true := by rw [← hbb]; exact decide_eq_true (by omega)
              clear h0 h1 h2 h3 h4 hbb HBB
              go_wp2_with fail
              go_meet
              exact ⟨rfl, rfl⟩
            · have t4 : decide (150 < T.siz.length) = false := decide_eq_false h4
              have t4' : decide ((150 : Int) < (T.siz.length : Int)) = false := by simp; omega
              obtain rfl : bb = false := by rw [← hbb]; exact decide_eq_false (by omega)
              clear h0 h1 h2 h3 h4 hbb HBB
              go_wp2_with fail
              go_meet
              exact ⟨rfl, rfl⟩
  case rest =>
    obtain ⟨rfl, rfl⟩ := hcut
    cases bb with
    | true =>
      clear HBB c0 c1 c2 c3 c4 c5
      go_wp2_with fail
      with_reducible refine (dworks_ok w1 (HER0.out.below HBX.out) (HPW.out.up HBX.out) (HQW.out.below HBX.out)).mono ?_
      rintro e w2 ⟨rfl, hb⟩
      have HB := Lib.hid (bel_then HBX.out hb)
      clear hb
      go_wp2_with fail
      go_ret
      exact ⟨rfl, HB.out⟩
    | false =>
      have hbb := of_decide_eq_false HBB.out
      have HLEN : Hid (T.left.length ≤ 1000000) := by show _ ≤ _; omega
      clear hbb HBB
      go_wp2_with fail
      with_reducible refine (dtells_ok _ (HPW.out.up HBX.out) (HQW.out.below HBX.out) A T HTA.out HCP.out H64.out HLEN.out node leaf th hk).mono ?_
      rintro e w6 ⟨rfl, hb⟩
      have HB6 := Lib.hid (bel_then HBX.out hb)
      clear hb c0 c1 c2 c3 c4 c5
      go_wp2_with fail
      with_reducible refine (dworks_ok w6 (HER0.out.below HB6.out) (HPW.out.up HB6.out) (HQW.out.below HB6.out)).mono ?_
      rintro e w7 ⟨rfl, hb⟩
      have HB7 := Lib.hid (bel_then HB6.out hb)
      clear hb
      go_wp2_with fail
      go_ret
      exact ⟨rfl, HB7.out⟩

end Go.Proofs.YthacjealoomioaaGreatDoor
