/- The statements ReconBuilds, ReconTells, ReconChecks: the walks. -/
import Derived.Test.YtenhbfbfkcjimaaZRlT
import Derived.Test.YtenhbfbfkcjimaaZRlS
import Derived.Test.YtenhbfbfkcjimaaZRfB
import Derived.Test.YtenhbfbfkcjimaaZMgA
import Derived.Outline
namespace Go.Proofs.Ytenhbfbfkcjimaa
set_option linter.unusedVariables false
set_option linter.unusedSimpArgs false
open Go.RowKit

def zTr : Tr := ⟨0, [], [], [], [], []⟩
def zTA : TA := ⟨⟨none, 0, 0, 0⟩, ⟨none, 0, 0, 0⟩, ⟨none, 0, 0, 0⟩, ⟨none, 0, 0, 0⟩, ⟨none, 0, 0, 0⟩⟩
theorem zTree (w : World) : TreeAt w zTA zTr := by
  have h : InRow .i64 w none 0 0 0 [] := ⟨rfl, fun h => absurd h (by decide), fun i hi => absurd hi (by simp)⟩
  exact ⟨h, h, h, h, h, by unfold zTr; simp, by unfold zTr; simp⟩
/-- The tree that is built, or an empty one. -/
def blT (n : Int) (l : List Ed) : Tr := if newErr n l = 0 then bdL n.toNat l else zTr
theorem blT_ok {n : Int} {l : List Ed} (h : newErr n l = 0) : blT n l = bdL n.toNat l := if_pos h
theorem blT_no {n : Int} {l : List Ed} (h : newErr n l ≠ 0) : blT n l = zTr := if_neg h

structure TrPost (w : World) (n : Int) (l : List Ed) (e : Ending) (w' : World) : Prop where
  out : ∃ A : TA, e = .returned (.tuple #[A.agg (blT n l), .int .i64 (newErr n l)]) ∧ TreeAt w' A (blT n l)
  bel : Below w.heap.size w w'

theorem TrPost.zero {w w' : World} {n : Int} {l : List Ed} {e : Ending} (h : newErr n l ≠ 0) (he : e = .returned (.tuple #[.agg #[.int .i64 0, .slice none 0 0, .slice none 0 0, .slice none 0 0, .slice none 0 0, .slice none 0 0], .int .i64 (newErr n l)])) (hb : Below w.heap.size w w') : TrPost w n l e w' :=
  ⟨⟨zTA, by rw [blT_no h]; exact he, by rw [blT_no h]; exact zTree w'⟩, hb⟩

theorem rbuild_post (w : World) (n : Int) (ao : Option Addr) (m cap b off : Nat) (l : List Ed) (he : ERow w ao m b off l) (hm : m ≤ 9223372036854775807) (hnil : ao = none → cap = 0) (hn64 : -9223372036854775808 ≤ n ∧ n ≤ 9223372036854775807) :
    Calls Try.prog 12 #[.int .i64 n, .slice ao m cap] w (TrPost w n l) := by
  refine (rbuild_ok w n ao m cap b off l he hm hnil hn64).mono fun e w' h => ?_
  by_cases h0 : newErr n l = 0
  · obtain ⟨B, rfl, hbt, _⟩ := h.ok h0
    obtain ⟨k, rfl, hg⟩ := GOk.of_err h0
    have htv := bdL_tv3 hg
    have h4 := htv.hn
    have h2 := htv.two
    have e1 : (bdL k l).lv = (k : Int) := htv.lv
    have e2 := htv.pl
    refine ⟨⟨B.ta (bdL k l).par.length, ?_, ?_⟩, h.bel⟩
    · rw [blT_ok h0, h0, Int.toNat_natCast]
      show _ = Ending.returned (.tuple #[.agg #[.int .i64 (bdL k l).lv, .slice (some ⟨B.lb, 0, none⟩) (bdL k l).left.length (bdL k l).par.length, .slice (some ⟨B.rb, 0, none⟩) (bdL k l).right.length (bdL k l).par.length, .slice (some ⟨B.pb, 0, none⟩) (bdL k l).par.length (bdL k l).par.length, .slice (some ⟨B.hb, 0, none⟩) (bdL k l).hgt.length (bdL k l).par.length, .slice (some ⟨B.sb, 0, none⟩) (bdL k l).siz.length (bdL k l).par.length], .int .i64 0])
      rw [e1, htv.ll, htv.rl, htv.hl, htv.sl, htv.pl]
    · rw [blT_ok h0, Int.toNat_natCast] at *
      exact hbt.tree (by rw [e1]; omega) (by omega)
  · exact TrPost.zero h0 (h.bad h0) h.bel

theorem rbuild2_post (w : World) (n : Int) (ao : Option Addr) (m cap b off : Nat) (l : List Ed) (he : ERow w ao m b off l) (hm : m ≤ 9223372036854775807) (hnil : ao = none → cap = 0) (hn64 : -9223372036854775808 ≤ n ∧ n ≤ 9223372036854775807) :
    Calls Try.prog 13 #[.int .i64 n, .slice ao m cap] w (TrPost w n l) := by
  refine (rbuild2_ok w n ao m cap b off l he hm hnil hn64).mono fun e w' h => ?_
  by_cases h0 : newErr n l = 0
  · obtain ⟨A, rfl, hta, _⟩ := h.ok h0
    exact ⟨⟨A, by rw [blT_ok h0, h0], by rw [blT_ok h0]; exact hta⟩, h.bel⟩
  · exact TrPost.zero h0 (h.bad h0) h.bel

theorem blT_len (n : Int) (l : List Ed) : (blT n l).left.length ≤ 8192 := by
  by_cases h0 : newErr n l = 0
  · obtain ⟨k, rfl, hg⟩ := GOk.of_err h0
    have htv := bdL_tv3 hg
    have h4 := htv.hn
    have h2 := htv.two
    rw [blT_ok h0, Int.toNat_natCast, htv.ll]; omega
  · rw [blT_no h0]; unfold zTr; simp

/-- Edges that came in. -/
theorem erow_of {w : World} {ao : Option Addr} {len cap b off : Nat} {F : Nat → Nat → Int} (h : FRow w ao len cap b off [.i64, .i64, .i64] F) : ERow w ao len b off ((List.range len).map fun i => ⟨F i 0, F i 1, F i 2⟩) := by
  refine ⟨by simp, h.adr, fun i hi => ?_⟩
  have e : EA ((List.range len).map fun i => (⟨F i 0, F i 1, F i 2⟩ : Ed)) i = ⟨F i 0, F i 1, F i 2⟩ := by
    unfold EA
    rw [List.getD_eq_getElem?_getD, List.getElem?_map, List.getElem?_range hi]; rfl
  rw [e]
  exact ⟨h.cell i hi 0 .i64 rfl, h.cell i hi 1 .i64 rfl, h.cell i hi 2 .i64 rfl⟩

set_option maxHeartbeats 4000000 in
set_option maxRecDepth 100000 in
theorem builds_law (w : World) (n : Int) (ao : Option Addr) (m cap b off : Nat) (l : List Ed) (he : ERow w ao m b off l) (hm : m ≤ 9223372036854775807) (hnil : ao = none → cap = 0) (hn64 : -9223372036854775808 ≤ n ∧ n ≤ 9223372036854775807) :
    Calls Try.prog 3 #[.int .i64 n, .slice ao m cap] w (RetB (.bool true) w) := by
  have HE := Lib.hid he
  have HNIL := Lib.hid hnil
  clear he hnil
  obtain ⟨bb, HBB⟩ : ∃ bb, Hid (decide ((60 < n ∧ n ≤ 4096) ∨ 200 < m) = bb) := ⟨_, rfl⟩
  go_enter Try.func3, Try.ntmps3
  go_upto_region 1 with fail
  go_cut [19] (fun s wx => s = .bool bb ∧ w = wx)
  case first =>
    have hbb := HBB.out
    by_cases h1 : 60 < n
    · have t1 : decide (60 < n) = true := decide_eq_true h1
      by_cases h2 : n ≤ 4096
      · have t2 : decide (n ≤ 4096) = true := decide_eq_true h2
        obtain rfl : bb = true := by rw [← hbb]; exact decide_eq_true (.inl ⟨h1, h2⟩)
        clear h1 h2 hbb HBB
        go_wp2_with fail
        go_meet
        exact ⟨rfl, rfl⟩
      · have t2 : decide (n ≤ 4096) = false := decide_eq_false h2
        by_cases h3 : 200 < m
        · have t3 : decide (200 < m) = true := decide_eq_true h3
          have t3' : decide ((200 : Int) < (m : Int)) = true := by simp; omega
          obtain rfl : bb = true := by rw [← hbb]; exact decide_eq_true (.inr h3)
          clear h1 h2 h3 hbb HBB
          go_wp2_with fail
          go_meet
          exact ⟨rfl, rfl⟩
        · have t3 : decide (200 < m) = false := decide_eq_false h3
          have t3' : decide ((200 : Int) < (m : Int)) = false := by simp; omega
          obtain rfl : bb = false := by rw [← hbb]; exact decide_eq_false (by omega)
          clear h1 h2 h3 hbb HBB
          go_wp2_with fail
          go_meet
          exact ⟨rfl, rfl⟩
    · have t1 : decide (60 < n) = false := decide_eq_false h1
      by_cases h3 : 200 < m
      · have t3 : decide (200 < m) = true := decide_eq_true h3
        have t3' : decide ((200 : Int) < (m : Int)) = true := by simp; omega
        obtain rfl : bb = true := by rw [← hbb]; exact decide_eq_true (.inr h3)
        clear h1 h3 hbb HBB
        go_wp2_with fail
        go_meet
        exact ⟨rfl, rfl⟩
      · have t3 : decide (200 < m) = false := decide_eq_false h3
        have t3' : decide ((200 : Int) < (m : Int)) = false := by simp; omega
        obtain rfl : bb = false := by rw [← hbb]; exact decide_eq_false (by omega)
        clear h1 h3 hbb HBB
        go_wp2_with fail
        go_meet
        exact ⟨rfl, rfl⟩
  case rest =>
    obtain ⟨rfl, rfl⟩ := hcut
    clear HBB
    cases bb with
    | true =>
      go_wp2_with fail
      with_reducible refine (rworks_ok w).mono ?_
      rintro e w2 ⟨rfl, hb⟩
      have HB := Lib.hid hb
      clear hb
      go_wp2_with fail
      go_ret
      exact ⟨rfl, HB.out⟩
    | false =>
      go_wp2_with fail
      obtain ⟨T, HT⟩ : ∃ T, Hid (blT n l = T) := ⟨_, rfl⟩
      obtain ⟨er, HER⟩ : ∃ er, Hid (newErr n l = er) := ⟨_, rfl⟩
      have te : (er == er) = true := by simp
      with_reducible refine (rbuild_post w n ao m cap b off l HE.out hm HNIL.out hn64).mono ?_
      rintro e w2 ⟨⟨A, rfl, hta⟩, hb⟩
      rw [HT.out] at hta
      rw [HT.out, HER.out]
      have HBX := Lib.hid (bel_alloc w2 (.cells #[.int .i64 T.lv, .slice A.l.o T.left.length A.l.c, .slice A.r.o T.right.length A.r.c, .slice A.p.o T.par.length A.p.c, .slice A.h.o T.hgt.length A.h.c, .slice A.s.o T.siz.length A.s.c] 27))
      have HX := Lib.hid (TBox.new w2 A T)
      have HTA := Lib.hid (hta.below HBX.out)
      have HB3 := Lib.hid (bel_then hb HBX.out)
      clear hta hb
      go_wp2_with fail
      clear HBX
      generalize w2.heap.size = x1 at *
      generalize w2.alloc (.cells #[.int .i64 T.lv, .slice A.l.o T.left.length A.l.c, .slice A.r.o T.right.length A.r.c, .slice A.p.o T.par.length A.p.c, .slice A.h.o T.hgt.length A.h.c, .slice A.s.o T.siz.length A.s.c] 27) = w3 at *
      with_reducible refine (rbuild2_post w3 n ao m cap b off l (HE.out.below HB3.out) hm HNIL.out hn64).mono ?_
      rintro e w4 ⟨⟨A', rfl, hta⟩, hb⟩
      rw [HT.out] at hta
      rw [HT.out, HER.out]
      have HBX := Lib.hid (bel_alloc w4 (.cells #[.int .i64 T.lv, .slice A'.l.o T.left.length A'.l.c, .slice A'.r.o T.right.length A'.r.c, .slice A'.p.o T.par.length A'.p.c, .slice A'.h.o T.hgt.length A'.h.c, .slice A'.s.o T.siz.length A'.s.c] 27))
      have HY := Lib.hid (TBox.new w4 A' T)
      have HX5 := Lib.hid (Blk.below HX.out (bel_then hb HBX.out) (Blk.lt HX.out))
      have HTA5 := Lib.hid (HTA.out.below (bel_then hb HBX.out))
      have HTB5 := Lib.hid (hta.below HBX.out)
      have HB5 := Lib.hid (bel_then HB3.out (bel_then hb HBX.out))
      obtain ⟨c0, c1, c2, c3, c4, c5⟩ := six_cells HX5.out
      obtain ⟨d0, d1, d2, d3, d4, d5⟩ := six_cells HY.out
      have hne : x1 ≠ w4.heap.size := by have h1 := Blk.lt HX.out; have h2 := hb.size; omega
      clear hta hb HX HTA HB3
      go_wp2_with fail
      with_reducible refine (rsametree_ok _ A A' T HTA5.out HTB5.out).mono ?_
      rintro e w6 ⟨rfl, hb⟩
      have HB6 := Lib.hid (bel_then HB5.out hb)
      clear hb c0 c1 c2 c3 c4 c5 d0 d1 d2 d3 d4 d5
      go_wp2_with fail
      with_reducible refine (rworks_ok w6).mono ?_
      rintro e w7 ⟨rfl, hb⟩
      have HB7 := Lib.hid (bel_then HB6.out hb)
      clear hb
      go_wp2_with fail
      go_ret
      exact ⟨rfl, HB7.out⟩

end Go.Proofs.Ytenhbfbfkcjimaa
