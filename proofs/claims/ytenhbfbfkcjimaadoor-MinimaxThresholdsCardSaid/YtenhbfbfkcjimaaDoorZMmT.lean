/- The statement MinimaxThresholds: the walk. -/
import Derived.Test.YtenhbfbfkcjimaaDoorZMmW
import Derived.Test.YtenhbfbfkcjimaaDoorZMmIn
namespace Go.Proofs.YtenhbfbfkcjimaaDoor
set_option linter.unusedVariables false
set_option linter.unusedSimpArgs false
open Go.RowKit

theorem jnV_some {n : Nat} {l : List Ed} {u v th d : Int} (h : mmV n l u v = some d) : jnV n l u v th = decide (d ≤ th) := by unfold jnV; rw [h]
theorem jnV_none {n : Nat} {l : List Ed} {u v th : Int} (h : mmV n l u v = none) : jnV n l u v th = false := by unfold jnV; rw [h]

set_option maxHeartbeats 16000000 in
set_option maxRecDepth 100000 in
theorem thr_law (w : World) (hT : Tab64 w) (n : Int) (ao : Option Addr) (m cap b off : Nat) (l : List Ed) (he : ERow w ao m b off l) (hm : m ≤ 9223372036854775807) (hnil : ao = none → cap = 0) (hn64 : -9223372036854775808 ≤ n ∧ n ≤ 9223372036854775807) (hw : WOk l) (u v th : Int) :
    Calls Tryd.prog 9 #[.int .i64 n, .slice ao m cap, .agg #[.int .i64 u, .int .i64 v, .int .i64 th]] w (RetB (.bool true) w) := by
  have HE := Lib.hid he
  have HS := Lib.hid he.size
  have HNIL := Lib.hid hnil
  have H64 := Lib.hid hn64
  have HT := Lib.hid hT
  have HW := Lib.hid hw
  clear he hnil hn64 hT hw
  have HBX := Lib.hid (bel_alloc w (.cells #[.int .i64 u, .int .i64 v, .int .i64 th] 33))
  have HX : Hid (Blk (w.alloc (.cells #[.int .i64 u, .int .i64 v, .int .i64 th] 33)) w.heap.size 33 [.int .i64 u, .int .i64 v, .int .i64 th]) := Blk.new w 33 [.int .i64 u, .int .i64 v, .int .i64 th]
  go_enter Tryd.func9, Tryd.ntmps9
  go_wp2_with fail
  have HT0 := Lib.hid (HT.out.below HBX.out)
  have HE0 := Lib.hid (HE.out.below HBX.out)
  have HB0 := Lib.hid HBX.out
  clear HBX HT HE
  generalize w.alloc (.cells #[.int .i64 u, .int .i64 v, .int .i64 th] 33) = w0 at *
  with_reducible refine (mnew_ok w0 n ao m cap b off l HE0.out hm HNIL.out H64.out).mono ?_
  rintro e w1 ⟨hbad, hok, hb⟩
  have HB1 := Lib.hid (bel_then HB0.out hb)
  have HT1 := Lib.hid (HT0.out.below hb)
  have HX1 := Lib.hid (HX.out.below hb HX.out.lt)
  clear HX
  have HE1 := Lib.hid (HE0.out.below hb)
  clear HT0 HE0 HB0
  by_cases h0 : newErr n l = 0
  · obtain ⟨M, rfl, hM⟩ := hok h0
    obtain ⟨k, rfl, hg⟩ := GOk.of_err h0
    rw [Int.toNat_natCast] at hM
    have HM1 := Lib.hid hM
    have HG := Lib.hid hg
    clear hbad hok h0 hM hg hb H64
    by_cases h1 : 40 < k
    · have t1 : decide ((40 : Int) < (k : Int)) = true := by simp; omega
      clear h1
      go_wp2_with fail
      with_reducible refine (mworks_ok _ HT1.out).mono ?_
      rintro e w9 ⟨rfl, hb⟩
      have HB9 := Lib.hid (bel_then HB1.out hb)
      clear hb
      go_wp2_with fail
      go_ret
      exact ⟨rfl, HB9.out⟩
    · have t1 : decide ((40 : Int) < (k : Int)) = false := by simp; omega
      by_cases h2 : 120 < m
      · have t2 : decide ((120 : Int) < (m : Int)) = true := by simp; omega
        clear h1 h2
        go_wp2_with fail
        with_reducible refine (mworks_ok _ HT1.out).mono ?_
        rintro e w9 ⟨rfl, hb⟩
        have HB9 := Lib.hid (bel_then HB1.out hb)
        clear hb
        go_wp2_with fail
        go_ret
        exact ⟨rfl, HB9.out⟩
      · have t2 : decide ((120 : Int) < (m : Int)) = false := by simp; omega
        have c0 := HX1.out.cell (i := 0) rfl
        have c1 := HX1.out.cell (i := 1) rfl
        have c2 := HX1.out.cell (i := 2) rfl
        go_wp2_with fail
        clear t1 t2
        with_reducible refine (minimax_ok w1 M k l HM1.out HG.out HT1.out u v).mono ?_
        rintro e w2 ⟨rfl, hb⟩
        have HB2 := Lib.hid (bel_then HB1.out hb)
        have HM2 := Lib.hid (HM1.out.below hb)
        have HT2 := Lib.hid (HT1.out.below hb)
        have HX2 := Lib.hid (HX1.out.below hb HX1.out.lt)
        clear hb HB1 HM1 HT1 HX1 c0 c1 c2 HE1
        cases hmm : mmV k l u v with
        | none =>
          have HJ : Hid (∀ th, jnV k l u v th = false) := fun th => jnV_none hmm
          clear hmm
          unfold intR
          simp only [Option.getD_none, Option.isSome_none]
          have c0 := HX2.out.cell (i := 0) rfl
          have c1 := HX2.out.cell (i := 1) rfl
          have c2 := HX2.out.cell (i := 2) rfl
          go_wp2_with fail
          with_reducible refine (joined_ok w2 M k l HM2.out HG.out HT2.out u v th).mono ?_
          rintro e w3 ⟨rfl, hb⟩
          rw [HJ.out]
          have HB3 := Lib.hid (bel_then HB2.out hb)
          have HT3 := Lib.hid (HT2.out.below hb)
          clear hb c0 c1 c2
          go_wp2_with fail
          with_reducible refine (mworks_ok _ HT3.out).mono ?_
          rintro e w9 ⟨rfl, hb⟩
          have HB9 := Lib.hid (bel_then HB3.out hb)
          clear hb
          go_wp2_with fail
          go_ret
          exact ⟨rfl, HB9.out⟩
        | some d =>
          have HJ : Hid (∀ th, jnV k l u v th = decide (d ≤ th)) := fun th => jnV_some hmm
          clear hmm
          unfold intR
          simp only [Option.getD_some, Option.isSome_some]
          have c0 := HX2.out.cell (i := 0) rfl
          have c1 := HX2.out.cell (i := 1) rfl
          have c2 := HX2.out.cell (i := 2) rfl
          go_wp2_with fail
          with_reducible refine (joined_ok w2 M k l HM2.out HG.out HT2.out u v th).mono ?_
          rintro e w3 ⟨rfl, hb⟩
          rw [HJ.out]
          have HB3 := Lib.hid (bel_then HB2.out hb)
          have HT3 := Lib.hid (HT2.out.below hb)
          have HM3 := Lib.hid (HM2.out.below hb)
          have HX3 := Lib.hid (HX2.out.below hb HX2.out.lt)
          have c2' := HX3.out.cell (i := 2) rfl
          clear c0 c1 c2
          have c0 := HX3.out.cell (i := 0) rfl
          have c1 := HX3.out.cell (i := 1) rfl
          clear hb
          generalize hdd : decide (d ≤ th) = dd at *
          have e2 : (dd != dd) = false := by simp
          go_wp2_with fail
          with_reducible refine (joined_ok w3 M k l HM3.out HG.out HT3.out u v d).mono ?_
          rintro e w4 ⟨rfl, hb⟩
          rw [HJ.out, show decide (d ≤ d) = true by simp]
          have HB4 := Lib.hid (bel_then HB3.out hb)
          have HT4 := Lib.hid (HT3.out.below hb)
          clear hb c0 c1 c2'
          go_wp2_with fail
          with_reducible refine (mworks_ok _ HT4.out).mono ?_
          rintro e w9 ⟨rfl, hb⟩
          have HB9 := Lib.hid (bel_then HB4.out hb)
          clear hb
          go_wp2_with fail
          go_ret
          exact ⟨rfl, HB9.out⟩
  · obtain rfl := hbad h0
    have t0 : (newErr n l != 0) = true := by simp [h0]
    clear hbad hok h0 hb
    generalize newErr n l = z at *
    go_wp2_with fail
    with_reducible refine (mworks_ok _ HT1.out).mono ?_
    rintro e w9 ⟨rfl, hb⟩
    have HB9 := Lib.hid (bel_then HB1.out hb)
    clear hb
    go_wp2_with fail
    go_ret
    exact ⟨rfl, HB9.out⟩

end Go.Proofs.YtenhbfbfkcjimaaDoor
