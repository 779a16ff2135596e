/- The statement MinimaxUltra: the walk. -/
import Derived.Test.YtenhbfbfkcjimaaDoorZMmU
import Derived.Test.YtenhbfbfkcjimaaDoorZMmW
namespace Go.Proofs.YtenhbfbfkcjimaaDoor
set_option linter.unusedVariables false
set_option linter.unusedSimpArgs false
open Go.RowKit

theorem max_run (x y : Int) : ∀ w, (Builtin.max_ #[2, 2] 2 #[Value.int IntKind.i64 x, .int .i64 y]).run Tryd.prog w = .ok (.int .i64 (max x y)) w := by
  intro w
  show (Builtin.max2 (.int .i64 x) (.int .i64 y)).run Tryd.prog w = _
  unfold Builtin.max2
  by_cases h : x ≤ y
  · rw [Int.max_eq_right h]
    by_cases h2 : x = y
    · subst h2
      simp
      try rfl
    · have h3 : x < y := by omega
      simp [h, h3]
      try rfl
  · rw [Int.max_eq_left (by omega)]
    have h3 : ¬ x < y := by omega
    simp [h, h3]
    try rfl

set_option maxHeartbeats 16000000 in
set_option maxRecDepth 100000 in
theorem ultra_law (w : World) (hT : Tab64 w) (n : Int) (ao : Option Addr) (m cap b off : Nat) (l : List Ed) (he : ERow w ao m b off l) (hm : m ≤ 9223372036854775807) (hnil : ao = none → cap = 0) (hn64 : -9223372036854775808 ≤ n ∧ n ≤ 9223372036854775807) (hw : WOk l) (u v x : Int) :
    Calls Tryd.prog 5 #[.int .i64 n, .slice ao m cap, .agg #[.int .i64 u, .int .i64 v, .int .i64 x]] w (RetB (.bool true) w) := by
  have HE := Lib.hid he
  have HS := Lib.hid he.size
  have HNIL := Lib.hid hnil
  have H64 := Lib.hid hn64
  have HT := Lib.hid hT
  have HW := Lib.hid hw
  clear he hnil hn64 hT hw
  have HBX := Lib.hid (bel_alloc w (.cells #[.int .i64 u, .int .i64 v, .int .i64 x] 38))
  have HX : Hid (Blk (w.alloc (.cells #[.int .i64 u, .int .i64 v, .int .i64 x] 38)) w.heap.size 38 [.int .i64 u, .int .i64 v, .int .i64 x]) := Blk.new w 38 [.int .i64 u, .int .i64 v, .int .i64 x]
  go_enter Tryd.func5, Tryd.ntmps5
  go_wp2_with fail
  have HT0 := Lib.hid (HT.out.below HBX.out)
  have HE0 := Lib.hid (HE.out.below HBX.out)
  have HB0 := Lib.hid HBX.out
  clear HBX HT HE
  generalize w.alloc (.cells #[.int .i64 u, .int .i64 v, .int .i64 x] 38) = w0 at *
  with_reducible refine (mnew_ok w0 n ao m cap b off l HE0.out hm HNIL.out H64.out).mono ?_
  rintro e w1 ⟨hbad, hok, hb⟩
  have HB1 := Lib.hid (bel_then HB0.out hb)
  have HT1 := Lib.hid (HT0.out.below hb)
  have HX1 := Lib.hid (HX.out.below hb HX.out.lt)
  clear HX
  have HE1 := Lib.hid (HE0.out.below hb)
  clear HT0 HE0 HB0
  by_cases h0 : newErr n l = 0
  · obtain ⟨M, rfl, hM⟩ := hok h0
    obtain ⟨k, rfl, hg⟩ := GOk.of_err h0
    rw [Int.toNat_natCast] at hM
    have HM1 := Lib.hid hM
    have HG := Lib.hid hg
    clear hbad hok h0 hM hg hb H64
    by_cases h1 : 40 < k
    · have t1 : decide ((40 : Int) < (k : Int)) = true := by simp; omega
      clear h1
      go_wp2_with fail
      with_reducible refine (mworks_ok _ HT1.out).mono ?_
      rintro e w9 ⟨rfl, hb⟩
      have HB9 := Lib.hid (bel_then HB1.out hb)
      clear hb
      go_wp2_with fail
      go_ret
      exact ⟨rfl, HB9.out⟩
    · have t1 : decide ((40 : Int) < (k : Int)) = false := by simp; omega
      by_cases h2 : 120 < m
      · have t2 : decide ((120 : Int) < (m : Int)) = true := by simp; omega
        clear h1 h2
        go_wp2_with fail
        with_reducible refine (mworks_ok _ HT1.out).mono ?_
        rintro e w9 ⟨rfl, hb⟩
        have HB9 := Lib.hid (bel_then HB1.out hb)
        clear hb
        go_wp2_with fail
        go_ret
        exact ⟨rfl, HB9.out⟩
      · have t2 : decide ((120 : Int) < (m : Int)) = false := by simp; omega
        have c0 := HX1.out.cell (i := 0) rfl
        have c1 := HX1.out.cell (i := 1) rfl
        have c2 := HX1.out.cell (i := 2) rfl
        go_wp2_with fail
        clear t1 t2
        have HU : Hid (∀ p q, mmV k l u v = some p → mmV k l v x = some q → ∃ z, mmV k l u x = some z ∧ (z ≤ p ∨ z ≤ q)) := fun p q h1 h2 => mm_ultra HG.out HW.out h1 h2
        have HSY : Hid (mmV k l v u = mmV k l u v) := mmV_symm _ _ _ _
        clear HE1
        with_reducible refine (minimax_ok w1 M k l HM1.out HG.out HT1.out u v).mono ?_
        rintro e w2 ⟨rfl, hb⟩
        have HB2 := Lib.hid (bel_then HB1.out hb)
        have HM2 := Lib.hid (HM1.out.below hb)
        have HT2 := Lib.hid (HT1.out.below hb)
        have HX2 := Lib.hid (HX1.out.below hb HX1.out.lt)
        clear hb HB1 HM1 HT1 HX1 c0 c1 c2
        unfold intR
        have c0 := HX2.out.cell (i := 0) rfl
        have c1 := HX2.out.cell (i := 1) rfl
        have c2 := HX2.out.cell (i := 2) rfl
        go_wp2_with fail
        with_reducible refine (minimax_ok w2 M k l HM2.out HG.out HT2.out v x).mono ?_
        rintro e w3 ⟨rfl, hb⟩
        have HB3 := Lib.hid (bel_then HB2.out hb)
        have HM3 := Lib.hid (HM2.out.below hb)
        have HT3 := Lib.hid (HT2.out.below hb)
        have HX3 := Lib.hid (HX2.out.below hb HX2.out.lt)
        clear hb HB2 HM2 HT2 HX2 c0 c1 c2
        unfold intR
        have c0 := HX3.out.cell (i := 0) rfl
        have c1 := HX3.out.cell (i := 1) rfl
        have c2 := HX3.out.cell (i := 2) rfl
        go_wp2_with fail
        with_reducible refine (minimax_ok w3 M k l HM3.out HG.out HT3.out u x).mono ?_
        rintro e w4 ⟨rfl, hb⟩
        have HB4 := Lib.hid (bel_then HB3.out hb)
        have HM4 := Lib.hid (HM3.out.below hb)
        have HT4 := Lib.hid (HT3.out.below hb)
        have HX4 := Lib.hid (HX3.out.below hb HX3.out.lt)
        clear hb HB3 HM3 HT3 HX3 c0 c1 c2
        unfold intR
        have c0 := HX4.out.cell (i := 0) rfl
        have c1 := HX4.out.cell (i := 1) rfl
        have c2 := HX4.out.cell (i := 2) rfl
        go_wp2_with fail
        with_reducible refine (minimax_ok w4 M k l HM4.out HG.out HT4.out v u).mono ?_
        rintro e w5 ⟨rfl, hb⟩
        have HB5 := Lib.hid (bel_then HB4.out hb)
        have HM5 := Lib.hid (HM4.out.below hb)
        have HT5 := Lib.hid (HT4.out.below hb)
        have HX5 := Lib.hid (HX4.out.below hb HX4.out.lt)
        clear hb HB4 HM4 HT4 HX4 c0 c1 c2
        unfold intR
        rw [HSY.out]
        clear HSY HX5
        generalize mmV k l u v = o1 at *
        generalize mmV k l v x = o2 at *
        generalize mmV k l u x = o3 at *
        have e1 : (o1.getD 0 != o1.getD 0) = false := by simp
        cases o1 with
        | none =>
          simp only [Option.getD_none, Option.isSome_none] at *
          clear HU
          go_wp2_with fail
          with_reducible refine (mworks_ok _ HT5.out).mono ?_
          rintro e w9 ⟨rfl, hb⟩
          have HB9 := Lib.hid (bel_then HB5.out hb)
          clear hb
          go_wp2_with fail
          go_ret
          exact ⟨rfl, HB9.out⟩
        | some p =>
          cases o2 with
          | none =>
            simp only [Option.getD_none, Option.isSome_none, Option.getD_some, Option.isSome_some] at *
            clear HU
            go_wp2_with fail
            with_reducible refine (mworks_ok _ HT5.out).mono ?_
            rintro e w9 ⟨rfl, hb⟩
            have HB9 := Lib.hid (bel_then HB5.out hb)
            clear hb
            go_wp2_with fail
            go_ret
            exact ⟨rfl, HB9.out⟩
          | some q =>
            obtain ⟨z, rfl, hz⟩ := HU.out p q rfl rfl
            have e2 : decide (z ≤ max p q) = true := by simp; omega
            have hmax := max_run p q
            clear HU hz
            simp only [Option.getD_none, Option.isSome_none, Option.getD_some, Option.isSome_some] at *
            go_wp2_with fail
            with_reducible refine (mworks_ok _ HT5.out).mono ?_
            rintro e w9 ⟨rfl, hb⟩
            have HB9 := Lib.hid (bel_then HB5.out hb)
            clear hb
            go_wp2_with fail
            go_ret
            exact ⟨rfl, HB9.out⟩
  · obtain rfl := hbad h0
    have t0 : (newErr n l != 0) = true := by simp [h0]
    clear hbad hok h0 hb
    generalize newErr n l = z at *
    go_wp2_with fail
    with_reducible refine (mworks_ok _ HT1.out).mono ?_
    rintro e w9 ⟨rfl, hb⟩
    have HB9 := Lib.hid (bel_then HB1.out hb)
    clear hb
    go_wp2_with fail
    go_ret
    exact ⟨rfl, HB9.out⟩

end Go.Proofs.YtenhbfbfkcjimaaDoor
