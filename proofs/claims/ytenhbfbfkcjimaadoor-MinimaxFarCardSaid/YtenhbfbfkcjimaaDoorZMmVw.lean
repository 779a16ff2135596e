/- The statement MinimaxFar: the walk. -/
import Derived.Test.YtenhbfbfkcjimaaDoorZMmV
import Derived.Test.YtenhbfbfkcjimaaDoorZMmW
namespace Go.Proofs.YtenhbfbfkcjimaaDoor
set_option linter.unusedVariables false
set_option linter.unusedSimpArgs false
open Go.RowKit

set_option maxHeartbeats 16000000 in
set_option maxRecDepth 100000 in
theorem far_law (w : World) (hT : Tab64 w) (n : Int) (ao : Option Addr) (m cap b off : Nat) (l : List Ed) (he : ERow w ao m b off l) (hm : m ≤ 9223372036854775807) (hnil : ao = none → cap = 0) (hn64 : -9223372036854775808 ≤ n ∧ n ≤ 9223372036854775807) (hw : WOk l) (u : Int) :
    Calls Tryd.prog 11 #[.int .i64 n, .slice ao m cap, .int .i64 u] w (RetB (.bool true) w) := by
  have HE := Lib.hid he
  have HS := Lib.hid he.size
  have HNIL := Lib.hid hnil
  have H64 := Lib.hid hn64
  have HT := Lib.hid hT
  have HW := Lib.hid hw
  clear he hnil hn64 hT hw
  go_enter Tryd.func11, Tryd.ntmps11
  go_wp2_with fail
  have HT0 := Lib.hid HT.out
  have HE0 := Lib.hid HE.out
  have HB0 : Hid (Below w.heap.size w w) := Below.refl _ _
  have hw0 : w = w := rfl
  clear HT HE hw0
  with_reducible refine (mnew_ok w n ao m cap b off l HE0.out hm HNIL.out H64.out).mono ?_
  rintro e w1 ⟨hbad, hok, hb⟩
  have HB1 := Lib.hid (hb)
  have HT1 := Lib.hid (HT0.out.below hb)
  have HE1 := Lib.hid (HE0.out.below hb)
  clear HT0 HE0 HB0
  by_cases h0 : newErr n l = 0
  · obtain ⟨M, rfl, hM⟩ := hok h0
    obtain ⟨k, rfl, hg⟩ := GOk.of_err h0
    rw [Int.toNat_natCast] at hM
    have HM1 := Lib.hid hM
    have HG := Lib.hid hg
    clear hbad hok h0 hM hg hb H64
    by_cases h1 : 40 < k
    · have t1 : decide ((40 : Int) < (k : Int)) = true := by simp; omega
      clear h1
      go_wp2_with fail
      with_reducible refine (mworks_ok _ HT1.out).mono ?_
      rintro e w9 ⟨rfl, hb⟩
      have HB9 := Lib.hid (bel_then HB1.out hb)
      clear hb
      go_wp2_with fail
      go_ret
      exact ⟨rfl, HB9.out⟩
    · have t1 : decide ((40 : Int) < (k : Int)) = false := by simp; omega
      by_cases h2 : 120 < m
      · have t2 : decide ((120 : Int) < (m : Int)) = true := by simp; omega
        clear h1 h2
        go_wp2_with fail
        with_reducible refine (mworks_ok _ HT1.out).mono ?_
        rintro e w9 ⟨rfl, hb⟩
        have HB9 := Lib.hid (bel_then HB1.out hb)
        clear hb
        go_wp2_with fail
        go_ret
        exact ⟨rfl, HB9.out⟩
      · have t2 : decide ((120 : Int) < (m : Int)) = false := by simp; omega
        go_wp2_with fail
        clear t1 t2
        clear HE1 HW HS HNIL h1 h2
        with_reducible refine (farthest_any w1 M k l HM1.out HG.out HT1.out u).mono ?_
        rintro e w2 ⟨rfl, hb⟩
        have HB2 := Lib.hid (bel_then HB1.out hb)
        have HM2 := Lib.hid (HM1.out.below hb)
        have HT2 := Lib.hid (HT1.out.below hb)
        have HF := Lib.hid (farA_ok HG.out u)
        clear hb HB1 HM1 HT1
        generalize farA k l u = s at *
        unfold farR
        cases hok : s.ok with
        | false =>
          obtain ⟨rfl, hno⟩ := HF.out.no hok
          have HN := Lib.hid hno
          clear hno HF hok
          simp only
          go_wp2_with fail
          go_loopw [12] (fun s wr => ∃ v : Nat, v ≤ k ∧ s = .int .i64 v ∧ Below w2.heap.size w2 wr) (fun s _ => k - (intOf s).toNat)
          case atStart => exact ⟨0, Nat.zero_le _, rfl, Below.refl _ _⟩
          case round =>
            obtain ⟨v, hv, rfl, hbr⟩ := hrel
            have HBR := Lib.hid hbr
            clear hbr
            by_cases hvk : v < k
            · have t1 : (v : Int) < (k : Int) := by omega
              have hk4 : k ≤ 4096 := HG.out.hn
              have HMR := Lib.hid (HM2.out.below HBR.out)
              have HTR := Lib.hid (HT2.out.below HBR.out)
              go_wp2_with fail
              with_reducible refine (minimax_ok _ M k l HMR.out HG.out HTR.out u v).mono ?_
              rintro e w3 ⟨rfl, hb⟩
              have HB3 := Lib.hid (bel_then HBR.out hb)
              clear hb HBR HMR HTR
              unfold intR
              cases hmm : mmV k l u v with
              | none =>
                simp only [Option.getD_none, Option.isSome_none] at *
                clear hmm
                go_wp2_with fail
                go_roundw
                case rel => exact ⟨v + 1, by omega, by go_num, HB3.out⟩
                case measure => simp [intOf]; omega
              | some d =>
                have hvu : (v : Int) = u := Classical.byContradiction fun h => by have := HN.out v hvk h; rw [this] at hmm; cases hmm
                have t3 : ((v : Int) != u) = false := by simp [hvu]
                simp only [Option.getD_some, Option.isSome_some] at *
                clear hmm hvu
                go_wp2_with fail
                go_roundw
                case rel => exact ⟨v + 1, by omega, by go_num, HB3.out⟩
                case measure => simp [intOf]; omega
            · obtain rfl : v = k := by omega
              go_wp2_with fail
              with_reducible refine (mworks_ok _ (HT2.out.below HBR.out)).mono ?_
              rintro e w9 ⟨rfl, hb⟩
              have HB9 := Lib.hid (bel_then HB2.out (bel_then HBR.out hb))
              clear hb
              go_wp2_with fail
              go_ret
              exact ⟨rfl, HB9.out⟩
        | true =>
          obtain ⟨hv1, hv2, hv3, hv4⟩ := HF.out.yes hok
          have HV4 := Lib.hid hv4
          clear hv4 HF hok
          obtain ⟨x, t, o⟩ := s
          simp only at *
          have t2 : (u == (x : Int)) = false := by simp; exact fun e => hv2 e.symm
          go_wp2_with fail
          with_reducible refine (minimax_ok _ M k l HM2.out HG.out HT2.out u x).mono ?_
          rintro e w3 ⟨rfl, hb⟩
          have HB3 := Lib.hid (bel_then HB2.out hb)
          have HM3 := Lib.hid (HM2.out.below hb)
          have HT3 := Lib.hid (HT2.out.below hb)
          rw [hv3]
          clear hb HB2 HM2 HT2 hv3 hv2
          unfold intR
          simp only [Option.getD_some, Option.isSome_some]
          have t0 : (t != t) = false := by simp
          go_wp2_with fail
          clear t0 t2
          go_loopw [17] (fun s wr => ∃ v : Nat, v ≤ k ∧ s = .int .i64 v ∧ Below w3.heap.size w3 wr) (fun s _ => k - (intOf s).toNat)
          case atStart => exact ⟨0, Nat.zero_le _, rfl, Below.refl _ _⟩
          case round =>
            obtain ⟨v, hv, rfl, hbr⟩ := hrel
            have HBR := Lib.hid hbr
            clear hbr
            by_cases hvk : v < k
            · have t1 : (v : Int) < (k : Int) := by omega
              have hk4 : k ≤ 4096 := HG.out.hn
              have HMR := Lib.hid (HM3.out.below HBR.out)
              have HTR := Lib.hid (HT3.out.below HBR.out)
              go_wp2_with fail
              with_reducible refine (minimax_ok _ M k l HMR.out HG.out HTR.out u v).mono ?_
              rintro e w4 ⟨rfl, hb⟩
              have HB4 := Lib.hid (bel_then HBR.out hb)
              clear hb HBR HMR HTR
              unfold intR
              cases hmm : mmV k l u v with
              | none =>
                simp only [Option.getD_none, Option.isSome_none] at *
                clear hmm
                go_wp2_with fail
                go_roundw
                case rel => exact ⟨v + 1, by omega, by go_num, HB4.out⟩
                case measure => simp [intOf]; omega
              | some d =>
                simp only [Option.getD_some, Option.isSome_some] at *
                by_cases hvu : (v : Int) = u
                · have t3 : ((v : Int) != u) = false := by simp [hvu]
                  clear hmm hvu
                  go_wp2_with fail
                  go_roundw
                  case rel => exact ⟨v + 1, by omega, by go_num, HB4.out⟩
                  case measure => simp [intOf]; omega
                · have t3 : ((v : Int) != u) = true := by simp [hvu]
                  obtain ⟨hd1, hd2⟩ := HV4.out v hvk hvu d hmm
                  have t4 : decide (t < d) = false := decide_eq_false (by omega)
                  clear hmm hvu
                  by_cases hdt : d = t
                  · subst hdt
                    have t5 : (d == d) = true := by simp
                    have t6 : decide ((v : Int) < (x : Int)) = false := decide_eq_false (by have := hd2 rfl; omega)
                    have t6' : decide (v < x) = false := decide_eq_false (by have := hd2 rfl; omega)
                    clear hd1 hd2
                    go_wp2_with fail
                    go_roundw
                    case rel => exact ⟨v + 1, by omega, by go_num, HB4.out⟩
                    case measure => simp [intOf]; omega
                  · have t5 : (d == t) = false := by simp [hdt]
                    clear hd1 hd2 hdt
                    go_wp2_with fail
                    go_roundw
                    case rel => exact ⟨v + 1, by omega, by go_num, HB4.out⟩
                    case measure => simp [intOf]; omega
            · obtain rfl : v = k := by omega
              go_wp2_with fail
              with_reducible refine (mworks_ok _ (HT3.out.below HBR.out)).mono ?_
              rintro e w9 ⟨rfl, hb⟩
              have HB9 := Lib.hid (bel_then HB3.out (bel_then HBR.out hb))
              clear hb
              go_wp2_with fail
              go_ret
              exact ⟨rfl, HB9.out⟩
  · obtain rfl := hbad h0
    have t0 : (newErr n l != 0) = true := by simp [h0]
    clear hbad hok h0 hb
    generalize newErr n l = z at *
    go_wp2_with fail
    with_reducible refine (mworks_ok _ HT1.out).mono ?_
    rintro e w9 ⟨rfl, hb⟩
    have HB9 := Lib.hid (bel_then HB1.out hb)
    clear hb
    go_wp2_with fail
    go_ret
    exact ⟨rfl, HB9.out⟩

end Go.Proofs.YtenhbfbfkcjimaaDoor
