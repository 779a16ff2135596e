/- The statement MinimaxPairs: the walk. -/
import Derived.Test.YtenhbfbfkcjimaaDoorZMmR
import Derived.Test.YtenhbfbfkcjimaaDoorZMmW
namespace Go.Proofs.YtenhbfbfkcjimaaDoor
set_option linter.unusedVariables false
set_option linter.unusedSimpArgs false
open Go.RowKit

/-- The tops at a threshold. -/
def tpF (n : Nat) (l : List Ed) (th : Int) (v : Nat) : Nat := ab (bdL n l) (n + FN n l) th v
theorem cnt_tpF {n : Nat} {l : List Ed} (hg : GOk n l) (th : Int) : cntT (bdL n l) n th (n + FN n l) = prT (tpF n l th) n := cnt_pr (bdL_tv3 hg) th

set_option maxHeartbeats 16000000 in
set_option maxRecDepth 100000 in
theorem pairs_law (w : World) (hT : Tab64 w) (n : Int) (ao : Option Addr) (m cap b off : Nat) (l : List Ed) (he : ERow w ao m b off l) (hm : m ≤ 9223372036854775807) (hnil : ao = none → cap = 0) (hn64 : -9223372036854775808 ≤ n ∧ n ≤ 9223372036854775807) (hw : WOk l) (x y : Int) :
    Calls Tryd.prog 7 #[.int .i64 n, .slice ao m cap, .int .i64 x, .int .i64 y] w (RetB (.bool true) w) := by
  have HE := Lib.hid he
  have HS := Lib.hid he.size
  have HNIL := Lib.hid hnil
  have H64 := Lib.hid hn64
  have HT := Lib.hid hT
  have HW := Lib.hid hw
  clear he hnil hn64 hT hw
  go_enter Tryd.func7, Tryd.ntmps7
  go_wp2_with fail
  have HT0 := Lib.hid HT.out
  have HE0 := Lib.hid HE.out
  have HB0 : Hid (Below w.heap.size w w) := Below.refl _ _
  have hw0 : w = w := rfl
  clear HT HE hw0
  with_reducible refine (mnew_ok w n ao m cap b off l HE0.out hm HNIL.out H64.out).mono ?_
  rintro e w1 ⟨hbad, hok, hb⟩
  have HB1 := Lib.hid (hb)
  have HT1 := Lib.hid (HT0.out.below hb)
  have HE1 := Lib.hid (HE0.out.below hb)
  clear HT0 HE0 HB0
  by_cases h0 : newErr n l = 0
  · obtain ⟨M, rfl, hM⟩ := hok h0
    obtain ⟨k, rfl, hg⟩ := GOk.of_err h0
    rw [Int.toNat_natCast] at hM
    have HM1 := Lib.hid hM
    have HG := Lib.hid hg
    clear hbad hok h0 hM hg hb H64
    by_cases h1 : 40 < k
    · have t1 : decide ((40 : Int) < (k : Int)) = true := by simp; omega
      clear h1
      go_wp2_with fail
      with_reducible refine (mworks_ok _ HT1.out).mono ?_
      rintro e w9 ⟨rfl, hb⟩
      have HB9 := Lib.hid (bel_then HB1.out hb)
      clear hb
      go_wp2_with fail
      go_ret
      exact ⟨rfl, HB9.out⟩
    · have t1 : decide ((40 : Int) < (k : Int)) = false := by simp; omega
      by_cases h2 : 120 < m
      · have t2 : decide ((120 : Int) < (m : Int)) = true := by simp; omega
        clear h1 h2
        go_wp2_with fail
        with_reducible refine (mworks_ok _ HT1.out).mono ?_
        rintro e w9 ⟨rfl, hb⟩
        have HB9 := Lib.hid (bel_then HB1.out hb)
        clear hb
        go_wp2_with fail
        go_ret
        exact ⟨rfl, HB9.out⟩
      · have t2 : decide ((120 : Int) < (m : Int)) = false := by simp; omega
        go_wp2_with fail
        clear t1 t2
        clear HE1 HW HS HNIL
        have hk40 : k ≤ 40 := by omega
        clear h1 h2
        have HQ : Hid (∀ u v : Nat, u < k → v < k → u ≠ v → (tpF k l x u = tpF k l x v ↔ ∃ d, mmV k l u v = some d ∧ d ≤ x)) := fun u v hu hv hne => ab_mm HG.out x hu hv hne
        go_loopw [11, 12] (fun s11 s12 wr => ∃ v : Nat, v ≤ k ∧ s12 = .int .i64 v ∧ s11 = .int .i64 ((prT (tpF k l x) v : Nat) : Int) ∧ Below w1.heap.size w1 wr) (fun _ s _ => k - (intOf s).toNat)
        case atStart => exact ⟨0, Nat.zero_le _, rfl, rfl, Below.refl _ _⟩
        case round =>
          obtain ⟨v, hv, rfl, rfl, hbr⟩ := hrel
          have HBR := Lib.hid hbr
          clear hbr
          by_cases hvk : v < k
          · have t1 : (v : Int) < (k : Int) := by omega
            have hpr : prT (tpF k l x) v ≤ 1600 := Nat.le_trans (prT_le _ v) (Nat.mul_le_mul (show v ≤ 40 by omega) (show v ≤ 40 by omega))
            have hnx : Hid (prT (tpF k l x) (v + 1) = prT (tpF k l x) v + inP (tpF k l x) v v) := rfl
            generalize prT (tpF k l x) v = r0 at *
            go_wp2_with fail
            go_loopw [11, 13] (fun s11 s13 wr => ∃ u : Nat, u ≤ v ∧ s13 = .int .i64 u ∧ s11 = .int .i64 ((r0 + inP (tpF k l x) v u : Nat) : Int) ∧ Below w1.heap.size w1 wr) (fun _ s _ => v - (intOf s).toNat)
            case atStart => exact ⟨0, Nat.zero_le _, rfl, rfl, HBR.out⟩
            case round =>
              obtain ⟨u, hu, rfl, rfl, hbr2⟩ := hrel
              clear HBR
              have HBR := Lib.hid hbr2
              clear hbr2
              by_cases huv : u < v
              · have t2 : (u : Int) < (v : Int) := by omega
                have hin : inP (tpF k l x) v u ≤ 40 := Nat.le_trans (inP_le _ v u) (by omega)
                have HIS := Lib.hid (inP_succ (tpF k l x) v u)
                have HQ2 := Lib.hid (HQ.out u v (by omega) hvk (by omega))
                have HMR := Lib.hid (HM1.out.below HBR.out)
                have HTR := Lib.hid (HT1.out.below HBR.out)
                generalize inP (tpF k l x) v u = c0 at *
                go_wp2_with fail
                with_reducible refine (minimax_ok _ M k l HMR.out HG.out HTR.out u v).mono ?_
                rintro e w3 ⟨rfl, hb⟩
                have HB3 := Lib.hid (bel_then HBR.out hb)
                clear hb HBR HMR HTR
                unfold intR
                cases hmm : mmV k l u v with
                | none =>
                  have hc1 : inP (tpF k l x) v (u + 1) = c0 := by
                    have := HIS.out
                    rw [if_neg (fun e => by obtain ⟨d, hd, _⟩ := HQ2.out.1 e; rw [hmm] at hd; cases hd)] at this
                    omega
                  simp only [Option.getD_none, Option.isSome_none] at *
                  clear hmm
                  go_wp2_with fail
                  go_roundw
                  case rel => exact ⟨u + 1, by omega, by go_num, by rw [hc1], HB3.out⟩
                  case measure => simp [intOf]; omega
                | some d =>
                  by_cases hdx : d ≤ x
                  · have hc1 : inP (tpF k l x) v (u + 1) = c0 + 1 := by
                      have := HIS.out
                      rw [if_pos (HQ2.out.2 ⟨d, hmm, hdx⟩)] at this
                      omega
                    simp only [Option.getD_some, Option.isSome_some] at *
                    have t3 : decide (d ≤ x) = true := decide_eq_true hdx
                    clear hmm
                    go_wp2_with fail
                    go_roundw
                    case rel => exact ⟨u + 1, by omega, by go_num, by rw [hc1]; go_num, HB3.out⟩
                    case measure => simp [intOf]; omega
                  · have hc1 : inP (tpF k l x) v (u + 1) = c0 := by
                      have := HIS.out
                      rw [if_neg (fun e => by obtain ⟨d', hd, hle⟩ := HQ2.out.1 e; rw [hmm] at hd; injection hd with hd; omega)] at this
                      omega
                    simp only [Option.getD_some, Option.isSome_some] at *
                    have t3 : decide (d ≤ x) = false := decide_eq_false hdx
                    clear hmm
                    go_wp2_with fail
                    go_roundw
                    case rel => exact ⟨u + 1, by omega, by go_num, by rw [hc1], HB3.out⟩
                    case measure => simp [intOf]; omega
              · obtain rfl : u = v := by omega
                go_wp2_with fail
                go_roundw
                case rel => exact ⟨u + 1, by omega, by go_num, by rw [hnx.out], HBR.out⟩
                case measure => simp [intOf]; omega
          · obtain rfl : v = k := by omega
            have HMR := Lib.hid (HM1.out.below HBR.out)
            have HTR := Lib.hid (HT1.out.below HBR.out)
            have HCE := Lib.hid (cnt_tpF HG.out x)
            have HMO : Hid (x ≤ y → cntT (bdL v l) v x (v + FN v l) ≤ cntT (bdL v l) v y (v + FN v l)) := fun h => cnt_mono HG.out h
            clear HQ
            go_wp2_with fail
            with_reducible refine (count_ok _ M v l HMR.out HG.out x).mono ?_
            rintro e w3 ⟨rfl, hb⟩
            rw [HCE.out]
            have HB3 := Lib.hid (bel_then HBR.out hb)
            have HM3 := Lib.hid (HMR.out.below hb)
            have HT3 := Lib.hid (HTR.out.below hb)
            clear hb HBR HMR HTR
            generalize prT (tpF v l x) v = c at *
            by_cases hxy : y < x
            · have t4 : decide (y < x) = true := decide_eq_true hxy
              clear HMO
              go_wp2_with fail
              with_reducible refine (mworks_ok _ HT3.out).mono ?_
              rintro e w9 ⟨rfl, hb⟩
              have HB9 := Lib.hid (bel_then HB1.out (bel_then HB3.out hb))
              clear hb
              go_wp2_with fail
              go_ret
              exact ⟨rfl, HB9.out⟩
            · have t4 : decide (y < x) = false := decide_eq_false hxy
              have hle := HMO.out (by omega)
              rw [HCE.out] at hle
              go_wp2_with fail
              with_reducible refine (count_ok _ M v l HM3.out HG.out x).mono ?_
              rintro e w4 ⟨rfl, hb⟩
              rw [HCE.out]
              have HB4 := Lib.hid (bel_then HB3.out hb)
              have HM4 := Lib.hid (HM3.out.below hb)
              have HT4 := Lib.hid (HT3.out.below hb)
              clear hb HB3 HM3 HT3
              go_wp2_with fail
              with_reducible refine (count_ok _ M v l HM4.out HG.out y).mono ?_
              rintro e w5 ⟨rfl, hb⟩
              have HB5 := Lib.hid (bel_then HB4.out hb)
              have HT5 := Lib.hid (HT4.out.below hb)
              clear hb HB4 HM4 HT4 HMO HCE
              generalize cntT (bdL v l) v y (v + FN v l) = c2 at *
              have t5 : decide ((c : Int) ≤ (c2 : Int)) = true := decide_eq_true (by omega)
              go_wp2_with fail
              with_reducible refine (mworks_ok _ HT5.out).mono ?_
              rintro e w9 ⟨rfl, hb⟩
              have HB9 := Lib.hid (bel_then HB1.out (bel_then HB5.out hb))
              clear hb
              go_wp2_with fail
              go_ret
              exact ⟨rfl, HB9.out⟩
  · obtain rfl := hbad h0
    have t0 : (newErr n l != 0) = true := by simp [h0]
    clear hbad hok h0 hb
    generalize newErr n l = z at *
    go_wp2_with fail
    with_reducible refine (mworks_ok _ HT1.out).mono ?_
    rintro e w9 ⟨rfl, hb⟩
    have HB9 := Lib.hid (bel_then HB1.out hb)
    clear hb
    go_wp2_with fail
    go_ret
    exact ⟨rfl, HB9.out⟩

end Go.Proofs.YtenhbfbfkcjimaaDoor
