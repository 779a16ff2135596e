/- The statement MinimaxWeights: the walk. -/
import Derived.Test.YtenhbfbfkcjimaaDoorZMmX
import Derived.Test.YtenhbfbfkcjimaaDoorZMmUw
namespace Go.Proofs.YtenhbfbfkcjimaaDoor
set_option linter.unusedVariables false
set_option linter.unusedSimpArgs false
open Go.RowKit

theorem Tryd.infoBoolM : (Tryd.prog.info? 4).map (fun i => (i.zero, i.size, i.bytes)) = some (some (.bool false), 1, 1) := by kernel_rfl

theorem mmV_zero {n : Nat} {l : List Ed} {u v d : Int} (h : mV n l u v = none) (hm : mmV n l u v = some d) : d = -9223372036854775808 ∧ u = v := by
  unfold mmV at hm
  split at hm
  · rename_i hc
    injection hm with hm
    exact ⟨hm.symm, hc.2⟩
  · rw [h] at hm; cases hm

set_option maxHeartbeats 100000000 in
set_option maxRecDepth 100000 in
theorem weights_law (w : World) (hT : Tab64 w) (n : Int) (ao : Option Addr) (m cap b off : Nat) (l : List Ed) (he : ERow w ao m b off l) (hm : m ≤ 9223372036854775807) (hnil : ao = none → cap = 0) (hn64 : -9223372036854775808 ≤ n ∧ n ≤ 9223372036854775807) (hw : WOk l) (u v : Int) :
    Calls Tryd.prog 6 #[.int .i64 n, .slice ao m cap, .int .i64 u, .int .i64 v] w (RetB (.bool true) w) := by
  have HE := Lib.hid he
  have HS := Lib.hid he.size
  have HNIL := Lib.hid hnil
  have H64 := Lib.hid hn64
  have HT := Lib.hid hT
  have HW := Lib.hid hw
  clear he hnil hn64 hT hw
  go_enter Tryd.func6, Tryd.ntmps6
  go_wp2_with fail
  have HT0 := Lib.hid HT.out
  have HE0 := Lib.hid HE.out
  have HB0 : Hid (Below w.heap.size w w) := Below.refl _ _
  have hw0 : w = w := rfl
  clear HT HE hw0
  with_reducible refine (mnew_ok w n ao m cap b off l HE0.out hm HNIL.out H64.out).mono ?_
  rintro e w1 ⟨hbad, hok, hb⟩
  have HB1 := Lib.hid (hb)
  have HT1 := Lib.hid (HT0.out.below hb)
  have HE1 := Lib.hid (HE0.out.below hb)
  clear HT0 HE0 HB0
  by_cases h0 : newErr n l = 0
  · obtain ⟨M, rfl, hM⟩ := hok h0
    obtain ⟨k, rfl, hg⟩ := GOk.of_err h0
    rw [Int.toNat_natCast] at hM
    have HM1 := Lib.hid hM
    have HG := Lib.hid hg
    clear hbad hok h0 hM hg hb H64
    by_cases h1 : 40 < k
    · have t1 : decide ((40 : Int) < (k : Int)) = true := by simp; omega
      clear h1
      go_wp2_with fail
      with_reducible refine (mworks_ok _ HT1.out).mono ?_
      rintro e w9 ⟨rfl, hb⟩
      have HB9 := Lib.hid (bel_then HB1.out hb)
      clear hb
      go_wp2_with fail
      go_ret
      exact ⟨rfl, HB9.out⟩
    · have t1 : decide ((40 : Int) < (k : Int)) = false := by simp; omega
      by_cases h2 : 120 < m
      · have t2 : decide ((120 : Int) < (m : Int)) = true := by simp; omega
        clear h1 h2
        go_wp2_with fail
        with_reducible refine (mworks_ok _ HT1.out).mono ?_
        rintro e w9 ⟨rfl, hb⟩
        have HB9 := Lib.hid (bel_then HB1.out hb)
        clear hb
        go_wp2_with fail
        go_ret
        exact ⟨rfl, HB9.out⟩
      · have t2 : decide ((120 : Int) < (m : Int)) = false := by simp; omega
        go_wp2_with fail
        clear t1 t2
        have hk40 : k ≤ 40 := by omega
        have hm120 : m ≤ 120 := by omega
        clear HNIL h1 h2
        with_reducible refine (minimax_ok w1 M k l HM1.out HG.out HT1.out u v).mono ?_
        rintro e w2 ⟨rfl, hb⟩
        have HB2 := Lib.hid (bel_then HB1.out hb)
        have HM2 := Lib.hid (HM1.out.below hb)
        have HT2 := Lib.hid (HT1.out.below hb)
        have HE2 := Lib.hid (HE1.out.below hb)
        clear hb HB1 HM1 HT1 HE1
        unfold intR
        go_wp2_with fail
        with_reducible refine (path_ok w2 M k l HM2.out HG.out HT2.out u v).mono ?_
        rintro e w3 ⟨hno, hyes, hb⟩
        have HB3 := Lib.hid (bel_then HB2.out hb)
        have HM3 := Lib.hid (HM2.out.below hb)
        have HT3 := Lib.hid (HT2.out.below hb)
        have HE3 := Lib.hid (HE2.out.below hb)
        clear hb HB2 HM2 HT2 HE2
        cases hmv : mV k l u v with
        | none =>
          obtain rfl := hno hmv
          clear hno hyes HE3 HW HS
          have HZ : Hid (∀ d, mmV k l u v = some d → d = -9223372036854775808 ∧ u = v) := fun d hd => mmV_zero hmv hd
          have HED : Hid (edV k l u v = none) := by show _ = _; unfold edV; rw [hmv]; rfl
          clear hmv
          go_wp2_with fail
          with_reducible refine (edge_ok w3 M k l HM3.out HG.out HT3.out u v).mono ?_
          rintro e w4 ⟨rfl, hb⟩
          have HB4 := Lib.hid (bel_then HB3.out hb)
          have HT4 := Lib.hid (HT3.out.below hb)
          rw [HED.out]
          clear hb HB3 HM3 HT3 HED
          unfold comR
          simp only [Option.getD_none, Option.isSome_none]
          cases hmm : mmV k l u v with
          | none =>
            clear HZ hmm
            simp only [Option.getD_none, Option.isSome_none]
            go_wp2_with fail
            with_reducible refine (mworks_ok _ HT4.out).mono ?_
            rintro e w9 ⟨rfl, hb⟩
            have HB9 := Lib.hid (bel_then HB4.out hb)
            clear hb
            go_wp2_with fail
            go_ret
            exact ⟨rfl, HB9.out⟩
          | some d =>
            obtain ⟨rfl, huv⟩ := HZ.out d hmm
            have t1 : (u != v) = false := by simp [huv]
            clear HZ hmm huv
            simp only [Option.getD_some, Option.isSome_some]
            go_wp2_with fail
            with_reducible refine (mworks_ok _ HT4.out).mono ?_
            rintro e w9 ⟨rfl, hb⟩
            have HB9 := Lib.hid (bel_then HB4.out hb)
            clear hb
            go_wp2_with fail
            go_ret
            exact ⟨rfl, HB9.out⟩
        | some c =>
          obtain ⟨a, bb, rfl, rfl, ha, hbb, hab, _, _⟩ := mV_some HG.out hmv
          obtain ⟨p, val, hp, rfl, ho, hvn⟩ := hyes c hmv
          rw [Int.toNat_natCast, Int.toNat_natCast] at hp
          obtain ⟨hc1, hc2, hfl⟩ := mV_fe HG.out hmv
          obtain ⟨t, ht⟩ : ∃ t, wI l (fe k l (c - k)) = t := ⟨_, rfl⟩
          have hmm : mmV k l a bb = some t := by rw [mmV_ne (by omega), hmv, ← ht]; rfl
          have HED : Hid (edV k l a bb = some (fe k l (c - k))) := by show _ = _; unfold edV; rw [hmv]; rfl
          have hpl := hp.ne_nil hab
          obtain ⟨ao2, pc, pb, rfl, hpr, _⟩ := own_rowN ho rfl
          have HMX := Lib.hid (mxw_path HG.out HW.out hmm hab hp)
          have HSE : Hid (∀ x, x < l.length → wI l x < t → sdB k l a t (uN l x) = sdB k l a t (vN l x)) := fun x hx hlt => sd_edge HG.out HW.out hx hlt
          have HSO := Lib.hid (sd_other hmm hab)
          have HP := Lib.hid hp
          have HPR := Lib.hid hpr
          have HMM := Lib.hid hmm
          have HFW := Lib.hid ht
          generalize fe k l (c - k) = x0 at *
          have HN : Hid (p.length ≤ 9223372036854775807) := by
            obtain ⟨_, _, e, h1, h2, _⟩ := owns_form ho hpl
            injection e with _ _ e2
            unfold maxLen at h2
            show _ ≤ _
            omega
          clear hno hyes hmv ho hvn hc1 hc2 hp hpr hmm ht
          obtain ⟨N, hN⟩ : ∃ N, p.length = N := ⟨_, rfl⟩
          have HNE := Lib.hid hN
          rw [hN] at hpl HPR HMX HN
          rw [hN]
          clear hN
          go_wp2_with fail
          with_reducible refine (edge_ok w3 M k l HM3.out HG.out HT3.out a bb).mono ?_
          rintro e w4 ⟨rfl, hb⟩
          have HB4 := Lib.hid (bel_then HB3.out hb)
          have HM4 := Lib.hid (HM3.out.below hb)
          have HT4 := Lib.hid (HT3.out.below hb)
          have HE4 := Lib.hid (HE3.out.below hb)
          have HP4 := Lib.hid (HPR.out.below hb)
          rw [HED.out, HMM.out]
          clear hb HB3 HM3 HT3 HED HE3 HPR
          unfold comR
          simp only [Option.getD_some, Option.isSome_some]
          have t1 : ((a : Int) != (bb : Int)) = true := by simp; omega
          have t2 : decide (0 < N) = true := decide_eq_true hpl
          have t3 : decide ((0 : Int) < (N : Int)) = true := decide_eq_true (by omega)
          go_wp2_with fail
          clear t1 t2 t3
          go_loopw [16, 17, 18] (fun s16 s17 s18 wr => ∃ (i x : Nat) (y : Int), i ≤ N ∧ s18 = .int .i64 i ∧ s16 = .int .i64 x ∧ s17 = .int .i64 y ∧ y = mxTo l p i ∧ PathTo k l bb x (p.drop i) ∧ Below w4.heap.size w4 wr) (fun _ _ s _ => N - (intOf s).toNat)
          case atStart => exact ⟨0, a, _, Nat.zero_le _, rfl, rfl, rfl, rfl, HP.out, Below.refl _ _⟩
          case round =>
            obtain ⟨i, x, y, hi, rfl, rfl, rfl, hy, hpx, hbr⟩ := hrel
            have HBR := Lib.hid hbr
            have HPX := Lib.hid hpx
            have HY := Lib.hid hy
            clear hbr hpx hy
            by_cases hiN : i < N
            · have HPI := Lib.hid (HP4.out.below HBR.out)
              have c7 := HPI.out.cell i hiN
              obtain ⟨e, he⟩ : ∃ e, p.getD i 0 = e := ⟨_, rfl⟩
              have hdr : p.drop i = e :: p.drop (i + 1) := by
                have hlt : i < p.length := by rw [HNE.out]; exact hiN
                rw [List.drop_eq_getElem_cons hlt, ← he, List.getD_eq_getElem?_getD, List.getElem?_eq_getElem hlt]; rfl
              rw [nI_at (by rw [HNE.out]; exact hiN), Nat.zero_add, he] at c7
              have HMS : Hid (mxTo l p (i + 1) = max y (wI l e)) := by show _ = _; rw [mxTo_succ (by rw [HNE.out]; exact hiN), he, HY.out]
              have hp1 := HPX.out
              rw [hdr] at hp1
              obtain ⟨z, hz1, hz2, hz3⟩ := hp1.next
              have HPZ := Lib.hid hz3
              have hel := forL_mem hz1
              clear he hdr hp1 hz1 hz3
              have HEI := Lib.hid (HE4.out.below HBR.out)
              obtain ⟨d0, d1, d2⟩ := HEI.out.cell e (by rw [← HS.out]; exact hel)
              obtain ⟨hu, hv, huv, eU, eV⟩ := HG.out.uv hel
              have hem : e < m := by rw [← HS.out]; exact hel
              rw [eU] at d0
              rw [eV] at d1
              obtain rfl := HEI.out.adr (by omega)
              obtain rfl := HPI.out.adr (by omega)
              have HWE : Hid ((EA l e).W = wI l e) := rfl
              rw [HWE.out] at d2
              have t1 : (e : Int) < (m : Int) := by omega
              have t2 : (0 : Int) ≤ (e : Int) := by omega
              have t3 : (i : Int) < (N : Int) := by omega
              have t4 : (0 : Int) ≤ (i : Int) := by omega
              have t5 : decide ((e : Int) < 0) = false := decide_eq_false (by omega)
              have t6 : decide ((m : Int) ≤ (e : Int)) = false := decide_eq_false (by omega)
              have t7 : decide (m ≤ e) = false := decide_eq_false (by omega)
              have hx40 : z < k ∧ x < k := by
                rcases hz2 with ⟨h1, h2⟩ | ⟨h1, h2⟩ <;> omega
              have HNB := Lib.hid HN.out
              have t8 : IntKind.i64.wrap ((i : Int) + 1) = (i : Int) + 1 := IntWalk.i64_in _ (by have := HNB.out; omega)
              have hmax := max_run y (wI l e)
              have HBX := Lib.hid (HBR.out.alloc HBR.out.size (.cells #[.int .i64 (uN l e), .int .i64 (vN l e), .int .i64 (wI l e)] 45))
              rcases hz2 with ⟨h1, h2⟩ | ⟨h1, h2⟩
              · have s1 : ((uN l e : Int) != (x : Int)) = false := by simp [h1]
                have s2 : (uN l e : Int) + (vN l e : Int) - (x : Int) = (z : Int) := by omega
                clear h1 h2 eU eV hel
                generalize uN l e = ue at *
                generalize vN l e = ve at *
                generalize wI l e = we at *
                go_wp2_with fail
                go_roundw
                case rel => exact ⟨i + 1, z, _, by omega, by go_num, (by first | rfl | rw [s2]), rfl, HMS.out.symm, HPZ.out, HBX.out⟩
                case measure => simp [intOf]; omega
              · have s1 : ((uN l e : Int) != (x : Int)) = true := by simp; omega
                have s3 : ((vN l e : Int) != (x : Int)) = false := by simp [h1]
                have s2 : (uN l e : Int) + (vN l e : Int) - (x : Int) = (z : Int) := by omega
                clear h1 h2 eU eV hel
                generalize uN l e = ue at *
                generalize vN l e = ve at *
                generalize wI l e = we at *
                go_wp2_with fail
                go_roundw
                case rel => exact ⟨i + 1, z, _, by omega, by go_num, (by first | rfl | rw [s2]), rfl, HMS.out.symm, HPZ.out, HBX.out⟩
                case measure => simp [intOf]; omega
            · obtain rfl : i = N := by omega
              have hx : x = bb := by
                have := HPX.out
                rw [List.drop_of_length_le (by rw [HNE.out]; exact Nat.le_refl _)] at this
                exact this.nil_eq
              subst hx
              obtain rfl : y = t := HY.out.trans HMX.out
              have HEI := Lib.hid (HE4.out.below HBR.out)
              obtain ⟨d0, d1, d2⟩ := HEI.out.cell x0 (by rw [← HS.out]; exact hfl)
              have hxm : x0 < m := by rw [← HS.out]; exact hfl
              have hWE : (EA l x0).W = y := HFW.out
              rw [hWE] at d2
              have HM5 := Lib.hid (HM4.out.below HBR.out)
              have HT5 := Lib.hid (HT4.out.below HBR.out)
              obtain rfl := HEI.out.adr (by omega)
              have t1 : (x0 : Int) < (m : Int) := by omega
              have t2 : (0 : Int) ≤ (x0 : Int) := by omega
              have t3 : decide ((x0 : Int) < 0) = false := decide_eq_false (by omega)
              have t4 : decide ((m : Int) ≤ (x0 : Int)) = false := decide_eq_false (by omega)
              have t5 : decide (m ≤ x0) = false := decide_eq_false (by omega)
              have t6 : ((x : Int) != (x : Int)) = false := by simp
              have t7 : (y != y) = false := by simp
              clear hWE hfl d0 d1
              go_wp2_with (at_make; apply keepIt)
              apply Lib.hid
              refine wpList_makeB 4 (.bool false) 1 Tryd.underlying46 Tryd.infoBoolM rfl _ _ _ _ k rfl rfl rfl rfl (by omega) (by unfold maxLen; omega) ?_
              intro w6 hB6 hb6
              have HSD : Hid (Blk w6 wr.heap.size 4 (boV (sdL k l a y 0))) := by
                show Blk _ _ _ _
                have e0 : boV (sdL k l a y 0) = List.replicate k (.bool false) := by unfold sdL boV; simp
                rw [e0]; exact hB6
              have HB5 := Lib.hid (bel_then HB4.out HBR.out)
              have HSB := Lib.hid HB5.out.size
              have HB6 := Lib.hid hb6
              clear hB6 hb6 t1 t2 t3 t4 t5 t6 t7 d2 HB4 HM4 HT4 HE4 HP4 HPX HP HY HMX HFW HN HNE HBR
              obtain ⟨wA, hwA⟩ : ∃ z, z = wr := ⟨_, rfl⟩
              subst hwA
              obtain ⟨sb, hsb⟩ : ∃ sb, wA.heap.size = sb := ⟨_, rfl⟩
              rw [hsb] at HSD HB6 HSB
              rw [hsb]
              have HSBE := Lib.hid hsb
              clear hsb
              go_wp2_with fail
              go_loopw [21] (fun s w7 => ∃ v : Nat, v ≤ k ∧ s = .int .i64 v ∧ Blk w7 sb 4 (boV (sdL k l a y v)) ∧ Below sb wA w7) (fun s _ => k - (intOf s).toNat)
              case atStart => exact ⟨0, Nat.zero_le _, rfl, HSD.out, HB6.out⟩
              case round =>
                obtain ⟨v, hv, rfl, hsd, hbr⟩ := hrel
                clear HSD HB6
                have HSD := Lib.hid hsd
                have HB7 := Lib.hid hbr
                clear hsd hbr
                have hb7' : Below wA.heap.size wA wr := by rw [HSBE.out]; exact HB7.out
                have HM7 := Lib.hid (HM5.out.below hb7')
                have HT7 := Lib.hid (HT5.out.below hb7')
                have HE7 := Lib.hid (HEI.out.below hb7')
                have HBW := Lib.hid (bel_then HB5.out hb7')
                clear hb7'
                by_cases hvk : v < k
                · have t1 : (v : Int) < (k : Int) := by omega
                  have t0 : (0 : Int) ≤ (v : Int) := by omega
                  go_wp2_with fail
                  with_reducible refine (minimax_ok wr M k l HM7.out HG.out HT7.out a v).mono ?_
                  rintro e w8 ⟨rfl, hb⟩
                  have HB8 : Hid (Below sb wA w8) := HB7.out.trans (hb.mono (Nat.le_of_lt HSD.out.lt))
                  have HSD8 := Lib.hid (HSD.out.below hb HSD.out.lt)
                  have fr := HSD8.out.free v
                  have HST : Hid (∀ q, q = sdB k l a y v → Blk (w8.setCell ⟨sb, v, none⟩ (.bool q)) sb 4 (boV (sdL k l a y (v + 1)))) := fun q hq => by
                    have := HSD8.out.set v (.bool q)
                    rw [boV_set, hq, sdL_set hvk] at this
                    rw [hq]; exact this
                  have HBS : Hid (∀ q, Below sb wA (w8.setCell ⟨sb, v, none⟩ (.bool q))) := fun q => HB8.out.setCell (p := ⟨sb, v, none⟩) (Nat.le_refl _) _
                  have hcl : w8.cell? ⟨sb, v, none⟩ = some (.bool ((sdL k l a y v).getD v false)) := HSD8.out.cell (boV_get (by
                    have hlt : v < (sdL k l a y v).length := by rw [sdL_len hv]; exact hvk
                    rw [List.getD_eq_getElem?_getD, List.getElem?_eq_getElem hlt]; rfl))
                  clear hb
                  unfold intR
                  by_cases hva : v = a
                  · have hq : true = sdB k l a y v := by rw [hva, sd_self]
                    have t2 : ((v : Int) == (a : Int)) = true := by simp [hva]
                    have HR := Lib.hid (HST.out _ hq)
                    clear HST hq hva
                    go_wp2_with fail
                    go_roundw
                    case rel => exact ⟨v + 1, by omega, by go_num, HR.out, HBS.out _⟩
                    case measure => simp [intOf]; omega
                  · have t2 : ((v : Int) == (a : Int)) = false := by simp; omega
                    cases hmm : mmV k l a v with
                    | none =>
                      have hq : false = sdB k l a y v := by unfold sdB; rw [hmm]; simp [hva]
                      have HR := Lib.hid (HST.out _ hq)
                      clear HST hq hva hmm
                      simp only [Option.getD_none, Option.isSome_none]
                      go_wp2_with fail
                      go_roundw
                      case rel => exact ⟨v + 1, by omega, by go_num, HR.out, HBS.out _⟩
                      case measure => simp [intOf]; omega
                    | some d =>
                      have hq : decide (d < y) = sdB k l a y v := by unfold sdB; rw [hmm]; simp [hva]
                      have HR := Lib.hid (HST.out _ hq)
                      clear HST hq hva hmm
                      simp only [Option.getD_some, Option.isSome_some]
                      go_wp2_with fail
                      go_roundw
                      case rel => exact ⟨v + 1, by omega, by go_num, HR.out, HBS.out _⟩
                      case measure => simp [intOf]; omega
                · obtain rfl : v = k := by omega
                  obtain ⟨wB, hwB⟩ : ∃ z, z = wr := ⟨_, rfl⟩
                  subst hwB
                  have HSC : Hid (∀ x, x < v → wB.cell? ⟨sb, x, none⟩ = some (.bool (sdB v l a y x))) := fun x hx => HSD.out.cell (boV_get (sdL_at hx))
                  clear HSD HB7 HM5 HT5 HEI HM7
                  go_wp2_with fail
                  go_loopw [24] (fun s w8 => ∃ i : Nat, i ≤ m ∧ s = .int .i64 i ∧ Mod (fun _ => False) wB w8) (fun s _ => m - (intOf s).toNat)
                  case atStart => exact ⟨0, Nat.zero_le _, rfl, Mod.refl _ _⟩
                  case round =>
                    obtain ⟨i, hi, rfl, hmd⟩ := hrel
                    have HMD := Lib.hid hmd
                    by_cases him : i < m
                    · obtain ⟨d0, d1, d2⟩ := (HE7.out.mod hmd (fun _ h => h)).cell i him
                      have hil : i < l.length := by rw [HS.out]; exact him
                      obtain ⟨hu, hv2, huv, eU, eV⟩ := HG.out.uv hil
                      rw [eU] at d0
                      rw [eV] at d1
                      have hWE : (EA l i).W = wI l i := rfl
                      rw [hWE] at d2
                      have b0 := (hmd.cell (p := ⟨sb, uN l i, none⟩) (World.block_lt_of_cell? wB _ (HSC.out _ hu)) (fun h => h)).trans (HSC.out _ hu)
                      have b1 := (hmd.cell (p := ⟨sb, vN l i, none⟩) (World.block_lt_of_cell? wB _ (HSC.out _ hv2)) (fun h => h)).trans (HSC.out _ hv2)
                      have HQ : Hid (wI l i < y → sdB v l a y (uN l i) = sdB v l a y (vN l i)) := fun h => HSE.out i hil h
                      have t1 : (i : Int) < (m : Int) := by omega
                      have t0 : (0 : Int) ≤ (i : Int) := by omega
                      have t2 : (uN l i : Int) < (v : Int) := by omega
                      have t3 : (vN l i : Int) < (v : Int) := by omega
                      have t4 : (0 : Int) ≤ (uN l i : Int) := by omega
                      have t5 : (0 : Int) ≤ (vN l i : Int) := by omega
                      clear hmd eU eV hWE hu hv2 huv hil
                      generalize sdB v l a y (uN l i) = q0 at *
                      generalize sdB v l a y (vN l i) = q1 at *
                      generalize uN l i = ue at *
                      generalize vN l i = ve at *
                      generalize wI l i = we at *
                      by_cases hq : q0 = q1
                      · subst hq
                        have t6 : (q0 != q0) = false := by simp
                        clear HQ
                        go_wp2_with fail
                        go_quiet (fail)
                        go_wp2_with fail
                        go_roundw
                        case rel => exact ⟨i + 1, by omega, by go_num, HMD.out.drewN _⟩
                        case measure => simp [intOf]; omega
                      · have t7 : decide (we < y) = false := decide_eq_false (fun h => hq (HQ.out h))
                        cases q0 with
                        | false =>
                          obtain rfl : q1 = true := by cases q1 with | false => exact absurd rfl hq | true => rfl
                          clear HQ hq
                          go_wp2_with fail
                          go_quiet (fail)
                          go_wp2_with fail
                          go_roundw
                          case rel => exact ⟨i + 1, by omega, by go_num, HMD.out.drewN _⟩
                          case measure => simp [intOf]; omega
                        | true =>
                          obtain rfl : q1 = false := by cases q1 with | true => exact absurd rfl hq | false => rfl
                          clear HQ hq
                          go_wp2_with fail
                          go_quiet (fail)
                          go_wp2_with fail
                          go_roundw
                          case rel => exact ⟨i + 1, by omega, by go_num, HMD.out.drewN _⟩
                          case measure => simp [intOf]; omega
                    · obtain rfl : i = m := by omega
                      have ha1 := HSC.out a ha
                      have hb1 := HSC.out x hbb
                      rw [sd_self] at ha1
                      rw [HSO.out] at hb1
                      have b0 := (hmd.cell (p := ⟨sb, a, none⟩) (World.block_lt_of_cell? wB _ ha1) (fun h => h)).trans ha1
                      have b1 := (hmd.cell (p := ⟨sb, x, none⟩) (World.block_lt_of_cell? wB _ hb1) (fun h => h)).trans hb1
                      have t2 : (a : Int) < (v : Int) := by omega
                      have t3 : (x : Int) < (v : Int) := by omega
                      have t4 : (0 : Int) ≤ (a : Int) := by omega
                      have t5 : (0 : Int) ≤ (x : Int) := by omega
                      have hbz : Below wB.heap.size wB wr := hmd.below (Nat.le_refl _) (fun _ h => h.elim)
                      have HTZ := Lib.hid (HT7.out.below hbz)
                      have HBZ := Lib.hid (bel_then HBW.out hbz)
                      clear hmd ha1 hb1 hbz
                      go_wp2_with fail
                      with_reducible refine (mworks_ok _ HTZ.out).mono ?_
                      rintro e w9 ⟨rfl, hb⟩
                      have HB9 := Lib.hid (bel_then HBZ.out hb)
                      clear hb
                      go_wp2_with fail
                      go_ret
                      exact ⟨rfl, HB9.out⟩
  · obtain rfl := hbad h0
    have t0 : (newErr n l != 0) = true := by simp [h0]
    clear hbad hok h0 hb
    generalize newErr n l = z at *
    go_wp2_with fail
    with_reducible refine (mworks_ok _ HT1.out).mono ?_
    rintro e w9 ⟨rfl, hb⟩
    have HB9 := Lib.hid (bel_then HB1.out hb)
    clear hb
    go_wp2_with fail
    go_ret
    exact ⟨rfl, HB9.out⟩

end Go.Proofs.YtenhbfbfkcjimaaDoor
