/- Several texts in one: TpX. -/
import Derived.Test.YtlooaipipmiijaaGreatZX42
namespace Go.Proofs.YtlooaipipmiijaaGreat
set_option linter.unusedVariables false
set_option linter.unusedSimpArgs false
open Go.RowKit
set_option maxHeartbeats 2000000 in
set_option maxRecDepth 100000 in
theorem connected_no (w : World) (cW cE cV cD : Int) (hno : ¬ CfgO cW cE cV cD) (ao : Option Addr) (len cap : Nat) (u v : Int) :
    Calls Tryz.prog 4 #[.agg #[.int .i64 cW, .int .i64 cE, .int .i64 cV, .int .i64 cD], .slice ao len cap, .int .u64 u, .int .u64 v] w (TopR w) := by
  have HBW : Hid (∀ W, Below (w.alloc (.cells #[.int .i64 cW, .int .i64 cE, .int .i64 cV, .int .i64 cD] 23)).heap.size (w.alloc (.cells #[.int .i64 cW, .int .i64 cE, .int .i64 cV, .int .i64 cD] 23)) W → TopR w (.returned (.bool true)) W) := fun W k => TopR.mk (bel_alloc w _) k
  have HX := Lib.hid (Blk.new w 23 [.int .i64 cW, .int .i64 cE, .int .i64 cV, .int .i64 cD])
  simp only [List.toArray] at HX
  have HN := Lib.hid (fun W => wn_new_bad W cW cE cV cD hno)
  clear hno
  go_enter Tryz.func4, Tryz.ntmps4
  go_upto_region 1 with fail
  generalize w.alloc (.cells #[.int .i64 cW, .int .i64 cE, .int .i64 cV, .int .i64 cD] 23) = w1 at *
  generalize w.heap.size = z at *
  have c0 := HX.out.cell (i := 0) rfl
  have c1 := HX.out.cell (i := 1) rfl
  have c2 := HX.out.cell (i := 2) rfl
  have c3 := HX.out.cell (i := 3) rfl
  have HN1 := Lib.hid (HN.out w1)
  have HWK := Lib.hid tp_works
  go_wp2_with (first | (go_at_call 5; with_reducible refine HN1.out.mono ?_; rintro e w2 ⟨rfl, hb⟩; have HB2 := Lib.hid hb; clear hb) | (go_at_call 7; refine (HWK.out _).mono ?_; rintro e w3 ⟨rfl, hb⟩; have HB3 := Lib.hid (HBW.out _ (bel_next HB2.out hb)); clear hb))
  go_ret
  exact HB3.out
set_option maxHeartbeats 8000000 in
set_option maxRecDepth 100000 in
theorem connected_yes (w : World) (cW cD : Int) (E V : Nat) (hcf : CfgO cW E V cD) (hmx : cW ≤ 9223372036854775807) (ao : Option Addr) (len cap bs off : Nat) (F : Nat → Stp) (hs : SRow w ao len cap bs off F) (u v : Nat) :
    Calls Tryz.prog 4 #[.agg #[.int .i64 cW, .int .i64 (E : Int), .int .i64 (V : Int), .int .i64 cD], .slice ao len cap, .int .u64 (u : Int), .int .u64 (v : Int)] w (TopR w) := by
  have HBW : Hid (∀ W, Below (w.alloc (.cells #[.int .i64 cW, .int .i64 (E : Int), .int .i64 (V : Int), .int .i64 cD] 23)).heap.size (w.alloc (.cells #[.int .i64 cW, .int .i64 (E : Int), .int .i64 (V : Int), .int .i64 cD] 23)) W → TopR w (.returned (.bool true)) W) := fun W k => TopR.mk (bel_alloc w _) k
  have HX := Lib.hid (Blk.new w 23 [.int .i64 cW, .int .i64 (E : Int), .int .i64 (V : Int), .int .i64 cD])
  have HS1 := Lib.hid (hs.keep (bel_alloc w (.cells #[.int .i64 cW, .int .i64 (E : Int), .int .i64 (V : Int), .int .i64 cD] 23)))
  simp only [List.toArray] at HX
  have HN := Lib.hid (fun W => wn_new W cW cD E V hcf hmx)
  have HCW : Hid (1 ≤ cW ∧ cW ≤ 9223372036854775807) := ⟨hcf.1, hmx⟩
  clear hcf hs hmx
  go_enter Tryz.func4, Tryz.ntmps4
  go_upto_region 1 with fail
  generalize w.alloc (.cells #[.int .i64 cW, .int .i64 (E : Int), .int .i64 (V : Int), .int .i64 cD] 23) = w1 at *
  generalize w.heap.size = z at *
  have c0 := HX.out.cell (i := 0) rfl
  have c1 := HX.out.cell (i := 1) rfl
  have c2 := HX.out.cell (i := 2) rfl
  have c3 := HX.out.cell (i := 3) rfl
  have HN1 := Lib.hid (HN.out w1)
  have HWK := Lib.hid tp_works
  go_upto_region 2 with (go_at_call 5; refine HN1.out.mono ?_; rintro e w2 hpo; obtain ⟨b, G, he, h2, h3, h4, h5⟩ := hpo.ex; subst he; have HL2 : Hid (LpI w1 b cW cD E V 0 G [] w2) := ⟨⟨h2, h3, h5, hpo.bel⟩, ⟨h4.1, h4.2.1, h4.2.2.1, h4.2.2.2.1⟩, Nat.le_of_eq h4.2.2.2.2.2⟩; have HG0 := Lib.hid h4.2.2.2.2.1; clear hpo h2 h3 h4 h5)
  clear c0 c1 c2 c3 HN1 HN
  have HX2 := Lib.hid (HX.out.below HL2.out.fr.bel HX.out.lt)
  have c0 := HX2.out.cell (i := 0) rfl
  have c1 := HX2.out.cell (i := 1) rfl
  have c2 := HX2.out.cell (i := 2) rfl
  have c3 := HX2.out.cell (i := 3) rfl
  have HSM := tp_small w2 cW E V cD ao len cap
  by_cases hsm : ((V : Int) ≤ 12 ∧ (E : Int) ≤ 30 ∧ len ≤ 60)
  · rw [decide_eq_true hsm] at HSM
    replace HSM := Lib.hid HSM
    have hlen : len ≤ 60 := hsm.2.2
    have hE30 : E ≤ 30 := by have := hsm.2.1; omega
    have hV12 : V ≤ 12 := by have := hsm.1; omega
    clear hsm
    go_wp2_with (go_at_call 6; with_reducible refine HSM.out.mono ?_; rintro e w3 ⟨rfl, hb⟩; have HL3 := Lib.hid (HL2.out.below hb); clear hb)
    clear c0 c1 c2 c3 HL2 HX2 HSM
    go_loopw [11, 12, 13] (fun s11 s12 s13 wr => ∃ (k : Nat) (G : WnG) (all : List Rcd), k ≤ len ∧ s13 = .int .i64 (k : Int) ∧ s12 = .int .i64 G.now ∧ LpR w1 b cW cD E V k G all s11 all wr) (fun _ _ s13 _ => len - (intOf s13).toNat)
    case atStart => exact ⟨0, _, _, Nat.zero_le _, rfl, by rw [HG0.out], LpR.start HL3.out⟩
    case round =>
      obtain ⟨k, Gk, all, hk, rfl, rfl, hlp⟩ := hrel
      clear HL3 HG0
      have HLP := Lib.hid hlp
      obtain ⟨aa, ca, rfl⟩ := hlp.slice
      clear hlp
      by_cases hlt : k < len
      · have t1 : decide ((k : Int) < (len : Int)) = true := decide_eq_true (by omega)
        have t2 : decide (k < len) = true := decide_eq_true hlt
        have hwk : IntKind.i64.wrap ((k : Int) + 1) = (k : Int) + 1 := IntWalk.i64_in _ (by omega)
        have ti2 : (k : Int) < (len : Int) := by omega
        have hadr := HS1.out.adr (by omega)
        subst hadr
        have HSR := Lib.hid (HS1.out.keep HLP.out.lp.fr.bel)
        obtain ⟨r, HR⟩ : ∃ r, Hid ((F k).r = r) := ⟨_, rfl⟩
        have HRO := Lib.hid (HSR.out.wf k hlt)
        have HKL := Lib.hid hlt
        have HRG : Hid (wr.rangeAt bs (off + k * 5 + 1) (encC r)) := by
          intro j y hy
          have := HSR.out.cell k hlt (j + 1) y (by rw [← HR.out] at hy; exact hy)
          rw [← this]
          congr 2
          omega
        have HCA : Hid (∀ W, Below w1.heap.size w1 W → W.cell? ⟨bs, off + k * 5, none⟩ = some (.bool (F k).ad)) := fun W hb => (HS1.out.keep hb).cell k hlt 0 _ rfl
        clear hlt HSR
        have hro := HRO.out
        unfold StpO at hro
        rw [HR.out] at hro
        have HR5 := Lib.hid hro
        clear hro HRO
        obtain ⟨ru, rv, rwt, rt⟩ := r
        have HRG2 : Hid (wr.rangeAt bs (off + k * 5 + 1) [.int .u64 (ru : Int), .int .u64 (rv : Int), .int .i64 rwt, .int .i64 rt]) := HRG.out
        clear HRG
        have HLE := Lib.hid HLP.out.lp.len
        obtain ⟨m, HM⟩ : ∃ m, Hid (all.length = m) := ⟨_, rfl⟩
        rw [HM.out] at HLP HLE
        rw [HM.out]
        have HR4 := Lib.hid (HLP.out.box ru rv rwt rt)
        go_upto_region 10 with (with_reducible refine wpList_load_mid rfl 33 _ rfl bs (off + k * 5 + 1) rfl [.int .u64 (ru : Int), .int .u64 (rv : Int), .int .i64 rwt, .int .i64 rt] _ HRG2.out Tryz.underlying33 rfl (by kernel_rfl) ?_)
        generalize wr.alloc (.cells #[.int .u64 (ru : Int), .int .u64 (rv : Int), .int .i64 rwt, .int .i64 rt] 33) = w5 at *
        generalize wr.heap.size = zb at *
        have HNO : Hid (0 ≤ Gk.now) := HLP.out.lp.fr.wl.now.1
        have hws : IntKind.i64.wrap (9223372036854775807 - cW) = 9223372036854775807 - cW := IntWalk.i64_in _ (by have := HCW.out; omega)
        have tnow : (Gk.now == Gk.now) = true := by simp
        have tnow2 : (rt == rt) = true := by simp
        clear HLP HRG2
        obtain ⟨rest, HRS⟩ : ∃ rest, Hid (stay cW rt all = rest) := ⟨_, rfl⟩
        obtain ⟨n7, HN7⟩ : ∃ n7, Hid (rest.length = n7) := ⟨_, rfl⟩
        have HRL : Hid (n7 ≤ E) := by
          show _ ≤ _
          have h1 : (stay cW rt all).length ≤ all.length := List.length_filter_le _ _
          rw [HRS.out, HN7.out, HM.out] at h1
          have := HLE.out
          omega
        by_cases had : (F k).ad = true
        · rw [had] at HCA
          have car := HCA.out w5 HR4.out.lp.lp.fr.bel
          have y0r := HR4.out.bz.cell (i := 0) rfl
          have y1r := HR4.out.bz.cell (i := 1) rfl
          have y2r := HR4.out.bz.cell (i := 2) rfl
          have y3r := HR4.out.bz.cell (i := 3) rfl
          have g0r := (HX.out.below HR4.out.lp.lp.fr.bel HX.out.lt).cell (i := 0) rfl
          have g1r := (HX.out.below HR4.out.lp.lp.fr.bel HX.out.lt).cell (i := 1) rfl
          have g2r := (HX.out.below HR4.out.lp.lp.fr.bel HX.out.lt).cell (i := 2) rfl
          have g3r := (HX.out.below HR4.out.lp.lp.fr.bel HX.out.lt).cell (i := 3) rfl
          have HAD := Lib.hid (wn_add w5 b Gk all HR4.out.lp.lp.fr.mem HR4.out.lp.lp.fr.wl ru rv rwt rt HR5.out.1 HR5.out.2.1 HR5.out.2.2.2 (by have := HR4.out.lp.lp.add; omega))
          by_cases huv : ru = rv
          · subst huv
            have HAE := Lib.hid (add_loop (G := Gk) (all := all) (u := ru) (wt := rwt) (t := rt))
            have t3 : ((ru : Int) == (ru : Int)) = true := by simp
            clear had
            go_upto_region 30 with (go_at_call 8; refine HAD.out.mono ?_; rintro e w6 hpo; obtain ⟨G6, all6, hs6, hl6, hgood, hbad⟩ := HR4.out.lp.lp.added hpo; have hv := hpo.val; rw [HAE.out] at hv; subst hv; obtain ⟨ha6, hn6⟩ := hbad (by rw [HAE.out]; decide); have ha7 := ha6.symm; clear ha6; subst ha7; have HB6 := Lib.hid (HR4.out.step hs6 hl6); have HN6 := Lib.hid hn6; have cas := HCA.out w6 HB6.out.lp.lp.fr.bel; have y0s := HB6.out.bz.cell (i := 0) rfl; have y1s := HB6.out.bz.cell (i := 1) rfl; have y2s := HB6.out.bz.cell (i := 2) rfl; have y3s := HB6.out.bz.cell (i := 3) rfl; have g0s := (HX.out.below HB6.out.lp.lp.fr.bel HX.out.lt).cell (i := 0) rfl; have g1s := (HX.out.below HB6.out.lp.lp.fr.bel HX.out.lt).cell (i := 1) rfl; have g2s := (HX.out.below HB6.out.lp.lp.fr.bel HX.out.lt).cell (i := 2) rfl; have g3s := (HX.out.below HB6.out.lp.lp.fr.bel HX.out.lt).cell (i := 3) rfl; clear hs6 hl6 hgood hbad hn6 hpo)
            clear car y0r y1r y2r y3r g0r g1r g2r g3r
            clear cas y0s y1s y2s y3s g0s g1s g2s g3s
            clear HAD
            have HNW := wn_now w6 b G6 HB6.out.lp.lp.fr.mem
            rw [HN6.out] at HNW
            replace HNW := Lib.hid HNW
            have HCN := tp_connected w6 b G6 all HB6.out.lp.lp.fr.mem HB6.out.lp.lp.fr.wl (E : Int) (V : Int) cD _ HB6.out.lp.row HB6.out.lp.nf (by have := HB6.out.lp.lp.len; omega) u v
            rw [HB6.out.lp.lp.cfg.1] at HCN
            replace HCN := Lib.hid HCN
            have HXE := Lib.hid (HX.out.below HB6.out.lp.lp.fr.bel HX.out.lt)
            have e0 := HXE.out.cell (i := 0) rfl
            have e1 := HXE.out.cell (i := 1) rfl
            have e2 := HXE.out.cell (i := 2) rfl
            have e3 := HXE.out.cell (i := 3) rfl
            go_wp2_with (first | (go_at_call 12; with_reducible refine HNW.out.mono ?_; rintro e w' ⟨rfl, rfl⟩) | (go_at_call 16; with_reducible refine HCN.out.mono ?_; rintro e w9 ⟨rfl, hst⟩; obtain ⟨G9, hs9, hl9, hn9⟩ := HB6.out.lp.lp.quiet hst; have HL9 := Lib.hid (HB6.out.lp.step hs9 hl9); have HN9 := Lib.hid (hn9.trans HN6.out); clear hst hs9 hl9 hn9))
            go_roundw
            case rel => exact ⟨k + 1, G9, all, HKL.out, by go_num, by rw [HN9.out], HL9.out⟩
            case measure => have := HKL.out; simp [intOf]; omega
          · have t3 : ((ru : Int) == (rv : Int)) = false := by rw [beq_eq_false_iff_ne]; omega
            rcases clk_cases (t := rt) HCW.out.1 HNO.out with ⟨d1, hck⟩ | ⟨d1, d2, hck⟩ | ⟨d1, d2, hck⟩
            · have HAE : Hid (addE Gk all ⟨ru, rv, rwt, rt⟩ = 10) := (add_clk HR4.out.lp.lp.cfg.1 huv (by show clkE cW Gk.now rt ≠ 0; rw [hck]; decide)).trans hck
              have t4 : decide (rt < Gk.now) = true := decide_eq_true d1
              clear had huv hck d1
              go_upto_region 30 with (go_at_call 8; refine HAD.out.mono ?_; rintro e w6 hpo; obtain ⟨G6, all6, hs6, hl6, hgood, hbad⟩ := HR4.out.lp.lp.added hpo; have hv := hpo.val; rw [HAE.out] at hv; subst hv; obtain ⟨ha6, hn6⟩ := hbad (by rw [HAE.out]; decide); have ha7 := ha6.symm; clear ha6; subst ha7; have HB6 := Lib.hid (HR4.out.step hs6 hl6); have HN6 := Lib.hid hn6; have cas := HCA.out w6 HB6.out.lp.lp.fr.bel; have y0s := HB6.out.bz.cell (i := 0) rfl; have y1s := HB6.out.bz.cell (i := 1) rfl; have y2s := HB6.out.bz.cell (i := 2) rfl; have y3s := HB6.out.bz.cell (i := 3) rfl; have g0s := (HX.out.below HB6.out.lp.lp.fr.bel HX.out.lt).cell (i := 0) rfl; have g1s := (HX.out.below HB6.out.lp.lp.fr.bel HX.out.lt).cell (i := 1) rfl; have g2s := (HX.out.below HB6.out.lp.lp.fr.bel HX.out.lt).cell (i := 2) rfl; have g3s := (HX.out.below HB6.out.lp.lp.fr.bel HX.out.lt).cell (i := 3) rfl; clear hs6 hl6 hgood hbad hn6 hpo)
              clear car y0r y1r y2r y3r g0r g1r g2r g3r
              clear cas y0s y1s y2s y3s g0s g1s g2s g3s
              clear HAD
              have HNW := wn_now w6 b G6 HB6.out.lp.lp.fr.mem
              rw [HN6.out] at HNW
              replace HNW := Lib.hid HNW
              have HCN := tp_connected w6 b G6 all HB6.out.lp.lp.fr.mem HB6.out.lp.lp.fr.wl (E : Int) (V : Int) cD _ HB6.out.lp.row HB6.out.lp.nf (by have := HB6.out.lp.lp.len; omega) u v
              rw [HB6.out.lp.lp.cfg.1] at HCN
              replace HCN := Lib.hid HCN
              have HXE := Lib.hid (HX.out.below HB6.out.lp.lp.fr.bel HX.out.lt)
              have e0 := HXE.out.cell (i := 0) rfl
              have e1 := HXE.out.cell (i := 1) rfl
              have e2 := HXE.out.cell (i := 2) rfl
              have e3 := HXE.out.cell (i := 3) rfl
              go_wp2_with (first | (go_at_call 12; with_reducible refine HNW.out.mono ?_; rintro e w' ⟨rfl, rfl⟩) | (go_at_call 16; with_reducible refine HCN.out.mono ?_; rintro e w9 ⟨rfl, hst⟩; obtain ⟨G9, hs9, hl9, hn9⟩ := HB6.out.lp.lp.quiet hst; have HL9 := Lib.hid (HB6.out.lp.step hs9 hl9); have HN9 := Lib.hid (hn9.trans HN6.out); clear hst hs9 hl9 hn9))
              go_roundw
              case rel => exact ⟨k + 1, G9, all, HKL.out, by go_num, by rw [HN9.out], HL9.out⟩
              case measure => have := HKL.out; simp [intOf]; omega
            · have HAE : Hid (addE Gk all ⟨ru, rv, rwt, rt⟩ = 7) := (add_clk HR4.out.lp.lp.cfg.1 huv (by show clkE cW Gk.now rt ≠ 0; rw [hck]; decide)).trans hck
              have t4 : decide (rt < Gk.now) = false := decide_eq_false (by omega)
              have t5 : decide (9223372036854775807 - cW < rt) = true := decide_eq_true d2
              clear had huv hck d1 d2
              go_upto_region 30 with (go_at_call 8; refine HAD.out.mono ?_; rintro e w6 hpo; obtain ⟨G6, all6, hs6, hl6, hgood, hbad⟩ := HR4.out.lp.lp.added hpo; have hv := hpo.val; rw [HAE.out] at hv; subst hv; obtain ⟨ha6, hn6⟩ := hbad (by rw [HAE.out]; decide); have ha7 := ha6.symm; clear ha6; subst ha7; have HB6 := Lib.hid (HR4.out.step hs6 hl6); have HN6 := Lib.hid hn6; have cas := HCA.out w6 HB6.out.lp.lp.fr.bel; have y0s := HB6.out.bz.cell (i := 0) rfl; have y1s := HB6.out.bz.cell (i := 1) rfl; have y2s := HB6.out.bz.cell (i := 2) rfl; have y3s := HB6.out.bz.cell (i := 3) rfl; have g0s := (HX.out.below HB6.out.lp.lp.fr.bel HX.out.lt).cell (i := 0) rfl; have g1s := (HX.out.below HB6.out.lp.lp.fr.bel HX.out.lt).cell (i := 1) rfl; have g2s := (HX.out.below HB6.out.lp.lp.fr.bel HX.out.lt).cell (i := 2) rfl; have g3s := (HX.out.below HB6.out.lp.lp.fr.bel HX.out.lt).cell (i := 3) rfl; clear hs6 hl6 hgood hbad hn6 hpo)
              clear car y0r y1r y2r y3r g0r g1r g2r g3r
              clear cas y0s y1s y2s y3s g0s g1s g2s g3s
              clear HAD
              have HNW := wn_now w6 b G6 HB6.out.lp.lp.fr.mem
              rw [HN6.out] at HNW
              replace HNW := Lib.hid HNW
              have HCN := tp_connected w6 b G6 all HB6.out.lp.lp.fr.mem HB6.out.lp.lp.fr.wl (E : Int) (V : Int) cD _ HB6.out.lp.row HB6.out.lp.nf (by have := HB6.out.lp.lp.len; omega) u v
              rw [HB6.out.lp.lp.cfg.1] at HCN
              replace HCN := Lib.hid HCN
              have HXE := Lib.hid (HX.out.below HB6.out.lp.lp.fr.bel HX.out.lt)
              have e0 := HXE.out.cell (i := 0) rfl
              have e1 := HXE.out.cell (i := 1) rfl
              have e2 := HXE.out.cell (i := 2) rfl
              have e3 := HXE.out.cell (i := 3) rfl
              go_wp2_with (first | (go_at_call 12; with_reducible refine HNW.out.mono ?_; rintro e w' ⟨rfl, rfl⟩) | (go_at_call 16; with_reducible refine HCN.out.mono ?_; rintro e w9 ⟨rfl, hst⟩; obtain ⟨G9, hs9, hl9, hn9⟩ := HB6.out.lp.lp.quiet hst; have HL9 := Lib.hid (HB6.out.lp.step hs9 hl9); have HN9 := Lib.hid (hn9.trans HN6.out); clear hst hs9 hl9 hn9))
              go_roundw
              case rel => exact ⟨k + 1, G9, all, HKL.out, by go_num, by rw [HN9.out], HL9.out⟩
              case measure => have := HKL.out; simp [intOf]; omega
            · have hroom := add_room (G := Gk) (all := all) (r := ⟨ru, rv, rwt, rt⟩) ⟨HR4.out.lp.lp.cfg.1, HR4.out.lp.lp.cfg.2.1, HR4.out.lp.lp.cfg.2.2.1⟩ huv hck
              rw [HRS.out] at hroom
              have t4 : decide (rt < Gk.now) = false := decide_eq_false (by omega)
              have t5 : decide (9223372036854775807 - cW < rt) = false := decide_eq_false (by omega)
              have HLV : Hid (∀ W v, W.ownsRow 0 33 4 v all.length (rcV all) → Calls Tryz.prog 14 #[.agg #[.int .i64 cW, .int .i64 (E : Int), .int .i64 (V : Int), .int .i64 cD], v, .int .i64 rt] W (fun e w' => ∃ a7 c7, e = .returned (.slice a7 n7 c7) ∧ RcB W (.slice a7 n7 c7) rest w')) := by
                have h1 := HM.out
                have h2 := HLE.out
                have h3 := HCW.out
                have h4 := HNO.out
                have h5 := HR5.out.2.2.2
                show ∀ W v, _
                intro W v hr
                refine (tp_live W v all cW (E : Int) (V : Int) cD rt hr (by omega) (by omega)).mono ?_
                rintro e w' ⟨v', he, hrc⟩
                have hrc' : RcB W v' rest w' := by rw [← HRS.out]; exact hrc
                obtain ⟨ao', cp', rfl⟩ := hrc'.slice
                rw [HN7.out] at he hrc'
                exact ⟨ao', cp', he, hrc'⟩
              unfold chkL at hroom
              rw [HN7.out] at hroom
              clear had huv hck d1 d2
              by_cases hE : E ≤ n7
              · have HAE : Hid (addE Gk all ⟨ru, rv, rwt, rt⟩ = 12) := by show _ = _; rw [hroom, if_pos hE]; rfl
                have t6 : ((n7 : Int) == (E : Int)) = true := by have := HRL.out; rw [beq_iff_eq]; omega
                clear hroom hE
                go_upto_region 30 with (first | (go_at_call 8; refine HAD.out.mono ?_; rintro e w6 hpo; obtain ⟨G6, all6, hs6, hl6, hgood, hbad⟩ := HR4.out.lp.lp.added hpo; have hv := hpo.val; rw [HAE.out] at hv; subst hv; obtain ⟨ha6, hn6⟩ := hbad (by rw [HAE.out]; decide); have ha7 := ha6.symm; clear ha6; subst ha7; have HB6 := Lib.hid (HR4.out.step hs6 hl6); have HN6 := Lib.hid hn6; have cas := HCA.out w6 HB6.out.lp.lp.fr.bel; have y0s := HB6.out.bz.cell (i := 0) rfl; have y1s := HB6.out.bz.cell (i := 1) rfl; have y2s := HB6.out.bz.cell (i := 2) rfl; have y3s := HB6.out.bz.cell (i := 3) rfl; have g0s := (HX.out.below HB6.out.lp.lp.fr.bel HX.out.lt).cell (i := 0) rfl; have g1s := (HX.out.below HB6.out.lp.lp.fr.bel HX.out.lt).cell (i := 1) rfl; have g2s := (HX.out.below HB6.out.lp.lp.fr.bel HX.out.lt).cell (i := 2) rfl; have g3s := (HX.out.below HB6.out.lp.lp.fr.bel HX.out.lt).cell (i := 3) rfl; clear hs6 hl6 hgood hbad hn6 hpo) | (go_at_call 14; refine (HLV.out w6 _ HB6.out.lp.row).mono ?_; rintro e w7 ⟨a7, c7, rfl, hrc⟩; have HRC := Lib.hid hrc; have HB7 := Lib.hid (HB6.out.below hrc.bel); have cat := HCA.out w7 HB7.out.lp.lp.fr.bel; have y0t := HB7.out.bz.cell (i := 0) rfl; have y1t := HB7.out.bz.cell (i := 1) rfl; have y2t := HB7.out.bz.cell (i := 2) rfl; have y3t := HB7.out.bz.cell (i := 3) rfl; have g0t := (HX.out.below HB7.out.lp.lp.fr.bel HX.out.lt).cell (i := 0) rfl; have g1t := (HX.out.below HB7.out.lp.lp.fr.bel HX.out.lt).cell (i := 1) rfl; have g2t := (HX.out.below HB7.out.lp.lp.fr.bel HX.out.lt).cell (i := 2) rfl; have g3t := (HX.out.below HB7.out.lp.lp.fr.bel HX.out.lt).cell (i := 3) rfl; clear hrc))
                clear car y0r y1r y2r y3r g0r g1r g2r g3r
                clear cas y0s y1s y2s y3s g0s g1s g2s g3s
                clear cat y0t y1t y2t y3t g0t g1t g2t g3t
                clear HAD HLV HB6 HRC
                have HNW := wn_now w7 b G6 HB7.out.lp.lp.fr.mem
                rw [HN6.out] at HNW
                replace HNW := Lib.hid HNW
                have HCN := tp_connected w7 b G6 all HB7.out.lp.lp.fr.mem HB7.out.lp.lp.fr.wl (E : Int) (V : Int) cD _ HB7.out.lp.row HB7.out.lp.nf (by have := HB7.out.lp.lp.len; omega) u v
                rw [HB7.out.lp.lp.cfg.1] at HCN
                replace HCN := Lib.hid HCN
                have HXE := Lib.hid (HX.out.below HB7.out.lp.lp.fr.bel HX.out.lt)
                have e0 := HXE.out.cell (i := 0) rfl
                have e1 := HXE.out.cell (i := 1) rfl
                have e2 := HXE.out.cell (i := 2) rfl
                have e3 := HXE.out.cell (i := 3) rfl
                go_wp2_with (first | (go_at_call 12; with_reducible refine HNW.out.mono ?_; rintro e w' ⟨rfl, rfl⟩) | (go_at_call 16; with_reducible refine HCN.out.mono ?_; rintro e w9 ⟨rfl, hst⟩; obtain ⟨G9, hs9, hl9, hn9⟩ := HB7.out.lp.lp.quiet hst; have HL9 := Lib.hid (HB7.out.lp.step hs9 hl9); have HN9 := Lib.hid (hn9.trans HN6.out); clear hst hs9 hl9 hn9))
                go_roundw
                case rel => exact ⟨k + 1, G9, all, HKL.out, by go_num, by rw [HN9.out], HL9.out⟩
                case measure => have := HKL.out; simp [intOf]; omega
              · rw [if_neg hE] at hroom
                have t6 : ((n7 : Int) == (E : Int)) = false := by rw [beq_eq_false_iff_ne]; omega
                clear hE
                by_cases hV : V < (idsL (rest ++ [Rcd.mk ru rv rwt rt])).length
                · have HAE : Hid (addE Gk all ⟨ru, rv, rwt, rt⟩ = 11) := by show _ = _; rw [hroom, if_pos hV]; rfl
                  have HVD : Hid (decide (V < (idsL (rest ++ [Rcd.mk ru rv rwt rt])).length) = true) := decide_eq_true hV
                  clear hroom hV
                  go_upto_region 24 with (first | (go_at_call 8; refine HAD.out.mono ?_; rintro e w6 hpo; obtain ⟨G6, all6, hs6, hl6, hgood, hbad⟩ := HR4.out.lp.lp.added hpo; have hv := hpo.val; rw [HAE.out] at hv; subst hv; obtain ⟨ha6, hn6⟩ := hbad (by rw [HAE.out]; decide); have ha7 := ha6.symm; clear ha6; subst ha7; have HB6 := Lib.hid (HR4.out.step hs6 hl6); have HN6 := Lib.hid hn6; have cas := HCA.out w6 HB6.out.lp.lp.fr.bel; have y0s := HB6.out.bz.cell (i := 0) rfl; have y1s := HB6.out.bz.cell (i := 1) rfl; have y2s := HB6.out.bz.cell (i := 2) rfl; have y3s := HB6.out.bz.cell (i := 3) rfl; have g0s := (HX.out.below HB6.out.lp.lp.fr.bel HX.out.lt).cell (i := 0) rfl; have g1s := (HX.out.below HB6.out.lp.lp.fr.bel HX.out.lt).cell (i := 1) rfl; have g2s := (HX.out.below HB6.out.lp.lp.fr.bel HX.out.lt).cell (i := 2) rfl; have g3s := (HX.out.below HB6.out.lp.lp.fr.bel HX.out.lt).cell (i := 3) rfl; clear hs6 hl6 hgood hbad hn6 hpo) | (go_at_call 14; refine (HLV.out w6 _ HB6.out.lp.row).mono ?_; rintro e w7 ⟨a7, c7, rfl, hrc⟩; have HRC := Lib.hid hrc; have HB7 := Lib.hid (HB6.out.below hrc.bel); have cat := HCA.out w7 HB7.out.lp.lp.fr.bel; have y0t := HB7.out.bz.cell (i := 0) rfl; have y1t := HB7.out.bz.cell (i := 1) rfl; have y2t := HB7.out.bz.cell (i := 2) rfl; have y3t := HB7.out.bz.cell (i := 3) rfl; have g0t := (HX.out.below HB7.out.lp.lp.fr.bel HX.out.lt).cell (i := 0) rfl; have g1t := (HX.out.below HB7.out.lp.lp.fr.bel HX.out.lt).cell (i := 1) rfl; have g2t := (HX.out.below HB7.out.lp.lp.fr.bel HX.out.lt).cell (i := 2) rfl; have g3t := (HX.out.below HB7.out.lp.lp.fr.bel HX.out.lt).cell (i := 3) rfl; clear hrc))
                  clear car y0r y1r y2r y3r g0r g1r g2r g3r
                  clear cas y0s y1s y2s y3s g0s g1s g2s g3s
                  have HKP : Hid (∀ W, Below w7.heap.size w7 W → W.cell? ⟨bs, off + k * 5, none⟩ = some (.bool true) ∧ W.cell? ⟨zb, 0, none⟩ = some (.int .u64 (ru : Int)) ∧ W.cell? ⟨zb, 1, none⟩ = some (.int .u64 (rv : Int)) ∧ W.cell? ⟨zb, 2, none⟩ = some (.int .i64 rwt) ∧ W.cell? ⟨zb, 3, none⟩ = some (.int .i64 rt) ∧ W.cell? ⟨z, 2, none⟩ = some (.int .i64 (V : Int)) ∧ Below w7.heap.size w7 W) := fun W hb => by
                    have h7 := HB7.out.below hb
                    exact ⟨HCA.out W h7.lp.lp.fr.bel, h7.bz.cell (i := 0) rfl, h7.bz.cell (i := 1) rfl, h7.bz.cell (i := 2) rfl, h7.bz.cell (i := 3) rfl, (HX.out.below h7.lp.lp.fr.bel HX.out.lt).cell (i := 2) rfl, hb⟩
                  have HRS7 : Hid (w7.ownsRow 0 33 4 (.slice a7 n7 c7) n7 (rcV rest)) := by
                    have := HRC.out.own
                    rwa [HN7.out] at this
                  have h30 : n7 ≤ 30 := by have := HRL.out; omega
                  obtain ⟨ni, HNI⟩ : ∃ ni, Hid ((idsL (rest ++ [Rcd.mk ru rv rwt rt])).length = ni) := ⟨_, rfl⟩
                  obtain ⟨vb, HVB⟩ : ∃ vb, Hid (decide (V < (idsL (rest ++ [Rcd.mk ru rv rwt rt])).length) = vb) := ⟨_, rfl⟩
                  have tvi : decide ((V : Int) < (ni : Int)) = vb := by
                    rw [← HVB.out, HNI.out]
                    by_cases c : V < ni
                    · rw [decide_eq_true c, decide_eq_true (by omega)]
                    · rw [decide_eq_false c, decide_eq_false (by omega)]
                  have HDS : Hid (∀ W v, Below w7.heap.size w7 W → W.ownsRow 0 33 4 v (n7 + 1) (rcV rest ++ [.int .u64 (ru : Int), .int .u64 (rv : Int), .int .i64 rwt, .int .i64 rt]) → Calls Tryz.prog 15 #[v] W (fun e w' => ∃ ai ci, e = .returned (.slice ai ni ci) ∧ Below w7.heap.size w7 w')) := by
                    show ∀ W v, _
                    intro W v hb ho
                    have e1 : (rest ++ [Rcd.mk ru rv rwt rt]).length = n7 + 1 := by rw [List.length_append, HN7.out]; rfl
                    have ho' : W.ownsRow 0 33 4 v (rest ++ [Rcd.mk ru rv rwt rt]).length (rcV (rest ++ [Rcd.mk ru rv rwt rt])) := by
                      rw [e1, rcV_snoc]; exact ho
                    refine (tp_ids W v _ ho' (by rw [e1]; omega) fun q hq => ?_).mono ?_
                    · rcases List.mem_append.1 hq with hq | hq
                      · rw [← HRS.out] at hq
                        unfold stay at hq
                        have := HR4.out.lp.lp.fr.wl.minT q (List.mem_filter.1 hq).1
                        exact ⟨this.2.2.2.1, this.2.2.2.2⟩
                      · rw [List.mem_singleton] at hq
                        rw [hq]; exact ⟨HR5.out.1, HR5.out.2.1⟩
                    · rintro e w' ⟨v', he, hid⟩
                      obtain ⟨ai, ci, rfl⟩ := hid.slice
                      rw [HNI.out] at he
                      exact ⟨ai, ci, he, bel_next hb hid.bel⟩
                  have HEA := Lib.hid (owns_new w7 33 4 0 [] rfl (by decide))
                  have HEB := Lib.hid (HEA.out.alloc (.cells #[.int .u64 (ru : Int), .int .u64 (rv : Int), .int .i64 rwt, .int .i64 rt] 33))
                  have HLB := Lib.hid (owns_new (w7.alloc (.cells #[] 33)) 33 4 1 [.int .u64 (ru : Int), .int .u64 (rv : Int), .int .i64 rwt, .int .i64 rt] rfl (by decide))
                  have HLC0 := Lib.hid (owns_new w7 33 4 1 [.int .u64 (ru : Int), .int .u64 (rv : Int), .int .i64 rwt, .int .i64 rt] rfl (by decide))
                  have HLC := Lib.hid (HLC0.out.alloc (.cells #[] 33))
                  have HEC := Lib.hid (owns_new (w7.alloc (.cells #[.int .u64 (ru : Int), .int .u64 (rv : Int), .int .i64 rwt, .int .i64 rt] 33)) 33 4 0 [] rfl (by decide))
                  have HSE : (w7.alloc (.cells #[] 33)).heap.size = w7.heap.size + 1 := by rw [World.alloc, Array.size_push]
                  have HSL : (w7.alloc (.cells #[.int .u64 (ru : Int), .int .u64 (rv : Int), .int .i64 rwt, .int .i64 rt] 33)).heap.size = w7.heap.size + 1 := by rw [World.alloc, Array.size_push]
                  rw [HSE] at HLB
                  rw [HSL] at HEC
                  clear HSE HSL
                  have HNB : Hid (∀ x, (Value.slice (some ⟨w7.heap.size + 1, 0, none⟩) 1 1).ownBlock = some x → x ≠ (⟨w7.heap.size, 0, none⟩ : Addr).block) := by
                    show ∀ x, _
                    intro x hx
                    have e' : some (w7.heap.size + 1) = some x := hx
                    injection e' with e'
                    show x ≠ w7.heap.size
                    omega
                  have HNC : Hid (∀ x, (Value.slice (some ⟨w7.heap.size, 0, none⟩) 1 1).ownBlock = some x → x ≠ (⟨w7.heap.size + 1, 0, none⟩ : Addr).block) := by
                    show ∀ x, _
                    intro x hx
                    have e' : some w7.heap.size = some x := hx
                    injection e' with e'
                    show x ≠ w7.heap.size + 1
                    omega
                  go_cut [111] (fun s wx => s = .bool vb ∧ Below w7.heap.size w7 wx)
                  case first =>
                    go_region_held3 (fun W => W.cell? ⟨bs, off + k * 5, none⟩ = some (.bool true) ∧ W.cell? ⟨zb, 0, none⟩ = some (.int .u64 (ru : Int)) ∧ W.cell? ⟨zb, 1, none⟩ = some (.int .u64 (rv : Int)) ∧ W.cell? ⟨zb, 2, none⟩ = some (.int .i64 rwt) ∧ W.cell? ⟨zb, 3, none⟩ = some (.int .i64 rt) ∧ W.cell? ⟨z, 2, none⟩ = some (.int .i64 (V : Int)) ∧ Below w7.heap.size w7 W)
                      (((try go_split_ands); refine HKP.out _ ?_; first | with_reducible assumption | with_reducible exact (Below.refl _ _) | with_reducible exact (Below.refl _ _).drew | with_reducible exact (bel_alloc _ _).drew | with_reducible exact (bel_al (bel_alloc _ _) _).drew | with_reducible exact bel_al hb8 _))
                      (first
                        | ((try go_split_ands); refine step_appR (by rfl) 33 (.agg #[.int .u64 0, .int .u64 0, .int .i64 0, .int .i64 0]) 4 32 Tryz.underlying45 Tryz.infoRec rfl (by decide) (.slice (some ⟨w7.heap.size, 0, none⟩) 0 0) 0 [] rfl (show World.ownsRow (w7.alloc (.cells #[] 33)).drew _ _ _ _ _ _ from HEA.out) (.slice a7 n7 c7) n7 (rcV rest) rfl (owns_below HRS7.out (bel_alloc w7 _).drew) (rcV_one rest) (by unfold maxLen; omega) (by omega) ?_; intro v1 w8 ho hg hkk; rw [Nat.zero_add, List.nil_append] at ho; have hb8 : Below w7.heap.size w7 w8 := app_bel ((bel_alloc w7 _).drew) hg (Nat.le_refl _);  obtain ⟨av, cv, rfl⟩ := owns_slice ho; have hn8 := app_new (w := w7) ((bel_alloc w7 _).drew).size hkk (Nat.le_refl _); have HV1 := Lib.hid ho; have HN1 := Lib.hid hn8; clear ho hg hkk hn8)
                        | ((try go_split_ands); refine step_appR (by rfl) 33 (.agg #[.int .u64 0, .int .u64 0, .int .i64 0, .int .i64 0]) 4 32 Tryz.underlying45 Tryz.infoRec rfl (by decide) (.slice av n7 cv) n7 (rcV rest) rfl (HV1.out.alloc _) (.slice (some ⟨_, 0, none⟩) 1 1) 1 [.int .u64 (ru : Int), .int .u64 (rv : Int), .int .i64 rwt, .int .i64 rt] rfl (owns_new _ 33 4 1 [.int .u64 (ru : Int), .int .u64 (rv : Int), .int .i64 rwt, .int .i64 rt] rfl (by decide)) (encC_one (Rcd.mk ru rv rwt rt)) (by unfold maxLen; omega) (by omega) ?_; intro v2 w9 ho hg hkk; have hb9 : Below w7.heap.size w7 w9 := (bel_al hb8 _).grown hg (bel_al hb8 _).size HN1.out; obtain ⟨aw, cw, rfl⟩ := owns_slice ho; have HV2 := Lib.hid ho; clear ho hg hkk)
                        | ((try go_split_ands); refine step_appR (by rfl) 33 (.agg #[.int .u64 0, .int .u64 0, .int .i64 0, .int .i64 0]) 4 32 Tryz.underlying45 Tryz.infoRec rfl (by decide) (.slice av n7 cv) n7 (rcV rest) rfl HV1.out (.slice (some ⟨_, 0, none⟩) 1 1) 1 [.int .u64 (ru : Int), .int .u64 (rv : Int), .int .i64 rwt, .int .i64 rt] rfl HL1.out (encC_one (Rcd.mk ru rv rwt rt)) (by unfold maxLen; omega) (by omega) ?_; intro v2 w9 ho hg hkk; have hb9 : Below w7.heap.size w7 w9 := (hb8).grown hg (hb8).size HN1.out; obtain ⟨aw, cw, rfl⟩ := owns_slice ho; have HV2 := Lib.hid ho; clear ho hg hkk)
                        | ((try go_split_ands); refine step_appR (by rfl) 33 (.agg #[.int .u64 0, .int .u64 0, .int .i64 0, .int .i64 0]) 4 32 Tryz.underlying45 Tryz.infoRec rfl (by decide) (.slice (some ⟨w7.heap.size, 0, none⟩) 0 0) 0 [] rfl (show World.ownsRow ((w7.alloc (.cells #[] 33)).alloc (.cells #[.int .u64 (ru : Int), .int .u64 (rv : Int), .int .i64 rwt, .int .i64 rt] 33)).drew _ _ _ _ _ _ from HEB.out) (.slice a7 n7 c7) n7 (rcV rest) rfl (owns_below HRS7.out (bel_al (bel_alloc w7 _) _).drew) (rcV_one rest) (by unfold maxLen; omega) (by omega) ?_; intro v1 w8 ho hg hkk; rw [Nat.zero_add, List.nil_append] at ho; have hb8 : Below w7.heap.size w7 w8 := app_bel ((bel_al (bel_alloc w7 _) _).drew) hg (Nat.le_refl _); have HL1 := Lib.hid (own_other (w := ((w7.alloc (.cells #[] 33)).alloc (.cells #[.int .u64 (ru : Int), .int .u64 (rv : Int), .int .i64 rwt, .int .i64 rt] 33)).drew) HLB.out hg (HNB.out));  obtain ⟨av, cv, rfl⟩ := owns_slice ho; have hn8 := app_new (w := w7) ((bel_al (bel_alloc w7 _) _).drew).size hkk (Nat.le_refl _); have HV1 := Lib.hid ho; have HN1 := Lib.hid hn8; clear ho hg hkk hn8)
                        | ((try go_split_ands); refine step_appR (by rfl) 33 (.agg #[.int .u64 0, .int .u64 0, .int .i64 0, .int .i64 0]) 4 32 Tryz.underlying45 Tryz.infoRec rfl (by decide) (.slice (some ⟨w7.heap.size + 1, 0, none⟩) 0 0) 0 [] rfl (show World.ownsRow ((w7.alloc (.cells #[.int .u64 (ru : Int), .int .u64 (rv : Int), .int .i64 rwt, .int .i64 rt] 33)).alloc (.cells #[] 33)).drew _ _ _ _ _ _ from HEC.out) (.slice a7 n7 c7) n7 (rcV rest) rfl (owns_below HRS7.out (bel_al (bel_alloc w7 _) _).drew) (rcV_one rest) (by unfold maxLen; omega) (by omega) ?_; intro v1 w8 ho hg hkk; rw [Nat.zero_add, List.nil_append] at ho; have hb8 : Below w7.heap.size w7 w8 := app_bel ((bel_al (bel_alloc w7 _) _).drew) hg (Nat.le_succ _); have HL1 := Lib.hid (own_other (w := ((w7.alloc (.cells #[.int .u64 (ru : Int), .int .u64 (rv : Int), .int .i64 rwt, .int .i64 rt] 33)).alloc (.cells #[] 33)).drew) HLC.out hg (HNC.out));  obtain ⟨av, cv, rfl⟩ := owns_slice ho; have hn8 := app_new (w := w7) ((bel_al (bel_alloc w7 _) _).drew).size hkk (Nat.le_succ _); have HV1 := Lib.hid ho; have HN1 := Lib.hid hn8; clear ho hg hkk hn8)
                        | (go_at_call 15; (try go_split_ands); refine (HDS.out _ _ hb9 HV2.out).mono ?_; rintro e w10 ⟨ai, ci, rfl, hb10⟩))
                    all_goals
                      go_wp2_with fail
                      go_meet
                      exact ⟨by first | rfl | (rw [← HVB.out, HNI.out]), by assumption⟩
                  rw [← HVB.out, HVD.out] at hcut
                  clear HKP HRS7 HNI HVB tvi HDS HEA HEB HLB HLC0 HLC HEC HNB HNC
                  obtain ⟨rfl, hb8⟩ := hcut
                  have HB8 := Lib.hid (HB7.out.below hb8)
                  clear hb8 HRC
                  generalize wc = w8 at *
                  clear cat y0t y1t y2t y3t g0t g1t g2t g3t
                  go_upto_region 30 with fail
                  clear HAD HLV HB6 HB7 HVD
                  have HNW := wn_now w8 b G6 HB8.out.lp.lp.fr.mem
                  rw [HN6.out] at HNW
                  replace HNW := Lib.hid HNW
                  have HCN := tp_connected w8 b G6 all HB8.out.lp.lp.fr.mem HB8.out.lp.lp.fr.wl (E : Int) (V : Int) cD _ HB8.out.lp.row HB8.out.lp.nf (by have := HB8.out.lp.lp.len; omega) u v
                  rw [HB8.out.lp.lp.cfg.1] at HCN
                  replace HCN := Lib.hid HCN
                  have HXE := Lib.hid (HX.out.below HB8.out.lp.lp.fr.bel HX.out.lt)
                  have e0 := HXE.out.cell (i := 0) rfl
                  have e1 := HXE.out.cell (i := 1) rfl
                  have e2 := HXE.out.cell (i := 2) rfl
                  have e3 := HXE.out.cell (i := 3) rfl
                  go_wp2_with (first | (go_at_call 12; with_reducible refine HNW.out.mono ?_; rintro e w' ⟨rfl, rfl⟩) | (go_at_call 16; with_reducible refine HCN.out.mono ?_; rintro e w9 ⟨rfl, hst⟩; obtain ⟨G9, hs9, hl9, hn9⟩ := HB8.out.lp.lp.quiet hst; have HL9 := Lib.hid (HB8.out.lp.step hs9 hl9); have HN9 := Lib.hid (hn9.trans HN6.out); clear hst hs9 hl9 hn9))
                  go_roundw
                  case rel => exact ⟨k + 1, G9, all, HKL.out, by go_num, by rw [HN9.out], HL9.out⟩
                  case measure => have := HKL.out; simp [intOf]; omega
                · have HAE : Hid (addE Gk all ⟨ru, rv, rwt, rt⟩ = 0) := by show _ = _; rw [hroom, if_neg hV]; rfl
                  have HVD : Hid (decide (V < (idsL (rest ++ [Rcd.mk ru rv rwt rt])).length) = false) := decide_eq_false hV
                  clear hroom hV
                  go_upto_region 24 with (first | (go_at_call 8; refine HAD.out.mono ?_; rintro e w6 hpo; obtain ⟨G6, all6, hs6, hl6, hgood, hbad⟩ := HR4.out.lp.lp.added hpo; have hv := hpo.val; rw [HAE.out] at hv; subst hv; obtain ⟨ha6, hn6⟩ := hgood HAE.out; have ha7 := ha6.symm; clear ha6; subst ha7; have HB6 := Lib.hid (HR4.out.step hs6 hl6); have HN6 := Lib.hid hn6; have cas := HCA.out w6 HB6.out.lp.lp.fr.bel; have y0s := HB6.out.bz.cell (i := 0) rfl; have y1s := HB6.out.bz.cell (i := 1) rfl; have y2s := HB6.out.bz.cell (i := 2) rfl; have y3s := HB6.out.bz.cell (i := 3) rfl; have g0s := (HX.out.below HB6.out.lp.lp.fr.bel HX.out.lt).cell (i := 0) rfl; have g1s := (HX.out.below HB6.out.lp.lp.fr.bel HX.out.lt).cell (i := 1) rfl; have g2s := (HX.out.below HB6.out.lp.lp.fr.bel HX.out.lt).cell (i := 2) rfl; have g3s := (HX.out.below HB6.out.lp.lp.fr.bel HX.out.lt).cell (i := 3) rfl; clear hs6 hl6 hgood hbad hn6 hpo) | (go_at_call 14; refine (HLV.out w6 _ HB6.out.lp.row).mono ?_; rintro e w7 ⟨a7, c7, rfl, hrc⟩; have HRC := Lib.hid hrc; have HB7 := Lib.hid (HB6.out.below hrc.bel); have cat := HCA.out w7 HB7.out.lp.lp.fr.bel; have y0t := HB7.out.bz.cell (i := 0) rfl; have y1t := HB7.out.bz.cell (i := 1) rfl; have y2t := HB7.out.bz.cell (i := 2) rfl; have y3t := HB7.out.bz.cell (i := 3) rfl; have g0t := (HX.out.below HB7.out.lp.lp.fr.bel HX.out.lt).cell (i := 0) rfl; have g1t := (HX.out.below HB7.out.lp.lp.fr.bel HX.out.lt).cell (i := 1) rfl; have g2t := (HX.out.below HB7.out.lp.lp.fr.bel HX.out.lt).cell (i := 2) rfl; have g3t := (HX.out.below HB7.out.lp.lp.fr.bel HX.out.lt).cell (i := 3) rfl; clear hrc))
                  clear car y0r y1r y2r y3r g0r g1r g2r g3r
                  clear cas y0s y1s y2s y3s g0s g1s g2s g3s
                  have HKP : Hid (∀ W, Below w7.heap.size w7 W → W.cell? ⟨bs, off + k * 5, none⟩ = some (.bool true) ∧ W.cell? ⟨zb, 0, none⟩ = some (.int .u64 (ru : Int)) ∧ W.cell? ⟨zb, 1, none⟩ = some (.int .u64 (rv : Int)) ∧ W.cell? ⟨zb, 2, none⟩ = some (.int .i64 rwt) ∧ W.cell? ⟨zb, 3, none⟩ = some (.int .i64 rt) ∧ W.cell? ⟨z, 2, none⟩ = some (.int .i64 (V : Int)) ∧ Below w7.heap.size w7 W) := fun W hb => by
                    have h7 := HB7.out.below hb
                    exact ⟨HCA.out W h7.lp.lp.fr.bel, h7.bz.cell (i := 0) rfl, h7.bz.cell (i := 1) rfl, h7.bz.cell (i := 2) rfl, h7.bz.cell (i := 3) rfl, (HX.out.below h7.lp.lp.fr.bel HX.out.lt).cell (i := 2) rfl, hb⟩
                  have HRS7 : Hid (w7.ownsRow 0 33 4 (.slice a7 n7 c7) n7 (rcV rest)) := by
                    have := HRC.out.own
                    rwa [HN7.out] at this
                  have h30 : n7 ≤ 30 := by have := HRL.out; omega
                  obtain ⟨ni, HNI⟩ : ∃ ni, Hid ((idsL (rest ++ [Rcd.mk ru rv rwt rt])).length = ni) := ⟨_, rfl⟩
                  obtain ⟨vb, HVB⟩ : ∃ vb, Hid (decide (V < (idsL (rest ++ [Rcd.mk ru rv rwt rt])).length) = vb) := ⟨_, rfl⟩
                  have tvi : decide ((V : Int) < (ni : Int)) = vb := by
                    rw [← HVB.out, HNI.out]
                    by_cases c : V < ni
                    · rw [decide_eq_true c, decide_eq_true (by omega)]
                    · rw [decide_eq_false c, decide_eq_false (by omega)]
                  have HDS : Hid (∀ W v, Below w7.heap.size w7 W → W.ownsRow 0 33 4 v (n7 + 1) (rcV rest ++ [.int .u64 (ru : Int), .int .u64 (rv : Int), .int .i64 rwt, .int .i64 rt]) → Calls Tryz.prog 15 #[v] W (fun e w' => ∃ ai ci, e = .returned (.slice ai ni ci) ∧ Below w7.heap.size w7 w')) := by
                    show ∀ W v, _
                    intro W v hb ho
                    have e1 : (rest ++ [Rcd.mk ru rv rwt rt]).length = n7 + 1 := by rw [List.length_append, HN7.out]; rfl
                    have ho' : W.ownsRow 0 33 4 v (rest ++ [Rcd.mk ru rv rwt rt]).length (rcV (rest ++ [Rcd.mk ru rv rwt rt])) := by
                      rw [e1, rcV_snoc]; exact ho
                    refine (tp_ids W v _ ho' (by rw [e1]; omega) fun q hq => ?_).mono ?_
                    · rcases List.mem_append.1 hq with hq | hq
                      · rw [← HRS.out] at hq
                        unfold stay at hq
                        have := HR4.out.lp.lp.fr.wl.minT q (List.mem_filter.1 hq).1
                        exact ⟨this.2.2.2.1, this.2.2.2.2⟩
                      · rw [List.mem_singleton] at hq
                        rw [hq]; exact ⟨HR5.out.1, HR5.out.2.1⟩
                    · rintro e w' ⟨v', he, hid⟩
                      obtain ⟨ai, ci, rfl⟩ := hid.slice
                      rw [HNI.out] at he
                      exact ⟨ai, ci, he, bel_next hb hid.bel⟩
                  have HEA := Lib.hid (owns_new w7 33 4 0 [] rfl (by decide))
                  have HEB := Lib.hid (HEA.out.alloc (.cells #[.int .u64 (ru : Int), .int .u64 (rv : Int), .int .i64 rwt, .int .i64 rt] 33))
                  have HLB := Lib.hid (owns_new (w7.alloc (.cells #[] 33)) 33 4 1 [.int .u64 (ru : Int), .int .u64 (rv : Int), .int .i64 rwt, .int .i64 rt] rfl (by decide))
                  have HLC0 := Lib.hid (owns_new w7 33 4 1 [.int .u64 (ru : Int), .int .u64 (rv : Int), .int .i64 rwt, .int .i64 rt] rfl (by decide))
                  have HLC := Lib.hid (HLC0.out.alloc (.cells #[] 33))
                  have HEC := Lib.hid (owns_new (w7.alloc (.cells #[.int .u64 (ru : Int), .int .u64 (rv : Int), .int .i64 rwt, .int .i64 rt] 33)) 33 4 0 [] rfl (by decide))
                  have HSE : (w7.alloc (.cells #[] 33)).heap.size = w7.heap.size + 1 := by rw [World.alloc, Array.size_push]
                  have HSL : (w7.alloc (.cells #[.int .u64 (ru : Int), .int .u64 (rv : Int), .int .i64 rwt, .int .i64 rt] 33)).heap.size = w7.heap.size + 1 := by rw [World.alloc, Array.size_push]
                  rw [HSE] at HLB
                  rw [HSL] at HEC
                  clear HSE HSL
                  have HNB : Hid (∀ x, (Value.slice (some ⟨w7.heap.size + 1, 0, none⟩) 1 1).ownBlock = some x → x ≠ (⟨w7.heap.size, 0, none⟩ : Addr).block) := by
                    show ∀ x, _
                    intro x hx
                    have e' : some (w7.heap.size + 1) = some x := hx
                    injection e' with e'
                    show x ≠ w7.heap.size
                    omega
                  have HNC : Hid (∀ x, (Value.slice (some ⟨w7.heap.size, 0, none⟩) 1 1).ownBlock = some x → x ≠ (⟨w7.heap.size + 1, 0, none⟩ : Addr).block) := by
                    show ∀ x, _
                    intro x hx
                    have e' : some w7.heap.size = some x := hx
                    injection e' with e'
                    show x ≠ w7.heap.size + 1
                    omega
                  go_cut [111] (fun s wx => s = .bool vb ∧ Below w7.heap.size w7 wx)
                  case first =>
                    go_region_held3 (fun W => W.cell? ⟨bs, off + k * 5, none⟩ = some (.bool true) ∧ W.cell? ⟨zb, 0, none⟩ = some (.int .u64 (ru : Int)) ∧ W.cell? ⟨zb, 1, none⟩ = some (.int .u64 (rv : Int)) ∧ W.cell? ⟨zb, 2, none⟩ = some (.int .i64 rwt) ∧ W.cell? ⟨zb, 3, none⟩ = some (.int .i64 rt) ∧ W.cell? ⟨z, 2, none⟩ = some (.int .i64 (V : Int)) ∧ Below w7.heap.size w7 W)
                      (((try go_split_ands); refine HKP.out _ ?_; first | with_reducible assumption | with_reducible exact (Below.refl _ _) | with_reducible exact (Below.refl _ _).drew | with_reducible exact (bel_alloc _ _).drew | with_reducible exact (bel_al (bel_alloc _ _) _).drew | with_reducible exact bel_al hb8 _))
                      (first
                        | ((try go_split_ands); refine step_appR (by rfl) 33 (.agg #[.int .u64 0, .int .u64 0, .int .i64 0, .int .i64 0]) 4 32 Tryz.underlying45 Tryz.infoRec rfl (by decide) (.slice (some ⟨w7.heap.size, 0, none⟩) 0 0) 0 [] rfl (show World.ownsRow (w7.alloc (.cells #[] 33)).drew _ _ _ _ _ _ from HEA.out) (.slice a7 n7 c7) n7 (rcV rest) rfl (owns_below HRS7.out (bel_alloc w7 _).drew) (rcV_one rest) (by unfold maxLen; omega) (by omega) ?_; intro v1 w8 ho hg hkk; rw [Nat.zero_add, List.nil_append] at ho; have hb8 : Below w7.heap.size w7 w8 := app_bel ((bel_alloc w7 _).drew) hg (Nat.le_refl _);  obtain ⟨av, cv, rfl⟩ := owns_slice ho; have hn8 := app_new (w := w7) ((bel_alloc w7 _).drew).size hkk (Nat.le_refl _); have HV1 := Lib.hid ho; have HN1 := Lib.hid hn8; clear ho hg hkk hn8)
                        | ((try go_split_ands); refine step_appR (by rfl) 33 (.agg #[.int .u64 0, .int .u64 0, .int .i64 0, .int .i64 0]) 4 32 Tryz.underlying45 Tryz.infoRec rfl (by decide) (.slice av n7 cv) n7 (rcV rest) rfl (HV1.out.alloc _) (.slice (some ⟨_, 0, none⟩) 1 1) 1 [.int .u64 (ru : Int), .int .u64 (rv : Int), .int .i64 rwt, .int .i64 rt] rfl (owns_new _ 33 4 1 [.int .u64 (ru : Int), .int .u64 (rv : Int), .int .i64 rwt, .int .i64 rt] rfl (by decide)) (encC_one (Rcd.mk ru rv rwt rt)) (by unfold maxLen; omega) (by omega) ?_; intro v2 w9 ho hg hkk; have hb9 : Below w7.heap.size w7 w9 := (bel_al hb8 _).grown hg (bel_al hb8 _).size HN1.out; obtain ⟨aw, cw, rfl⟩ := owns_slice ho; have HV2 := Lib.hid ho; clear ho hg hkk)
                        | ((try go_split_ands); refine step_appR (by rfl) 33 (.agg #[.int .u64 0, .int .u64 0, .int .i64 0, .int .i64 0]) 4 32 Tryz.underlying45 Tryz.infoRec rfl (by decide) (.slice av n7 cv) n7 (rcV rest) rfl HV1.out (.slice (some ⟨_, 0, none⟩) 1 1) 1 [.int .u64 (ru : Int), .int .u64 (rv : Int), .int .i64 rwt, .int .i64 rt] rfl HL1.out (encC_one (Rcd.mk ru rv rwt rt)) (by unfold maxLen; omega) (by omega) ?_; intro v2 w9 ho hg hkk; have hb9 : Below w7.heap.size w7 w9 := (hb8).grown hg (hb8).size HN1.out; obtain ⟨aw, cw, rfl⟩ := owns_slice ho; have HV2 := Lib.hid ho; clear ho hg hkk)
                        | ((try go_split_ands); refine step_appR (by rfl) 33 (.agg #[.int .u64 0, .int .u64 0, .int .i64 0, .int .i64 0]) 4 32 Tryz.underlying45 Tryz.infoRec rfl (by decide) (.slice (some ⟨w7.heap.size, 0, none⟩) 0 0) 0 [] rfl (show World.ownsRow ((w7.alloc (.cells #[] 33)).alloc (.cells #[.int .u64 (ru : Int), .int .u64 (rv : Int), .int .i64 rwt, .int .i64 rt] 33)).drew _ _ _ _ _ _ from HEB.out) (.slice a7 n7 c7) n7 (rcV rest) rfl (owns_below HRS7.out (bel_al (bel_alloc w7 _) _).drew) (rcV_one rest) (by unfold maxLen; omega) (by omega) ?_; intro v1 w8 ho hg hkk; rw [Nat.zero_add, List.nil_append] at ho; have hb8 : Below w7.heap.size w7 w8 := app_bel ((bel_al (bel_alloc w7 _) _).drew) hg (Nat.le_refl _); have HL1 := Lib.hid (own_other (w := ((w7.alloc (.cells #[] 33)).alloc (.cells #[.int .u64 (ru : Int), .int .u64 (rv : Int), .int .i64 rwt, .int .i64 rt] 33)).drew) HLB.out hg (HNB.out));  obtain ⟨av, cv, rfl⟩ := owns_slice ho; have hn8 := app_new (w := w7) ((bel_al (bel_alloc w7 _) _).drew).size hkk (Nat.le_refl _); have HV1 := Lib.hid ho; have HN1 := Lib.hid hn8; clear ho hg hkk hn8)
                        | ((try go_split_ands); refine step_appR (by rfl) 33 (.agg #[.int .u64 0, .int .u64 0, .int .i64 0, .int .i64 0]) 4 32 Tryz.underlying45 Tryz.infoRec rfl (by decide) (.slice (some ⟨w7.heap.size + 1, 0, none⟩) 0 0) 0 [] rfl (show World.ownsRow ((w7.alloc (.cells #[.int .u64 (ru : Int), .int .u64 (rv : Int), .int .i64 rwt, .int .i64 rt] 33)).alloc (.cells #[] 33)).drew _ _ _ _ _ _ from HEC.out) (.slice a7 n7 c7) n7 (rcV rest) rfl (owns_below HRS7.out (bel_al (bel_alloc w7 _) _).drew) (rcV_one rest) (by unfold maxLen; omega) (by omega) ?_; intro v1 w8 ho hg hkk; rw [Nat.zero_add, List.nil_append] at ho; have hb8 : Below w7.heap.size w7 w8 := app_bel ((bel_al (bel_alloc w7 _) _).drew) hg (Nat.le_succ _); have HL1 := Lib.hid (own_other (w := ((w7.alloc (.cells #[.int .u64 (ru : Int), .int .u64 (rv : Int), .int .i64 rwt, .int .i64 rt] 33)).alloc (.cells #[] 33)).drew) HLC.out hg (HNC.out));  obtain ⟨av, cv, rfl⟩ := owns_slice ho; have hn8 := app_new (w := w7) ((bel_al (bel_alloc w7 _) _).drew).size hkk (Nat.le_succ _); have HV1 := Lib.hid ho; have HN1 := Lib.hid hn8; clear ho hg hkk hn8)
                        | (go_at_call 15; (try go_split_ands); refine (HDS.out _ _ hb9 HV2.out).mono ?_; rintro e w10 ⟨ai, ci, rfl, hb10⟩))
                    all_goals
                      go_wp2_with fail
                      go_meet
                      exact ⟨by first | rfl | (rw [← HVB.out, HNI.out]), by assumption⟩
                  rw [← HVB.out, HVD.out] at hcut
                  clear HKP HRS7 HNI HVB tvi HDS HEA HEB HLB HLC0 HLC HEC HNB HNC
                  obtain ⟨rfl, hb8⟩ := hcut
                  have HB8 := Lib.hid (HB7.out.below hb8)
                  have HRC8 := Lib.hid (HRC.out.up hb8)
                  clear hb8 HRC
                  generalize wc = w8 at *
                  clear cat y0t y1t y2t y3t g0t g1t g2t g3t
                  have ca := HCA.out w8 HB8.out.lp.lp.fr.bel
                  have y0 := HB8.out.bz.cell (i := 0) rfl
                  have y1 := HB8.out.bz.cell (i := 1) rfl
                  have y2 := HB8.out.bz.cell (i := 2) rfl
                  have y3 := HB8.out.bz.cell (i := 3) rfl
                  have g0 := (HX.out.below HB8.out.lp.lp.fr.bel HX.out.lt).cell (i := 0) rfl
                  have g1 := (HX.out.below HB8.out.lp.lp.fr.bel HX.out.lt).cell (i := 1) rfl
                  have g2 := (HX.out.below HB8.out.lp.lp.fr.bel HX.out.lt).cell (i := 2) rfl
                  have g3 := (HX.out.below HB8.out.lp.lp.fr.bel HX.out.lt).cell (i := 3) rfl
                  have HOW : Hid ((w8.alloc (.cells #[.int .u64 (ru : Int), .int .u64 (rv : Int), .int .i64 rwt, .int .i64 rt] 33)).ownsRow 0 33 4 (.slice a7 n7 c7) n7 (rcV rest)) := by
                    have := HRC8.out.own.alloc (.cells #[.int .u64 (ru : Int), .int .u64 (rv : Int), .int .i64 rwt, .int .i64 rt] 33)
                    rwa [HN7.out] at this
                  have HNS := Lib.hid (news_new w8 33 [.int .u64 (ru : Int), .int .u64 (rv : Int), .int .i64 rwt, .int .i64 rt])
                  have h7 : n7 ≤ 30 := by have := HRL.out; omega
                  generalize hrows : rcV rest = rows at *
                  have HROWS := Lib.hid hrows
                  clear hrows
                  go_wp2_with (at_builtin; apply keepIt2)
                  apply Lib.hid
                  refine (wpList_appendB 33 (.agg #[.int .u64 0, .int .u64 0, .int .i64 0, .int .i64 0]) 4 32 Tryz.underlying45 Tryz.infoRec rfl (by decide) (.slice a7 n7 c7) n7 rows rfl HOW.out ⟨w8.heap.size, 0, none⟩ 1 1 [.int .u64 (ru : Int), .int .u64 (rv : Int), .int .i64 rwt, .int .i64 rt] rfl rfl HNS.out (encC_one ⟨ru, rv, rwt, rt⟩) (by unfold maxLen; omega) (by omega) ?_)
                  intro v' w10 ho hg hkk
                  obtain ⟨a9, c9, rfl⟩ := owns_slice ho
                  have HI9 : Hid (RcB w6 (.slice a9 (rest ++ [Rcd.mk ru rv rwt rt]).length c9) (rest ++ [Rcd.mk ru rv rwt rt]) w10) := by
                    have hr8 := HRC8.out
                    rw [← HN7.out] at hr8 ho hg hkk
                    refine hr8.app (x := ⟨ru, rv, rwt, rt⟩) (T := 33) ?_ hg hkk
                    rw [HROWS.out]; exact ho
                  have HLN9 : Hid ((rest ++ [Rcd.mk ru rv rwt rt]).length = n7 + 1) := by show _ = _; rw [List.length_append, HN7.out]; rfl
                  rw [HLN9.out] at HI9
                  have HB10 : Hid (LpB w1 b cW cD E V (k + 1) G6 (stay cW rt all ++ [Rcd.mk ru rv rwt rt]) (.slice a9 (n7 + 1) c9) (rest ++ [Rcd.mk ru rv rwt rt]) zb [.int .u64 (ru : Int), .int .u64 (rv : Int), .int .i64 rwt, .int .i64 rt] w10) := by
                    have hb := HB6.out.below HI9.out.bel
                    exact hb.row (fun q hq => HB6.out.lp.lp.fr.mem.foot_lt q hq) HB6.out.lp.lp.fr.bel.size HI9.out
                  clear ho hg hkk HOW HNS HROWS HI9 HLN9 HRC8
                  rw [HRS.out] at HB10
                  go_upto_region 30 with fail
                  clear ca y0 y1 y2 y3 g0 g1 g2 g3
                  clear HAD HLV HB6 HB7 HB8 HVD
                  have HNW := wn_now w10 b G6 HB10.out.lp.lp.fr.mem
                  rw [HN6.out] at HNW
                  replace HNW := Lib.hid HNW
                  have HCN := tp_connected w10 b G6 (rest ++ [Rcd.mk ru rv rwt rt]) HB10.out.lp.lp.fr.mem HB10.out.lp.lp.fr.wl (E : Int) (V : Int) cD _ HB10.out.lp.row HB10.out.lp.nf (by have := HB10.out.lp.lp.len; omega) u v
                  rw [HB10.out.lp.lp.cfg.1] at HCN
                  replace HCN := Lib.hid HCN
                  have HXE := Lib.hid (HX.out.below HB10.out.lp.lp.fr.bel HX.out.lt)
                  have e0 := HXE.out.cell (i := 0) rfl
                  have e1 := HXE.out.cell (i := 1) rfl
                  have e2 := HXE.out.cell (i := 2) rfl
                  have e3 := HXE.out.cell (i := 3) rfl
                  go_wp2_with (first | (go_at_call 12; with_reducible refine HNW.out.mono ?_; rintro e w' ⟨rfl, rfl⟩) | (go_at_call 16; with_reducible refine HCN.out.mono ?_; rintro e w9 ⟨rfl, hst⟩; obtain ⟨G9, hs9, hl9, hn9⟩ := HB10.out.lp.lp.quiet hst; have HL9 := Lib.hid (HB10.out.lp.step hs9 hl9); have HN9 := Lib.hid (hn9.trans HN6.out); clear hst hs9 hl9 hn9))
                  go_roundw
                  case rel => exact ⟨k + 1, G9, (rest ++ [Rcd.mk ru rv rwt rt]), HKL.out, by go_num, by rw [HN9.out], HL9.out⟩
                  case measure => have := HKL.out; simp [intOf]; omega
        · have had' : (F k).ad = false := by cases h : (F k).ad; rfl; exact absurd h had
          rw [had'] at HCA
          clear had had'
          have car := HCA.out w5 HR4.out.lp.lp.fr.bel
          have y0r := HR4.out.bz.cell (i := 0) rfl
          have y1r := HR4.out.bz.cell (i := 1) rfl
          have y2r := HR4.out.bz.cell (i := 2) rfl
          have y3r := HR4.out.bz.cell (i := 3) rfl
          have g0r := (HX.out.below HR4.out.lp.lp.fr.bel HX.out.lt).cell (i := 0) rfl
          have g1r := (HX.out.below HR4.out.lp.lp.fr.bel HX.out.lt).cell (i := 1) rfl
          have g2r := (HX.out.below HR4.out.lp.lp.fr.bel HX.out.lt).cell (i := 2) rfl
          have g3r := (HX.out.below HR4.out.lp.lp.fr.bel HX.out.lt).cell (i := 3) rfl
          have HTK := Lib.hid (wn_tick w5 b Gk all HR4.out.lp.lp.fr.mem HR4.out.lp.lp.fr.wl rt HR5.out.2.2.2)
          rcases clk_cases (t := rt) HCW.out.1 HNO.out with ⟨d1, hck⟩ | ⟨d1, d2, hck⟩ | ⟨d1, d2, hck⟩
          · have HCK := Lib.hid hck
            have t4 : decide (rt < Gk.now) = true := decide_eq_true d1
            clear hck d1
            go_upto_region 30 with (go_at_call 9; refine HTK.out.mono ?_; rintro e w6 hpo; obtain ⟨G6, all6, hs6, hl6, hgood, hbad⟩ := HR4.out.lp.lp.ticked hpo; have hv := hpo.val; rw [HR4.out.lp.lp.cfg.1, HCK.out] at hv; subst hv; obtain ⟨ha6, hn6⟩ := hbad (by rw [HCK.out]; decide); have ha7 := ha6.symm; clear ha6; subst ha7; have HB6 := Lib.hid (HR4.out.step hs6 hl6.next); have HN6 := Lib.hid hn6; have cas := HCA.out w6 HB6.out.lp.lp.fr.bel; have y0s := HB6.out.bz.cell (i := 0) rfl; have y1s := HB6.out.bz.cell (i := 1) rfl; have y2s := HB6.out.bz.cell (i := 2) rfl; have y3s := HB6.out.bz.cell (i := 3) rfl; have g0s := (HX.out.below HB6.out.lp.lp.fr.bel HX.out.lt).cell (i := 0) rfl; have g1s := (HX.out.below HB6.out.lp.lp.fr.bel HX.out.lt).cell (i := 1) rfl; have g2s := (HX.out.below HB6.out.lp.lp.fr.bel HX.out.lt).cell (i := 2) rfl; have g3s := (HX.out.below HB6.out.lp.lp.fr.bel HX.out.lt).cell (i := 3) rfl; clear hs6 hl6 hgood hbad hn6 hpo)
            clear car y0r y1r y2r y3r g0r g1r g2r g3r
            clear cas y0s y1s y2s y3s g0s g1s g2s g3s
            clear HTK
            have HNW := wn_now w6 b G6 HB6.out.lp.lp.fr.mem
            rw [HN6.out] at HNW
            replace HNW := Lib.hid HNW
            have HCN := tp_connected w6 b G6 all HB6.out.lp.lp.fr.mem HB6.out.lp.lp.fr.wl (E : Int) (V : Int) cD _ HB6.out.lp.row HB6.out.lp.nf (by have := HB6.out.lp.lp.len; omega) u v
            rw [HB6.out.lp.lp.cfg.1] at HCN
            replace HCN := Lib.hid HCN
            have HXE := Lib.hid (HX.out.below HB6.out.lp.lp.fr.bel HX.out.lt)
            have e0 := HXE.out.cell (i := 0) rfl
            have e1 := HXE.out.cell (i := 1) rfl
            have e2 := HXE.out.cell (i := 2) rfl
            have e3 := HXE.out.cell (i := 3) rfl
            go_wp2_with (first | (go_at_call 12; with_reducible refine HNW.out.mono ?_; rintro e w' ⟨rfl, rfl⟩) | (go_at_call 16; with_reducible refine HCN.out.mono ?_; rintro e w9 ⟨rfl, hst⟩; obtain ⟨G9, hs9, hl9, hn9⟩ := HB6.out.lp.lp.quiet hst; have HL9 := Lib.hid (HB6.out.lp.step hs9 hl9); have HN9 := Lib.hid (hn9.trans HN6.out); clear hst hs9 hl9 hn9))
            go_roundw
            case rel => exact ⟨k + 1, G9, all, HKL.out, by go_num, by rw [HN9.out], HL9.out⟩
            case measure => have := HKL.out; simp [intOf]; omega
          · have HCK := Lib.hid hck
            have t4 : decide (rt < Gk.now) = false := decide_eq_false (by omega)
            have t5 : decide (9223372036854775807 - cW < rt) = true := decide_eq_true d2
            clear hck d1 d2
            go_upto_region 30 with (go_at_call 9; refine HTK.out.mono ?_; rintro e w6 hpo; obtain ⟨G6, all6, hs6, hl6, hgood, hbad⟩ := HR4.out.lp.lp.ticked hpo; have hv := hpo.val; rw [HR4.out.lp.lp.cfg.1, HCK.out] at hv; subst hv; obtain ⟨ha6, hn6⟩ := hbad (by rw [HCK.out]; decide); have ha7 := ha6.symm; clear ha6; subst ha7; have HB6 := Lib.hid (HR4.out.step hs6 hl6.next); have HN6 := Lib.hid hn6; have cas := HCA.out w6 HB6.out.lp.lp.fr.bel; have y0s := HB6.out.bz.cell (i := 0) rfl; have y1s := HB6.out.bz.cell (i := 1) rfl; have y2s := HB6.out.bz.cell (i := 2) rfl; have y3s := HB6.out.bz.cell (i := 3) rfl; have g0s := (HX.out.below HB6.out.lp.lp.fr.bel HX.out.lt).cell (i := 0) rfl; have g1s := (HX.out.below HB6.out.lp.lp.fr.bel HX.out.lt).cell (i := 1) rfl; have g2s := (HX.out.below HB6.out.lp.lp.fr.bel HX.out.lt).cell (i := 2) rfl; have g3s := (HX.out.below HB6.out.lp.lp.fr.bel HX.out.lt).cell (i := 3) rfl; clear hs6 hl6 hgood hbad hn6 hpo)
            clear car y0r y1r y2r y3r g0r g1r g2r g3r
            clear cas y0s y1s y2s y3s g0s g1s g2s g3s
            clear HTK
            have HNW := wn_now w6 b G6 HB6.out.lp.lp.fr.mem
            rw [HN6.out] at HNW
            replace HNW := Lib.hid HNW
            have HCN := tp_connected w6 b G6 all HB6.out.lp.lp.fr.mem HB6.out.lp.lp.fr.wl (E : Int) (V : Int) cD _ HB6.out.lp.row HB6.out.lp.nf (by have := HB6.out.lp.lp.len; omega) u v
            rw [HB6.out.lp.lp.cfg.1] at HCN
            replace HCN := Lib.hid HCN
            have HXE := Lib.hid (HX.out.below HB6.out.lp.lp.fr.bel HX.out.lt)
            have e0 := HXE.out.cell (i := 0) rfl
            have e1 := HXE.out.cell (i := 1) rfl
            have e2 := HXE.out.cell (i := 2) rfl
            have e3 := HXE.out.cell (i := 3) rfl
            go_wp2_with (first | (go_at_call 12; with_reducible refine HNW.out.mono ?_; rintro e w' ⟨rfl, rfl⟩) | (go_at_call 16; with_reducible refine HCN.out.mono ?_; rintro e w9 ⟨rfl, hst⟩; obtain ⟨G9, hs9, hl9, hn9⟩ := HB6.out.lp.lp.quiet hst; have HL9 := Lib.hid (HB6.out.lp.step hs9 hl9); have HN9 := Lib.hid (hn9.trans HN6.out); clear hst hs9 hl9 hn9))
            go_roundw
            case rel => exact ⟨k + 1, G9, all, HKL.out, by go_num, by rw [HN9.out], HL9.out⟩
            case measure => have := HKL.out; simp [intOf]; omega
          · have HCK := Lib.hid hck
            have t4 : decide (rt < Gk.now) = false := decide_eq_false (by omega)
            have t5 : decide (9223372036854775807 - cW < rt) = false := decide_eq_false (by omega)
            have HLV : Hid (∀ W v, W.ownsRow 0 33 4 v all.length (rcV all) → Calls Tryz.prog 14 #[.agg #[.int .i64 cW, .int .i64 (E : Int), .int .i64 (V : Int), .int .i64 cD], v, .int .i64 rt] W (fun e w' => ∃ a7 c7, e = .returned (.slice a7 n7 c7) ∧ RcB W (.slice a7 n7 c7) rest w')) := by
              have h1 := HM.out
              have h2 := HLE.out
              have h3 := HCW.out
              have h4 := HNO.out
              have h5 := HR5.out.2.2.2
              show ∀ W v, _
              intro W v hr
              refine (tp_live W v all cW (E : Int) (V : Int) cD rt hr (by omega) (by omega)).mono ?_
              rintro e w' ⟨v', he, hrc⟩
              have hrc' : RcB W v' rest w' := by rw [← HRS.out]; exact hrc
              obtain ⟨ao', cp', rfl⟩ := hrc'.slice
              rw [HN7.out] at he hrc'
              exact ⟨ao', cp', he, hrc'⟩
            clear hck d1 d2
            go_upto_region 24 with (first | (go_at_call 9; refine HTK.out.mono ?_; rintro e w6 hpo; obtain ⟨G6, all6, hs6, hl6, hgood, hbad⟩ := HR4.out.lp.lp.ticked hpo; have hv := hpo.val; rw [HR4.out.lp.lp.cfg.1, HCK.out] at hv; subst hv; obtain ⟨ha6, hn6⟩ := hgood HCK.out; have ha7 := ha6.symm; clear ha6; subst ha7; have HB6 := Lib.hid (HR4.out.step hs6 hl6.next); have HN6 := Lib.hid hn6; have cas := HCA.out w6 HB6.out.lp.lp.fr.bel; have y0s := HB6.out.bz.cell (i := 0) rfl; have y1s := HB6.out.bz.cell (i := 1) rfl; have y2s := HB6.out.bz.cell (i := 2) rfl; have y3s := HB6.out.bz.cell (i := 3) rfl; have g0s := (HX.out.below HB6.out.lp.lp.fr.bel HX.out.lt).cell (i := 0) rfl; have g1s := (HX.out.below HB6.out.lp.lp.fr.bel HX.out.lt).cell (i := 1) rfl; have g2s := (HX.out.below HB6.out.lp.lp.fr.bel HX.out.lt).cell (i := 2) rfl; have g3s := (HX.out.below HB6.out.lp.lp.fr.bel HX.out.lt).cell (i := 3) rfl; clear hs6 hl6 hgood hbad hn6 hpo) | (go_at_call 14; refine (HLV.out w6 _ HB6.out.lp.row).mono ?_; rintro e w7 ⟨a7, c7, rfl, hrc⟩; have HRC := Lib.hid hrc; have HB7 := Lib.hid (HB6.out.below hrc.bel); have cat := HCA.out w7 HB7.out.lp.lp.fr.bel; have y0t := HB7.out.bz.cell (i := 0) rfl; have y1t := HB7.out.bz.cell (i := 1) rfl; have y2t := HB7.out.bz.cell (i := 2) rfl; have y3t := HB7.out.bz.cell (i := 3) rfl; have g0t := (HX.out.below HB7.out.lp.lp.fr.bel HX.out.lt).cell (i := 0) rfl; have g1t := (HX.out.below HB7.out.lp.lp.fr.bel HX.out.lt).cell (i := 1) rfl; have g2t := (HX.out.below HB7.out.lp.lp.fr.bel HX.out.lt).cell (i := 2) rfl; have g3t := (HX.out.below HB7.out.lp.lp.fr.bel HX.out.lt).cell (i := 3) rfl; clear hrc))
            clear car y0r y1r y2r y3r g0r g1r g2r g3r
            clear cas y0s y1s y2s y3s g0s g1s g2s g3s
            go_quiet (fail)
            clear cat y0t y1t y2t y3t g0t g1t g2t g3t
            have HB8 := Lib.hid (HB7.out.below (bel_drewT w7 nq))
            have HRC8 := Lib.hid (HRC.out.up (bel_drewT w7 nq))
            clear HRC
            generalize w7.drewN nq = w8 at *
            have ca := HCA.out w8 HB8.out.lp.lp.fr.bel
            have y0 := HB8.out.bz.cell (i := 0) rfl
            have y1 := HB8.out.bz.cell (i := 1) rfl
            have y2 := HB8.out.bz.cell (i := 2) rfl
            have y3 := HB8.out.bz.cell (i := 3) rfl
            have g0 := (HX.out.below HB8.out.lp.lp.fr.bel HX.out.lt).cell (i := 0) rfl
            have g1 := (HX.out.below HB8.out.lp.lp.fr.bel HX.out.lt).cell (i := 1) rfl
            have g2 := (HX.out.below HB8.out.lp.lp.fr.bel HX.out.lt).cell (i := 2) rfl
            have g3 := (HX.out.below HB8.out.lp.lp.fr.bel HX.out.lt).cell (i := 3) rfl
            go_upto_region 30 with fail
            have HB10 : Hid (LpB w1 b cW cD E V (k + 1) G6 (stay cW rt all) (.slice a7 n7 c7) rest zb [.int .u64 (ru : Int), .int .u64 (rv : Int), .int .i64 rwt, .int .i64 rt] w8) :=
              HB8.out.row (fun q hq => HB6.out.lp.lp.fr.mem.foot_lt q hq) HB6.out.lp.lp.fr.bel.size HRC8.out
            rw [HRS.out] at HB10
            clear ca y0 y1 y2 y3 g0 g1 g2 g3
            clear HTK HLV HB6 HB7 HB8
            have HNW := wn_now w8 b G6 HB10.out.lp.lp.fr.mem
            rw [HN6.out] at HNW
            replace HNW := Lib.hid HNW
            have HCN := tp_connected w8 b G6 rest HB10.out.lp.lp.fr.mem HB10.out.lp.lp.fr.wl (E : Int) (V : Int) cD _ HB10.out.lp.row HB10.out.lp.nf (by have := HB10.out.lp.lp.len; omega) u v
            rw [HB10.out.lp.lp.cfg.1] at HCN
            replace HCN := Lib.hid HCN
            have HXE := Lib.hid (HX.out.below HB10.out.lp.lp.fr.bel HX.out.lt)
            have e0 := HXE.out.cell (i := 0) rfl
            have e1 := HXE.out.cell (i := 1) rfl
            have e2 := HXE.out.cell (i := 2) rfl
            have e3 := HXE.out.cell (i := 3) rfl
            go_wp2_with (first | (go_at_call 12; with_reducible refine HNW.out.mono ?_; rintro e w' ⟨rfl, rfl⟩) | (go_at_call 16; with_reducible refine HCN.out.mono ?_; rintro e w9 ⟨rfl, hst⟩; obtain ⟨G9, hs9, hl9, hn9⟩ := HB10.out.lp.lp.quiet hst; have HL9 := Lib.hid (HB10.out.lp.step hs9 hl9); have HN9 := Lib.hid (hn9.trans HN6.out); clear hst hs9 hl9 hn9))
            go_roundw
            case rel => exact ⟨k + 1, G9, rest, HKL.out, by go_num, by rw [HN9.out], HL9.out⟩
            case measure => have := HKL.out; simp [intOf]; omega
      · have t1 : decide ((k : Int) < (len : Int)) = false := decide_eq_false (by omega)
        have t2 : decide (k < len) = false := decide_eq_false hlt
        go_wp2_with (go_at_call 7; refine (HWK.out _).mono ?_; rintro e w5 ⟨rfl, hb⟩; have HB5 := Lib.hid (HBW.out _ (HLP.out.lp.below hb).fr.bel); clear hb)
        go_ret
        exact HB5.out
  · rw [decide_eq_false hsm] at HSM
    replace HSM := Lib.hid HSM
    clear hsm
    go_wp2_with (first | (go_at_call 6; with_reducible refine HSM.out.mono ?_; rintro e w3 ⟨rfl, hb⟩; have HL3 := Lib.hid (HL2.out.below hb); clear hb) | (go_at_call 7; refine (HWK.out _).mono ?_; rintro e w4 ⟨rfl, hb⟩; have HB4 := Lib.hid (HBW.out _ (HL3.out.below hb).fr.bel); clear hb))
    go_ret
    exact HB4.out
end Go.Proofs.YtlooaipipmiijaaGreat
